/- PRINTED by a program of mine (hoas.py): the plain reading of the functions named, each with its equation and the way into it. PRINTED by a program of mine (hoas.py): the plain reading of the functions named, each with its equation and the way into it. -/
import Derived.Test.YtdgnnacppiaogaaGreatB2
set_option linter.unusedVariables false
set_option linter.unusedSimpArgs false
set_option maxRecDepth 100000
set_option linter.unusedVariables false
namespace Go.Gd
open Go.Instr
def F44 (R : Value → World → Prop) : World → Prop :=
 hV P (alloc 25 true (.tuple #[])) fun t0 =>
 hV P (build 22 #[(0, (.int .i64 1)), (1, (.int .i64 1)), (2, (.int .i64 1))]) fun t1 =>
 hV P (build 22 #[(0, (.int .i64 1)), (1, (.int .i64 1)), (2, (.int .i64 1))]) fun t2 =>
 hV P (build 25 #[(0, (.int .i64 1)), (1, (.int .i64 1)), (2, (.int .i64 4)), (3, (.int .i64 1)), (4, (.int .i64 2)), (6, t1), (7, t2), (8, (.int .i64 1)), (9, (.int .i64 1)), (11, (.int .i64 1))]) fun t3 =>
 hU P (storeAt 25 t0 t3) <|
 hR P (loadAt 25 t0) fun r0 =>
 R r0
def S44 : Nat → Scr := scrOf []
theorem E44 : (fun R w => den P S44 23 (bodyOf Go.Proofs.Tryz.f44) (retK P [.cell 0 25] R) (frm0 []) w) = F44 := by kernel_rfl
theorem O44 : codeOk S44 Go.Proofs.Tryz.f44.ntmps (bodyOf Go.Proofs.Tryz.f44) = true := by kernel_rfl
theorem C44 {w : World} {R : Value → World → Prop} (h : F44 R w) : Calls P 44 #[] w (fun e w' => ∃ v, e = .returned v ∧ R v w') :=
  calls_of_den wide (scr := S44) (rs := [.cell 0 25]) (args := []) (fn := Go.Proofs.Tryz.f44) 23 (by kernel_rfl) (by kernel_rfl) (by kernel_rfl) (by kernel_rfl) O44 (Eq.mpr (congrFun (congrFun E44 R) w) h)
theorem H44 {w : World} {R : Value → World → Prop} (h : F44 R w) : hF P 44 #[] R w := hF_of (by kernel_rfl) (C44 h)
def F45 (a_0 b_1 : Value) (R : Value → World → Prop) : World → Prop :=
 hV P (box 37 a_0) fun a_2 =>
 hV P (box 37 b_1) fun b_3 =>
 hV P (loadAt 37 a_2) fun t7 =>
 hF P 90 #[t7] fun t8 =>
 hV P (loadAt 37 b_3) fun t9 =>
 hF P 90 #[t9] fun t10 =>
 hV P (fieldAt 37 a_2 0) fun t11 =>
 hV P (loadAt 3 t11) fun t12 =>
 hV P (fieldAt 37 b_3 0) fun t13 =>
 hV P (loadAt 3 t13) fun t14 =>
 hV P (eqG false .eql 3 t12 t14) fun t15 =>
 hJ (fun (j19_3 : Value) =>
 hPick t15 j19_3 (.bool false) fun t20 =>
 hJ (fun (j26_8 : Value) =>
 hPick t20 j26_8 (.bool false) fun t27 =>
 hGuard t27 true (hV P (fieldAt 37 a_2 10) fun t29 =>
 hV P (loadAt 35 t29) fun t30 =>
 hV P (fieldAt 37 b_3 10) fun t31 =>
 hV P (loadAt 35 t31) fun t32 =>
 hF P 18 #[t30, t32] fun t33 =>
 hPick t27 t33 (.bool false) fun t34 =>
 R t34) (hPick t27 undef (.bool false) fun t34 =>
 R t34)) fun J14 =>
 hGuard t20 true (hV P (fieldAt 37 a_2 9) fun t22 =>
 hV P (loadAt 4 t22) fun t23 =>
 hV P (fieldAt 37 b_3 9) fun t24 =>
 hV P (loadAt 4 t24) fun t25 =>
 hV P (eqG false .eql 4 t23 t25) fun t26 =>
 J14 t26) (J14 undef)) fun J15 =>
 hGuard t15 true (hF P 34 #[t8, t10] fun t19 =>
 J15 t19) (J15 undef)
def S45 : Nat → Scr := scrOf []
theorem E45 : (fun a_0 b_1 R w => den P S45 25 (bodyOf Go.Proofs.Tryz.f45) (retK P [.tmp 4] R) (frm0 [a_0, b_1]) w) = F45 := by kernel_rfl
theorem O45 : codeOk S45 Go.Proofs.Tryz.f45.ntmps (bodyOf Go.Proofs.Tryz.f45) = true := by kernel_rfl
theorem C45 {a_0 b_1 : Value} {w : World} {R : Value → World → Prop} (h : F45 a_0 b_1 R w) : Calls P 45 #[a_0, b_1] w (fun e w' => ∃ v, e = .returned v ∧ R v w') :=
  calls_of_den wide (scr := S45) (rs := [.tmp 4]) (args := [a_0, b_1]) (fn := Go.Proofs.Tryz.f45) 25 (by kernel_rfl) (by kernel_rfl) (by kernel_rfl) (by kernel_rfl) O45 (Eq.mpr (congrFun (congrFun (congrFun (congrFun E45 a_0) b_1) R) w) h)
theorem H45 {a_0 b_1 : Value} {w : World} {R : Value → World → Prop} (h : F45 a_0 b_1 R w) : hF P 45 #[a_0, b_1] R w := hF_of (by kernel_rfl) (C45 h)
def F46 (c_0 tier_1 : Value) (R : Value → World → Prop) : World → Prop :=
 hV P (box 25 c_0) fun c_2 =>
 hV P (loadAt 25 c_2) fun t6 =>
 hF P 91 #[t6] fun t7 =>
 hV P (Op.unary .not t7) fun t8 =>
 hJ (fun (j11_2 : Value) =>
 hPick t8 (.bool true) j11_2 fun t12 =>
 hJ (fun (j15_4 : Value) =>
 hPick t12 (.bool true) j15_4 fun t16 =>
 hIf t16 (R (.tuple #[(.pointer none), (.int .i64 6)])) (hV P (fieldAt 25 c_2 12) fun t17 =>
 hV P (loadAt 23 t17) fun t18 =>
 hF P 58 #[t18] fun t19 =>
 hV P (fieldAt 25 c_2 12) fun t20 =>
 hU P (storeAt 23 t20 t19) <|
 hDraw fun C5 =>
 mV P C5 (loadAt 25 c_2) fun t21 =>
 mV P C5 (loadAt 25 c_2) fun t23 =>
 hAnd (hF P 92 #[t23, tier_1] fun t25 =>
 hAnd C5 <| hV P (makeMap 155 none) fun t26 =>
 hAnd C5 <| pV P (build 157 #[(0, t21), (1, tier_1), (2, t25), (3, t26)]) fun t27 =>
 hV P (box 157 t27) fun t28 =>
 hAnd C5 <| R (.tuple #[t28, (.int .i64 0)])) (hV P (makeMap 155 none) fun t26 =>
 hAnd C5 <| hF P 92 #[t23, tier_1] fun t25 =>
 hAnd C5 <| pV P (build 157 #[(0, t21), (1, tier_1), (2, t25), (3, t26)]) fun t27 =>
 hV P (box 157 t27) fun t28 =>
 hAnd C5 <| R (.tuple #[t28, (.int .i64 0)])))) fun J11 =>
 hGuard t12 false (hV P (binOp .gtr 3 tier_1 (.int .i64 3)) fun t15 =>
 J11 t15) (J11 undef)) fun J12 =>
 hGuard t8 false (hV P (binOp .lss 3 tier_1 (.int .i64 1)) fun t11 =>
 J12 t11) (J12 undef)
def S46 : Nat → Scr := scrOf [(4, .take 0 (.take 1 (.take 2 (.take 3 (.alt 4 (.alt 5 (.take 6 (.alt 7 (.take 8 (.take 9 (.done))) (.nil))) (.nil)) (.alt 5 (.alt 4 (.take 6 (.alt 7 (.take 8 (.take 9 (.done))) (.nil))) (.nil)) (.nil)))))))]
theorem E46 : (fun c_0 tier_1 R w => den P S46 26 (bodyOf Go.Proofs.Tryz.f46) (retK P [.tmp 4, .tmp 5] R) (frm0 [c_0, tier_1]) w) = F46 := by kernel_rfl
theorem O46 : codeOk S46 Go.Proofs.Tryz.f46.ntmps (bodyOf Go.Proofs.Tryz.f46) = true := by kernel_rfl
theorem C46 {c_0 tier_1 : Value} {w : World} {R : Value → World → Prop} (h : F46 c_0 tier_1 R w) : Calls P 46 #[c_0, tier_1] w (fun e w' => ∃ v, e = .returned v ∧ R v w') :=
  calls_of_den wide (scr := S46) (rs := [.tmp 4, .tmp 5]) (args := [c_0, tier_1]) (fn := Go.Proofs.Tryz.f46) 26 (by kernel_rfl) (by kernel_rfl) (by kernel_rfl) (by kernel_rfl) O46 (Eq.mpr (congrFun (congrFun (congrFun (congrFun E46 c_0) tier_1) R) w) h)
theorem H46 {c_0 tier_1 : Value} {w : World} {R : Value → World → Prop} (h : F46 c_0 tier_1 R w) : hF P 46 #[c_0, tier_1] R w := hF_of (by kernel_rfl) (C46 h)
def F47 (d_0 shape_1 : Value) (R : Value → World → Prop) : World → Prop :=
 hV P (box 102 shape_1) fun shape_3 =>
 hV P (eqG true .eql 29 d_0 (.pointer none)) fun t13 =>
 hIf t13 (R (.tuple #[(.pointer none), (.int .i64 7)])) (hDraw fun C1 =>
 mV P C1 (loadAt 102 shape_3) fun t15 =>
 hF P 93 #[t15] fun t16 =>
 hAnd C1 <| pV P (Op.unary .not t16) fun t17 =>
 hJ (fun (j23_6 : Value) =>
 hPick t17 (.bool true) j23_6 fun t24 =>
 hIf t24 (R (.tuple #[(.pointer none), (.int .i64 6)])) (hV P (loadAt 102 shape_3) fun t25 =>
 hV P (build 159 #[(0, t25), (1, d_0)]) fun t27 =>
 hV P (box 159 t27) fun t28 =>
 hF P 96 #[t28] fun t31 =>
 hV P (extract t31 0) fun t32 =>
 hV P (extract t31 1) fun t33 =>
 hV P (extract t31 2) fun t34 =>
 hV P (alloc 161 true (.tuple #[])) fun w_7 =>
 hU P (storeAt 161 w_7 t32) <|
 hIf t34 (hV P (loadAt 161 w_7) fun t37 =>
 hF P 97 #[t28, t37, t33] fun t39 =>
 hV P (eqG true .neq 32 t39 (.int .i64 0)) fun t41 =>
 hIf t41 (R (.tuple #[(.pointer none), t39])) (R (.tuple #[t28, (.int .i64 0)]))) (R (.tuple #[t28, (.int .i64 0)])))) fun J7 =>
 hGuard t17 false (mV P C1 (loadAt 102 shape_3) fun t21 =>
 hF P 94 #[d_0] fun t20 =>
 hAnd C1 <| hF P 95 #[t21] fun t22 =>
 hAnd C1 <| pV P (binOp .lss 3 t20 t22) fun t23 =>
 J7 t23) (J7 undef))
def S47 : Nat → Scr := scrOf [(3, .take 0 (.alt 1 (.take 2 (.take 3 (.take 4 (.take 6 (.alt 5 (.alt 7 (.take 8 (.take 9 (.take 10 (.done)))) (.nil)) (.nil)))))) (.nil)))]
theorem E47 : (fun d_0 shape_1 R w => den P S47 32 (bodyOf Go.Proofs.Tryz.f47) (retK P [.tmp 4, .tmp 5] R) (frm0 [d_0, shape_1]) w) = F47 := by kernel_rfl
theorem O47 : codeOk S47 Go.Proofs.Tryz.f47.ntmps (bodyOf Go.Proofs.Tryz.f47) = true := by kernel_rfl
theorem C47 {d_0 shape_1 : Value} {w : World} {R : Value → World → Prop} (h : F47 d_0 shape_1 R w) : Calls P 47 #[d_0, shape_1] w (fun e w' => ∃ v, e = .returned v ∧ R v w') :=
  calls_of_den wide (scr := S47) (rs := [.tmp 4, .tmp 5]) (args := [d_0, shape_1]) (fn := Go.Proofs.Tryz.f47) 32 (by kernel_rfl) (by kernel_rfl) (by kernel_rfl) (by kernel_rfl) O47 (Eq.mpr (congrFun (congrFun (congrFun (congrFun E47 d_0) shape_1) R) w) h)
theorem H47 {d_0 shape_1 : Value} {w : World} {R : Value → World → Prop} (h : F47 d_0 shape_1 R w) : hF P 47 #[d_0, shape_1] R w := hF_of (by kernel_rfl) (C47 h)
def F48 (s_0 block_1 : Value) (R : Value → World → Prop) : World → Prop :=
 hV P (eqG true .eql 98 s_0 (.pointer none)) fun t11 =>
 hIf t11 (R (.tuple #[(.slice none 0 0), (.int .i64 0), (.int .i64 7)])) (hV P (binOp .lss 3 block_1 (.int .i64 0)) fun t14 =>
 hJ (fun (j22_7 : Value) =>
 hPick t14 (.bool true) j22_7 fun t23 =>
 hIf t23 (R (.tuple #[(.slice none 0 0), (.int .i64 0), (.int .i64 9)])) (hF P 98 #[s_0, block_1] fun t27 =>
 hV P (extract t27 0) fun t28 =>
 hV P (extract t27 1) fun t29 =>
 hF P 99 #[t29] fun t31 =>
 R (.tuple #[t31, t28, (.int .i64 0)]))) fun J8 =>
 hGuard t14 false (hV P (hNil s_0) fun t18 =>
 hV P (fieldAt 159 t18 0) fun t19 =>
 hV P (fieldAt 102 t19 0) fun t20 =>
 hV P (loadAt 3 t20) fun t21 =>
 hV P (binOp .geq 3 block_1 t21) fun t22 =>
 J8 t22) (J8 undef))
def S48 : Nat → Scr := scrOf []
theorem E48 : (fun s_0 block_1 R w => den P S48 29 (bodyOf Go.Proofs.Tryz.f48) (retK P [.tmp 4, .tmp 5, .tmp 6] R) (frm0 [s_0, block_1]) w) = F48 := by kernel_rfl
theorem O48 : codeOk S48 Go.Proofs.Tryz.f48.ntmps (bodyOf Go.Proofs.Tryz.f48) = true := by kernel_rfl
theorem C48 {s_0 block_1 : Value} {w : World} {R : Value → World → Prop} (h : F48 s_0 block_1 R w) : Calls P 48 #[s_0, block_1] w (fun e w' => ∃ v, e = .returned v ∧ R v w') :=
  calls_of_den wide (scr := S48) (rs := [.tmp 4, .tmp 5, .tmp 6]) (args := [s_0, block_1]) (fn := Go.Proofs.Tryz.f48) 29 (by kernel_rfl) (by kernel_rfl) (by kernel_rfl) (by kernel_rfl) O48 (Eq.mpr (congrFun (congrFun (congrFun (congrFun E48 s_0) block_1) R) w) h)
theorem H48 {s_0 block_1 : Value} {w : World} {R : Value → World → Prop} (h : F48 s_0 block_1 R w) : hF P 48 #[s_0, block_1] R w := hF_of (by kernel_rfl) (C48 h)
def F49 (m_0 : Value) (R : Value → World → Prop) : World → Prop :=
 hV P (box 37 m_0) fun m_1 =>
 hV P (fieldAt 37 m_1 0) fun t7 =>
 hV P (loadAt 3 t7) fun t8 =>
 hF P 100 #[t8] fun t9 =>
 hV P (eqG true .eql 168 t9 (.int .u64 0)) fun t11 =>
 hIf t11 (R (.bool false)) (hLoop2 (.int .i64 1) (.bool false) fun f_4_1 t2_2 g3 next4 =>
 hV P (binOp .leq 3 f_4_1 (.int .i64 10)) fun t13 =>
 hIf t13 (hF P 101 #[m_1, f_4_1] fun t18 =>
 hV P (extract t18 0) fun t19 =>
 hV P (extract t18 1) fun t20 =>
 hV P (Op.unary .not t19) fun t22 =>
 hJ (fun (j32_21 : Value) =>
 hPick t22 (.bool true) j32_21 fun t33 =>
 hIf t33 (R (.bool false)) (hV P (binOp .add 3 f_4_1 (.int .i64 1)) fun t15 =>
 next4 t15 t2_2)) fun J22 =>
 hGuard t22 false (hV P (binOp .shr 168 t9 f_4_1) fun t26 =>
 hV P (binOp .and 168 t26 (.int .u64 1)) fun t27 =>
 hV P (eqG true .eql 168 t27 (.int .u64 0)) fun t28 =>
 hJ (fun (j31_6 : Value) =>
 hGuard t22 false (hPick t28 j31_6 (.bool false) fun t32 =>
 J22 t32) (J22 undef)) fun J8 =>
 hGuard t28 true (hV P (Op.unary .not t20) fun t31 =>
 J8 t31) (J8 undef)) (hJ (fun (j31_10 : Value) =>
 hGuard t22 false (hPick undef j31_10 (.bool false) fun t32 =>
 J22 t32) (J22 undef)) fun J12 =>
 hGuard undef true (hV P (Op.unary .not t20) fun t31 =>
 J12 t31) (J12 undef))) (R (.bool true)))
def S49 : Nat → Scr := scrOf [(999999, .take 5 (.take 6 (.done)))]
theorem E49 : (fun m_0 R w => den P S49 35 (bodyOf Go.Proofs.Tryz.f49) (retK P [.tmp 2] R) (frm0 [m_0]) w) = F49 := by kernel_rfl
theorem O49 : codeOk S49 Go.Proofs.Tryz.f49.ntmps (bodyOf Go.Proofs.Tryz.f49) = true := by kernel_rfl
theorem C49 {m_0 : Value} {w : World} {R : Value → World → Prop} (h : F49 m_0 R w) : Calls P 49 #[m_0] w (fun e w' => ∃ v, e = .returned v ∧ R v w') :=
  calls_of_den wide (scr := S49) (rs := [.tmp 2]) (args := [m_0]) (fn := Go.Proofs.Tryz.f49) 35 (by kernel_rfl) (by kernel_rfl) (by kernel_rfl) (by kernel_rfl) O49 (Eq.mpr (congrFun (congrFun (congrFun E49 m_0) R) w) h)
theorem H49 {m_0 : Value} {w : World} {R : Value → World → Prop} (h : F49 m_0 R w) : hF P 49 #[m_0] R w := hF_of (by kernel_rfl) (C49 h)
def F50 (a_0 m_1 : Value) (R : Value → World → Prop) : World → Prop :=
 hV P (box 37 m_1) fun m_3 =>
 hDraw fun C1 =>
 pV P (hNil a_0) fun t13 =>
 pV P (fieldAt 105 t13 2) fun t14 =>
 mV P C1 (loadAt 95 t14) fun t15 =>
 pV P (fieldAt 37 m_3 5) fun t16 =>
 mV P C1 (loadAt 3 t16) fun t17 =>
 hF P 102 #[t15, t17] fun t18 =>
 pV P (extract t18 0) fun t19 =>
 pV P (extract t18 1) fun t20 =>
 hV P (Op.unary .not t20) fun t22 =>
 hJ (fun (j5_3 : Value) =>
 hV P (Op.unary .not t20) fun t50 =>
 hJ (fun (j57_33 : Value) =>
 hPick t50 (.bool true) j57_33 fun t58 =>
 hJ (fun (j10_34 : Value) =>
 hV P (fieldAt 37 m_3 5) fun t67 =>
 hV P (loadAt 3 t67) fun t68 =>
 hV P (build 37 #[(0, (.int .i64 12)), (5, t68), (10, j5_3)]) fun t70 =>
 hV P (buildSlice 43 1 #[(0, t70)]) fun t71 =>
 hV P (Builtin.append_ #[43, 43] 43 #[j10_34, t71]) fun t72 =>
 R t72) fun J42 =>
 hIf t58 (hV P (fieldAt 37 m_3 5) fun t60 =>
 hV P (loadAt 3 t60) fun t61 =>
 hV P (fieldAt 37 m_3 6) fun t62 =>
 hV P (loadAt 3 t62) fun t63 =>
 hF P 103 #[a_0, t61, t63, j5_3] fun t65 =>
 J42 t65) (J42 (.slice none 0 0))) fun J43 =>
 hGuard t50 false (hV P (hNil a_0) fun t53 =>
 hV P (fieldAt 105 t53 0) fun t54 =>
 hV P (fieldAt 25 t54 4) fun t55 =>
 hV P (loadAt 3 t55) fun t56 =>
 hV P (eqG true .eql 3 t56 (.int .i64 2)) fun t57 =>
 J43 t57) (J43 undef)) fun J44 =>
 hIf t22 (hDraw fun C2 =>
 pV P (hNil a_0) fun t25 =>
 pV P (fieldAt 105 t25 1) fun t26 =>
 mV P C2 (loadAt 98 t26) fun t27 =>
 pV P (fieldAt 37 m_3 5) fun t28 =>
 mV P C2 (loadAt 3 t28) fun t29 =>
 hF P 48 #[t27, t29] fun t30 =>
 pV P (extract t30 0) fun t31 =>
 pV P (extract t30 1) fun t32 =>
 pV P (extract t30 2) fun t33 =>
 hV P (eqG true .neq 32 t33 (.int .i64 0)) fun t35 =>
 hIf t35 (hV P (fieldAt 37 m_3 5) fun t36 =>
 hV P (loadAt 3 t36) fun t37 =>
 hV P (build 37 #[(0, (.int .i64 12)), (5, t37), (8, t33)]) fun t39 =>
 hV P (buildSlice 43 1 #[(0, t39)]) fun t40 =>
 R t40) (hV P (hNil a_0) fun t42 =>
 hV P (fieldAt 105 t42 4) fun t43 =>
 hV P (loadAt 3 t43) fun t44 =>
 hV P (binOp .add 3 t44 (.int .i64 1)) fun t45 =>
 hV P (hNil a_0) fun t46 =>
 hV P (fieldAt 105 t46 4) fun t47 =>
 hU P (storeAt 3 t47 t45) <|
 J44 t31)) (J44 t19)
def S50 : Nat → Scr := scrOf [(1, .take 0 (.take 1 (.take 2 (.take 3 (.take 4 (.take 5 (.sink 6 (.take 7 (.take 8 (.take 9 (.take 10 (.take 11 (.done))))))))))))), (3, .take 0 (.take 1 (.take 2 (.take 3 (.take 4 (.take 5 (.sink 6 (.take 7 (.take 8 (.take 9 (.take 10 (.take 11 (.take 12 (.take 13 (.done)))))))))))))))]
theorem E50 : (fun a_0 m_1 R w => den P S50 31 (bodyOf Go.Proofs.Tryz.f50) (retK P [.tmp 4] R) (frm0 [a_0, m_1]) w) = F50 := by kernel_rfl
theorem O50 : codeOk S50 Go.Proofs.Tryz.f50.ntmps (bodyOf Go.Proofs.Tryz.f50) = true := by kernel_rfl
theorem C50 {a_0 m_1 : Value} {w : World} {R : Value → World → Prop} (h : F50 a_0 m_1 R w) : Calls P 50 #[a_0, m_1] w (fun e w' => ∃ v, e = .returned v ∧ R v w') :=
  calls_of_den wide (scr := S50) (rs := [.tmp 4]) (args := [a_0, m_1]) (fn := Go.Proofs.Tryz.f50) 31 (by kernel_rfl) (by kernel_rfl) (by kernel_rfl) (by kernel_rfl) O50 (Eq.mpr (congrFun (congrFun (congrFun (congrFun E50 a_0) m_1) R) w) h)
theorem H50 {a_0 m_1 : Value} {w : World} {R : Value → World → Prop} (h : F50 a_0 m_1 R w) : hF P 50 #[a_0, m_1] R w := hF_of (by kernel_rfl) (C50 h)
def F51 (a_0 m_1 : Value) (R : Value → World → Prop) : World → Prop :=
 hV P (box 37 m_1) fun m_3 =>
 hDraw fun C1 =>
 pV P (hNil a_0) fun t17 =>
 pV P (fieldAt 105 t17 1) fun t18 =>
 mV P C1 (loadAt 98 t18) fun t19 =>
 pV P (fieldAt 37 m_3 5) fun t20 =>
 mV P C1 (loadAt 3 t20) fun t21 =>
 hF P 48 #[t19, t21] fun t22 =>
 pV P (extract t22 0) fun t23 =>
 pV P (extract t22 1) fun t24 =>
 pV P (extract t22 2) fun t25 =>
 hDraw fun C2 =>
 pV P (hNil a_0) fun t28 =>
 pV P (fieldAt 105 t28 1) fun t29 =>
 mV P C2 (loadAt 98 t29) fun t30 =>
 pV P (fieldAt 37 m_3 1) fun t31 =>
 mV P C2 (loadAt 3 t31) fun t32 =>
 pV P (fieldAt 37 m_3 2) fun t33 =>
 mV P C2 (loadAt 3 t33) fun t34 =>
 pV P (fieldAt 37 m_3 3) fun t35 =>
 mV P C2 (loadAt 3 t35) fun t36 =>
 pV P (fieldAt 37 m_3 4) fun t37 =>
 mV P C2 (loadAt 3 t37) fun t38 =>
 pV P (fieldAt 37 m_3 5) fun t39 =>
 mV P C2 (loadAt 3 t39) fun t40 =>
 pV P (fieldAt 37 m_3 10) fun t41 =>
 mV P C2 (loadAt 35 t41) fun t42 =>
 pV P (build 161 #[(0, t32), (1, t34), (2, t36), (3, t38), (4, t40), (5, t42)]) fun t43 =>
 hF P 104 #[t30, t43] fun t44 =>
 hAnd C2 <| pV P (extract t44 0) fun t45 =>
 pV P (extract t44 1) fun t46 =>
 hDraw fun C3 =>
 pV P (hNil a_0) fun t49 =>
 pV P (fieldAt 105 t49 1) fun t50 =>
 mV P C3 (loadAt 98 t50) fun t51 =>
 pV P (fieldAt 37 m_3 5) fun t52 =>
 mV P C3 (loadAt 3 t52) fun t53 =>
 hF P 48 #[t51, t53] fun t54 =>
 pV P (extract t54 0) fun t55 =>
 pV P (extract t54 1) fun t56 =>
 pV P (extract t54 2) fun t57 =>
 hV P (fieldAt 37 m_3 1) fun t58 =>
 hV P (loadAt 3 t58) fun t59 =>
 hV P (fieldAt 37 m_3 2) fun t60 =>
 hV P (loadAt 3 t60) fun t61 =>
 hV P (fieldAt 37 m_3 3) fun t62 =>
 hV P (loadAt 3 t62) fun t63 =>
 hV P (fieldAt 37 m_3 4) fun t64 =>
 hV P (loadAt 3 t64) fun t65 =>
 hV P (fieldAt 37 m_3 5) fun t66 =>
 hV P (loadAt 3 t66) fun t67 =>
 hV P (build 37 #[(0, (.int .i64 13)), (1, t59), (2, t61), (3, t63), (4, t65), (5, t67), (8, t45)]) fun t69 =>
 hV P (alloc 37 true (.tuple #[])) fun done_13 =>
 hU P (storeAt 37 done_13 t69) <|
 hV P (eqG true .eql 32 t46 (.int .i64 0)) fun t76 =>
 hIf t76 (hV P (eqG false .neq 3 t56 t24) fun t86 =>
 hJ (fun (j14_4 : Value) =>
 hV P (loadAt 37 done_13) fun t97 =>
 hV P (buildSlice 43 1 #[(0, t97)]) fun t98 =>
 hV P (Builtin.append_ #[43, 43] 43 #[j14_4, t98]) fun t99 =>
 R t99) fun J14 =>
 hIf t86 (hV P (fieldAt 37 done_13 9) fun t87 =>
 hU P (storeAt 4 t87 (.bool true)) <|
 hV P (fieldAt 37 m_3 5) fun t89 =>
 hV P (loadAt 3 t89) fun t90 =>
 hV P (fieldAt 37 m_3 6) fun t91 =>
 hV P (loadAt 3 t91) fun t92 =>
 hV P (fieldAt 37 m_3 10) fun t93 =>
 hV P (loadAt 35 t93) fun t94 =>
 hF P 103 #[a_0, t90, t92, t94] fun t95 =>
 J14 t95) (J14 (.slice none 0 0))) (hV P (eqG true .eql 32 t46 (.int .i64 8)) fun t78 =>
 hIf t78 (hV P (hNil a_0) fun t80 =>
 hV P (fieldAt 105 t80 3) fun t81 =>
 hU P (storeAt 4 t81 (.bool true)) <|
 R (.slice none 0 0)) (hV P (eqG true .eql 32 t46 (.int .i64 12)) fun t83 =>
 hIf t83 (R (.slice none 0 0)) (hV P (fieldAt 37 done_13 8) fun t72 =>
 hU P (storeAt 32 t72 t46) <|
 hV P (loadAt 37 done_13) fun t73 =>
 hV P (buildSlice 43 1 #[(0, t73)]) fun t74 =>
 R t74)))
def S51 : Nat → Scr := scrOf [(1, .take 0 (.take 1 (.take 2 (.take 3 (.take 4 (.take 5 (.sink 6 (.take 7 (.take 8 (.take 9 (.take 10 (.take 11 (.take 12 (.take 13 (.done))))))))))))))), (2, .take 0 (.take 1 (.take 2 (.take 3 (.take 4 (.take 5 (.take 6 (.take 7 (.take 8 (.take 9 (.take 10 (.take 11 (.take 12 (.take 13 (.take 14 (.take 15 (.take 16 (.alt 17 (.take 18 (.take 19 (.take 20 (.take 21 (.take 22 (.done)))))) (.nil))))))))))))))))))), (3, .take 0 (.take 1 (.take 2 (.take 3 (.take 4 (.take 5 (.sink 6 (.take 7 (.take 8 (.take 9 (.take 10 (.take 11 (.take 12 (.take 13 (.done)))))))))))))))]
theorem E51 : (fun a_0 m_1 R w => den P S51 37 (bodyOf Go.Proofs.Tryz.f51) (retK P [.tmp 4] R) (frm0 [a_0, m_1]) w) = F51 := by kernel_rfl
theorem O51 : codeOk S51 Go.Proofs.Tryz.f51.ntmps (bodyOf Go.Proofs.Tryz.f51) = true := by kernel_rfl
theorem C51 {a_0 m_1 : Value} {w : World} {R : Value → World → Prop} (h : F51 a_0 m_1 R w) : Calls P 51 #[a_0, m_1] w (fun e w' => ∃ v, e = .returned v ∧ R v w') :=
  calls_of_den wide (scr := S51) (rs := [.tmp 4]) (args := [a_0, m_1]) (fn := Go.Proofs.Tryz.f51) 37 (by kernel_rfl) (by kernel_rfl) (by kernel_rfl) (by kernel_rfl) O51 (Eq.mpr (congrFun (congrFun (congrFun (congrFun E51 a_0) m_1) R) w) h)
theorem H51 {a_0 m_1 : Value} {w : World} {R : Value → World → Prop} (h : F51 a_0 m_1 R w) : hF P 51 #[a_0, m_1] R w := hF_of (by kernel_rfl) (C51 h)
def F52 (a_0 m_1 : Value) (R : Value → World → Prop) : World → Prop :=
 hV P (box 37 m_1) fun m_3 =>
 hV P (hNil a_0) fun t6 =>
 hV P (fieldAt 105 t6 0) fun t7 =>
 hV P (fieldAt 25 t7 4) fun t8 =>
 hV P (loadAt 3 t8) fun t9 =>
 hV P (eqG true .eql 3 t9 (.int .i64 2)) fun t10 =>
 hJ (fun (j14_3 : Value) =>
 hPick t10 j14_3 (.bool false) fun t15 =>
 hIf t15 (hV P (fieldAt 37 m_3 5) fun t17 =>
 hV P (loadAt 3 t17) fun t18 =>
 hV P (fieldAt 37 m_3 6) fun t19 =>
 hV P (loadAt 3 t19) fun t20 =>
 hV P (fieldAt 37 m_3 10) fun t21 =>
 hV P (loadAt 35 t21) fun t22 =>
 hF P 105 #[a_0, t18, t20, t22] fun t23 =>
 R (.slice none 0 0)) (R (.slice none 0 0))) fun J12 =>
 hGuard t10 true (hV P (fieldAt 37 m_3 6) fun t12 =>
 hV P (loadAt 3 t12) fun t13 =>
 hV P (eqG true .eql 3 t13 (.int .i64 3)) fun t14 =>
 J12 t14) (J12 undef)
def S52 : Nat → Scr := scrOf []
theorem E52 : (fun a_0 m_1 R w => den P S52 25 (bodyOf Go.Proofs.Tryz.f52) (retK P [.tmp 4] R) (frm0 [a_0, m_1]) w) = F52 := by kernel_rfl
theorem O52 : codeOk S52 Go.Proofs.Tryz.f52.ntmps (bodyOf Go.Proofs.Tryz.f52) = true := by kernel_rfl
theorem C52 {a_0 m_1 : Value} {w : World} {R : Value → World → Prop} (h : F52 a_0 m_1 R w) : Calls P 52 #[a_0, m_1] w (fun e w' => ∃ v, e = .returned v ∧ R v w') :=
  calls_of_den wide (scr := S52) (rs := [.tmp 4]) (args := [a_0, m_1]) (fn := Go.Proofs.Tryz.f52) 25 (by kernel_rfl) (by kernel_rfl) (by kernel_rfl) (by kernel_rfl) O52 (Eq.mpr (congrFun (congrFun (congrFun (congrFun E52 a_0) m_1) R) w) h)
theorem H52 {a_0 m_1 : Value} {w : World} {R : Value → World → Prop} (h : F52 a_0 m_1 R w) : hF P 52 #[a_0, m_1] R w := hF_of (by kernel_rfl) (C52 h)
def F53 (a_0 m_1 : Value) (R : Value → World → Prop) : World → Prop :=
 hV P (box 37 m_1) fun m_3 =>
 hDraw fun C1 =>
 pV P (hNil a_0) fun t6 =>
 pV P (fieldAt 105 t6 2) fun t7 =>
 mV P C1 (loadAt 95 t7) fun t8 =>
 pV P (fieldAt 37 m_3 5) fun t9 =>
 mV P C1 (loadAt 3 t9) fun t10 =>
 hF P 106 #[t8, t10] fun t11 =>
 R (.slice none 0 0)
def S53 : Nat → Scr := scrOf [(1, .take 0 (.take 1 (.take 2 (.take 3 (.take 4 (.take 5 (.sink 6 (.done))))))))]
theorem E53 : (fun a_0 m_1 R w => den P S53 24 (bodyOf Go.Proofs.Tryz.f53) (retK P [.tmp 4] R) (frm0 [a_0, m_1]) w) = F53 := by kernel_rfl
theorem O53 : codeOk S53 Go.Proofs.Tryz.f53.ntmps (bodyOf Go.Proofs.Tryz.f53) = true := by kernel_rfl
theorem C53 {a_0 m_1 : Value} {w : World} {R : Value → World → Prop} (h : F53 a_0 m_1 R w) : Calls P 53 #[a_0, m_1] w (fun e w' => ∃ v, e = .returned v ∧ R v w') :=
  calls_of_den wide (scr := S53) (rs := [.tmp 4]) (args := [a_0, m_1]) (fn := Go.Proofs.Tryz.f53) 24 (by kernel_rfl) (by kernel_rfl) (by kernel_rfl) (by kernel_rfl) O53 (Eq.mpr (congrFun (congrFun (congrFun (congrFun E53 a_0) m_1) R) w) h)
theorem H53 {a_0 m_1 : Value} {w : World} {R : Value → World → Prop} (h : F53 a_0 m_1 R w) : hF P 53 #[a_0, m_1] R w := hF_of (by kernel_rfl) (C53 h)
def F58 (s_0 : Value) (R : Value → World → Prop) : World → Prop :=
 hV P (eqG true .eql 23 s_0 (.slice none 0 0)) fun t4 =>
 hIf t4 (R (.slice none 0 0)) (hV P (buildSlice 23 0 #[]) fun t5 =>
 hV P (Builtin.append_ #[23, 23] 23 #[t5, s_0]) fun t7 =>
 R t7)
def S58 : Nat → Scr := scrOf []
theorem E58 : (fun s_0 R w => den P S58 26 (bodyOf Go.Proofs.Tryz.f58) (retK P [.tmp 2] R) (frm0 [s_0]) w) = F58 := by kernel_rfl
theorem O58 : codeOk S58 Go.Proofs.Tryz.f58.ntmps (bodyOf Go.Proofs.Tryz.f58) = true := by kernel_rfl
theorem C58 {s_0 : Value} {w : World} {R : Value → World → Prop} (h : F58 s_0 R w) : Calls P 58 #[s_0] w (fun e w' => ∃ v, e = .returned v ∧ R v w') :=
  calls_of_den wide (scr := S58) (rs := [.tmp 2]) (args := [s_0]) (fn := Go.Proofs.Tryz.f58) 26 (by kernel_rfl) (by kernel_rfl) (by kernel_rfl) (by kernel_rfl) O58 (Eq.mpr (congrFun (congrFun (congrFun E58 s_0) R) w) h)
theorem H58 {s_0 : Value} {w : World} {R : Value → World → Prop} (h : F58 s_0 R w) : hF P 58 #[s_0] R w := hF_of (by kernel_rfl) (C58 h)
def F62 (clients_0 blocks_1 : Value) (R : Value → World → Prop) : World → Prop :=
 hF P 112 #[clients_0, (.int .i64 4)] fun t7 =>
 hF P 112 #[blocks_1, (.int .i64 32)] fun t9 =>
 hV P (build 185 #[(0, t7), (1, t9)]) fun t10 =>
 hV P (box 185 t10) fun t11 =>
 hDraw fun C1 =>
 pV P (hNil t11) fun t14 =>
 pV P (fieldAt 185 t14 0) fun t15 =>
 mV P C1 (loadAt 3 t15) fun t16 =>
 pV P (hNil t11) fun t18 =>
 pV P (fieldAt 185 t18 1) fun t19 =>
 mV P C1 (loadAt 3 t19) fun t20 =>
 pV P (binOp .mul 3 t16 t20) fun t21 =>
 hV P (makeSlice 68 t21 t21) fun t22 =>
 hAnd C1 <| pV P (hNil t11) fun t23 =>
 pV P (fieldAt 185 t23 2) fun t24 =>
 hU P (storeAt 68 t24 t22) <|
 R t11
def S62 : Nat → Scr := scrOf [(2, .take 0 (.take 1 (.take 2 (.take 3 (.take 4 (.take 5 (.take 6 (.take 7 (.take 8 (.take 9 (.alt 10 (.take 11 (.take 12 (.sink 13 (.done)))) (.nil))))))))))))]
theorem E62 : (fun clients_0 blocks_1 R w => den P S62 25 (bodyOf Go.Proofs.Tryz.f62) (retK P [.tmp 4] R) (frm0 [clients_0, blocks_1]) w) = F62 := by kernel_rfl
theorem O62 : codeOk S62 Go.Proofs.Tryz.f62.ntmps (bodyOf Go.Proofs.Tryz.f62) = true := by kernel_rfl
theorem C62 {clients_0 blocks_1 : Value} {w : World} {R : Value → World → Prop} (h : F62 clients_0 blocks_1 R w) : Calls P 62 #[clients_0, blocks_1] w (fun e w' => ∃ v, e = .returned v ∧ R v w') :=
  calls_of_den wide (scr := S62) (rs := [.tmp 4]) (args := [clients_0, blocks_1]) (fn := Go.Proofs.Tryz.f62) 25 (by kernel_rfl) (by kernel_rfl) (by kernel_rfl) (by kernel_rfl) O62 (Eq.mpr (congrFun (congrFun (congrFun (congrFun E62 clients_0) blocks_1) R) w) h)
end Go.Gd
set_option maxRecDepth 100000
set_option linter.unusedVariables false
namespace Go.Gd
open Go.Instr
def F185 (p_0 : Value) (R : Value → World → Prop) : World → Prop :=
 hV P (eqG true .eql 207 p_0 (.pointer none)) fun t4 =>
 hIf t4 (R (.slice none 0 0)) (hV P (hNil p_0) fun t6 =>
 hV P (fieldAt 255 t6 3) fun t7 =>
 hV P (loadAt 253 t7) fun t8 =>
 hF P 214 #[t8] fun t9 =>
 R t9)
def S185 : Nat → Scr := scrOf []
theorem E185 : (fun p_0 R w => den P S185 26 (bodyOf Go.Proofs.Tryz.f185) (retK P [.tmp 2] R) (frm0 [p_0]) w) = F185 := by kernel_rfl
theorem O185 : codeOk S185 Go.Proofs.Tryz.f185.ntmps (bodyOf Go.Proofs.Tryz.f185) = true := by kernel_rfl
theorem C185 {p_0 : Value} {w : World} {R : Value → World → Prop} (h : F185 p_0 R w) : Calls P 185 #[p_0] w (fun e w' => ∃ v, e = .returned v ∧ R v w') :=
  calls_of_den wide (scr := S185) (rs := [.tmp 2]) (args := [p_0]) (fn := Go.Proofs.Tryz.f185) 26 (by kernel_rfl) (by kernel_rfl) (by kernel_rfl) (by kernel_rfl) O185 (Eq.mpr (congrFun (congrFun (congrFun E185 p_0) R) w) h)
theorem H185 {p_0 : Value} {w : World} {R : Value → World → Prop} (h : F185 p_0 R w) : hF P 185 #[p_0] R w := hF_of (by kernel_rfl) (C185 h)
def F186 (s_0 : Value) (R : Value → World → Prop) : World → Prop :=
 hV P (box 217 s_0) fun s_1 =>
 hV P (fieldAt 217 s_1 0) fun t3 =>
 hV P (loadAt 3 t3) fun t4 =>
 hV P (binOp .geq 3 t4 (.int .i64 1)) fun t5 =>
 hJ (fun (j9_3 : Value) =>
 hPick t5 j9_3 (.bool false) fun t10 =>
 hJ (fun (j14_6 : Value) =>
 hPick t10 j14_6 (.bool false) fun t15 =>
 hJ (fun (j19_9 : Value) =>
 hPick t15 j19_9 (.bool false) fun t20 =>
 hJ (fun (j24_12 : Value) =>
 hPick t20 j24_12 (.bool false) fun t25 =>
 hJ (fun (j29_15 : Value) =>
 hPick t25 j29_15 (.bool false) fun t30 =>
 hJ (fun (j34_18 : Value) =>
 hPick t30 j34_18 (.bool false) fun t35 =>
 hGuard t35 true (hV P (fieldAt 217 s_1 3) fun t37 =>
 hV P (loadAt 3 t37) fun t38 =>
 hV P (binOp .leq 3 t38 (.int .i64 16)) fun t39 =>
 hPick t35 t39 (.bool false) fun t40 =>
 R t40) (hPick t35 undef (.bool false) fun t40 =>
 R t40)) fun J22 =>
 hGuard t30 true (hV P (fieldAt 217 s_1 3) fun t32 =>
 hV P (loadAt 3 t32) fun t33 =>
 hV P (binOp .geq 3 t33 (.int .i64 0)) fun t34 =>
 J22 t34) (J22 undef)) fun J23 =>
 hGuard t25 true (hV P (fieldAt 217 s_1 2) fun t27 =>
 hV P (loadAt 3 t27) fun t28 =>
 hV P (binOp .leq 3 t28 (.int .i64 100)) fun t29 =>
 J23 t29) (J23 undef)) fun J24 =>
 hGuard t20 true (hV P (fieldAt 217 s_1 2) fun t22 =>
 hV P (loadAt 3 t22) fun t23 =>
 hV P (binOp .geq 3 t23 (.int .i64 1)) fun t24 =>
 J24 t24) (J24 undef)) fun J25 =>
 hGuard t15 true (hV P (fieldAt 217 s_1 1) fun t17 =>
 hV P (loadAt 3 t17) fun t18 =>
 hV P (binOp .leq 3 t18 (.int .i64 8)) fun t19 =>
 J25 t19) (J25 undef)) fun J26 =>
 hGuard t10 true (hV P (fieldAt 217 s_1 1) fun t12 =>
 hV P (loadAt 3 t12) fun t13 =>
 hV P (binOp .geq 3 t13 (.int .i64 1)) fun t14 =>
 J26 t14) (J26 undef)) fun J27 =>
 hGuard t5 true (hV P (fieldAt 217 s_1 0) fun t7 =>
 hV P (loadAt 3 t7) fun t8 =>
 hV P (binOp .leq 3 t8 (.int .i64 16)) fun t9 =>
 J27 t9) (J27 undef)
def S186 : Nat → Scr := scrOf []
theorem E186 : (fun s_0 R w => den P S186 23 (bodyOf Go.Proofs.Tryz.f186) (retK P [.tmp 2] R) (frm0 [s_0]) w) = F186 := by kernel_rfl
theorem O186 : codeOk S186 Go.Proofs.Tryz.f186.ntmps (bodyOf Go.Proofs.Tryz.f186) = true := by kernel_rfl
theorem C186 {s_0 : Value} {w : World} {R : Value → World → Prop} (h : F186 s_0 R w) : Calls P 186 #[s_0] w (fun e w' => ∃ v, e = .returned v ∧ R v w') :=
  calls_of_den wide (scr := S186) (rs := [.tmp 2]) (args := [s_0]) (fn := Go.Proofs.Tryz.f186) 23 (by kernel_rfl) (by kernel_rfl) (by kernel_rfl) (by kernel_rfl) O186 (Eq.mpr (congrFun (congrFun (congrFun E186 s_0) R) w) h)
theorem H186 {s_0 : Value} {w : World} {R : Value → World → Prop} (h : F186 s_0 R w) : hF P 186 #[s_0] R w := hF_of (by kernel_rfl) (C186 h)
def F187 (d_0 at_1 : Value) (R : Value → World → Prop) : World → Prop :=
 hV P (eqG true .eql 29 d_0 (.pointer none)) fun t8 =>
 hIf t8 (R (.tuple #[(.slice none 0 0), (.int .i64 7)])) (hF P 195 #[d_0, at_1] fun t12 =>
 hV P (Op.unary .not t12) fun t13 =>
 hIf t13 (R (.tuple #[(.slice none 0 0), (.int .i64 3)])) (hV P (hNil d_0) fun t15 =>
 hV P (fieldAt 94 t15 0) fun t16 =>
 hV P (loadAt 88 t16) fun t17 =>
 hV P (indexAt 88 t17 at_1) fun t19 =>
 hV P (loadAt 35 t19) fun t20 =>
 hF P 99 #[t20] fun t21 =>
 R (.tuple #[t21, (.int .i64 0)])))
def S187 : Nat → Scr := scrOf []
theorem E187 : (fun d_0 at_1 R w => den P S187 29 (bodyOf Go.Proofs.Tryz.f187) (retK P [.tmp 4, .tmp 5] R) (frm0 [d_0, at_1]) w) = F187 := by kernel_rfl
theorem O187 : codeOk S187 Go.Proofs.Tryz.f187.ntmps (bodyOf Go.Proofs.Tryz.f187) = true := by kernel_rfl
theorem C187 {d_0 at_1 : Value} {w : World} {R : Value → World → Prop} (h : F187 d_0 at_1 R w) : Calls P 187 #[d_0, at_1] w (fun e w' => ∃ v, e = .returned v ∧ R v w') :=
  calls_of_den wide (scr := S187) (rs := [.tmp 4, .tmp 5]) (args := [d_0, at_1]) (fn := Go.Proofs.Tryz.f187) 29 (by kernel_rfl) (by kernel_rfl) (by kernel_rfl) (by kernel_rfl) O187 (Eq.mpr (congrFun (congrFun (congrFun (congrFun E187 d_0) at_1) R) w) h)
theorem H187 {d_0 at_1 : Value} {w : World} {R : Value → World → Prop} (h : F187 d_0 at_1 R w) : hF P 187 #[d_0, at_1] R w := hF_of (by kernel_rfl) (C187 h)
def F188 (b_0 at_1 : Value) (R : Value → World → Prop) : World → Prop :=
 hScope (fun jump1 =>
 hF P 215 #[b_0, at_1] fun t11 =>
 hV P (Op.unary .not t11) fun t12 =>
 hIf t12 (R (.tuple #[(.int .i64 0), (.int .i64 0), (.int .i64 3)])) (hV P (binOp .add 3 at_1 (.int .i64 0)) fun t15 =>
 hV P (Builtin.len_ #[35] 3 #[b_0]) fun t17 =>
 hV P (eqG false .eql 3 t15 t17) fun t18 =>
 hIf t18 (R (.tuple #[(.int .i64 0), (.int .i64 0), (.int .i64 1)])) (hV P (binOp .add 3 at_1 (.int .i64 0)) fun t22 =>
 hV P (indexAt 35 b_0 t22) fun t23 =>
 hV P (loadAt 5 t23) fun t24 =>
 hV P (binOp .and 5 t24 (.int .u8 127)) fun t27 =>
 hV P (convert 5 3 t27) fun t28 =>
 hV P (binOp .mul 3 (.int .i64 7) (.int .i64 0)) fun t30 =>
 hV P (binOp .shl 3 t28 t30) fun t31 =>
 hV P (binOp .or 3 (.int .i64 0) t31) fun t32 =>
 hV P (binOp .add 3 (.int .i64 0) (.int .i64 1)) fun t34 =>
 hV P (binOp .geq 5 t24 (.int .u8 128)) fun t36 =>
 hIf t36 (hV P (eqG true .eql 3 t34 (.int .i64 9)) fun t38 =>
 hIf t38 (R (.tuple #[(.int .i64 0), (.int .i64 0), (.int .i64 2)])) (jump1 [t34, t32, (.int .i64 0), (.int .i64 0)])) (hV P (eqG true .eql 5 t24 (.int .u8 0)) fun t40 =>
 hJ (fun (j43_6 : Value) =>
 hPick t40 j43_6 (.bool false) fun t44 =>
 hIf t44 (R (.tuple #[(.int .i64 0), (.int .i64 0), (.int .i64 2)])) (hV P (binOp .add 3 at_1 t34) fun t48 =>
 R (.tuple #[t32, t48, (.int .i64 0)]))) fun J7 =>
 hGuard t40 true (hV P (binOp .gtr 3 t34 (.int .i64 1)) fun t43 =>
 J7 t43) (J7 undef))))) (fun vs4 g3 jump2 =>
 hV P (binOp .add 3 at_1 (nthV vs4 0)) fun t15 =>
 hV P (Builtin.len_ #[35] 3 #[b_0]) fun t17 =>
 hV P (eqG false .eql 3 t15 t17) fun t18 =>
 hIf t18 (R (.tuple #[(.int .i64 0), (.int .i64 0), (.int .i64 1)])) (hV P (binOp .add 3 at_1 (nthV vs4 0)) fun t22 =>
 hV P (indexAt 35 b_0 t22) fun t23 =>
 hV P (loadAt 5 t23) fun t24 =>
 hV P (binOp .and 5 t24 (.int .u8 127)) fun t27 =>
 hV P (convert 5 3 t27) fun t28 =>
 hV P (binOp .mul 3 (.int .i64 7) (nthV vs4 0)) fun t30 =>
 hV P (binOp .shl 3 t28 t30) fun t31 =>
 hV P (binOp .or 3 (nthV vs4 1) t31) fun t32 =>
 hV P (binOp .add 3 (nthV vs4 0) (.int .i64 1)) fun t34 =>
 hV P (binOp .geq 5 t24 (.int .u8 128)) fun t36 =>
 hIf t36 (hV P (eqG true .eql 3 t34 (.int .i64 9)) fun t38 =>
 hIf t38 (R (.tuple #[(.int .i64 0), (.int .i64 0), (.int .i64 2)])) (jump2 [t34, t32, (nthV vs4 2), (nthV vs4 3)])) (hV P (eqG true .eql 5 t24 (.int .u8 0)) fun t40 =>
 hJ (fun (j43_9 : Value) =>
 hPick t40 j43_9 (.bool false) fun t44 =>
 hIf t44 (R (.tuple #[(.int .i64 0), (.int .i64 0), (.int .i64 2)])) (hV P (binOp .add 3 at_1 t34) fun t48 =>
 R (.tuple #[t32, t48, (.int .i64 0)]))) fun J10 =>
 hGuard t40 true (hV P (binOp .gtr 3 t34 (.int .i64 1)) fun t43 =>
 J10 t43) (J10 undef)))) 4
def S188 : Nat → Scr := scrOf [(999999, .take 8 (.done))]
theorem E188 : (fun b_0 at_1 R w => den P S188 37 (bodyOf Go.Proofs.Tryz.f188) (retK P [.tmp 4, .tmp 5, .tmp 6] R) (frm0 [b_0, at_1]) w) = F188 := by kernel_rfl
theorem O188 : codeOk S188 Go.Proofs.Tryz.f188.ntmps (bodyOf Go.Proofs.Tryz.f188) = true := by kernel_rfl
theorem C188 {b_0 at_1 : Value} {w : World} {R : Value → World → Prop} (h : F188 b_0 at_1 R w) : Calls P 188 #[b_0, at_1] w (fun e w' => ∃ v, e = .returned v ∧ R v w') :=
  calls_of_den wide (scr := S188) (rs := [.tmp 4, .tmp 5, .tmp 6]) (args := [b_0, at_1]) (fn := Go.Proofs.Tryz.f188) 37 (by kernel_rfl) (by kernel_rfl) (by kernel_rfl) (by kernel_rfl) O188 (Eq.mpr (congrFun (congrFun (congrFun (congrFun E188 b_0) at_1) R) w) h)
theorem H188 {b_0 at_1 : Value} {w : World} {R : Value → World → Prop} (h : F188 b_0 at_1 R w) : hF P 188 #[b_0, at_1] R w := hF_of (by kernel_rfl) (C188 h)
def F189 (b_0 at_1 most_2 : Value) (R : Value → World → Prop) : World → Prop :=
 hF P 188 #[b_0, at_1] fun t14 =>
 hV P (extract t14 0) fun t15 =>
 hV P (extract t14 1) fun t16 =>
 hV P (extract t14 2) fun t17 =>
 hV P (eqG true .neq 32 t17 (.int .i64 0)) fun t20 =>
 hIf t20 (R (.tuple #[(.slice none 0 0), (.int .i64 0), t17])) (hV P (binOp .gtr 3 t15 most_2) fun t25 =>
 hIf t25 (R (.tuple #[(.slice none 0 0), (.int .i64 0), (.int .i64 4)])) (hV P (Builtin.len_ #[35] 3 #[b_0]) fun t29 =>
 hV P (binOp .sub 3 t29 t16) fun t31 =>
 hV P (binOp .gtr 3 t15 t31) fun t32 =>
 hIf t32 (R (.tuple #[(.slice none 0 0), (.int .i64 0), (.int .i64 1)])) (hV P (binOp .add 3 t16 t15) fun t37 =>
 hV P (sliceAt 35 b_0 (some t16) (some t37) none) fun t38 =>
 hF P 99 #[t38] fun t39 =>
 hV P (binOp .add 3 t16 t15) fun t42 =>
 R (.tuple #[t39, t42, (.int .i64 0)]))))
def S189 : Nat → Scr := scrOf []
theorem E189 : (fun b_0 at_1 most_2 R w => den P S189 32 (bodyOf Go.Proofs.Tryz.f189) (retK P [.tmp 6, .tmp 7, .tmp 8] R) (frm0 [b_0, at_1, most_2]) w) = F189 := by kernel_rfl
theorem O189 : codeOk S189 Go.Proofs.Tryz.f189.ntmps (bodyOf Go.Proofs.Tryz.f189) = true := by kernel_rfl
theorem C189 {b_0 at_1 most_2 : Value} {w : World} {R : Value → World → Prop} (h : F189 b_0 at_1 most_2 R w) : Calls P 189 #[b_0, at_1, most_2] w (fun e w' => ∃ v, e = .returned v ∧ R v w') :=
  calls_of_den wide (scr := S189) (rs := [.tmp 6, .tmp 7, .tmp 8]) (args := [b_0, at_1, most_2]) (fn := Go.Proofs.Tryz.f189) 32 (by kernel_rfl) (by kernel_rfl) (by kernel_rfl) (by kernel_rfl) O189 (Eq.mpr (congrFun (congrFun (congrFun (congrFun (congrFun E189 b_0) at_1) most_2) R) w) h)
theorem H189 {b_0 at_1 most_2 : Value} {w : World} {R : Value → World → Prop} (h : F189 b_0 at_1 most_2 R w) : hF P 189 #[b_0, at_1, most_2] R w := hF_of (by kernel_rfl) (C189 h)
def F190 (at_0 t1 t2 : Value) (R : Value → World → Prop) : World → Prop :=
 hV P (loadAt 88 t1) fun t8 =>
 hV P (Builtin.len_ #[88] 3 #[t8]) fun t9 =>
 hLoop2 (.int .i64 0) (.int .i64 0) fun t10_1 t4_2 g3 next4 =>
 hV P (binOp .lss 3 t10_1 t9) fun t11 =>
 hIf t11 (hV P (indexAt 88 t8 t10_1) fun t13 =>
 hV P (loadAt 35 t13) fun t14 =>
 hDraw fun C5 =>
 mV P C5 (loadAt 98 t2) fun t15 =>
 pV P (hNil t15) fun t16 =>
 pV P (fieldAt 159 t16 1) fun t17 =>
 mV P C5 (loadAt 29 t17) fun t18 =>
 pV P (indexAt 64 at_0 t10_1) fun t21 =>
 mV P C5 (loadAt 3 t21) fun t22 =>
 hF P 159 #[t18, t22, t14] fun t24 =>
 hAnd C5 <| hV P (eqG true .neq 32 t24 (.int .i64 0)) fun t26 =>
 hIf t26 (R t24) (hV P (binOp .add 3 t10_1 (.int .i64 1)) fun t28 =>
 next4 t28 t4_2)) (R (.int .i64 0))
def S190 : Nat → Scr := scrOf [(4, .take 0 (.take 1 (.take 2 (.take 3 (.take 4 (.take 5 (.take 6 (.take 7 (.take 8 (.alt 9 (.take 10 (.done)) (.nil))))))))))), (999999, .take 5 (.take 6 (.take 7 (.done))))]
theorem E190 : (fun at_0 t1 t2 R w => den P S190 35 (bodyOf Go.Proofs.Tryz.f190) (retK P [.tmp 4] R) (frm0 [at_0, t1, t2]) w) = F190 := by kernel_rfl
theorem O190 : codeOk S190 Go.Proofs.Tryz.f190.ntmps (bodyOf Go.Proofs.Tryz.f190) = true := by kernel_rfl
theorem C190 {at_0 t1 t2 : Value} {w : World} {R : Value → World → Prop} (h : F190 at_0 t1 t2 R w) : Calls P 190 #[at_0, t1, t2] w (fun e w' => ∃ v, e = .returned v ∧ R v w') :=
  calls_of_den wide (scr := S190) (rs := [.tmp 4]) (args := [at_0, t1, t2]) (fn := Go.Proofs.Tryz.f190) 35 (by kernel_rfl) (by kernel_rfl) (by kernel_rfl) (by kernel_rfl) O190 (Eq.mpr (congrFun (congrFun (congrFun (congrFun (congrFun E190 at_0) t1) t2) R) w) h)
theorem H190 {at_0 t1 t2 : Value} {w : World} {R : Value → World → Prop} (h : F190 at_0 t1 t2 R w) : hF P 190 #[at_0, t1, t2] R w := hF_of (by kernel_rfl) (C190 h)
def F191 (b_0 n_1 : Value) (R : Value → World → Prop) : World → Prop :=
 hScope (fun jump1 =>
 hF P 99 #[b_0] fun t7 =>
 hV P (Builtin.max_ #[3, 3] 3 #[n_1, (.int .i64 0)]) fun t9 =>
 hV P (binOp .geq 3 t9 (.int .i64 128)) fun t11 =>
 hIf t11 (hV P (convert 3 5 t9) fun t14 =>
 hV P (binOp .or 5 t14 (.int .u8 128)) fun t15 =>
 hV P (buildSlice 35 1 #[(0, t15)]) fun t16 =>
 hV P (Builtin.append_ #[35, 35] 35 #[t7, t16]) fun t17 =>
 hV P (binOp .shr 3 t9 (.int .u64 7)) fun t19 =>
 jump1 [t19, t17, (.slice none 0 0)]) (hV P (convert 3 5 t9) fun t22 =>
 hV P (buildSlice 35 1 #[(0, t22)]) fun t23 =>
 hV P (Builtin.append_ #[35, 35] 35 #[t7, t23]) fun t24 =>
 R t24)) (fun vs4 g3 jump2 =>
 hV P (binOp .geq 3 (nthV vs4 0) (.int .i64 128)) fun t11 =>
 hIf t11 (hV P (convert 3 5 (nthV vs4 0)) fun t14 =>
 hV P (binOp .or 5 t14 (.int .u8 128)) fun t15 =>
 hV P (buildSlice 35 1 #[(0, t15)]) fun t16 =>
 hV P (Builtin.append_ #[35, 35] 35 #[(nthV vs4 1), t16]) fun t17 =>
 hV P (binOp .shr 3 (nthV vs4 0) (.int .u64 7)) fun t19 =>
 jump2 [t19, t17, (nthV vs4 2)]) (hV P (convert 3 5 (nthV vs4 0)) fun t22 =>
 hV P (buildSlice 35 1 #[(0, t22)]) fun t23 =>
 hV P (Builtin.append_ #[35, 35] 35 #[(nthV vs4 1), t23]) fun t24 =>
 R t24)) 3
def S191 : Nat → Scr := scrOf []
theorem E191 : (fun b_0 n_1 R w => den P S191 31 (bodyOf Go.Proofs.Tryz.f191) (retK P [.tmp 4] R) (frm0 [b_0, n_1]) w) = F191 := by kernel_rfl
theorem O191 : codeOk S191 Go.Proofs.Tryz.f191.ntmps (bodyOf Go.Proofs.Tryz.f191) = true := by kernel_rfl
theorem C191 {b_0 n_1 : Value} {w : World} {R : Value → World → Prop} (h : F191 b_0 n_1 R w) : Calls P 191 #[b_0, n_1] w (fun e w' => ∃ v, e = .returned v ∧ R v w') :=
  calls_of_den wide (scr := S191) (rs := [.tmp 4]) (args := [b_0, n_1]) (fn := Go.Proofs.Tryz.f191) 31 (by kernel_rfl) (by kernel_rfl) (by kernel_rfl) (by kernel_rfl) O191 (Eq.mpr (congrFun (congrFun (congrFun (congrFun E191 b_0) n_1) R) w) h)
theorem H191 {b_0 n_1 : Value} {w : World} {R : Value → World → Prop} (h : F191 b_0 n_1 R w) : hF P 191 #[b_0, n_1] R w := hF_of (by kernel_rfl) (C191 h)
def F192 (l_0 : Value) (R : Value → World → Prop) : World → Prop :=
 hV P (Builtin.len_ #[64] 3 #[l_0]) fun t7 =>
 hLoop2 (.int .i64 0) (.int .u64 0) fun t8_1 w_3_2 g3 next4 =>
 hV P (binOp .lss 3 t8_1 t7) fun t9 =>
 hIf t9 (hV P (indexAt 64 l_0 t8_1) fun t10 =>
 hV P (loadAt 3 t10) fun t11 =>
 hV P (binOp .shl 168 (.int .u64 1) t11) fun t14 =>
 hV P (binOp .or 168 w_3_2 t14) fun t15 =>
 hV P (binOp .add 3 t8_1 (.int .i64 1)) fun t16 =>
 next4 t16 t15) (R w_3_2)
def S192 : Nat → Scr := scrOf [(999999, .take 5 (.done))]
theorem E192 : (fun l_0 R w => den P S192 32 (bodyOf Go.Proofs.Tryz.f192) (retK P [.tmp 2] R) (frm0 [l_0]) w) = F192 := by kernel_rfl
theorem O192 : codeOk S192 Go.Proofs.Tryz.f192.ntmps (bodyOf Go.Proofs.Tryz.f192) = true := by kernel_rfl
theorem C192 {l_0 : Value} {w : World} {R : Value → World → Prop} (h : F192 l_0 R w) : Calls P 192 #[l_0] w (fun e w' => ∃ v, e = .returned v ∧ R v w') :=
  calls_of_den wide (scr := S192) (rs := [.tmp 2]) (args := [l_0]) (fn := Go.Proofs.Tryz.f192) 32 (by kernel_rfl) (by kernel_rfl) (by kernel_rfl) (by kernel_rfl) O192 (Eq.mpr (congrFun (congrFun (congrFun E192 l_0) R) w) h)
theorem H192 {l_0 : Value} {w : World} {R : Value → World → Prop} (h : F192 l_0 R w) : hF P 192 #[l_0] R w := hF_of (by kernel_rfl) (C192 h)
def F193 (c_0 block_1 : Value) (R : Value → World → Prop) : World → Prop :=
 hV P (eqG true .neq 95 c_0 (.pointer none)) fun t6 =>
 hJ (fun (j9_2 : Value) =>
 hPick t6 j9_2 (.bool false) fun t10 =>
 hGuard t10 true (hV P (hNil c_0) fun t14 =>
 hV P (fieldAt 157 t14 0) fun t15 =>
 hV P (fieldAt 25 t15 2) fun t16 =>
 hV P (loadAt 3 t16) fun t17 =>
 hV P (binOp .lss 3 block_1 t17) fun t18 =>
 hPick t10 t18 (.bool false) fun t19 =>
 R t19) (hPick t10 undef (.bool false) fun t19 =>
 R t19)) fun J10 =>
 hGuard t6 true (hV P (binOp .geq 3 block_1 (.int .i64 0)) fun t9 =>
 J10 t9) (J10 undef)
def S193 : Nat → Scr := scrOf []
theorem E193 : (fun c_0 block_1 R w => den P S193 23 (bodyOf Go.Proofs.Tryz.f193) (retK P [.tmp 4] R) (frm0 [c_0, block_1]) w) = F193 := by kernel_rfl
theorem O193 : codeOk S193 Go.Proofs.Tryz.f193.ntmps (bodyOf Go.Proofs.Tryz.f193) = true := by kernel_rfl
theorem C193 {c_0 block_1 : Value} {w : World} {R : Value → World → Prop} (h : F193 c_0 block_1 R w) : Calls P 193 #[c_0, block_1] w (fun e w' => ∃ v, e = .returned v ∧ R v w') :=
  calls_of_den wide (scr := S193) (rs := [.tmp 4]) (args := [c_0, block_1]) (fn := Go.Proofs.Tryz.f193) 23 (by kernel_rfl) (by kernel_rfl) (by kernel_rfl) (by kernel_rfl) O193 (Eq.mpr (congrFun (congrFun (congrFun (congrFun E193 c_0) block_1) R) w) h)
theorem H193 {c_0 block_1 : Value} {w : World} {R : Value → World → Prop} (h : F193 c_0 block_1 R w) : hF P 193 #[c_0, block_1] R w := hF_of (by kernel_rfl) (C193 h)
def F194 (c_0 block_1 : Value) (R : Value → World → Prop) : World → Prop :=
 hDraw fun C1 =>
 pV P (eqG true .neq 210 c_0 (.pointer none)) fun t6 =>
 hGuard t6 true (pV P (hNil c_0) fun t9 =>
 pV P (fieldAt 263 t9 1) fun t10 =>
 mV P C1 (loadAt 207 t10) fun t11 =>
 pV P (hNil c_0) fun t14 =>
 pV P (fieldAt 263 t14 2) fun t15 =>
 mV P C1 (loadAt 3 t15) fun t16 =>
 hF P 216 #[t11, block_1, t16] fun t17 =>
 pV P (binOp .gtr 3 t17 (.int .i64 0)) fun t18 =>
 hPick t6 t18 (.bool false) fun t19 =>
 R t19) (hPick t6 undef (.bool false) fun t19 =>
 R t19)
def S194 : Nat → Scr := scrOf [(1, .take 0 (.take 1 (.take 2 (.take 3 (.take 4 (.take 5 (.take 6 (.take 7 (.take 8 (.take 9 (.take 10 (.take 11 (.sink 12 (.take 13 (.take 14 (.take 15 (.done)))))))))))))))))]
theorem E194 : (fun c_0 block_1 R w => den P S194 23 (bodyOf Go.Proofs.Tryz.f194) (retK P [.tmp 4] R) (frm0 [c_0, block_1]) w) = F194 := by kernel_rfl
theorem O194 : codeOk S194 Go.Proofs.Tryz.f194.ntmps (bodyOf Go.Proofs.Tryz.f194) = true := by kernel_rfl
theorem C194 {c_0 block_1 : Value} {w : World} {R : Value → World → Prop} (h : F194 c_0 block_1 R w) : Calls P 194 #[c_0, block_1] w (fun e w' => ∃ v, e = .returned v ∧ R v w') :=
  calls_of_den wide (scr := S194) (rs := [.tmp 4]) (args := [c_0, block_1]) (fn := Go.Proofs.Tryz.f194) 23 (by kernel_rfl) (by kernel_rfl) (by kernel_rfl) (by kernel_rfl) O194 (Eq.mpr (congrFun (congrFun (congrFun (congrFun E194 c_0) block_1) R) w) h)
theorem H194 {c_0 block_1 : Value} {w : World} {R : Value → World → Prop} (h : F194 c_0 block_1 R w) : hF P 194 #[c_0, block_1] R w := hF_of (by kernel_rfl) (C194 h)
def F195 (d_0 at_1 : Value) (R : Value → World → Prop) : World → Prop :=
 hV P (binOp .geq 3 at_1 (.int .i64 0)) fun t6 =>
 hGuard t6 true (hV P (hNil d_0) fun t10 =>
 hV P (fieldAt 94 t10 0) fun t11 =>
 hV P (loadAt 88 t11) fun t12 =>
 hV P (Builtin.len_ #[88] 3 #[t12]) fun t13 =>
 hV P (binOp .lss 3 at_1 t13) fun t14 =>
 hPick t6 t14 (.bool false) fun t15 =>
 R t15) (hPick t6 undef (.bool false) fun t15 =>
 R t15)
def S195 : Nat → Scr := scrOf []
theorem E195 : (fun d_0 at_1 R w => den P S195 23 (bodyOf Go.Proofs.Tryz.f195) (retK P [.tmp 4] R) (frm0 [d_0, at_1]) w) = F195 := by kernel_rfl
theorem O195 : codeOk S195 Go.Proofs.Tryz.f195.ntmps (bodyOf Go.Proofs.Tryz.f195) = true := by kernel_rfl
theorem C195 {d_0 at_1 : Value} {w : World} {R : Value → World → Prop} (h : F195 d_0 at_1 R w) : Calls P 195 #[d_0, at_1] w (fun e w' => ∃ v, e = .returned v ∧ R v w') :=
  calls_of_den wide (scr := S195) (rs := [.tmp 4]) (args := [d_0, at_1]) (fn := Go.Proofs.Tryz.f195) 23 (by kernel_rfl) (by kernel_rfl) (by kernel_rfl) (by kernel_rfl) O195 (Eq.mpr (congrFun (congrFun (congrFun (congrFun E195 d_0) at_1) R) w) h)
theorem H195 {d_0 at_1 : Value} {w : World} {R : Value → World → Prop} (h : F195 d_0 at_1 R w) : hF P 195 #[d_0, at_1] R w := hF_of (by kernel_rfl) (C195 h)
end Go.Gd
