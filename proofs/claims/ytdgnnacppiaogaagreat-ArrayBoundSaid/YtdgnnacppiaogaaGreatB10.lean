/- PRINTED by a program of mine (hoas.py): the plain reading of the functions named, each with its equation and the way into it. -/
import Derived.Test.YtdgnnacppiaogaaGreatB2
set_option linter.unusedVariables false
set_option linter.unusedSimpArgs false
set_option maxRecDepth 100000
set_option linter.unusedVariables false
namespace Go.Gd
open Go.Instr
def F225 (f_0 : Value) (R : Value → World → Prop) : World → Prop :=
 hV P (box 304 f_0) fun f_1 =>
 hV P (fieldAt 304 f_1 0) fun t3 =>
 hV P (loadAt 3 t3) fun t4 =>
 hF P 232 #[t4, (.int .i64 2147483647)] fun t5 =>
 hJ (fun (j9_3 : Value) =>
 hPick t5 j9_3 (.bool false) fun t10 =>
 hGuard t10 true (hV P (fieldAt 304 f_1 1) fun t12 =>
 hV P (loadAt 3 t12) fun t13 =>
 hV P (binOp .gtr 3 t13 (.int .i64 0)) fun t14 =>
 hPick t10 t14 (.bool false) fun t15 =>
 R t15) (hPick t10 undef (.bool false) fun t15 =>
 R t15)) fun J7 =>
 hGuard t5 true (hV P (fieldAt 304 f_1 1) fun t7 =>
 hV P (loadAt 3 t7) fun t8 =>
 hF P 232 #[t8, (.int .i64 2147483647)] fun t9 =>
 J7 t9) (J7 undef)
def S225 : Nat → Scr := scrOf []
theorem E225 : (fun f_0 R w => den P S225 23 (bodyOf Go.Proofs.Tryz.f225) (retK P [.tmp 2] R) (frm0 [f_0]) w) = F225 := by kernel_rfl
theorem O225 : codeOk S225 Go.Proofs.Tryz.f225.ntmps (bodyOf Go.Proofs.Tryz.f225) = true := by kernel_rfl
theorem C225 {f_0 : Value} {w : World} {R : Value → World → Prop} (h : F225 f_0 R w) : Calls P 225 #[f_0] w (fun e w' => ∃ v, e = .returned v ∧ R v w') :=
  calls_of_den wide (scr := S225) (rs := [.tmp 2]) (args := [f_0]) (fn := Go.Proofs.Tryz.f225) 23 (by kernel_rfl) (by kernel_rfl) (by kernel_rfl) (by kernel_rfl) O225 (Eq.mpr (congrFun (congrFun (congrFun E225 f_0) R) w) h)
theorem H225 {f_0 : Value} {w : World} {R : Value → World → Prop} (h : F225 f_0 R w) : hF P 225 #[f_0] R w := hF_of (by kernel_rfl) (C225 h)
def F226 (x_0 cmp_1 : Value) (R : Value → World → Prop) : World → Prop :=
 hV P (Builtin.len_ #[64] 3 #[x_0]) fun t6 =>
 hF P 233 #[x_0, t6, cmp_1] fun t8 =>
 R (.tuple #[])
def S226 : Nat → Scr := scrOf []
theorem E226 : (fun x_0 cmp_1 R w => den P S226 21 (bodyOf Go.Proofs.Tryz.f226) (retK P [] R) (frm0 [x_0, cmp_1]) w) = F226 := by kernel_rfl
theorem O226 : codeOk S226 Go.Proofs.Tryz.f226.ntmps (bodyOf Go.Proofs.Tryz.f226) = true := by kernel_rfl
theorem C226 {x_0 cmp_1 : Value} {w : World} {R : Value → World → Prop} (h : F226 x_0 cmp_1 R w) : Calls P 226 #[x_0, cmp_1] w (fun e w' => ∃ v, e = .returned v ∧ R v w') :=
  calls_of_den wide (scr := S226) (rs := []) (args := [x_0, cmp_1]) (fn := Go.Proofs.Tryz.f226) 21 (by kernel_rfl) (by kernel_rfl) (by kernel_rfl) (by kernel_rfl) O226 (Eq.mpr (congrFun (congrFun (congrFun (congrFun E226 x_0) cmp_1) R) w) h)
theorem H226 {x_0 cmp_1 : Value} {w : World} {R : Value → World → Prop} (h : F226 x_0 cmp_1 R w) : hF P 226 #[x_0, cmp_1] R w := hF_of (by kernel_rfl) (C226 h)
def F227 (i_0 k_1 t2 : Value) (R : Value → World → Prop) : World → Prop :=
 hDraw fun C1 =>
 mV P C1 (loadAt 302 t2) fun t9 =>
 pV P (indexAt 302 t9 k_1) fun t11 =>
 mV P C1 (loadAt 304 t11) fun t12 =>
 mV P C1 (loadAt 302 t2) fun t13 =>
 pV P (indexAt 302 t13 i_0) fun t15 =>
 mV P C1 (loadAt 304 t15) fun t16 =>
 hF P 228 #[t12, t16] fun t17 =>
 hAnd C1 <| pV P (extract t17 0) fun t18 =>
 pV P (extract t17 1) fun t19 =>
 R t18
def S227 : Nat → Scr := scrOf [(1, .take 0 (.take 1 (.take 2 (.take 3 (.take 4 (.take 5 (.take 6 (.take 7 (.alt 8 (.take 9 (.take 10 (.take 11 (.take 12 (.take 13 (.done)))))) (.nil))))))))))]
theorem E227 : (fun i_0 k_1 t2 R w => den P S227 24 (bodyOf Go.Proofs.Tryz.f227) (retK P [.tmp 5] R) (frm0 [i_0, k_1, t2]) w) = F227 := by kernel_rfl
theorem O227 : codeOk S227 Go.Proofs.Tryz.f227.ntmps (bodyOf Go.Proofs.Tryz.f227) = true := by kernel_rfl
theorem C227 {i_0 k_1 t2 : Value} {w : World} {R : Value → World → Prop} (h : F227 i_0 k_1 t2 R w) : Calls P 227 #[i_0, k_1, t2] w (fun e w' => ∃ v, e = .returned v ∧ R v w') :=
  calls_of_den wide (scr := S227) (rs := [.tmp 5]) (args := [i_0, k_1, t2]) (fn := Go.Proofs.Tryz.f227) 24 (by kernel_rfl) (by kernel_rfl) (by kernel_rfl) (by kernel_rfl) O227 (Eq.mpr (congrFun (congrFun (congrFun (congrFun (congrFun E227 i_0) k_1) t2) R) w) h)
theorem H227 {i_0 k_1 t2 : Value} {w : World} {R : Value → World → Prop} (h : F227 i_0 k_1 t2 R w) : hF P 227 #[i_0, k_1, t2] R w := hF_of (by kernel_rfl) (C227 h)
def F228 (a_0 b_1 : Value) (R : Value → World → Prop) : World → Prop :=
 hV P (box 304 a_0) fun a_2 =>
 hV P (box 304 b_1) fun b_3 =>
 hV P (loadAt 304 a_2) fun t10 =>
 hF P 225 #[t10] fun t11 =>
 hV P (Op.unary .not t11) fun t12 =>
 hJ (fun (j16_3 : Value) =>
 hPick t12 (.bool true) j16_3 fun t17 =>
 hIf t17 (R (.tuple #[(.int .i64 0), (.int .i64 6)])) (hV P (fieldAt 304 a_2 0) fun t19 =>
 hV P (loadAt 3 t19) fun t20 =>
 hV P (fieldAt 304 b_3 1) fun t21 =>
 hV P (loadAt 3 t21) fun t22 =>
 hF P 234 #[t20, t22] fun t23 =>
 hV P (extract t23 0) fun t24 =>
 hV P (extract t23 1) fun t25 =>
 hV P (fieldAt 304 b_3 0) fun t27 =>
 hV P (loadAt 3 t27) fun t28 =>
 hV P (fieldAt 304 a_2 1) fun t29 =>
 hV P (loadAt 3 t29) fun t30 =>
 hF P 234 #[t28, t30] fun t31 =>
 hV P (extract t31 0) fun t32 =>
 hV P (extract t31 1) fun t33 =>
 hV P (binOp .lss 3 t24 t32) fun t37 =>
 hIf t37 (R (.tuple #[(.int .i64 (-1)), (.int .i64 0)])) (hV P (binOp .gtr 3 t24 t32) fun t41 =>
 hIf t41 (R (.tuple #[(.int .i64 1), (.int .i64 0)])) (R (.tuple #[(.int .i64 0), (.int .i64 0)]))))) fun J4 =>
 hGuard t12 false (hV P (loadAt 304 b_3) fun t14 =>
 hF P 225 #[t14] fun t15 =>
 hV P (Op.unary .not t15) fun t16 =>
 J4 t16) (J4 undef)
def S228 : Nat → Scr := scrOf []
theorem E228 : (fun a_0 b_1 R w => den P S228 32 (bodyOf Go.Proofs.Tryz.f228) (retK P [.tmp 4, .tmp 5] R) (frm0 [a_0, b_1]) w) = F228 := by kernel_rfl
theorem O228 : codeOk S228 Go.Proofs.Tryz.f228.ntmps (bodyOf Go.Proofs.Tryz.f228) = true := by kernel_rfl
theorem C228 {a_0 b_1 : Value} {w : World} {R : Value → World → Prop} (h : F228 a_0 b_1 R w) : Calls P 228 #[a_0, b_1] w (fun e w' => ∃ v, e = .returned v ∧ R v w') :=
  calls_of_den wide (scr := S228) (rs := [.tmp 4, .tmp 5]) (args := [a_0, b_1]) (fn := Go.Proofs.Tryz.f228) 32 (by kernel_rfl) (by kernel_rfl) (by kernel_rfl) (by kernel_rfl) O228 (Eq.mpr (congrFun (congrFun (congrFun (congrFun E228 a_0) b_1) R) w) h)
theorem H228 {a_0 b_1 : Value} {w : World} {R : Value → World → Prop} (h : F228 a_0 b_1 R w) : hF P 228 #[a_0, b_1] R w := hF_of (by kernel_rfl) (C228 h)
def F229 (s_0 f_1 : Value) (R : Value → World → Prop) : World → Prop :=
 hV P (Builtin.len_ #[23] 3 #[s_0]) fun t7 =>
 hLoop2 (.int .i64 0) (.int .i64 0) fun t8_1 t4_2 g3 next4 =>
 hV P (binOp .lss 3 t8_1 t7) fun t9 =>
 hIf t9 (hV P (indexAt 23 s_0 t8_1) fun t14 =>
 hV P (loadAt 114 t14) fun t15 =>
 hFV P f_1 #[t15] fun t16 =>
 hIf t16 (R t8_1) (hV P (binOp .add 3 t8_1 (.int .i64 1)) fun t18 =>
 next4 t18 t4_2)) (R (.int .i64 (-1)))
def S229 : Nat → Scr := scrOf [(999999, .take 5 (.done))]
theorem E229 : (fun s_0 f_1 R w => den P S229 34 (bodyOf Go.Proofs.Tryz.f229) (retK P [.tmp 4] R) (frm0 [s_0, f_1]) w) = F229 := by kernel_rfl
theorem O229 : codeOk S229 Go.Proofs.Tryz.f229.ntmps (bodyOf Go.Proofs.Tryz.f229) = true := by kernel_rfl
theorem C229 {s_0 f_1 : Value} {w : World} {R : Value → World → Prop} (h : F229 s_0 f_1 R w) : Calls P 229 #[s_0, f_1] w (fun e w' => ∃ v, e = .returned v ∧ R v w') :=
  calls_of_den wide (scr := S229) (rs := [.tmp 4]) (args := [s_0, f_1]) (fn := Go.Proofs.Tryz.f229) 34 (by kernel_rfl) (by kernel_rfl) (by kernel_rfl) (by kernel_rfl) O229 (Eq.mpr (congrFun (congrFun (congrFun (congrFun E229 s_0) f_1) R) w) h)
theorem H229 {s_0 f_1 : Value} {w : World} {R : Value → World → Prop} (h : F229 s_0 f_1 R w) : hF P 229 #[s_0, f_1] R w := hF_of (by kernel_rfl) (C229 h)
def F230 (h_0 t1 : Value) (R : Value → World → Prop) : World → Prop :=
 hV P (box 114 h_0) fun h_2 =>
 hV P (loadAt 3 t1) fun t4 =>
 hV P (fieldAt 114 h_2 0) fun t5 =>
 hV P (loadAt 3 t5) fun t6 =>
 hV P (binOp .geq 3 t4 t6) fun t7 =>
 hGuard t7 true (hV P (loadAt 3 t1) fun t9 =>
 hV P (fieldAt 114 h_2 0) fun t10 =>
 hV P (loadAt 3 t10) fun t11 =>
 hV P (fieldAt 114 h_2 1) fun t12 =>
 hV P (loadAt 3 t12) fun t13 =>
 hV P (binOp .add 3 t11 t13) fun t14 =>
 hV P (binOp .lss 3 t9 t14) fun t15 =>
 hPick t7 t15 (.bool false) fun t16 =>
 R t16) (hPick t7 undef (.bool false) fun t16 =>
 R t16)
def S230 : Nat → Scr := scrOf []
theorem E230 : (fun h_0 t1 R w => den P S230 23 (bodyOf Go.Proofs.Tryz.f230) (retK P [.tmp 3] R) (frm0 [h_0, t1]) w) = F230 := by kernel_rfl
theorem O230 : codeOk S230 Go.Proofs.Tryz.f230.ntmps (bodyOf Go.Proofs.Tryz.f230) = true := by kernel_rfl
theorem C230 {h_0 t1 : Value} {w : World} {R : Value → World → Prop} (h : F230 h_0 t1 R w) : Calls P 230 #[h_0, t1] w (fun e w' => ∃ v, e = .returned v ∧ R v w') :=
  calls_of_den wide (scr := S230) (rs := [.tmp 3]) (args := [h_0, t1]) (fn := Go.Proofs.Tryz.f230) 23 (by kernel_rfl) (by kernel_rfl) (by kernel_rfl) (by kernel_rfl) O230 (Eq.mpr (congrFun (congrFun (congrFun (congrFun E230 h_0) t1) R) w) h)
theorem H230 {h_0 t1 : Value} {w : World} {R : Value → World → Prop} (h : F230 h_0 t1 R w) : hF P 230 #[h_0, t1] R w := hF_of (by kernel_rfl) (C230 h)
def F231 (s_0 f_1 : Value) (R : Value → World → Prop) : World → Prop :=
 hV P (Builtin.len_ #[302] 3 #[s_0]) fun t7 =>
 hLoop2 (.int .i64 0) (.int .i64 0) fun t8_1 t4_2 g3 next4 =>
 hV P (binOp .lss 3 t8_1 t7) fun t9 =>
 hIf t9 (hV P (indexAt 302 s_0 t8_1) fun t14 =>
 hV P (loadAt 304 t14) fun t15 =>
 hFV P f_1 #[t15] fun t16 =>
 hIf t16 (R t8_1) (hV P (binOp .add 3 t8_1 (.int .i64 1)) fun t18 =>
 next4 t18 t4_2)) (R (.int .i64 (-1)))
def S231 : Nat → Scr := scrOf [(999999, .take 5 (.done))]
theorem E231 : (fun s_0 f_1 R w => den P S231 34 (bodyOf Go.Proofs.Tryz.f231) (retK P [.tmp 4] R) (frm0 [s_0, f_1]) w) = F231 := by kernel_rfl
theorem O231 : codeOk S231 Go.Proofs.Tryz.f231.ntmps (bodyOf Go.Proofs.Tryz.f231) = true := by kernel_rfl
theorem C231 {s_0 f_1 : Value} {w : World} {R : Value → World → Prop} (h : F231 s_0 f_1 R w) : Calls P 231 #[s_0, f_1] w (fun e w' => ∃ v, e = .returned v ∧ R v w') :=
  calls_of_den wide (scr := S231) (rs := [.tmp 4]) (args := [s_0, f_1]) (fn := Go.Proofs.Tryz.f231) 34 (by kernel_rfl) (by kernel_rfl) (by kernel_rfl) (by kernel_rfl) O231 (Eq.mpr (congrFun (congrFun (congrFun (congrFun E231 s_0) f_1) R) w) h)
theorem H231 {s_0 f_1 : Value} {w : World} {R : Value → World → Prop} (h : F231 s_0 f_1 R w) : hF P 231 #[s_0, f_1] R w := hF_of (by kernel_rfl) (C231 h)
def F232 (n_0 most_1 : Value) (R : Value → World → Prop) : World → Prop :=
 hV P (binOp .geq 3 n_0 (.int .i64 0)) fun t6 =>
 hGuard t6 true (hV P (binOp .leq 3 n_0 most_1) fun t10 =>
 hPick t6 t10 (.bool false) fun t11 =>
 R t11) (hPick t6 undef (.bool false) fun t11 =>
 R t11)
def S232 : Nat → Scr := scrOf []
theorem E232 : (fun n_0 most_1 R w => den P S232 23 (bodyOf Go.Proofs.Tryz.f232) (retK P [.tmp 4] R) (frm0 [n_0, most_1]) w) = F232 := by kernel_rfl
theorem O232 : codeOk S232 Go.Proofs.Tryz.f232.ntmps (bodyOf Go.Proofs.Tryz.f232) = true := by kernel_rfl
theorem C232 {n_0 most_1 : Value} {w : World} {R : Value → World → Prop} (h : F232 n_0 most_1 R w) : Calls P 232 #[n_0, most_1] w (fun e w' => ∃ v, e = .returned v ∧ R v w') :=
  calls_of_den wide (scr := S232) (rs := [.tmp 4]) (args := [n_0, most_1]) (fn := Go.Proofs.Tryz.f232) 23 (by kernel_rfl) (by kernel_rfl) (by kernel_rfl) (by kernel_rfl) O232 (Eq.mpr (congrFun (congrFun (congrFun (congrFun E232 n_0) most_1) R) w) h)
theorem H232 {n_0 most_1 : Value} {w : World} {R : Value → World → Prop} (h : F232 n_0 most_1 R w) : hF P 232 #[n_0, most_1] R w := hF_of (by kernel_rfl) (C232 h)
def F233 (data_0 n_1 cmp_2 : Value) (R : Value → World → Prop) : World → Prop :=
 hLoop2 (.int .i64 20) (.int .i64 0) fun b_8_1 a_7_2 g3 next4 =>
 hV P (binOp .leq 3 b_8_1 n_1) fun t13 =>
 hIf t13 (hF P 235 #[data_0, a_7_2, b_8_1, cmp_2] fun t18 =>
 hV P (binOp .add 3 b_8_1 (.int .i64 20)) fun t22 =>
 next4 t22 b_8_1) (hF P 235 #[data_0, a_7_2, n_1, cmp_2] fun t27 =>
 hLoop3 (.int .i64 20) a_7_2 b_8_1 fun blockSize_6_5 a_7_6 b_8_7 g8 next9 =>
 hV P (binOp .lss 3 blockSize_6_5 n_1) fun t30 =>
 hIf t30 (hV P (binOp .mul 3 (.int .i64 2) blockSize_6_5) fun t32 =>
 hLoop2 t32 (.int .i64 0) fun b_8_10 a_7_11 g12 next13 =>
 hV P (binOp .leq 3 b_8_10 n_1) fun t35 =>
 hIf t35 (hV P (binOp .add 3 a_7_11 blockSize_6_5) fun t40 =>
 hF P 236 #[data_0, a_7_11, t40, b_8_10, cmp_2] fun t43 =>
 hV P (binOp .mul 3 (.int .i64 2) blockSize_6_5) fun t47 =>
 hV P (binOp .add 3 b_8_10 t47) fun t48 =>
 next13 t48 b_8_10) (hV P (binOp .add 3 a_7_11 blockSize_6_5) fun t51 =>
 hV P (binOp .lss 3 t51 n_1) fun t54 =>
 hJ (
 hV P (binOp .mul 3 blockSize_6_5 (.int .i64 2)) fun t62 =>
 next9 t62 a_7_11 b_8_10) fun J20 =>
 hIf t54 (hF P 236 #[data_0, a_7_11, t51, n_1, cmp_2] fun t60 =>
 J20) (J20))) (R (.tuple #[])))
def S233 : Nat → Scr := scrOf [(999999, .take 9 (.done))]
theorem E233 : (fun data_0 n_1 cmp_2 R w => den P S233 37 (bodyOf Go.Proofs.Tryz.f233) (retK P [] R) (frm0 [data_0, n_1, cmp_2]) w) = F233 := by kernel_rfl
theorem O233 : codeOk S233 Go.Proofs.Tryz.f233.ntmps (bodyOf Go.Proofs.Tryz.f233) = true := by kernel_rfl
theorem C233 {data_0 n_1 cmp_2 : Value} {w : World} {R : Value → World → Prop} (h : F233 data_0 n_1 cmp_2 R w) : Calls P 233 #[data_0, n_1, cmp_2] w (fun e w' => ∃ v, e = .returned v ∧ R v w') :=
  calls_of_den wide (scr := S233) (rs := []) (args := [data_0, n_1, cmp_2]) (fn := Go.Proofs.Tryz.f233) 37 (by kernel_rfl) (by kernel_rfl) (by kernel_rfl) (by kernel_rfl) O233 (Eq.mpr (congrFun (congrFun (congrFun (congrFun (congrFun E233 data_0) n_1) cmp_2) R) w) h)
theorem H233 {data_0 n_1 cmp_2 : Value} {w : World} {R : Value → World → Prop} (h : F233 data_0 n_1 cmp_2 R w) : hF P 233 #[data_0, n_1, cmp_2] R w := hF_of (by kernel_rfl) (C233 h)
def F234 (x_0 y_1 : Value) (R : Value → World → Prop) : World → Prop :=
 hF P 232 #[x_0, (.int .i64 2147483647)] fun t11 =>
 hV P (Op.unary .not t11) fun t12 =>
 hJ (fun (j16_3 : Value) =>
 hPick t12 (.bool true) j16_3 fun t17 =>
 hIf t17 (R (.tuple #[(.int .i64 0), (.int .i64 3)])) (hF P 237 #[x_0, y_1] fun t21 =>
 hV P (extract t21 0) fun t22 =>
 hV P (extract t21 1) fun t23 =>
 hV P (extract t21 2) fun t24 =>
 hV P (extract t21 3) fun t25 =>
 hV P (binOp .shl 3 t22 (.int .u64 32)) fun t27 =>
 hV P (binOp .shl 3 t23 (.int .u64 16)) fun t29 =>
 hV P (binOp .add 3 t27 t29) fun t30 =>
 hV P (binOp .add 3 t30 t24) fun t32 =>
 R (.tuple #[t32, (.int .i64 0)]))) fun J4 =>
 hGuard t12 false (hF P 232 #[y_1, (.int .i64 2147483647)] fun t15 =>
 hV P (Op.unary .not t15) fun t16 =>
 J4 t16) (J4 undef)
def S234 : Nat → Scr := scrOf []
theorem E234 : (fun x_0 y_1 R w => den P S234 26 (bodyOf Go.Proofs.Tryz.f234) (retK P [.tmp 4, .tmp 5] R) (frm0 [x_0, y_1]) w) = F234 := by kernel_rfl
theorem O234 : codeOk S234 Go.Proofs.Tryz.f234.ntmps (bodyOf Go.Proofs.Tryz.f234) = true := by kernel_rfl
theorem C234 {x_0 y_1 : Value} {w : World} {R : Value → World → Prop} (h : F234 x_0 y_1 R w) : Calls P 234 #[x_0, y_1] w (fun e w' => ∃ v, e = .returned v ∧ R v w') :=
  calls_of_den wide (scr := S234) (rs := [.tmp 4, .tmp 5]) (args := [x_0, y_1]) (fn := Go.Proofs.Tryz.f234) 26 (by kernel_rfl) (by kernel_rfl) (by kernel_rfl) (by kernel_rfl) O234 (Eq.mpr (congrFun (congrFun (congrFun (congrFun E234 x_0) y_1) R) w) h)
theorem H234 {x_0 y_1 : Value} {w : World} {R : Value → World → Prop} (h : F234 x_0 y_1 R w) : hF P 234 #[x_0, y_1] R w := hF_of (by kernel_rfl) (C234 h)
def F235 (data_0 a_1 b_2 cmp_3 : Value) (R : Value → World → Prop) : World → Prop :=
 hV P (binOp .add 3 a_1 (.int .i64 1)) fun t11 =>
 hLoop2 t11 undef fun i_8_1 j_9_2 g3 next4 =>
 hV P (binOp .lss 3 i_8_1 b_2) fun t14 =>
 hIf t14 (hLoop1 i_8_1 fun j_9_5 g6 next7 =>
 hDraw fun C8 =>
 pV P (binOp .gtr 3 j_9_5 a_1) fun t20 =>
 hJ (fun (j33_20 : Value) =>
 hPick t20 j33_20 (.bool false) fun t34 =>
 hIf t34 (hDraw fun C21 =>
 pV P (binOp .sub 3 j_9_5 (.int .i64 1)) fun t41 =>
 pV P (binOp .sub 3 j_9_5 (.int .i64 1)) fun t44 =>
 pV P (indexAt 64 data_0 t44) fun t45 =>
 mV P C21 (loadAt 3 t45) fun t46 =>
 pV P (indexAt 64 data_0 j_9_5) fun t49 =>
 mV P C21 (loadAt 3 t49) fun t50 =>
 pV P (indexAt 64 data_0 j_9_5) fun t51 =>
 hU P (storeAt 3 t51 t46) <|
 pV P (indexAt 64 data_0 t41) fun t52 =>
 hU P (storeAt 3 t52 t50) <|
 hV P (binOp .sub 3 j_9_5 (.int .i64 1)) fun t36 =>
 next7 t36) (hV P (binOp .add 3 i_8_1 (.int .i64 1)) fun t16 =>
 next4 t16 j_9_5)) fun J22 =>
 hGuard t20 true (pV P (indexAt 64 data_0 j_9_5) fun t25 =>
 mV P C8 (loadAt 3 t25) fun t26 =>
 pV P (binOp .sub 3 j_9_5 (.int .i64 1)) fun t29 =>
 pV P (indexAt 64 data_0 t29) fun t30 =>
 mV P C8 (loadAt 3 t30) fun t31 =>
 hFV P cmp_3 #[t26, t31] fun t32 =>
 pV P (binOp .lss 3 t32 (.int .i64 0)) fun t33 =>
 J22 t33) (J22 undef)) (R (.tuple #[]))
def S235 : Nat → Scr := scrOf [(4, .take 0 (.take 1 (.take 2 (.take 3 (.take 4 (.take 5 (.take 6 (.take 7 (.take 8 (.take 9 (.take 10 (.take 11 (.take 12 (.take 13 (.sink 14 (.take 15 (.take 16 (.done)))))))))))))))))), (6, .take 0 (.take 1 (.take 2 (.take 3 (.take 4 (.take 5 (.take 6 (.take 7 (.take 8 (.take 9 (.take 10 (.take 11 (.take 12 (.take 13 (.take 14 (.sink 15 (.take 16 (.sink 17 (.done)))))))))))))))))))]
theorem E235 : (fun data_0 a_1 b_2 cmp_3 R w => den P S235 33 (bodyOf Go.Proofs.Tryz.f235) (retK P [] R) (frm0 [data_0, a_1, b_2, cmp_3]) w) = F235 := by kernel_rfl
theorem O235 : codeOk S235 Go.Proofs.Tryz.f235.ntmps (bodyOf Go.Proofs.Tryz.f235) = true := by kernel_rfl
theorem C235 {data_0 a_1 b_2 cmp_3 : Value} {w : World} {R : Value → World → Prop} (h : F235 data_0 a_1 b_2 cmp_3 R w) : Calls P 235 #[data_0, a_1, b_2, cmp_3] w (fun e w' => ∃ v, e = .returned v ∧ R v w') :=
  calls_of_den wide (scr := S235) (rs := []) (args := [data_0, a_1, b_2, cmp_3]) (fn := Go.Proofs.Tryz.f235) 33 (by kernel_rfl) (by kernel_rfl) (by kernel_rfl) (by kernel_rfl) O235 (Eq.mpr (congrFun (congrFun (congrFun (congrFun (congrFun (congrFun E235 data_0) a_1) b_2) cmp_3) R) w) h)
theorem H235 {data_0 a_1 b_2 cmp_3 : Value} {w : World} {R : Value → World → Prop} (h : F235 data_0 a_1 b_2 cmp_3 R w) : hF P 235 #[data_0, a_1, b_2, cmp_3] R w := hF_of (by kernel_rfl) (C235 h)
def F237 (x_0 y_1 : Value) (R : Value → World → Prop) : World → Prop :=
 hF P 232 #[x_0, (.int .i64 4294967295)] fun t13 =>
 hV P (Op.unary .not t13) fun t14 =>
 hJ (fun (j18_3 : Value) =>
 hPick t14 (.bool true) j18_3 fun t19 =>
 hIf t19 (R (.tuple #[(.int .i64 0), (.int .i64 0), (.int .i64 0), (.int .i64 3)])) (hF P 239 #[x_0] fun t21 =>
 hF P 239 #[y_1] fun t23 =>
 hV P (binOp .mul 322 t21 t23) fun t24 =>
 hF P 239 #[x_0] fun t26 =>
 hF P 239 #[y_1] fun t28 =>
 hF P 240 #[t28] fun t29 =>
 hV P (binOp .mul 322 t26 t29) fun t30 =>
 hV P (Builtin.real_ #[322] 325 #[t30]) fun t32 =>
 hV P (convert 325 3 t32) fun t33 =>
 hV P (Builtin.real_ #[322] 325 #[t24]) fun t35 =>
 hV P (convert 325 3 t35) fun t36 =>
 hV P (binOp .add 3 t33 t36) fun t39 =>
 hV P (binOp .quo 3 t39 (.int .i64 2)) fun t40 =>
 hV P (Builtin.imag_ #[322] 325 #[t24]) fun t42 =>
 hV P (convert 325 3 t42) fun t43 =>
 hV P (binOp .sub 3 t33 t36) fun t46 =>
 hV P (binOp .quo 3 t46 (.int .i64 2)) fun t47 =>
 R (.tuple #[t40, t43, t47, (.int .i64 0)]))) fun J4 =>
 hGuard t14 false (hF P 232 #[y_1, (.int .i64 4294967295)] fun t17 =>
 hV P (Op.unary .not t17) fun t18 =>
 J4 t18) (J4 undef)
def S237 : Nat → Scr := scrOf []
theorem E237 : (fun x_0 y_1 R w => den P S237 27 (bodyOf Go.Proofs.Tryz.f237) (retK P [.tmp 4, .tmp 5, .tmp 6, .tmp 7] R) (frm0 [x_0, y_1]) w) = F237 := by kernel_rfl
theorem O237 : codeOk S237 Go.Proofs.Tryz.f237.ntmps (bodyOf Go.Proofs.Tryz.f237) = true := by kernel_rfl
theorem C237 {x_0 y_1 : Value} {w : World} {R : Value → World → Prop} (h : F237 x_0 y_1 R w) : Calls P 237 #[x_0, y_1] w (fun e w' => ∃ v, e = .returned v ∧ R v w') :=
  calls_of_den wide (scr := S237) (rs := [.tmp 4, .tmp 5, .tmp 6, .tmp 7]) (args := [x_0, y_1]) (fn := Go.Proofs.Tryz.f237) 27 (by kernel_rfl) (by kernel_rfl) (by kernel_rfl) (by kernel_rfl) O237 (Eq.mpr (congrFun (congrFun (congrFun (congrFun E237 x_0) y_1) R) w) h)
theorem H237 {x_0 y_1 : Value} {w : World} {R : Value → World → Prop} (h : F237 x_0 y_1 R w) : hF P 237 #[x_0, y_1] R w := hF_of (by kernel_rfl) (C237 h)
def F239 (n_0 : Value) (R : Value → World → Prop) : World → Prop :=
 hV P (binOp .shr 3 n_0 (.int .u64 16)) fun t4 =>
 hV P (convert 3 325 t4) fun t5 =>
 hV P (binOp .and 3 n_0 (.int .i64 65535)) fun t7 =>
 hV P (convert 3 325 t7) fun t8 =>
 hV P (Builtin.complex_ #[325, 325] 322 #[t5, t8]) fun t9 =>
 R t9
def S239 : Nat → Scr := scrOf []
theorem E239 : (fun n_0 R w => den P S239 23 (bodyOf Go.Proofs.Tryz.f239) (retK P [.tmp 2] R) (frm0 [n_0]) w) = F239 := by kernel_rfl
theorem O239 : codeOk S239 Go.Proofs.Tryz.f239.ntmps (bodyOf Go.Proofs.Tryz.f239) = true := by kernel_rfl
theorem C239 {n_0 : Value} {w : World} {R : Value → World → Prop} (h : F239 n_0 R w) : Calls P 239 #[n_0] w (fun e w' => ∃ v, e = .returned v ∧ R v w') :=
  calls_of_den wide (scr := S239) (rs := [.tmp 2]) (args := [n_0]) (fn := Go.Proofs.Tryz.f239) 23 (by kernel_rfl) (by kernel_rfl) (by kernel_rfl) (by kernel_rfl) O239 (Eq.mpr (congrFun (congrFun (congrFun E239 n_0) R) w) h)
theorem H239 {n_0 : Value} {w : World} {R : Value → World → Prop} (h : F239 n_0 R w) : hF P 239 #[n_0] R w := hF_of (by kernel_rfl) (C239 h)
def F240 (z_0 : Value) (R : Value → World → Prop) : World → Prop :=
 hV P (Builtin.real_ #[322] 325 #[z_0]) fun t4 =>
 hV P (Builtin.imag_ #[322] 325 #[z_0]) fun t6 =>
 hV P (Op.unary .neg t6) fun t7 =>
 hV P (Builtin.complex_ #[325, 325] 322 #[t4, t7]) fun t8 =>
 R t8
def S240 : Nat → Scr := scrOf []
theorem E240 : (fun z_0 R w => den P S240 23 (bodyOf Go.Proofs.Tryz.f240) (retK P [.tmp 2] R) (frm0 [z_0]) w) = F240 := by kernel_rfl
theorem O240 : codeOk S240 Go.Proofs.Tryz.f240.ntmps (bodyOf Go.Proofs.Tryz.f240) = true := by kernel_rfl
theorem C240 {z_0 : Value} {w : World} {R : Value → World → Prop} (h : F240 z_0 R w) : Calls P 240 #[z_0] w (fun e w' => ∃ v, e = .returned v ∧ R v w') :=
  calls_of_den wide (scr := S240) (rs := [.tmp 2]) (args := [z_0]) (fn := Go.Proofs.Tryz.f240) 23 (by kernel_rfl) (by kernel_rfl) (by kernel_rfl) (by kernel_rfl) O240 (Eq.mpr (congrFun (congrFun (congrFun E240 z_0) R) w) h)
theorem H240 {z_0 : Value} {w : World} {R : Value → World → Prop} (h : F240 z_0 R w) : hF P 240 #[z_0] R w := hF_of (by kernel_rfl) (C240 h)
def F262 (p_0 block_1 : Value) (R : Value → World → Prop) : World → Prop :=
 hF P 222 #[p_0, block_1] fun t10 =>
 hV P (extract t10 0) fun t11 =>
 hV P (extract t10 1) fun t12 =>
 hGuard t12 true (hV P (hNil p_0) fun t16 =>
 hV P (fieldAt 255 t16 2) fun t17 =>
 hV P (loadAt 23 t17) fun t18 =>
 hV P (indexAt 23 t18 t11) fun t20 =>
 hV P (fieldAt 114 t20 3) fun t21 =>
 hV P (loadAt 4 t21) fun t22 =>
 hPick t12 t22 (.bool false) fun t23 =>
 R t23) (hPick t12 undef (.bool false) fun t23 =>
 R t23)
def S262 : Nat → Scr := scrOf []
theorem E262 : (fun p_0 block_1 R w => den P S262 24 (bodyOf Go.Proofs.Tryz.f262) (retK P [.tmp 4] R) (frm0 [p_0, block_1]) w) = F262 := by kernel_rfl
theorem O262 : codeOk S262 Go.Proofs.Tryz.f262.ntmps (bodyOf Go.Proofs.Tryz.f262) = true := by kernel_rfl
theorem C262 {p_0 block_1 : Value} {w : World} {R : Value → World → Prop} (h : F262 p_0 block_1 R w) : Calls P 262 #[p_0, block_1] w (fun e w' => ∃ v, e = .returned v ∧ R v w') :=
  calls_of_den wide (scr := S262) (rs := [.tmp 4]) (args := [p_0, block_1]) (fn := Go.Proofs.Tryz.f262) 24 (by kernel_rfl) (by kernel_rfl) (by kernel_rfl) (by kernel_rfl) O262 (Eq.mpr (congrFun (congrFun (congrFun (congrFun E262 p_0) block_1) R) w) h)
theorem H262 {p_0 block_1 : Value} {w : World} {R : Value → World → Prop} (h : F262 p_0 block_1 R w) : hF P 262 #[p_0, block_1] R w := hF_of (by kernel_rfl) (C262 h)
def F263 (c_0 block_1 : Value) (R : Value → World → Prop) : World → Prop :=
 hV P (eqG true .eql 210 c_0 (.pointer none)) fun t11 =>
 hIf t11 (R (.tuple #[(.int .i64 0), (.bool false), (.int .i64 7)])) (hF P 194 #[c_0, block_1] fun t15 =>
 hV P (Op.unary .not t15) fun t16 =>
 hIf t16 (R (.tuple #[(.int .i64 0), (.bool false), (.int .i64 5)])) (hF P 268 #[c_0, block_1] fun t20 =>
 hIf t20 (R (.tuple #[(.int .i64 0), (.bool false), (.int .i64 0)])) (hV P (hNil c_0) fun t23 =>
 hV P (fieldAt 263 t23 1) fun t24 =>
 hV P (loadAt 207 t24) fun t25 =>
 hF P 222 #[t25, block_1] fun t27 =>
 hV P (extract t27 0) fun t28 =>
 hV P (extract t27 1) fun t29 =>
 hDraw fun C1 =>
 pV P (hNil c_0) fun t31 =>
 pV P (fieldAt 263 t31 0) fun t32 =>
 pV P (fieldAt 261 t32 0) fun t33 =>
 mV P C1 (loadAt 257 t33) fun t34 =>
 pV P (hNil c_0) fun t38 =>
 pV P (fieldAt 263 t38 1) fun t39 =>
 mV P C1 (loadAt 207 t39) fun t40 =>
 pV P (hNil c_0) fun t43 =>
 pV P (fieldAt 263 t43 2) fun t44 =>
 mV P C1 (loadAt 3 t44) fun t45 =>
 hF P 269 #[t34, t28] fun t36 =>
 hAnd C1 <| hF P 216 #[t40, block_1, t45] fun t46 =>
 hAnd C1 <| pV P (binOp .geq 3 t36 t46) fun t47 =>
 hJ (fun (j4_2 : Value) (j5_3 : Value) =>
 hV P (hNil c_0) fun t60 =>
 hV P (fieldAt 263 t60 0) fun t61 =>
 hV P (fieldAt 261 t61 0) fun t62 =>
 hV P (loadAt 257 t62) fun t63 =>
 hF P 272 #[t63, t28, block_1] fun t66 =>
 R (.tuple #[j4_2, j5_3, (.int .i64 0)])) fun J15 =>
 hIf t47 (hF P 270 #[c_0, t28, block_1] fun t51 =>
 hV P (hNil c_0) fun t53 =>
 hV P (fieldAt 263 t53 0) fun t54 =>
 hV P (fieldAt 261 t54 0) fun t55 =>
 hV P (loadAt 257 t55) fun t56 =>
 hF P 271 #[t56, t51] fun t58 =>
 J15 t51 (.bool true)) (J15 (.int .i64 0) (.bool false)))))
def S263 : Nat → Scr := scrOf [(8, .take 0 (.take 1 (.take 2 (.take 3 (.take 4 (.take 5 (.take 7 (.take 8 (.take 9 (.take 10 (.take 11 (.take 12 (.take 13 (.take 14 (.take 15 (.alt 6 (.alt 16 (.take 17 (.done)) (.nil)) (.nil)))))))))))))))))]
theorem E263 : (fun c_0 block_1 R w => den P S263 31 (bodyOf Go.Proofs.Tryz.f263) (retK P [.tmp 4, .tmp 5, .tmp 6] R) (frm0 [c_0, block_1]) w) = F263 := by kernel_rfl
theorem O263 : codeOk S263 Go.Proofs.Tryz.f263.ntmps (bodyOf Go.Proofs.Tryz.f263) = true := by kernel_rfl
theorem C263 {c_0 block_1 : Value} {w : World} {R : Value → World → Prop} (h : F263 c_0 block_1 R w) : Calls P 263 #[c_0, block_1] w (fun e w' => ∃ v, e = .returned v ∧ R v w') :=
  calls_of_den wide (scr := S263) (rs := [.tmp 4, .tmp 5, .tmp 6]) (args := [c_0, block_1]) (fn := Go.Proofs.Tryz.f263) 31 (by kernel_rfl) (by kernel_rfl) (by kernel_rfl) (by kernel_rfl) O263 (Eq.mpr (congrFun (congrFun (congrFun (congrFun E263 c_0) block_1) R) w) h)
theorem H263 {c_0 block_1 : Value} {w : World} {R : Value → World → Prop} (h : F263 c_0 block_1 R w) : hF P 263 #[c_0, block_1] R w := hF_of (by kernel_rfl) (C263 h)
def F264 (c_0 : Value) (R : Value → World → Prop) : World → Prop :=
 hV P (eqG true .eql 210 c_0 (.pointer none)) fun t6 =>
 hIf t6 (R (.slice none 0 0)) (hV P (hNil c_0) fun t8 =>
 hV P (fieldAt 263 t8 1) fun t9 =>
 hV P (loadAt 207 t9) fun t10 =>
 hF P 185 #[t10] fun t11 =>
 hV P (Builtin.len_ #[253] 3 #[t11]) fun t12 =>
 hLoop2 (.int .i64 0) (.slice none 0 0) fun t13_1 out_3_2 g3 next4 =>
 hV P (binOp .lss 3 t13_1 t12) fun t14 =>
 hIf t14 (hV P (hNil c_0) fun t18 =>
 hV P (fieldAt 263 t18 0) fun t19 =>
 hV P (fieldAt 261 t19 0) fun t20 =>
 hV P (loadAt 257 t20) fun t21 =>
 hF P 273 #[t21, t13_1] fun t23 =>
 hV P (Builtin.append_ #[64, 64] 64 #[out_3_2, t23]) fun t24 =>
 hV P (binOp .add 3 t13_1 (.int .i64 1)) fun t25 =>
 next4 t25 t24) (R out_3_2))
def S264 : Nat → Scr := scrOf [(999999, .take 4 (.done))]
theorem E264 : (fun c_0 R w => den P S264 33 (bodyOf Go.Proofs.Tryz.f264) (retK P [.tmp 2] R) (frm0 [c_0]) w) = F264 := by kernel_rfl
theorem O264 : codeOk S264 Go.Proofs.Tryz.f264.ntmps (bodyOf Go.Proofs.Tryz.f264) = true := by kernel_rfl
theorem C264 {c_0 : Value} {w : World} {R : Value → World → Prop} (h : F264 c_0 R w) : Calls P 264 #[c_0] w (fun e w' => ∃ v, e = .returned v ∧ R v w') :=
  calls_of_den wide (scr := S264) (rs := [.tmp 2]) (args := [c_0]) (fn := Go.Proofs.Tryz.f264) 33 (by kernel_rfl) (by kernel_rfl) (by kernel_rfl) (by kernel_rfl) O264 (Eq.mpr (congrFun (congrFun (congrFun E264 c_0) R) w) h)
theorem H264 {c_0 : Value} {w : World} {R : Value → World → Prop} (h : F264 c_0 R w) : hF P 264 #[c_0] R w := hF_of (by kernel_rfl) (C264 h)
end Go.Gd
