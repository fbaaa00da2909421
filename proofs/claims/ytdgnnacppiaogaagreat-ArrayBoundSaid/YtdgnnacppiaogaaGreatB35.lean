/- PRINTED by a program of mine (hoas.py): the plain reading of the functions named, each with its equation and the way into it. -/
import Derived.Test.YtdgnnacppiaogaaGreatB2
set_option linter.unusedVariables false
set_option linter.unusedSimpArgs false
set_option maxRecDepth 100000
set_option linter.unusedVariables false
namespace Go.Gd
open Go.Instr
def F32 (l_0 n_1 : Value) (R : Value → World → Prop) : World → Prop :=
 hLoop2 (.int .i64 0) (.bool false) fun i_5_1 t4_2 g3 next4 =>
 hV P (Builtin.len_ #[64] 3 #[l_0]) fun t8 =>
 hV P (binOp .lss 3 i_5_1 t8) fun t9 =>
 hIf t9 (hV P (indexAt 64 l_0 i_5_1) fun t14 =>
 hV P (loadAt 3 t14) fun t15 =>
 hV P (eqG false .eql 3 t15 n_1) fun t17 =>
 hIf t17 (R (.bool true)) (hV P (binOp .add 3 i_5_1 (.int .i64 1)) fun t11 =>
 next4 t11 t4_2)) (R (.bool false))
def S32 : Nat → Scr := scrOf []
theorem E32 : (fun l_0 n_1 R w => den P S32 32 (bodyOf Go.Proofs.Tryz.f32) (retK P [.tmp 4] R) (frm0 [l_0, n_1]) w) = F32 := by kernel_rfl
theorem O32 : codeOk S32 Go.Proofs.Tryz.f32.ntmps (bodyOf Go.Proofs.Tryz.f32) = true := by kernel_rfl
theorem C32 {l_0 n_1 : Value} {w : World} {R : Value → World → Prop} (h : F32 l_0 n_1 R w) : Calls P 32 #[l_0, n_1] w (fun e w' => ∃ v, e = .returned v ∧ R v w') :=
  calls_of_den wide (scr := S32) (rs := [.tmp 4]) (args := [l_0, n_1]) (fn := Go.Proofs.Tryz.f32) 32 (by kernel_rfl) (by kernel_rfl) (by kernel_rfl) (by kernel_rfl) O32 (Eq.mpr (congrFun (congrFun (congrFun (congrFun E32 l_0) n_1) R) w) h)
theorem H32 {l_0 n_1 : Value} {w : World} {R : Value → World → Prop} (h : F32 l_0 n_1 R w) : hF P 32 #[l_0, n_1] R w := hF_of (by kernel_rfl) (C32 h)
def F33 (a_0 : Value) (R : Value → World → Prop) : World → Prop :=
 hV P (eqG true .eql 31 a_0 (.pointer none)) fun t4 =>
 hIf t4 (R (.slice none 0 0)) (hV P (hNil a_0) fun t6 =>
 hV P (fieldAt 105 t6 2) fun t7 =>
 hV P (loadAt 95 t7) fun t8 =>
 hF P 78 #[t8] fun t9 =>
 R t9)
def S33 : Nat → Scr := scrOf []
theorem E33 : (fun a_0 R w => den P S33 26 (bodyOf Go.Proofs.Tryz.f33) (retK P [.tmp 2] R) (frm0 [a_0]) w) = F33 := by kernel_rfl
theorem O33 : codeOk S33 Go.Proofs.Tryz.f33.ntmps (bodyOf Go.Proofs.Tryz.f33) = true := by kernel_rfl
theorem C33 {a_0 : Value} {w : World} {R : Value → World → Prop} (h : F33 a_0 R w) : Calls P 33 #[a_0] w (fun e w' => ∃ v, e = .returned v ∧ R v w') :=
  calls_of_den wide (scr := S33) (rs := [.tmp 2]) (args := [a_0]) (fn := Go.Proofs.Tryz.f33) 26 (by kernel_rfl) (by kernel_rfl) (by kernel_rfl) (by kernel_rfl) O33 (Eq.mpr (congrFun (congrFun (congrFun E33 a_0) R) w) h)
theorem H33 {a_0 : Value} {w : World} {R : Value → World → Prop} (h : F33 a_0 R w) : hF P 33 #[a_0] R w := hF_of (by kernel_rfl) (C33 h)
def F34 (a_0 b_1 : Value) (R : Value → World → Prop) : World → Prop :=
 hV P (Builtin.len_ #[64] 3 #[a_0]) fun t7 =>
 hV P (Builtin.len_ #[64] 3 #[b_1]) fun t9 =>
 hV P (eqG false .neq 3 t7 t9) fun t10 =>
 hIf t10 (R (.bool false)) (hLoop2 (.int .i64 0) (.bool false) fun i_5_1 t4_2 g3 next4 =>
 hV P (Builtin.len_ #[64] 3 #[a_0]) fun t13 =>
 hV P (binOp .lss 3 i_5_1 t13) fun t14 =>
 hIf t14 (hDraw fun C5 =>
 pV P (indexAt 64 a_0 i_5_1) fun t19 =>
 mV P C5 (loadAt 3 t19) fun t20 =>
 pV P (indexAt 64 b_1 i_5_1) fun t23 =>
 mV P C5 (loadAt 3 t23) fun t24 =>
 pV P (eqG false .neq 3 t20 t24) fun t25 =>
 hIf t25 (R (.bool false)) (hV P (binOp .add 3 i_5_1 (.int .i64 1)) fun t16 =>
 next4 t16 t4_2)) (R (.bool true)))
def S34 : Nat → Scr := scrOf [(6, .take 0 (.take 1 (.take 2 (.take 3 (.take 4 (.take 5 (.take 6 (.take 7 (.take 8 (.done))))))))))]
theorem E34 : (fun a_0 b_1 R w => den P S34 33 (bodyOf Go.Proofs.Tryz.f34) (retK P [.tmp 4] R) (frm0 [a_0, b_1]) w) = F34 := by kernel_rfl
theorem O34 : codeOk S34 Go.Proofs.Tryz.f34.ntmps (bodyOf Go.Proofs.Tryz.f34) = true := by kernel_rfl
theorem C34 {a_0 b_1 : Value} {w : World} {R : Value → World → Prop} (h : F34 a_0 b_1 R w) : Calls P 34 #[a_0, b_1] w (fun e w' => ∃ v, e = .returned v ∧ R v w') :=
  calls_of_den wide (scr := S34) (rs := [.tmp 4]) (args := [a_0, b_1]) (fn := Go.Proofs.Tryz.f34) 33 (by kernel_rfl) (by kernel_rfl) (by kernel_rfl) (by kernel_rfl) O34 (Eq.mpr (congrFun (congrFun (congrFun (congrFun E34 a_0) b_1) R) w) h)
theorem H34 {a_0 b_1 : Value} {w : World} {R : Value → World → Prop} (h : F34 a_0 b_1 R w) : hF P 34 #[a_0, b_1] R w := hF_of (by kernel_rfl) (C34 h)
def F39 (c_0 : Value) (R : Value → World → Prop) : World → Prop :=
 hV P (hNil c_0) fun t4 =>
 hV P (fieldAt 150 t4 4) fun t5 =>
 hV P (loadAt 148 t5) fun t6 =>
 hV P (eqG true .neq 148 t6 (.pointer none)) fun t7 =>
 hIf t7 (hV P (hNil c_0) fun t9 =>
 hV P (fieldAt 150 t9 4) fun t10 =>
 hV P (loadAt 148 t10) fun t11 =>
 hF P 87 #[t11] fun t12 =>
 R t12) (hV P (hNil c_0) fun t14 =>
 hV P (fieldAt 150 t14 3) fun t15 =>
 hV P (loadAt 147 t15) fun t16 =>
 hV P (eqG true .neq 147 t16 (.pointer none)) fun t17 =>
 hIf t17 (hV P (hNil c_0) fun t19 =>
 hV P (fieldAt 150 t19 3) fun t20 =>
 hV P (loadAt 147 t20) fun t21 =>
 hF P 88 #[t21] fun t22 =>
 R t22) (hV P (hNil c_0) fun t24 =>
 hV P (fieldAt 150 t24 2) fun t25 =>
 hV P (loadAt 64 t25) fun t26 =>
 R t26))
def S39 : Nat → Scr := scrOf []
theorem E39 : (fun c_0 R w => den P S39 27 (bodyOf Go.Proofs.Tryz.f39) (retK P [.tmp 2] R) (frm0 [c_0]) w) = F39 := by kernel_rfl
theorem O39 : codeOk S39 Go.Proofs.Tryz.f39.ntmps (bodyOf Go.Proofs.Tryz.f39) = true := by kernel_rfl
theorem C39 {c_0 : Value} {w : World} {R : Value → World → Prop} (h : F39 c_0 R w) : Calls P 39 #[c_0] w (fun e w' => ∃ v, e = .returned v ∧ R v w') :=
  calls_of_den wide (scr := S39) (rs := [.tmp 2]) (args := [c_0]) (fn := Go.Proofs.Tryz.f39) 27 (by kernel_rfl) (by kernel_rfl) (by kernel_rfl) (by kernel_rfl) O39 (Eq.mpr (congrFun (congrFun (congrFun E39 c_0) R) w) h)
def F40 (a_0 : Value) (R : Value → World → Prop) : World → Prop :=
 hV P (eqG true .eql 31 a_0 (.pointer none)) fun t4 =>
 hIf t4 (R (.int .i64 0)) (hV P (hNil a_0) fun t6 =>
 hV P (fieldAt 105 t6 4) fun t7 =>
 hV P (loadAt 3 t7) fun t8 =>
 R t8)
def S40 : Nat → Scr := scrOf []
theorem E40 : (fun a_0 R w => den P S40 26 (bodyOf Go.Proofs.Tryz.f40) (retK P [.tmp 2] R) (frm0 [a_0]) w) = F40 := by kernel_rfl
theorem O40 : codeOk S40 Go.Proofs.Tryz.f40.ntmps (bodyOf Go.Proofs.Tryz.f40) = true := by kernel_rfl
theorem C40 {a_0 : Value} {w : World} {R : Value → World → Prop} (h : F40 a_0 R w) : Calls P 40 #[a_0] w (fun e w' => ∃ v, e = .returned v ∧ R v w') :=
  calls_of_den wide (scr := S40) (rs := [.tmp 2]) (args := [a_0]) (fn := Go.Proofs.Tryz.f40) 26 (by kernel_rfl) (by kernel_rfl) (by kernel_rfl) (by kernel_rfl) O40 (Eq.mpr (congrFun (congrFun (congrFun E40 a_0) R) w) h)
theorem H40 {a_0 : Value} {w : World} {R : Value → World → Prop} (h : F40 a_0 R w) : hF P 40 #[a_0] R w := hF_of (by kernel_rfl) (C40 h)
end Go.Gd
