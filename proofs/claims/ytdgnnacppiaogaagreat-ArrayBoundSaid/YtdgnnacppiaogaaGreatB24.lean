/- PRINTED by a program of mine (hoas.py): the plain reading of the functions named, each with its equation and the way into it. -/
import Derived.Test.YtdgnnacppiaogaaGreatB2
set_option linter.unusedVariables false
set_option linter.unusedSimpArgs false
set_option maxRecDepth 100000
set_option linter.unusedVariables false
namespace Go.Gd
open Go.Instr
def F145 (num_0 to_1 : Value) (R : Value → World → Prop) : World → Prop :=
 hV P (Builtin.len_ #[273] 3 #[to_1]) fun t7 =>
 hLoop1 (.int .i64 0) fun t8_1 g2 next3 =>
 hV P (binOp .lss 3 t8_1 t7) fun t9 =>
 hIf t9 (hV P (indexAt 273 to_1 t8_1) fun t10 =>
 hV P (loadAt 223 t10) fun t11 =>
 hFV P num_0 #[] fun t14 =>
 hV P (hNil t11) fun t15 =>
 hU P (storeAt 3 t15 t14) <|
 hV P (binOp .add 3 t8_1 (.int .i64 1)) fun t16 =>
 next3 t16) (R (.tuple #[]))
def S145 : Nat → Scr := scrOf [(999999, .take 5 (.done))]
theorem E145 : (fun num_0 to_1 R w => den P S145 29 (bodyOf Go.Proofs.Tryz.f145) (retK P [] R) (frm0 [num_0, to_1]) w) = F145 := by kernel_rfl
theorem O145 : codeOk S145 Go.Proofs.Tryz.f145.ntmps (bodyOf Go.Proofs.Tryz.f145) = true := by kernel_rfl
theorem C145 {num_0 to_1 : Value} {w : World} {R : Value → World → Prop} (h : F145 num_0 to_1 R w) : Calls P 145 #[num_0, to_1] w (fun e w' => ∃ v, e = .returned v ∧ R v w') :=
  calls_of_den wide (scr := S145) (rs := []) (args := [num_0, to_1]) (fn := Go.Proofs.Tryz.f145) 29 (by kernel_rfl) (by kernel_rfl) (by kernel_rfl) (by kernel_rfl) O145 (Eq.mpr (congrFun (congrFun (congrFun (congrFun E145 num_0) to_1) R) w) h)
theorem H145 {num_0 to_1 : Value} {w : World} {R : Value → World → Prop} (h : F145 num_0 to_1 R w) : hF P 145 #[num_0, to_1] R w := hF_of (by kernel_rfl) (C145 h)
def F146 (r_0 : Value) (R : Value → World → Prop) : World → Prop :=
 hV P (hNil r_0) fun t7 =>
 hV P (fieldAt 226 t7 2) fun t8 =>
 hV P (loadAt 4 t8) fun t9 =>
 hV P (Op.unary .not t9) fun t10 =>
 hIf t10 (R (.int .i64 0)) (hDraw fun C1 =>
 pV P (hNil r_0) fun t13 =>
 pV P (fieldAt 226 t13 0) fun t14 =>
 mV P C1 (loadAt 35 t14) fun t15 =>
 pV P (hNil r_0) fun t17 =>
 pV P (fieldAt 226 t17 1) fun t18 =>
 mV P C1 (loadAt 3 t18) fun t19 =>
 hF P 188 #[t15, t19] fun t20 =>
 pV P (extract t20 0) fun t21 =>
 pV P (extract t20 1) fun t22 =>
 pV P (extract t20 2) fun t23 =>
 hV P (eqG true .eql 32 t23 (.int .i64 0)) fun t28 =>
 hV P (hNil r_0) fun t29 =>
 hV P (fieldAt 226 t29 1) fun t30 =>
 hU P (storeAt 3 t30 t22) <|
 hV P (hNil r_0) fun t31 =>
 hV P (fieldAt 226 t31 2) fun t32 =>
 hU P (storeAt 4 t32 t28) <|
 R t21)
def S146 : Nat → Scr := scrOf [(3, .take 0 (.take 1 (.take 2 (.take 3 (.take 4 (.take 5 (.take 6 (.take 7 (.sink 8 (.take 9 (.take 10 (.take 11 (.take 12 (.take 13 (.take 14 (.take 15 (.done)))))))))))))))))]
theorem E146 : (fun r_0 R w => den P S146 26 (bodyOf Go.Proofs.Tryz.f146) (retK P [.tmp 2] R) (frm0 [r_0]) w) = F146 := by kernel_rfl
theorem O146 : codeOk S146 Go.Proofs.Tryz.f146.ntmps (bodyOf Go.Proofs.Tryz.f146) = true := by kernel_rfl
theorem C146 {r_0 : Value} {w : World} {R : Value → World → Prop} (h : F146 r_0 R w) : Calls P 146 #[r_0] w (fun e w' => ∃ v, e = .returned v ∧ R v w') :=
  calls_of_den wide (scr := S146) (rs := [.tmp 2]) (args := [r_0]) (fn := Go.Proofs.Tryz.f146) 26 (by kernel_rfl) (by kernel_rfl) (by kernel_rfl) (by kernel_rfl) O146 (Eq.mpr (congrFun (congrFun (congrFun E146 r_0) R) w) h)
theorem H146 {r_0 : Value} {w : World} {R : Value → World → Prop} (h : F146 r_0 R w) : hF P 146 #[r_0] R w := hF_of (by kernel_rfl) (C146 h)
def F147 (r_0 size_1 : Value) (R : Value → World → Prop) : World → Prop :=
 hV P (hNil r_0) fun t9 =>
 hV P (fieldAt 226 t9 2) fun t10 =>
 hV P (loadAt 4 t10) fun t11 =>
 hV P (Op.unary .not t11) fun t12 =>
 hIf t12 (R (.slice none 0 0)) (hDraw fun C1 =>
 pV P (hNil r_0) fun t15 =>
 pV P (fieldAt 226 t15 0) fun t16 =>
 mV P C1 (loadAt 35 t16) fun t17 =>
 pV P (hNil r_0) fun t19 =>
 pV P (fieldAt 226 t19 1) fun t20 =>
 mV P C1 (loadAt 3 t20) fun t21 =>
 hF P 189 #[t17, t21, size_1] fun t23 =>
 pV P (extract t23 0) fun t24 =>
 pV P (extract t23 1) fun t25 =>
 pV P (extract t23 2) fun t26 =>
 hV P (eqG true .eql 32 t26 (.int .i64 0)) fun t29 =>
 hJ (fun (j34_5 : Value) =>
 hPick t29 j34_5 (.bool false) fun t35 =>
 hJ (fun (j43_12 : Value) =>
 hPick t35 j43_12 (.bool false) fun t44 =>
 hV P (hNil r_0) fun t45 =>
 hV P (fieldAt 226 t45 2) fun t46 =>
 hU P (storeAt 4 t46 t44) <|
 R t24) fun J13 =>
 hGuard t35 true (hV P (hNil r_0) fun t39 =>
 hV P (fieldAt 226 t39 0) fun t40 =>
 hV P (loadAt 35 t40) fun t41 =>
 hV P (Builtin.len_ #[35] 3 #[t41]) fun t42 =>
 hV P (eqG false .eql 3 t25 t42) fun t43 =>
 J13 t43) (J13 undef)) fun J14 =>
 hGuard t29 true (hV P (Builtin.len_ #[35] 3 #[t24]) fun t32 =>
 hV P (eqG false .eql 3 t32 size_1) fun t34 =>
 J14 t34) (J14 undef))
def S147 : Nat → Scr := scrOf [(3, .take 0 (.take 1 (.take 2 (.take 3 (.take 4 (.take 5 (.take 6 (.take 7 (.take 8 (.sink 9 (.take 10 (.take 11 (.take 12 (.take 13 (.take 14 (.take 15 (.take 16 (.done))))))))))))))))))]
theorem E147 : (fun r_0 size_1 R w => den P S147 26 (bodyOf Go.Proofs.Tryz.f147) (retK P [.tmp 4] R) (frm0 [r_0, size_1]) w) = F147 := by kernel_rfl
theorem O147 : codeOk S147 Go.Proofs.Tryz.f147.ntmps (bodyOf Go.Proofs.Tryz.f147) = true := by kernel_rfl
theorem C147 {r_0 size_1 : Value} {w : World} {R : Value → World → Prop} (h : F147 r_0 size_1 R w) : Calls P 147 #[r_0, size_1] w (fun e w' => ∃ v, e = .returned v ∧ R v w') :=
  calls_of_den wide (scr := S147) (rs := [.tmp 4]) (args := [r_0, size_1]) (fn := Go.Proofs.Tryz.f147) 26 (by kernel_rfl) (by kernel_rfl) (by kernel_rfl) (by kernel_rfl) O147 (Eq.mpr (congrFun (congrFun (congrFun (congrFun E147 r_0) size_1) R) w) h)
theorem H147 {r_0 size_1 : Value} {w : World} {R : Value → World → Prop} (h : F147 r_0 size_1 R w) : hF P 147 #[r_0, size_1] R w := hF_of (by kernel_rfl) (C147 h)
def F148 (s_0 w_1 : Value) (R : Value → World → Prop) : World → Prop :=
 hV P (box 102 s_0) fun s_2 =>
 hV P (box 161 w_1) fun w_3 =>
 hV P (fieldAt 161 w_3 0) fun t5 =>
 hV P (loadAt 3 t5) fun t6 =>
 hV P (binOp .geq 3 t6 (.int .i64 0)) fun t7 =>
 hJ (fun (j13_5 : Value) =>
 hPick t7 j13_5 (.bool false) fun t14 =>
 hJ (fun (j18_8 : Value) =>
 hPick t14 j18_8 (.bool false) fun t19 =>
 hJ (fun (j25_13 : Value) =>
 hPick t19 j25_13 (.bool false) fun t26 =>
 hJ (fun (j30_16 : Value) =>
 hPick t26 j30_16 (.bool false) fun t31 =>
 hJ (fun (j35_19 : Value) =>
 hPick t31 j35_19 (.bool false) fun t36 =>
 hJ (fun (j40_22 : Value) =>
 hPick t36 j40_22 (.bool false) fun t41 =>
 hGuard t41 true (hV P (fieldAt 161 w_3 3) fun t43 =>
 hV P (loadAt 3 t43) fun t44 =>
 hV P (binOp .leq 3 t44 (.int .i64 1099511627776)) fun t45 =>
 hPick t41 t45 (.bool false) fun t46 =>
 R t46) (hPick t41 undef (.bool false) fun t46 =>
 R t46)) fun J26 =>
 hGuard t36 true (hV P (fieldAt 161 w_3 3) fun t38 =>
 hV P (loadAt 3 t38) fun t39 =>
 hV P (binOp .geq 3 t39 (.int .i64 1)) fun t40 =>
 J26 t40) (J26 undef)) fun J27 =>
 hGuard t31 true (hV P (fieldAt 161 w_3 2) fun t33 =>
 hV P (loadAt 3 t33) fun t34 =>
 hV P (binOp .leq 3 t34 (.int .i64 1099511627776)) fun t35 =>
 J27 t35) (J27 undef)) fun J28 =>
 hGuard t26 true (hV P (fieldAt 161 w_3 2) fun t28 =>
 hV P (loadAt 3 t28) fun t29 =>
 hV P (binOp .geq 3 t29 (.int .i64 1)) fun t30 =>
 J28 t30) (J28 undef)) fun J29 =>
 hGuard t19 true (hV P (fieldAt 161 w_3 1) fun t21 =>
 hV P (loadAt 3 t21) fun t22 =>
 hV P (fieldAt 102 s_2 3) fun t23 =>
 hV P (loadAt 3 t23) fun t24 =>
 hV P (binOp .lss 3 t22 t24) fun t25 =>
 J29 t25) (J29 undef)) fun J30 =>
 hGuard t14 true (hV P (fieldAt 161 w_3 1) fun t16 =>
 hV P (loadAt 3 t16) fun t17 =>
 hV P (binOp .geq 3 t17 (.int .i64 0)) fun t18 =>
 J30 t18) (J30 undef)) fun J31 =>
 hGuard t7 true (hV P (fieldAt 161 w_3 0) fun t9 =>
 hV P (loadAt 3 t9) fun t10 =>
 hV P (fieldAt 102 s_2 2) fun t11 =>
 hV P (loadAt 3 t11) fun t12 =>
 hV P (binOp .lss 3 t10 t12) fun t13 =>
 J31 t13) (J31 undef)
def S148 : Nat → Scr := scrOf []
theorem E148 : (fun s_0 w_1 R w => den P S148 23 (bodyOf Go.Proofs.Tryz.f148) (retK P [.tmp 4] R) (frm0 [s_0, w_1]) w) = F148 := by kernel_rfl
theorem O148 : codeOk S148 Go.Proofs.Tryz.f148.ntmps (bodyOf Go.Proofs.Tryz.f148) = true := by kernel_rfl
theorem C148 {s_0 w_1 : Value} {w : World} {R : Value → World → Prop} (h : F148 s_0 w_1 R w) : Calls P 148 #[s_0, w_1] w (fun e w' => ∃ v, e = .returned v ∧ R v w') :=
  calls_of_den wide (scr := S148) (rs := [.tmp 4]) (args := [s_0, w_1]) (fn := Go.Proofs.Tryz.f148) 23 (by kernel_rfl) (by kernel_rfl) (by kernel_rfl) (by kernel_rfl) O148 (Eq.mpr (congrFun (congrFun (congrFun (congrFun E148 s_0) w_1) R) w) h)
theorem H148 {s_0 w_1 : Value} {w : World} {R : Value → World → Prop} (h : F148 s_0 w_1 R w) : hF P 148 #[s_0, w_1] R w := hF_of (by kernel_rfl) (C148 h)
def F149 (s_0 l_1 : Value) (R : Value → World → Prop) : World → Prop :=
 hV P (box 98 s_0) fun s_2 =>
 hV P (box 88 l_1) fun l_3 =>
 hV P (makeFunc (.func 190) #[] #[l_3, s_2]) fun t5 =>
 R t5
def S149 : Nat → Scr := scrOf []
theorem E149 : (fun s_0 l_1 R w => den P S149 23 (bodyOf Go.Proofs.Tryz.f149) (retK P [.tmp 4] R) (frm0 [s_0, l_1]) w) = F149 := by kernel_rfl
theorem O149 : codeOk S149 Go.Proofs.Tryz.f149.ntmps (bodyOf Go.Proofs.Tryz.f149) = true := by kernel_rfl
theorem C149 {s_0 l_1 : Value} {w : World} {R : Value → World → Prop} (h : F149 s_0 l_1 R w) : Calls P 149 #[s_0, l_1] w (fun e w' => ∃ v, e = .returned v ∧ R v w') :=
  calls_of_den wide (scr := S149) (rs := [.tmp 4]) (args := [s_0, l_1]) (fn := Go.Proofs.Tryz.f149) 23 (by kernel_rfl) (by kernel_rfl) (by kernel_rfl) (by kernel_rfl) O149 (Eq.mpr (congrFun (congrFun (congrFun (congrFun E149 s_0) l_1) R) w) h)
theorem H149 {s_0 l_1 : Value} {w : World} {R : Value → World → Prop} (h : F149 s_0 l_1 R w) : hF P 149 #[s_0, l_1] R w := hF_of (by kernel_rfl) (C149 h)
def F150 (b_0 t_1 : Value) (R : Value → World → Prop) : World → Prop :=
 hV P (Builtin.len_ #[35] 3 #[t_1]) fun t7 =>
 hF P 191 #[b_0, t7] fun t8 =>
 hV P (Builtin.append_ #[35, 35] 35 #[t8, t_1]) fun t10 =>
 R t10
def S150 : Nat → Scr := scrOf []
theorem E150 : (fun b_0 t_1 R w => den P S150 23 (bodyOf Go.Proofs.Tryz.f150) (retK P [.tmp 4] R) (frm0 [b_0, t_1]) w) = F150 := by kernel_rfl
theorem O150 : codeOk S150 Go.Proofs.Tryz.f150.ntmps (bodyOf Go.Proofs.Tryz.f150) = true := by kernel_rfl
theorem C150 {b_0 t_1 : Value} {w : World} {R : Value → World → Prop} (h : F150 b_0 t_1 R w) : Calls P 150 #[b_0, t_1] w (fun e w' => ∃ v, e = .returned v ∧ R v w') :=
  calls_of_den wide (scr := S150) (rs := [.tmp 4]) (args := [b_0, t_1]) (fn := Go.Proofs.Tryz.f150) 23 (by kernel_rfl) (by kernel_rfl) (by kernel_rfl) (by kernel_rfl) O150 (Eq.mpr (congrFun (congrFun (congrFun (congrFun E150 b_0) t_1) R) w) h)
theorem H150 {b_0 t_1 : Value} {w : World} {R : Value → World → Prop} (h : F150 b_0 t_1 R w) : hF P 150 #[b_0, t_1] R w := hF_of (by kernel_rfl) (C150 h)
def F151 (l_0 : Value) (R : Value → World → Prop) : World → Prop :=
 hV P (Builtin.len_ #[64] 3 #[l_0]) fun t7 =>
 hLoop2 (.int .i64 0) (.slice none 0 0) fun t8_1 b_3_2 g3 next4 =>
 hV P (binOp .lss 3 t8_1 t7) fun t9 =>
 hIf t9 (hV P (indexAt 64 l_0 t8_1) fun t10 =>
 hV P (loadAt 3 t10) fun t11 =>
 hF P 191 #[b_3_2, t11] fun t14 =>
 hV P (binOp .add 3 t8_1 (.int .i64 1)) fun t15 =>
 next4 t15 t14) (R b_3_2)
def S151 : Nat → Scr := scrOf [(999999, .take 5 (.done))]
theorem E151 : (fun l_0 R w => den P S151 32 (bodyOf Go.Proofs.Tryz.f151) (retK P [.tmp 2] R) (frm0 [l_0]) w) = F151 := by kernel_rfl
theorem O151 : codeOk S151 Go.Proofs.Tryz.f151.ntmps (bodyOf Go.Proofs.Tryz.f151) = true := by kernel_rfl
theorem C151 {l_0 : Value} {w : World} {R : Value → World → Prop} (h : F151 l_0 R w) : Calls P 151 #[l_0] w (fun e w' => ∃ v, e = .returned v ∧ R v w') :=
  calls_of_den wide (scr := S151) (rs := [.tmp 2]) (args := [l_0]) (fn := Go.Proofs.Tryz.f151) 32 (by kernel_rfl) (by kernel_rfl) (by kernel_rfl) (by kernel_rfl) O151 (Eq.mpr (congrFun (congrFun (congrFun E151 l_0) R) w) h)
theorem H151 {l_0 : Value} {w : World} {R : Value → World → Prop} (h : F151 l_0 R w) : hF P 151 #[l_0] R w := hF_of (by kernel_rfl) (C151 h)
def F152 (s_0 b_1 : Value) (R : Value → World → Prop) : World → Prop :=
 hV P (box 102 s_0) fun s_2 =>
 hV P (binOp .add 3 (.int .i64 1) b_1) fun t6 =>
 R t6
def S152 : Nat → Scr := scrOf []
theorem E152 : (fun s_0 b_1 R w => den P S152 23 (bodyOf Go.Proofs.Tryz.f152) (retK P [.tmp 4] R) (frm0 [s_0, b_1]) w) = F152 := by kernel_rfl
theorem O152 : codeOk S152 Go.Proofs.Tryz.f152.ntmps (bodyOf Go.Proofs.Tryz.f152) = true := by kernel_rfl
theorem C152 {s_0 b_1 : Value} {w : World} {R : Value → World → Prop} (h : F152 s_0 b_1 R w) : Calls P 152 #[s_0, b_1] w (fun e w' => ∃ v, e = .returned v ∧ R v w') :=
  calls_of_den wide (scr := S152) (rs := [.tmp 4]) (args := [s_0, b_1]) (fn := Go.Proofs.Tryz.f152) 23 (by kernel_rfl) (by kernel_rfl) (by kernel_rfl) (by kernel_rfl) O152 (Eq.mpr (congrFun (congrFun (congrFun (congrFun E152 s_0) b_1) R) w) h)
theorem H152 {s_0 b_1 : Value} {w : World} {R : Value → World → Prop} (h : F152 s_0 b_1 R w) : hF P 152 #[s_0, b_1] R w := hF_of (by kernel_rfl) (C152 h)
def F153 (s_0 client_1 slot_2 : Value) (R : Value → World → Prop) : World → Prop :=
 hV P (box 102 s_0) fun s_3 =>
 hV P (fieldAt 102 s_3 0) fun t7 =>
 hV P (loadAt 3 t7) fun t8 =>
 hV P (binOp .add 3 (.int .i64 1) t8) fun t9 =>
 hV P (fieldAt 102 s_3 3) fun t10 =>
 hV P (loadAt 3 t10) fun t11 =>
 hV P (binOp .mul 3 t11 client_1) fun t13 =>
 hV P (binOp .add 3 t9 t13) fun t14 =>
 hV P (binOp .add 3 t14 slot_2) fun t16 =>
 R t16
def S153 : Nat → Scr := scrOf []
theorem E153 : (fun s_0 client_1 slot_2 R w => den P S153 23 (bodyOf Go.Proofs.Tryz.f153) (retK P [.tmp 6] R) (frm0 [s_0, client_1, slot_2]) w) = F153 := by kernel_rfl
theorem O153 : codeOk S153 Go.Proofs.Tryz.f153.ntmps (bodyOf Go.Proofs.Tryz.f153) = true := by kernel_rfl
theorem C153 {s_0 client_1 slot_2 : Value} {w : World} {R : Value → World → Prop} (h : F153 s_0 client_1 slot_2 R w) : Calls P 153 #[s_0, client_1, slot_2] w (fun e w' => ∃ v, e = .returned v ∧ R v w') :=
  calls_of_den wide (scr := S153) (rs := [.tmp 6]) (args := [s_0, client_1, slot_2]) (fn := Go.Proofs.Tryz.f153) 23 (by kernel_rfl) (by kernel_rfl) (by kernel_rfl) (by kernel_rfl) O153 (Eq.mpr (congrFun (congrFun (congrFun (congrFun (congrFun E153 s_0) client_1) slot_2) R) w) h)
theorem H153 {s_0 client_1 slot_2 : Value} {w : World} {R : Value → World → Prop} (h : F153 s_0 client_1 slot_2 R w) : hF P 153 #[s_0, client_1, slot_2] R w := hF_of (by kernel_rfl) (C153 h)
def F154 (R : Value → World → Prop) : World → Prop :=
 hV P (alloc 232 true (.tuple #[])) fun t0 =>
 hV P (buildSlice 64 4 #[(0, (.int .i64 2)), (1, (.int .i64 4)), (2, (.int .i64 5)), (3, (.int .i64 6))]) fun t1 =>
 hF P 192 #[t1] fun t2 =>
 hV P (buildSlice 64 5 #[(0, (.int .i64 2)), (1, (.int .i64 4)), (2, (.int .i64 5)), (3, (.int .i64 6)), (4, (.int .i64 10))]) fun t3 =>
 hF P 192 #[t3] fun t4 =>
 hV P (buildSlice 64 3 #[(0, (.int .i64 5)), (1, (.int .i64 6)), (2, (.int .i64 10))]) fun t5 =>
 hF P 192 #[t5] fun t6 =>
 hV P (buildSlice 64 2 #[(0, (.int .i64 5)), (1, (.int .i64 7))]) fun t7 =>
 hF P 192 #[t7] fun t8 =>
 hV P (buildSlice 64 7 #[(0, (.int .i64 2)), (1, (.int .i64 4)), (2, (.int .i64 5)), (3, (.int .i64 6)), (4, (.int .i64 8)), (5, (.int .i64 9)), (6, (.int .i64 10))]) fun t9 =>
 hF P 192 #[t9] fun t10 =>
 hV P (buildSlice 64 6 #[(0, (.int .i64 2)), (1, (.int .i64 4)), (2, (.int .i64 5)), (3, (.int .i64 6)), (4, (.int .i64 8)), (5, (.int .i64 9))]) fun t11 =>
 hF P 192 #[t11] fun t12 =>
 hV P (buildSlice 64 2 #[(0, (.int .i64 5)), (1, (.int .i64 7))]) fun t13 =>
 hF P 192 #[t13] fun t14 =>
 hV P (buildSlice 64 2 #[(0, (.int .i64 5)), (1, (.int .i64 6))]) fun t15 =>
 hF P 192 #[t15] fun t16 =>
 hV P (buildSlice 64 7 #[(0, (.int .i64 1)), (1, (.int .i64 2)), (2, (.int .i64 3)), (3, (.int .i64 4)), (4, (.int .i64 5)), (5, (.int .i64 6)), (6, (.int .i64 10))]) fun t17 =>
 hF P 192 #[t17] fun t18 =>
 hV P (buildSlice 64 3 #[(0, (.int .i64 5)), (1, (.int .i64 6)), (2, (.int .i64 10))]) fun t19 =>
 hF P 192 #[t19] fun t20 =>
 hV P (buildSlice 64 1 #[(0, (.int .i64 5))]) fun t21 =>
 hF P 192 #[t21] fun t22 =>
 hV P (buildSlice 64 3 #[(0, (.int .i64 5)), (1, (.int .i64 8)), (2, (.int .i64 10))]) fun t23 =>
 hF P 192 #[t23] fun t24 =>
 hV P (buildSlice 64 7 #[(0, (.int .i64 1)), (1, (.int .i64 2)), (2, (.int .i64 3)), (3, (.int .i64 4)), (4, (.int .i64 5)), (5, (.int .i64 8)), (6, (.int .i64 9))]) fun t25 =>
 hF P 192 #[t25] fun t26 =>
 hV P (buildSlice 64 1 #[(0, (.int .i64 5))]) fun t27 =>
 hF P 192 #[t27] fun t28 =>
 hV P (build 232 #[(1, t2), (2, t4), (3, t6), (4, t8), (5, t10), (6, t12), (7, t14), (8, t16), (9, t18), (10, t20), (11, t22), (12, t24), (13, t26), (14, t28)]) fun t29 =>
 hU P (storeAt 232 t0 t29) <|
 hR P (loadAt 232 t0) fun r0 =>
 R r0
def S154 : Nat → Scr := scrOf []
theorem E154 : (fun R w => den P S154 23 (bodyOf Go.Proofs.Tryz.f154) (retK P [.cell 0 232] R) (frm0 []) w) = F154 := by kernel_rfl
theorem O154 : codeOk S154 Go.Proofs.Tryz.f154.ntmps (bodyOf Go.Proofs.Tryz.f154) = true := by kernel_rfl
theorem C154 {w : World} {R : Value → World → Prop} (h : F154 R w) : Calls P 154 #[] w (fun e w' => ∃ v, e = .returned v ∧ R v w') :=
  calls_of_den wide (scr := S154) (rs := [.cell 0 232]) (args := []) (fn := Go.Proofs.Tryz.f154) 23 (by kernel_rfl) (by kernel_rfl) (by kernel_rfl) (by kernel_rfl) O154 (Eq.mpr (congrFun (congrFun E154 R) w) h)
theorem H154 {w : World} {R : Value → World → Prop} (h : F154 R w) : hF P 154 #[] R w := hF_of (by kernel_rfl) (C154 h)
def F155 (m_0 f_1 : Value) (R : Value → World → Prop) : World → Prop :=
 hV P (eqG true .eql 3 f_1 (.int .i64 1)) fun t8 =>
 hIf t8 (hV P (hNil m_0) fun t10 =>
 hV P (fieldAt 37 t10 1) fun t11 =>
 R (.tuple #[t11, (.int .i64 3)])) (hV P (eqG true .eql 3 f_1 (.int .i64 2)) fun t13 =>
 hIf t13 (hV P (hNil m_0) fun t15 =>
 hV P (fieldAt 37 t15 2) fun t16 =>
 R (.tuple #[t16, (.int .i64 3)])) (hV P (eqG true .eql 3 f_1 (.int .i64 3)) fun t18 =>
 hIf t18 (hV P (hNil m_0) fun t20 =>
 hV P (fieldAt 37 t20 3) fun t21 =>
 R (.tuple #[t21, (.int .i64 1099511627776)])) (hV P (eqG true .eql 3 f_1 (.int .i64 4)) fun t23 =>
 hIf t23 (hV P (hNil m_0) fun t25 =>
 hV P (fieldAt 37 t25 4) fun t26 =>
 R (.tuple #[t26, (.int .i64 1099511627776)])) (hV P (eqG true .eql 3 f_1 (.int .i64 5)) fun t28 =>
 hIf t28 (hV P (hNil m_0) fun t30 =>
 hV P (fieldAt 37 t30 5) fun t31 =>
 R (.tuple #[t31, (.int .i64 31)])) (hV P (eqG true .eql 3 f_1 (.int .i64 6)) fun t33 =>
 hIf t33 (hV P (hNil m_0) fun t35 =>
 hV P (fieldAt 37 t35 6) fun t36 =>
 R (.tuple #[t36, (.int .i64 4)])) (hV P (hNil m_0) fun t38 =>
 hV P (fieldAt 37 t38 7) fun t39 =>
 R (.tuple #[t39, (.int .i64 1099511627776)])))))))
def S155 : Nat → Scr := scrOf []
theorem E155 : (fun m_0 f_1 R w => den P S155 38 (bodyOf Go.Proofs.Tryz.f155) (retK P [.tmp 4, .tmp 5] R) (frm0 [m_0, f_1]) w) = F155 := by kernel_rfl
theorem O155 : codeOk S155 Go.Proofs.Tryz.f155.ntmps (bodyOf Go.Proofs.Tryz.f155) = true := by kernel_rfl
theorem C155 {m_0 f_1 : Value} {w : World} {R : Value → World → Prop} (h : F155 m_0 f_1 R w) : Calls P 155 #[m_0, f_1] w (fun e w' => ∃ v, e = .returned v ∧ R v w') :=
  calls_of_den wide (scr := S155) (rs := [.tmp 4, .tmp 5]) (args := [m_0, f_1]) (fn := Go.Proofs.Tryz.f155) 38 (by kernel_rfl) (by kernel_rfl) (by kernel_rfl) (by kernel_rfl) O155 (Eq.mpr (congrFun (congrFun (congrFun (congrFun E155 m_0) f_1) R) w) h)
theorem H155 {m_0 f_1 : Value} {w : World} {R : Value → World → Prop} (h : F155 m_0 f_1 R w) : hF P 155 #[m_0, f_1] R w := hF_of (by kernel_rfl) (C155 h)
def F156 (c_0 block_1 : Value) (R : Value → World → Prop) : World → Prop :=
 hV P (eqG true .neq 95 c_0 (.pointer none)) fun t6 =>
 hGuard t6 true (hV P (hNil c_0) fun t9 =>
 hV P (fieldAt 157 t9 2) fun t10 =>
 hV P (loadAt 153 t10) fun t11 =>
 hI P t11 "Has" #[block_1] fun t13 =>
 hPick t6 t13 (.bool false) fun t14 =>
 R t14) (hPick t6 undef (.bool false) fun t14 =>
 R t14)
def S156 : Nat → Scr := scrOf []
theorem E156 : (fun c_0 block_1 R w => den P S156 23 (bodyOf Go.Proofs.Tryz.f156) (retK P [.tmp 4] R) (frm0 [c_0, block_1]) w) = F156 := by kernel_rfl
theorem O156 : codeOk S156 Go.Proofs.Tryz.f156.ntmps (bodyOf Go.Proofs.Tryz.f156) = true := by kernel_rfl
theorem C156 {c_0 block_1 : Value} {w : World} {R : Value → World → Prop} (h : F156 c_0 block_1 R w) : Calls P 156 #[c_0, block_1] w (fun e w' => ∃ v, e = .returned v ∧ R v w') :=
  calls_of_den wide (scr := S156) (rs := [.tmp 4]) (args := [c_0, block_1]) (fn := Go.Proofs.Tryz.f156) 23 (by kernel_rfl) (by kernel_rfl) (by kernel_rfl) (by kernel_rfl) O156 (Eq.mpr (congrFun (congrFun (congrFun (congrFun E156 c_0) block_1) R) w) h)
theorem H156 {c_0 block_1 : Value} {w : World} {R : Value → World → Prop} (h : F156 c_0 block_1 R w) : hF P 156 #[c_0, block_1] R w := hF_of (by kernel_rfl) (C156 h)
def F157 (c_0 block_1 level_2 : Value) (R : Value → World → Prop) : World → Prop :=
 hF P 193 #[c_0, block_1] fun t11 =>
 hV P (Op.unary .not t11) fun t12 =>
 hIf t12 (R (.bool false)) (hV P (hNil c_0) fun t14 =>
 hV P (fieldAt 157 t14 0) fun t15 =>
 hV P (fieldAt 25 t15 5) fun t16 =>
 hV P (loadAt 3 t16) fun t17 =>
 hV P (eqG true .eql 3 t17 (.int .i64 1)) fun t19 =>
 hIf t19 (hV P (hNil c_0) fun t22 =>
 hV P (fieldAt 157 t22 1) fun t23 =>
 hV P (loadAt 3 t23) fun t24 =>
 hV P (eqG false .eql 3 level_2 t24) fun t25 =>
 R t25) (hV P (eqG true .eql 3 t17 (.int .i64 2)) fun t27 =>
 hIf t27 (hV P (hNil c_0) fun t30 =>
 hV P (fieldAt 157 t30 2) fun t31 =>
 hV P (loadAt 153 t31) fun t32 =>
 hV P (typeAssert t32 153 210 true) fun t33 =>
 hV P (extract t33 0) fun t34 =>
 hV P (extract t33 1) fun t35 =>
 hGuard t35 true (hF P 194 #[t34, block_1] fun t40 =>
 hPick t35 t40 (.bool false) fun t41 =>
 R t41) (hPick t35 undef (.bool false) fun t41 =>
 R t41)) (R (.bool true))))
def S157 : Nat → Scr := scrOf []
theorem E157 : (fun c_0 block_1 level_2 R w => den P S157 32 (bodyOf Go.Proofs.Tryz.f157) (retK P [.tmp 6] R) (frm0 [c_0, block_1, level_2]) w) = F157 := by kernel_rfl
theorem O157 : codeOk S157 Go.Proofs.Tryz.f157.ntmps (bodyOf Go.Proofs.Tryz.f157) = true := by kernel_rfl
theorem C157 {c_0 block_1 level_2 : Value} {w : World} {R : Value → World → Prop} (h : F157 c_0 block_1 level_2 R w) : Calls P 157 #[c_0, block_1, level_2] w (fun e w' => ∃ v, e = .returned v ∧ R v w') :=
  calls_of_den wide (scr := S157) (rs := [.tmp 6]) (args := [c_0, block_1, level_2]) (fn := Go.Proofs.Tryz.f157) 32 (by kernel_rfl) (by kernel_rfl) (by kernel_rfl) (by kernel_rfl) O157 (Eq.mpr (congrFun (congrFun (congrFun (congrFun (congrFun E157 c_0) block_1) level_2) R) w) h)
theorem H157 {c_0 block_1 level_2 : Value} {w : World} {R : Value → World → Prop} (h : F157 c_0 block_1 level_2 R w) : hF P 157 #[c_0, block_1, level_2] R w := hF_of (by kernel_rfl) (C157 h)
def F158 (s_0 client_1 slot_2 : Value) (R : Value → World → Prop) : World → Prop :=
 hV P (alloc 3 true (.tuple #[])) fun boot_6 =>
 hV P (alloc 3 true (.tuple #[])) fun op_7 =>
 hV P (hNil s_0) fun t13 =>
 hV P (fieldAt 159 t13 0) fun t14 =>
 hV P (loadAt 102 t14) fun t15 =>
 hF P 153 #[t15, client_1, slot_2] fun t18 =>
 hF P 144 #[s_0, t18] fun t19 =>
 hV P (alloc 3 true (.tuple #[])) fun n_10 =>
 hU P (storeAt 3 n_10 (.int .i64 0)) <|
 hV P (makeFunc (.func 146) #[t19] #[]) fun t21 =>
 hV P (buildSlice 273 3 #[(0, boot_6), (1, op_7), (2, n_10)]) fun t22 =>
 hF P 145 #[t21, t22] fun t23 =>
 hDraw fun C1 =>
 pV P (hNil t19) fun t25 =>
 pV P (fieldAt 226 t25 2) fun t26 =>
 mV P C1 (loadAt 4 t26) fun t27 =>
 pV P (Op.unary .not t27) fun t28 =>
 hJ (fun (j39_11 : Value) =>
 hPick t28 (.bool true) j39_11 fun t40 =>
 hJ (fun (j43_13 : Value) =>
 hPick t40 (.bool true) j43_13 fun t44 =>
 hJ (fun (j47_15 : Value) =>
 hPick t44 (.bool true) j47_15 fun t48 =>
 hJ (fun (j51_17 : Value) =>
 hPick t48 (.bool true) j51_17 fun t52 =>
 hIf t52 (hU P (storeAt 3 boot_6 (.int .i64 0)) <|
 hU P (storeAt 3 op_7 (.int .i64 0)) <|
 hR P (loadAt 3 boot_6) fun r0 =>
 hR P (loadAt 3 op_7) fun r1 =>
 R (.tuple #[r0, r1, (.int .i64 0)])) (hV P (loadAt 3 boot_6) fun t53 =>
 hV P (loadAt 3 op_7) fun t54 =>
 hV P (loadAt 3 n_10) fun t55 =>
 hU P (storeAt 3 boot_6 t53) <|
 hU P (storeAt 3 op_7 t54) <|
 hR P (loadAt 3 boot_6) fun r0 =>
 hR P (loadAt 3 op_7) fun r1 =>
 R (.tuple #[r0, r1, t55]))) fun J18 =>
 hGuard t48 false (mV P C1 (loadAt 3 n_10) fun t50 =>
 pV P (binOp .gtr 3 t50 (.int .i64 16)) fun t51 =>
 J18 t51) (J18 undef)) fun J19 =>
 hGuard t44 false (mV P C1 (loadAt 3 op_7) fun t46 =>
 pV P (binOp .gtr 3 t46 (.int .i64 1099511627776)) fun t47 =>
 J19 t47) (J19 undef)) fun J20 =>
 hGuard t40 false (mV P C1 (loadAt 3 boot_6) fun t42 =>
 pV P (binOp .gtr 3 t42 (.int .i64 1099511627776)) fun t43 =>
 J20 t43) (J20 undef)) fun J21 =>
 hGuard t28 false (pV P (hNil t19) fun t31 =>
 pV P (fieldAt 226 t31 1) fun t32 =>
 mV P C1 (loadAt 3 t32) fun t33 =>
 pV P (hNil t19) fun t35 =>
 pV P (fieldAt 226 t35 0) fun t36 =>
 mV P C1 (loadAt 35 t36) fun t37 =>
 mV P C1 (Builtin.len_ #[35] 3 #[t37]) fun t38 =>
 pV P (eqG false .neq 3 t33 t38) fun t39 =>
 J21 t39) (J21 undef)
def S158 : Nat → Scr := scrOf [(4, .take 0 (.take 1 (.take 2 (.take 3 (.take 4 (.take 5 (.take 6 (.take 7 (.take 8 (.take 9 (.take 10 (.take 11 (.take 12 (.take 13 (.take 14 (.take 15 (.take 16 (.take 17 (.take 18 (.take 19 (.take 20 (.take 21 (.take 22 (.take 23 (.take 24 (.take 25 (.take 26 (.take 27 (.take 28 (.done))))))))))))))))))))))))))))))]
theorem E158 : (fun s_0 client_1 slot_2 R w => den P S158 29 (bodyOf Go.Proofs.Tryz.f158) (retK P [.cell 6 3, .cell 7 3, .tmp 8] R) (frm0 [s_0, client_1, slot_2]) w) = F158 := by kernel_rfl
theorem O158 : codeOk S158 Go.Proofs.Tryz.f158.ntmps (bodyOf Go.Proofs.Tryz.f158) = true := by kernel_rfl
theorem C158 {s_0 client_1 slot_2 : Value} {w : World} {R : Value → World → Prop} (h : F158 s_0 client_1 slot_2 R w) : Calls P 158 #[s_0, client_1, slot_2] w (fun e w' => ∃ v, e = .returned v ∧ R v w') :=
  calls_of_den wide (scr := S158) (rs := [.cell 6 3, .cell 7 3, .tmp 8]) (args := [s_0, client_1, slot_2]) (fn := Go.Proofs.Tryz.f158) 29 (by kernel_rfl) (by kernel_rfl) (by kernel_rfl) (by kernel_rfl) O158 (Eq.mpr (congrFun (congrFun (congrFun (congrFun (congrFun E158 s_0) client_1) slot_2) R) w) h)
theorem H158 {s_0 client_1 slot_2 : Value} {w : World} {R : Value → World → Prop} (h : F158 s_0 client_1 slot_2 R w) : hF P 158 #[s_0, client_1, slot_2] R w := hF_of (by kernel_rfl) (C158 h)
def F159 (d_0 at_1 b_2 : Value) (R : Value → World → Prop) : World → Prop :=
 hV P (eqG true .eql 29 d_0 (.pointer none)) fun t10 =>
 hIf t10 (R (.int .i64 7)) (hV P (hNil d_0) fun t13 =>
 hV P (fieldAt 94 t13 2) fun t14 =>
 hV P (loadAt 4 t14) fun t15 =>
 hIf t15 (R (.int .i64 8)) (hF P 195 #[d_0, at_1] fun t19 =>
 hV P (Op.unary .not t19) fun t20 =>
 hIf t20 (R (.int .i64 3)) (hV P (Builtin.len_ #[35] 3 #[b_2]) fun t23 =>
 hV P (binOp .gtr 3 t23 (.int .i64 64)) fun t24 =>
 hIf t24 (R (.int .i64 4)) (hV P (hNil d_0) fun t27 =>
 hV P (fieldAt 94 t27 1) fun t28 =>
 hV P (loadAt 3 t28) fun t29 =>
 hV P (eqG true .eql 3 t29 (.int .i64 0)) fun t30 =>
 hIf t30 (hV P (hNil d_0) fun t32 =>
 hV P (fieldAt 94 t32 2) fun t33 =>
 hU P (storeAt 4 t33 (.bool true)) <|
 R (.int .i64 8)) (hV P (hNil d_0) fun t36 =>
 hV P (fieldAt 94 t36 1) fun t37 =>
 hV P (loadAt 3 t37) fun t38 =>
 hV P (binOp .sub 3 t38 (.int .i64 1)) fun t39 =>
 hV P (Builtin.max_ #[3, 3] 3 #[t39, (.int .i64 (-1))]) fun t40 =>
 hV P (hNil d_0) fun t41 =>
 hV P (fieldAt 94 t41 1) fun t42 =>
 hU P (storeAt 3 t42 t40) <|
 hV P (Builtin.len_ #[35] 3 #[b_2]) fun t44 =>
 hV P (makeSlice 35 t44 t44) fun t45 =>
 hV P (Builtin.copy_ #[35, 35] 3 #[t45, b_2]) fun t48 =>
 hV P (hNil d_0) fun t50 =>
 hV P (fieldAt 94 t50 0) fun t51 =>
 hV P (loadAt 88 t51) fun t52 =>
 hV P (indexAt 88 t52 at_1) fun t55 =>
 hU P (storeAt 35 t55 t45) <|
 R (.int .i64 0))))))
def S159 : Nat → Scr := scrOf []
theorem E159 : (fun d_0 at_1 b_2 R w => den P S159 36 (bodyOf Go.Proofs.Tryz.f159) (retK P [.tmp 6] R) (frm0 [d_0, at_1, b_2]) w) = F159 := by kernel_rfl
theorem O159 : codeOk S159 Go.Proofs.Tryz.f159.ntmps (bodyOf Go.Proofs.Tryz.f159) = true := by kernel_rfl
theorem C159 {d_0 at_1 b_2 : Value} {w : World} {R : Value → World → Prop} (h : F159 d_0 at_1 b_2 R w) : Calls P 159 #[d_0, at_1, b_2] w (fun e w' => ∃ v, e = .returned v ∧ R v w') :=
  calls_of_den wide (scr := S159) (rs := [.tmp 6]) (args := [d_0, at_1, b_2]) (fn := Go.Proofs.Tryz.f159) 36 (by kernel_rfl) (by kernel_rfl) (by kernel_rfl) (by kernel_rfl) O159 (Eq.mpr (congrFun (congrFun (congrFun (congrFun (congrFun E159 d_0) at_1) b_2) R) w) h)
theorem H159 {d_0 at_1 b_2 : Value} {w : World} {R : Value → World → Prop} (h : F159 d_0 at_1 b_2 R w) : hF P 159 #[d_0, at_1, b_2] R w := hF_of (by kernel_rfl) (C159 h)
def F160 (c_0 f_1 level_2 : Value) (R : Value → World → Prop) : World → Prop :=
 hV P (box 141 f_1) fun f_4 =>
 hV P (alloc 141 true (.tuple #[])) fun victim_6 =>
 hV P (eqG true .eql 95 c_0 (.pointer none)) fun t12 =>
 hIf t12 (hV P (build 141 #[]) fun t13 =>
 hU P (storeAt 141 victim_6 t13) <|
 hR P (loadAt 141 victim_6) fun r0 =>
 R (.tuple #[r0, (.bool false), (.int .i64 7)])) (hV P (fieldAt 141 f_4 0) fun t16 =>
 hV P (loadAt 3 t16) fun t17 =>
 hF P 193 #[c_0, t17] fun t18 =>
 hV P (Op.unary .not t18) fun t19 =>
 hIf t19 (hV P (build 141 #[]) fun t20 =>
 hU P (storeAt 141 victim_6 t20) <|
 hR P (loadAt 141 victim_6) fun r0 =>
 R (.tuple #[r0, (.bool false), (.int .i64 9)])) (hDraw fun C1 =>
 pV P (fieldAt 141 f_4 1) fun t22 =>
 mV P C1 (loadAt 35 t22) fun t23 =>
 mV P C1 (Builtin.len_ #[35] 3 #[t23]) fun t24 =>
 pV P (hNil c_0) fun t26 =>
 pV P (fieldAt 157 t26 0) fun t27 =>
 pV P (fieldAt 25 t27 3) fun t28 =>
 mV P C1 (loadAt 3 t28) fun t29 =>
 pV P (eqG false .neq 3 t24 t29) fun t30 =>
 hIf t30 (hV P (build 141 #[]) fun t31 =>
 hU P (storeAt 141 victim_6 t31) <|
 hR P (loadAt 141 victim_6) fun r0 =>
 R (.tuple #[r0, (.bool false), (.int .i64 10)])) (hV P (fieldAt 141 f_4 0) fun t34 =>
 hV P (loadAt 3 t34) fun t35 =>
 hF P 157 #[c_0, t35, level_2] fun t37 =>
 hV P (Op.unary .not t37) fun t38 =>
 hIf t38 (hV P (build 141 #[]) fun t39 =>
 hU P (storeAt 141 victim_6 t39) <|
 hR P (loadAt 141 victim_6) fun r0 =>
 R (.tuple #[r0, (.bool false), (.int .i64 5)])) (hDraw fun C2 =>
 pV P (hNil c_0) fun t42 =>
 pV P (fieldAt 157 t42 2) fun t43 =>
 mV P C2 (loadAt 153 t43) fun t44 =>
 pV P (fieldAt 141 f_4 0) fun t45 =>
 mV P C2 (loadAt 3 t45) fun t46 =>
 hI P t44 "Add" #[t46] fun t47 =>
 pV P (extract t47 0) fun t48 =>
 pV P (extract t47 1) fun t49 =>
 pV P (extract t47 2) fun t50 =>
 hV P (eqG true .neq 32 t50 (.int .i64 0)) fun t52 =>
 hIf t52 (hV P (build 141 #[]) fun t53 =>
 hU P (storeAt 141 victim_6 t53) <|
 hR P (loadAt 141 victim_6) fun r0 =>
 R (.tuple #[r0, (.bool false), t50])) (hJ (hDraw fun C16 =>
 pV P (hNil c_0) fun t70 =>
 pV P (fieldAt 157 t70 3) fun t71 =>
 mV P C16 (loadAt 155 t71) fun t72 =>
 pV P (fieldAt 141 f_4 0) fun t73 =>
 mV P C16 (loadAt 3 t73) fun t74 =>
 pV P (fieldAt 141 f_4 1) fun t75 =>
 mV P C16 (loadAt 35 t75) fun t76 =>
 hF P 99 #[t76] fun t77 =>
 hAnd C16 <| hU P (mapUpdate 155 t72 t74 t77) <|
 hV P (loadAt 141 victim_6) fun t78 =>
 hU P (storeAt 141 victim_6 t78) <|
 hR P (loadAt 141 victim_6) fun r0 =>
 R (.tuple #[r0, t49, (.int .i64 0)])) fun J17 =>
 hIf t49 (hV P (hNil c_0) fun t58 =>
 hV P (fieldAt 157 t58 3) fun t59 =>
 hV P (loadAt 155 t59) fun t60 =>
 hV P (lookup 155 t60 t48 false) fun t62 =>
 hV P (build 141 #[(0, t48), (1, t62)]) fun t63 =>
 hU P (storeAt 141 victim_6 t63) <|
 hV P (hNil c_0) fun t65 =>
 hV P (fieldAt 157 t65 3) fun t66 =>
 hV P (loadAt 155 t66) fun t67 =>
 hV P (Builtin.delete_ #[155, 3] 0 #[t67, t48]) fun _ =>
 J17) (J17))))))
def S160 : Nat → Scr := scrOf [(5, .take 0 (.take 1 (.take 2 (.take 3 (.take 4 (.take 5 (.take 6 (.take 7 (.take 8 (.take 9 (.done))))))))))), (9, .take 0 (.take 1 (.take 2 (.take 3 (.take 4 (.take 5 (.sink 6 (.take 7 (.take 8 (.take 9 (.take 10 (.take 11 (.take 12 (.take 13 (.done))))))))))))))), (15, .take 0 (.take 1 (.take 2 (.take 3 (.take 4 (.take 5 (.take 6 (.take 7 (.alt 8 (.sink 9 (.done)) (.nil))))))))))]
theorem E160 : (fun c_0 f_1 level_2 R w => den P S160 33 (bodyOf Go.Proofs.Tryz.f160) (retK P [.cell 6 141, .tmp 7, .tmp 8] R) (frm0 [c_0, f_1, level_2]) w) = F160 := by kernel_rfl
theorem O160 : codeOk S160 Go.Proofs.Tryz.f160.ntmps (bodyOf Go.Proofs.Tryz.f160) = true := by kernel_rfl
theorem C160 {c_0 f_1 level_2 : Value} {w : World} {R : Value → World → Prop} (h : F160 c_0 f_1 level_2 R w) : Calls P 160 #[c_0, f_1, level_2] w (fun e w' => ∃ v, e = .returned v ∧ R v w') :=
  calls_of_den wide (scr := S160) (rs := [.cell 6 141, .tmp 7, .tmp 8]) (args := [c_0, f_1, level_2]) (fn := Go.Proofs.Tryz.f160) 33 (by kernel_rfl) (by kernel_rfl) (by kernel_rfl) (by kernel_rfl) O160 (Eq.mpr (congrFun (congrFun (congrFun (congrFun (congrFun E160 c_0) f_1) level_2) R) w) h)
theorem H160 {c_0 f_1 level_2 : Value} {w : World} {R : Value → World → Prop} (h : F160 c_0 f_1 level_2 R w) : hF P 160 #[c_0, f_1, level_2] R w := hF_of (by kernel_rfl) (C160 h)
end Go.Gd
