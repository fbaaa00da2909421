/- PRINTED by a program of mine (hoas.py): the plain reading of the functions named, each with its equation and the way into it. -/
import Derived.Test.YtdgnnacppiaogaaGreatB2
set_option linter.unusedVariables false
set_option linter.unusedSimpArgs false
set_option maxRecDepth 100000
set_option linter.unusedVariables false
namespace Go.Gd
open Go.Instr
def F78 (c_0 : Value) (R : Value → World → Prop) : World → Prop :=
 hV P (eqG true .eql 95 c_0 (.pointer none)) fun t4 =>
 hIf t4 (R (.slice none 0 0)) (hV P (hNil c_0) fun t6 =>
 hV P (fieldAt 157 t6 2) fun t7 =>
 hV P (loadAt 153 t7) fun t8 =>
 hI P t8 "All" #[] fun t9 =>
 R t9)
def S78 : Nat → Scr := scrOf []
theorem E78 : (fun c_0 R w => den P S78 26 (bodyOf Go.Proofs.Tryz.f78) (retK P [.tmp 2] R) (frm0 [c_0]) w) = F78 := by kernel_rfl
theorem O78 : codeOk S78 Go.Proofs.Tryz.f78.ntmps (bodyOf Go.Proofs.Tryz.f78) = true := by kernel_rfl
theorem C78 {c_0 : Value} {w : World} {R : Value → World → Prop} (h : F78 c_0 R w) : Calls P 78 #[c_0] w (fun e w' => ∃ v, e = .returned v ∧ R v w') :=
  calls_of_den wide (scr := S78) (rs := [.tmp 2]) (args := [c_0]) (fn := Go.Proofs.Tryz.f78) 26 (by kernel_rfl) (by kernel_rfl) (by kernel_rfl) (by kernel_rfl) O78 (Eq.mpr (congrFun (congrFun (congrFun E78 c_0) R) w) h)
theorem H78 {c_0 : Value} {w : World} {R : Value → World → Prop} (h : F78 c_0 R w) : hF P 78 #[c_0] R w := hF_of (by kernel_rfl) (C78 h)
end Go.Gd
