/- The contracts of package wide, first part: products. Conditions: those in the theorems. -/
import Derived.Test.YtdgnnacppiaogaaGreatB9
import Derived.Test.YtdgnnacppiaogaaGreatB10
set_option linter.unusedVariables false
set_option linter.unusedSimpArgs false
namespace Go.Gd
open Go.Instr
def fltT (P : Program) (t : TypeId) : Bool := match P.underlying t with | some (.float .f64) => true | _ => false
class FltT (t : TypeId) : Prop where h : fltT P t = true
instance : FltT 325 := ⟨by unfold P; kernel_rfl⟩
section
variable {w0 : World} {L : List HP} {X : World → Prop}
theorem fltT_und {t : TypeId} [h : FltT t] : P.underlying t = some (.float .f64) := by
  have h := h.h
  unfold fltT at h
  split at h
  · assumption
  · cases h
theorem run_i2f {s t : TypeId} {j k : IntKind} [IntT s j] [FltT t] (n : Int) : Run w0 L (convert s t (.int k n)) (.float .f64 (FloatKind.f64.nearest n)) := fun w _ => by
  unfold convert
  simp only [Sem.run_bind, run_underlying (intT_und (t := s) (k := j)), run_underlying (fltT_und (t := t)), Result.andThen_ok]
  rfl
theorem run_f2i {s t : TypeId} [FltT s] [IntT t .i64] {b : Nat} {n : Int} (h : IsF b n) (hb : -9223372036854775808 ≤ n ∧ n ≤ 9223372036854775807) : Run w0 L (convert s t (.float .f64 b)) (.int .i64 n) := fun w _ =>
  run_convert_float_int w s t .f64 .i64 b n (by rw [fltT_und]; rfl) (intT_und (t := t)) (isF_toInt h hb)
theorem run_cplx {ats : Array TypeId} {ty : TypeId} (a b : Nat) : Run w0 L (Builtin.complex_ ats ty #[.float .f64 a, .float .f64 b]) (.complex .f64 a b) := fun w _ => rfl
theorem run_real {ats : Array TypeId} {ty : TypeId} (a b : Nat) : Run w0 L (Builtin.real_ ats ty #[.complex .f64 a b]) (.float .f64 a) := fun w _ => rfl
theorem run_imag {ats : Array TypeId} {ty : TypeId} (a b : Nat) : Run w0 L (Builtin.imag_ ats ty #[.complex .f64 a b]) (.float .f64 b) := fun w _ => rfl
theorem run_negF (a : Nat) : Run w0 L (Op.unary .neg (.float .f64 a)) (.float .f64 (Op.negFloat .f64 a)) := fun w _ => rfl
theorem run_cmul {t : TypeId} {x1 x2 y1 y2 : Nat} {a b c d : Int} (h1 : IsF x1 a) (h2 : IsF x2 b) (h3 : IsF y1 c) (h4 : IsF y2 d)
    (b1 : (a * c).natAbs < 2 ^ 53) (b2 : (b * d).natAbs < 2 ^ 53) (b3 : (a * d).natAbs < 2 ^ 53) (b4 : (b * c).natAbs < 2 ^ 53) (b5 : (a * c - b * d).natAbs < 2 ^ 53) (b6 : (a * d + b * c).natAbs < 2 ^ 53) :
    ∃ r s, (∀ w0 L, Run w0 L (binOp .mul t (.complex .f64 x1 x2) (.complex .f64 y1 y2)) (.complex .f64 r s)) ∧ IsF r (a * c - b * d) ∧ IsF s (a * d + b * c) := by
  obtain ⟨p1, e1, f1⟩ := isF_mul h1 h3 b1
  obtain ⟨p2, e2, f2⟩ := isF_mul h2 h4 b2
  obtain ⟨p3, e3, f3⟩ := isF_mul h1 h4 b3
  obtain ⟨p4, e4, f4⟩ := isF_mul h2 h3 b4
  obtain ⟨r, e5, f5⟩ := isF_sub f1 f2 b5
  obtain ⟨s, e6, f6⟩ := isF_add f3 f4 b6
  refine ⟨r, s, fun w0 L w _ => ?_, f5, f6⟩
  have m : ∀ x y r, Ieee.double.mul x y = some r → (Op.Complex.mul x y).run P w = .ok r w := fun x y r h => by
    have h' : FloatKind.f64.format.mul x y = some r := h
    simp [Op.Complex.mul, Op.Complex.arith, Op.floatArith, h']
  have ad : ∀ x y r, Ieee.double.add x y = some r → (Op.Complex.add x y).run P w = .ok r w := fun x y r h => by
    have h' : FloatKind.f64.format.add x y = some r := h
    simp [Op.Complex.add, Op.Complex.arith, Op.floatArith, h']
  have sb : ∀ x y r, Ieee.double.sub x y = some r → (Op.Complex.sub x y).run P w = .ok r w := fun x y r h => by
    have h' : FloatKind.f64.format.sub x y = some r := h
    simp [Op.Complex.sub, Op.Complex.arith, Op.floatArith, h']
  simp [binOp, Op.complexOp, Op.Complex.conv, Op.Complex.product, m _ _ _ e1, m _ _ _ e2, m _ _ _ e3, m _ _ _ e4, sb _ _ _ e5, ad _ _ _ e6]
theorem and_mask {n : Int} (h : 0 ≤ n ∧ n < 18446744073709551616) (k : Nat) (hk : k ≤ 62) : IntKind.i64.wrap (BitVec.ofInt IntKind.i64.bits n &&& BitVec.ofInt IntKind.i64.bits ((2 ^ k - 1 : Nat) : Int)).toNat = n % ((2 ^ k : Nat) : Int) := by
  obtain ⟨m, rfl⟩ : ∃ m : Nat, n = m := ⟨n.toNat, by omega⟩
  have hp : 2 ^ k ≤ 2 ^ 62 := Nat.pow_le_pow_right (by decide) hk
  have hp0 := Nat.two_pow_pos k
  have hb : IntKind.i64.bits = 64 := rfl
  rw [hb, BitVec.ofInt_natCast, BitVec.ofInt_natCast, BitVec.toNat_and, BitVec.toNat_ofNat, BitVec.toNat_ofNat, Nat.mod_eq_of_lt (by omega : m < 2 ^ 64), Nat.mod_eq_of_lt (by omega : 2 ^ k - 1 < 2 ^ 64), Nat.and_two_pow_sub_one_eq_mod]
  have : m % 2 ^ k < 2 ^ k := Nat.mod_lt _ hp0
  rw [wrap_i64 (by omega), Int.natCast_emod]
end
attribute [local irreducible] loadAt storeAt fieldAt indexAt alloc box build buildSlice hNil eqG binOp Op.unary extract makeSlice makeInterface makeFunc convert hV mV pV hU hF hIf hGuard hPick hJ hDraw hLoop Builtin.complex_ Builtin.real_ Builtin.imag_
section
variable {w0 : World}
theorem wi_within (n m : Int) : Spec w0 232 [.int .i64 n, .int .i64 m] [] (fun _ : Unit => .bool (decide (0 ≤ n ∧ n ≤ m))) (fun _ => []) := by
  refine spec_go (fun R w => H232) fun F => ?_
  show Ent w0 F _
  unfold F232
  refine ent_qb (run_ge _ _) (fun h1 => ?_) (fun h1 => ?_)
  · (repeat refine ent_gT ?_)
    refine ent_qb (run_le _ _) (fun h2 => ?_) (fun h2 => ?_)
    · (repeat refine ent_pT ?_)
      exact ent_ret () (by rw [decide_eq_true ⟨h1, h2⟩]) (Imp.refl _)
    · (repeat refine ent_pT ?_)
      exact ent_ret () (by rw [decide_eq_false (fun h => h2 h.2)]) (Imp.refl _)
  · (repeat (first | refine ent_gF ?_ | refine ent_pF ?_))
    exact ent_ret () (by rw [decide_eq_false (fun h => h1 h.1)]) (Imp.refl _)
theorem wi_point (n : Nat) (hn : n ≤ 4294967295) : Spec w0 239 [.int .i64 n] [] (fun x : Nat × Nat => .complex .f64 x.1 x.2) (fun x => [pureH (IsF x.1 ((n / 65536 : Nat) : Int) ∧ IsF x.2 ((n % 65536 : Nat) : Int))]) := by
  refine spec_go (fun R w => H239) fun F => ?_
  show Ent w0 F _
  unfold F239
  refine ent_q (run_shr (by omega)) ?_
  refine ent_q (run_i2f _) ?_
  refine ent_q run_and ?_
  refine ent_q (run_i2f _) ?_
  refine ent_q (run_cplx _ _) ?_
  refine ent_ret (_, _) rfl (Imp.pureI ⟨?_, ?_⟩ (Imp.refl _))
  · have : ((n : Int).fdiv (2 ^ min (16 : Int).toNat IntKind.i64.bits)) = ((n / 65536 : Nat) : Int) := by
      show (n : Int).fdiv (65536) = _
      rw [Int.fdiv_eq_ediv_of_nonneg _ (by omega)]; omega
    rw [this]
    exact isF_int (by omega)
  · have := and_mask (n := n) (by omega) 16 (by omega)
    rw [show (((2 ^ 16 - 1 : Nat)) : Int) = 65535 by rfl] at this
    rw [this]
    have e : (n : Int) % ((2 ^ 16 : Nat) : Int) = ((n % 65536 : Nat) : Int) := by omega
    rw [e]
    exact isF_int (by omega)
theorem wi_mirror (r s : Nat) : Spec w0 240 [.complex .f64 r s] [] (fun _ : Unit => .complex .f64 r (Op.negFloat .f64 s)) (fun _ => []) := by
  refine spec_go (fun R w => H240) fun F => ?_
  show Ent w0 F _
  unfold F240
  refine ent_q (run_real _ _) ?_
  refine ent_q (run_imag _ _) ?_
  refine ent_q (run_negF _) ?_
  refine ent_q (run_cplx _ _) ?_
  exact ent_ret () rfl (Imp.refl _)
theorem mul_le {a b m n : Nat} (h1 : a ≤ m) (h2 : b ≤ n) : a * b ≤ m * n := Nat.mul_le_mul h1 h2
theorem wi_parts (x y : Nat) (hx : x ≤ 4294967295) (hy : y ≤ 4294967295) : Spec w0 237 [.int .i64 x, .int .i64 y] []
    (fun _ : Unit => .tuple #[.int .i64 ((x / 65536 * (y / 65536) : Nat) : Int), .int .i64 ((x / 65536 * (y % 65536) + x % 65536 * (y / 65536) : Nat) : Int), .int .i64 ((x % 65536 * (y % 65536) : Nat) : Int), .int .i64 0]) (fun _ => []) := by
  refine spec_go (fun R w => H237) fun F => ?_
  show Ent w0 F _
  unfold F237
  have m1 : x / 65536 ≤ 65535 := by omega
  have m2 : x % 65536 ≤ 65535 := by omega
  have m3 : y / 65536 ≤ 65535 := by omega
  have m4 : y % 65536 ≤ 65535 := by omega
  refine ent_call (wi_within _ _) (Imp.refl _) fun _ => ?_
  rw [decide_eq_true (by omega)]
  (repeat (first | refine ent_gT ?_ | refine ent_q (run_notT) ?_ | refine ent_j ?_))
  refine ent_call (wi_within _ _) (Imp.refl _) fun _ => ?_
  rw [decide_eq_true (by omega)]
  (repeat (first | refine ent_ifF ?_ | refine ent_pF ?_ | refine ent_q (run_notT) ?_))
  refine ent_call (wi_point x hx) (Imp.refl _) fun p1 => ?_
  refine Ent.pure fun ⟨f1, f2⟩ => ?_
  refine ent_call (wi_point y hy) (Imp.refl _) fun p2 => ?_
  refine Ent.pure fun ⟨f3, f4⟩ => ?_
  have q1 := mul_le m1 m3
  have q2 := mul_le m1 m4
  have q3 := mul_le m2 m3
  have q4 := mul_le m2 m4
  obtain ⟨a, ha⟩ : ∃ a, a = x / 65536 := ⟨_, rfl⟩
  obtain ⟨b, hb⟩ : ∃ b, b = x % 65536 := ⟨_, rfl⟩
  obtain ⟨c, hc⟩ : ∃ c, c = y / 65536 := ⟨_, rfl⟩
  obtain ⟨d, hd⟩ : ∃ d, d = y % 65536 := ⟨_, rfl⟩
  rw [← ha] at f1 q1 q2
  rw [← hb] at f2 q3 q4
  rw [← hc] at f3 q1 q3
  rw [← hd] at f4 q2 q4
  have c1 : ((a * c : Nat) : Int) = (a : Int) * c := Int.natCast_mul _ _
  have c2 : ((a * d : Nat) : Int) = (a : Int) * d := Int.natCast_mul _ _
  have c3 : ((b * c : Nat) : Int) = (b : Int) * c := Int.natCast_mul _ _
  have c4 : ((b * d : Nat) : Int) = (b : Int) * d := Int.natCast_mul _ _
  obtain ⟨r, s, hrun, hr, hs⟩ := run_cmul (t := 322) f1 f2 f3 f4 (by omega) (by omega) (by omega) (by omega) (by omega) (by omega)
  refine ent_q (hrun _ _) ?_
  refine ent_call (wi_point x hx) (Imp.refl _) fun p3 => ?_
  refine Ent.pure fun ⟨g1, g2⟩ => ?_
  refine ent_call (wi_point y hy) (Imp.refl _) fun p4 => ?_
  refine Ent.pure fun ⟨g3, g4⟩ => ?_
  rw [← ha] at g1
  rw [← hb] at g2
  rw [← hc] at g3
  rw [← hd] at g4
  refine ent_call (wi_mirror _ _) (Imp.refl _) fun _ => ?_
  have n1 : (a : Int) * -(d : Int) = -((a : Int) * d) := Int.mul_neg _ _
  have n2 : (b : Int) * -(d : Int) = -((b : Int) * d) := Int.mul_neg _ _
  obtain ⟨r2, s2, hrun2, hr2, hs2⟩ := run_cmul (t := 322) g1 g2 g3 (isF_neg g4) (by omega) (by omega) (by omega) (by omega) (by omega) (by omega)
  rw [n2] at hr2
  refine ent_q (hrun2 _ _) ?_
  refine ent_q (run_real _ _) ?_
  refine ent_q (run_f2i hr2 (by omega)) ?_
  refine ent_q (run_real _ _) ?_
  refine ent_q (run_f2i hr (by omega)) ?_
  refine ent_q (run_add64 (by omega)) ?_
  refine ent_q (run_quo (by omega)) ?_
  refine ent_q (run_imag _ _) ?_
  refine ent_q (run_f2i hs (by omega)) ?_
  refine ent_q (run_sub64 (by omega)) ?_
  refine ent_q (run_quo (by omega)) ?_
  refine ent_ret () ?_ (Imp.refl _)
  rw [← ha, ← hb, ← hc, ← hd]
  have t1 : ((a : Int) * c - -((b : Int) * d) + ((a : Int) * c - (b : Int) * d)).tdiv 2 = ((a * c : Nat) : Int) := by
    rw [c1, show (a : Int) * c - -((b : Int) * d) + ((a : Int) * c - (b : Int) * d) = 2 * ((a : Int) * c) by omega, Int.mul_tdiv_cancel_left _ (by omega)]
  have t2 : ((a : Int) * c - -((b : Int) * d) - ((a : Int) * c - (b : Int) * d)).tdiv 2 = ((b * d : Nat) : Int) := by
    rw [c4, show (a : Int) * c - -((b : Int) * d) - ((a : Int) * c - (b : Int) * d) = 2 * ((b : Int) * d) by omega, Int.mul_tdiv_cancel_left _ (by omega)]
  rw [t1, t2, wrap_i64 (by omega), wrap_i64 (by omega), Int.natCast_add, c2, c3]
theorem mul_parts (a b c d : Nat) : (65536 * a + b) * (65536 * c + d) = 4294967296 * (a * c) + 65536 * (a * d + b * c) + b * d := by grind
theorem wi_mul (x y : Nat) (hx : x ≤ 2147483647) (hy : y ≤ 2147483647) : Spec w0 234 [.int .i64 x, .int .i64 y] [] (fun _ : Unit => .tuple #[.int .i64 ((x * y : Nat) : Int), .int .i64 0]) (fun _ => []) := by
  refine spec_go (fun R w => H234) fun F => ?_
  show Ent w0 F _
  unfold F234
  refine ent_call (wi_within _ _) (Imp.refl _) fun _ => ?_
  rw [decide_eq_true (by omega)]
  (repeat (first | refine ent_gT ?_ | refine ent_q (run_notT) ?_ | refine ent_j ?_))
  refine ent_call (wi_within _ _) (Imp.refl _) fun _ => ?_
  rw [decide_eq_true (by omega)]
  (repeat (first | refine ent_ifF ?_ | refine ent_pF ?_ | refine ent_q (run_notT) ?_))
  refine ent_call (wi_parts x y (by omega) (by omega)) (Imp.refl _) fun _ => ?_
  have m1 : x / 65536 ≤ 32767 := by omega
  have m2 : x % 65536 ≤ 65535 := by omega
  have m3 : y / 65536 ≤ 32767 := by omega
  have m4 : y % 65536 ≤ 65535 := by omega
  have q1 := mul_le m1 m3
  have q2 := mul_le m1 m4
  have q3 := mul_le m2 m3
  have q4 := mul_le m2 m4
  have hp := mul_parts (x / 65536) (x % 65536) (y / 65536) (y % 65536)
  rw [show 65536 * (x / 65536) + x % 65536 = x by omega, show 65536 * (y / 65536) + y % 65536 = y by omega] at hp
  have q5 : x / 65536 * (y % 65536) + x % 65536 * (y / 65536) ≤ 4294967296 := by omega
  generalize x / 65536 * (y / 65536) = A at *
  generalize x / 65536 * (y % 65536) + x % 65536 * (y / 65536) = B at *
  (repeat refine ent_q (run_ex rfl) ?_)
  refine ent_q (run_shl (by omega)) ?_
  refine ent_q (run_shl (by omega)) ?_
  have e1 : IntKind.i64.wrap ((A : Int) * 2 ^ min (32 : Int).toNat IntKind.i64.bits) = 4294967296 * A := by
    show IntKind.i64.wrap ((A : Int) * 4294967296) = _
    rw [wrap_i64 (by omega)]; omega
  have e2 : IntKind.i64.wrap ((B : Int) * 2 ^ min (16 : Int).toNat IntKind.i64.bits) = 65536 * B := by
    show IntKind.i64.wrap ((B : Int) * 65536) = _
    rw [wrap_i64 (by omega)]; omega
  rw [e1, e2]
  refine ent_q (run_add64 (by omega)) ?_
  refine ent_q (run_add64 (by omega)) ?_
  refine ent_ret () ?_ (Imp.refl _)
  congr 4
  omega
def FracP (a b : Int) : Prop := (0 ≤ a ∧ a ≤ 2147483647) ∧ (0 ≤ b ∧ b ≤ 2147483647) ∧ 0 < b
instance (a b : Int) : Decidable (FracP a b) := by unfold FracP; infer_instance
theorem wi_right (a b : Int) : Spec w0 225 [.agg #[.int .i64 a, .int .i64 b]] [] (fun _ : Unit => .bool (decide (FracP a b))) (fun _ => []) := by
  refine spec_go (fun R w => H225) fun F => ?_
  show Ent w0 F _
  unfold F225
  refine ent_box fun q => ?_
  have no : ¬ FracP a b → ∀ L, Imp L F → Ent w0 L (fun w' => ∃ i : Unit, (Value.bool false) = Value.bool (decide (FracP a b)) ∧ Sat w0 ([] ++ F) w') := fun hno L hI =>
      ent_ret () (by rw [decide_eq_false hno]) hI
  (repeat (first | refine ent_q (run_fieldZ _ _) ?_ | refine ent_q (run_load (cell_own 0 rfl rfl)) ?_))
  refine ent_call (wi_within _ _) (Imp.refl _) fun _ => ?_
  by_cases h1 : 0 ≤ a ∧ a ≤ 2147483647
  case neg => rw [decide_eq_false h1]; (repeat (first | refine ent_gF ?_ | refine ent_pF ?_ | refine ent_j ?_)); exact no (fun h => h1 h.1) _ (by exact Imp.drop1)
  rw [decide_eq_true h1]
  show Ent w0 (pt q 304 [.int .i64 a, .int .i64 b] :: F) _
  (repeat (first | refine ent_q (run_field0 _) ?_ | refine ent_gT ?_ | refine ent_j ?_ | refine ent_q (run_load (cell_own 0 rfl rfl)) ?_))
  refine ent_call (wi_within _ _) (Imp.refl _) fun _ => ?_
  by_cases h2 : 0 ≤ b ∧ b ≤ 2147483647
  case neg => rw [decide_eq_false h2]; (repeat (first | refine ent_gF ?_ | refine ent_pT ?_ | refine ent_pF ?_)); exact no (fun h => h2 h.2.1) _ (by exact Imp.drop1)
  rw [decide_eq_true h2]
  show Ent w0 (pt q 304 [.int .i64 a, .int .i64 b] :: F) _
  (repeat (first | refine ent_q (run_field0 _) ?_ | refine ent_gT ?_ | refine ent_pT ?_ | refine ent_q (run_load (cell_own 0 rfl rfl)) ?_))
  refine ent_qb (run_gt _ _) (fun h3 => ?_) (fun h3 => ?_)
  · (repeat refine ent_pT ?_)
    exact ent_ret () (by rw [decide_eq_true ⟨h1, h2, h3⟩]) (by exact Imp.drop1)
  · (repeat refine ent_pT ?_)
    exact no (fun h => h3 h.2.2) _ (by exact Imp.drop1)
def cmpF (a b c d : Nat) : Int := if a * d < c * b then -1 else if c * b < a * d then 1 else 0
theorem wi_compare (a b c d : Nat) (h1 : FracP a b) (h2 : FracP c d) : Spec w0 228 [.agg #[.int .i64 a, .int .i64 b], .agg #[.int .i64 c, .int .i64 d]] [] (fun _ : Unit => .tuple #[.int .i64 (cmpF a b c d), .int .i64 0]) (fun _ => []) := by
  refine spec_go (fun R w => H228) fun F => ?_
  show Ent w0 F _
  unfold F228
  refine ent_box fun p => ?_
  refine ent_box fun q => ?_
  have l1 := h1
  have l2 := h2
  unfold FracP at l1 l2
  refine ent_q (run_loadA (vs := [.int .i64 a, .int .i64 b]) rfl (cells_all 1 rfl)) ?_
  refine ent_call (wi_right a b) (Imp.refl _) fun _ => ?_
  rw [decide_eq_true h1]
  show Ent w0 (pt q 304 [.int .i64 c, .int .i64 d] :: pt p 304 [.int .i64 a, .int .i64 b] :: F) _
  (repeat (first | refine ent_gT ?_ | refine ent_q (run_notT) ?_ | refine ent_j ?_))
  refine ent_q (run_loadA (vs := [.int .i64 c, .int .i64 d]) rfl (cells_all 0 rfl)) ?_
  refine ent_call (wi_right c d) (Imp.refl _) fun _ => ?_
  rw [decide_eq_true h2]
  show Ent w0 (pt q 304 [.int .i64 c, .int .i64 d] :: pt p 304 [.int .i64 a, .int .i64 b] :: F) _
  (repeat (first | refine ent_q (run_fieldZ _ _) ?_ | refine ent_q (run_field0 _) ?_ | refine ent_ifF ?_ | refine ent_pF ?_ | refine ent_q (run_notT) ?_ | refine ent_q (run_load (cell_own 0 rfl rfl)) ?_ | refine ent_q (run_load (cell_own 1 rfl rfl)) ?_))
  refine ent_call (wi_mul a d (by omega) (by omega)) (Imp.refl _) fun _ => ?_
  show Ent w0 (pt q 304 [.int .i64 c, .int .i64 d] :: pt p 304 [.int .i64 a, .int .i64 b] :: F) _
  (repeat (first | refine ent_q (run_fieldZ _ _) ?_ | refine ent_q (run_field0 _) ?_ | refine ent_q (run_ex rfl) ?_ | refine ent_q (run_load (cell_own 0 rfl rfl)) ?_ | refine ent_q (run_load (cell_own 1 rfl rfl)) ?_))
  refine ent_call (wi_mul c b (by omega) (by omega)) (Imp.refl _) fun _ => ?_
  show Ent w0 (pt q 304 [.int .i64 c, .int .i64 d] :: pt p 304 [.int .i64 a, .int .i64 b] :: F) _
  (repeat refine ent_q (run_ex rfl) ?_)
  unfold cmpF
  generalize a * d = x
  generalize c * b = y
  refine ent_qb (run_lt _ _) (fun h3 => ?_) (fun h3 => ?_)
  · (repeat refine ent_ifT ?_)
    exact ent_ret () (by rw [if_pos (by omega)]) (by exact Imp.trans Imp.drop1 (Imp.drop1))
  · (repeat refine ent_ifF ?_)
    refine ent_qb (run_gt _ _) (fun h4 => ?_) (fun h4 => ?_)
    · (repeat refine ent_ifT ?_)
      exact ent_ret () (by rw [if_neg (by omega), if_pos (by omega)]) (by exact Imp.trans Imp.drop1 (Imp.drop1))
    · (repeat refine ent_ifF ?_)
      exact ent_ret () (by rw [if_neg (by omega), if_neg (by omega)]) (by exact Imp.trans Imp.drop1 (Imp.drop1))
end
end Go.Gd
