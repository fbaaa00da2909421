/- The contracts of package raw. Conditions: those in the theorems. The plain law of the store: what it reads and writes. Conditions: those in the theorems. -/
import Derived.Test.YtdgnnacppiaogaaGreatB29
import Derived.Test.YtdgnnacppiaogaaGreatB25
import Derived.Test.YtdgnnacppiaogaaGreatB12
set_option linter.unusedVariables false
set_option linter.unusedSimpArgs false
set_option linter.unusedVariables false
namespace Go.Gd
open Go.Instr
attribute [local irreducible] loadAt storeAt fieldAt indexAt alloc box build buildSlice hNil eqG binOp Op.unary extract makeSlice makeInterface makeFunc convert hV mV pV hU hF hFV hIf hGuard hPick hJ hDraw hLoop ro Instr.index
def putPass (R : Value → World → Prop) (vs4 : List Value) (jump2 : List Value → World → Prop) : World → Prop :=
 hV P (binOp .geq 3 (nthV vs4 0) (.int .i64 128)) fun t11 =>
 hIf t11 (hV P (convert 3 5 (nthV vs4 0)) fun t14 =>
 hV P (binOp .or 5 t14 (.int .u8 128)) fun t15 =>
 hV P (buildSlice 35 1 #[(0, t15)]) fun t16 =>
 hV P (Builtin.append_ #[35, 35] 35 #[(nthV vs4 1), t16]) fun t17 =>
 hV P (binOp .shr 3 (nthV vs4 0) (.int .u64 7)) fun t19 =>
 jump2 [t19, t17, (nthV vs4 2)]) (hV P (convert 3 5 (nthV vs4 0)) fun t22 =>
 hV P (buildSlice 35 1 #[(0, t22)]) fun t23 =>
 hV P (Builtin.append_ #[35, 35] 35 #[(nthV vs4 1), t23]) fun t24 =>
 R t24)
def getPass (b_0 at_1 : Value) (R : Value → World → Prop) (vs4 : List Value) (jump2 : List Value → World → Prop) : World → Prop :=
 hV P (binOp .add 3 at_1 (nthV vs4 0)) fun t15 =>
 hV P (Builtin.len_ #[35] 3 #[b_0]) fun t17 =>
 hV P (eqG false .eql 3 t15 t17) fun t18 =>
 hIf t18 (R (.tuple #[(.int .i64 0), (.int .i64 0), (.int .i64 1)])) (hV P (binOp .add 3 at_1 (nthV vs4 0)) fun t22 =>
 hV P (indexAt 35 b_0 t22) fun t23 =>
 hV P (loadAt 5 t23) fun t24 =>
 hV P (binOp .and 5 t24 (.int .u8 127)) fun t27 =>
 hV P (convert 5 3 t27) fun t28 =>
 hV P (binOp .mul 3 (.int .i64 7) (nthV vs4 0)) fun t30 =>
 hV P (binOp .shl 3 t28 t30) fun t31 =>
 hV P (binOp .or 3 (nthV vs4 1) t31) fun t32 =>
 hV P (binOp .add 3 (nthV vs4 0) (.int .i64 1)) fun t34 =>
 hV P (binOp .geq 5 t24 (.int .u8 128)) fun t36 =>
 hIf t36 (hV P (eqG true .eql 3 t34 (.int .i64 9)) fun t38 =>
 hIf t38 (R (.tuple #[(.int .i64 0), (.int .i64 0), (.int .i64 2)])) (jump2 [t34, t32, (nthV vs4 2), (nthV vs4 3)])) (hV P (eqG true .eql 5 t24 (.int .u8 0)) fun t40 =>
 hJ (fun (j43_9 : Value) =>
 hPick t40 j43_9 (.bool false) fun t44 =>
 hIf t44 (R (.tuple #[(.int .i64 0), (.int .i64 0), (.int .i64 2)])) (hV P (binOp .add 3 at_1 t34) fun t48 =>
 R (.tuple #[t32, t48, (.int .i64 0)]))) fun J10 =>
 hGuard t40 true (hV P (binOp .gtr 3 t34 (.int .i64 1)) fun t43 =>
 J10 t43) (J10 undef)))
theorem or128 : ∀ m : Fin 256, (m.val ||| 128) = m.val % 128 + 128 := by decide +kernel
theorem and127 : ∀ m : Fin 256, (m.val &&& 127) = m.val % 128 := by decide +kernel
section
variable {w0 : World} {L : List HP}
theorem run_or128 {t : TypeId} {n : Nat} (h : n < 256) : Run w0 L (binOp .or t (.int .u8 (n : Nat)) (.int .u8 128)) (.int .u8 ((n % 128 + 128 : Nat) : Int)) := fun w hw => by
  rw [run_or w hw]
  have e1 : (BitVec.ofInt 8 (n : Int) ||| BitVec.ofInt 8 128).toNat = n % 128 + 128 := by
    rw [BitVec.toNat_or]
    have a1 : (BitVec.ofInt 8 (n : Int)).toNat = n := by simp [BitVec.toNat_ofInt]; omega
    have a2 : (BitVec.ofInt 8 128).toNat = 128 := by decide
    rw [a1, a2]; exact or128 ⟨n, h⟩
  show Result.ok (Value.int .u8 (IntKind.u8.wrap ((BitVec.ofInt 8 (n : Int) ||| BitVec.ofInt 8 128).toNat : Nat))) w = _
  rw [e1, wrap_u8 (by omega)]
theorem run_and127 {t : TypeId} {n : Nat} (h : n < 256) : Run w0 L (binOp .and t (.int .u8 (n : Nat)) (.int .u8 127)) (.int .u8 ((n % 128 : Nat) : Int)) := fun w hw => by
  rw [run_and w hw]
  have e1 : (BitVec.ofInt 8 (n : Int) &&& BitVec.ofInt 8 127).toNat = n % 128 := by
    rw [BitVec.toNat_and]
    have a1 : (BitVec.ofInt 8 (n : Int)).toNat = n := by simp [BitVec.toNat_ofInt]; omega
    have a2 : (BitVec.ofInt 8 127).toNat = 127 := by decide
    rw [a1, a2]; exact and127 ⟨n, h⟩
  show Result.ok (Value.int .u8 (IntKind.u8.wrap ((BitVec.ofInt 8 (n : Int) &&& BitVec.ofInt 8 127).toNat : Nat))) w = _
  rw [e1, wrap_u8 (by omega)]
theorem pow128 (i : Nat) : 128 ^ i = 2 ^ (7 * i) := by rw [Nat.pow_mul]
theorem run_orTop {t : TypeId} {acc c i : Nat} (ha : acc < 128 ^ i) (hc : c < 128) (hi : i < 9) :
    Run w0 L (binOp .or t (.int .i64 (acc : Nat)) (.int .i64 ((c * 128 ^ i : Nat) : Int))) (.int .i64 ((acc + c * 128 ^ i : Nat) : Int)) := fun w hw => by
  rw [run_or w hw]
  have hp : 128 ^ i ≤ 128 ^ 8 := Nat.pow_le_pow_right (by omega) (by omega)
  have h8 : (128 : Nat) ^ 8 = 72057594037927936 := by decide
  have hm : c * 128 ^ i ≤ 127 * 72057594037927936 := Nat.le_trans (Nat.mul_le_mul (by omega : c ≤ 127) hp) (by omega)
  have e1 : (BitVec.ofInt 64 (acc : Int) ||| BitVec.ofInt 64 ((c * 128 ^ i : Nat) : Int)).toNat = acc + c * 128 ^ i := by
    rw [BitVec.toNat_or]
    have a1 : (BitVec.ofInt 64 (acc : Int)).toNat = acc := by simp [BitVec.toNat_ofInt]; omega
    have a2 : (BitVec.ofInt 64 ((c * 128 ^ i : Nat) : Int)).toNat = c * 128 ^ i := by
      generalize c * 128 ^ i = y at *
      simp [BitVec.toNat_ofInt]; omega
    rw [a1, a2]
    have := Nat.two_pow_add_eq_or_of_lt (i := 7 * i) (b := acc) (by rw [← pow128]; exact ha) c
    rw [← pow128, Nat.mul_comm] at this
    rw [Nat.or_comm, ← this, Nat.add_comm]
  show Result.ok (Value.int .i64 (IntKind.i64.wrap ((BitVec.ofInt 64 (acc : Int) ||| BitVec.ofInt 64 ((c * 128 ^ i : Nat) : Int)).toNat : Nat))) w = _
  rw [e1, wrap_i64 (by omega)]
theorem run_shl7 {t : TypeId} {c i : Nat} (hc : c < 128) (hi : i < 9) : Run w0 L (binOp .shl t (.int .i64 (c : Nat)) (.int .i64 (7 * (i : Nat)))) (.int .i64 ((c * 128 ^ i : Nat) : Int)) := fun w hw => by
  rw [run_shl (by omega) w hw]
  have hp : 128 ^ i ≤ 128 ^ 8 := Nat.pow_le_pow_right (by omega) (by omega)
  have h8 : (128 : Nat) ^ 8 = 72057594037927936 := by decide
  have hm : c * 128 ^ i ≤ 127 * 72057594037927936 := Nat.le_trans (Nat.mul_le_mul (by omega : c ≤ 127) hp) (by omega)
  have e : (7 * (i : Int)).toNat = 7 * i := by omega
  have e2 : min (7 * i) IntKind.i64.bits = 7 * i := by show min (7 * i) 64 = 7 * i; omega
  have e3 : ((c : Int) * 2 ^ (7 * i)) = ((c * 128 ^ i : Nat) : Int) := by rw [pow128]; simp
  rw [e, e2, e3, wrap_i64 (by omega)]
theorem run_shr7 {t : TypeId} {n : Nat} : Run w0 L (binOp .shr t (.int .i64 (n : Nat)) (.int .u64 7)) (.int .i64 ((n / 128 : Nat) : Int)) := fun w hw => by
  rw [run_shr (by omega) w hw]
  have e : min (Int.toNat 7) IntKind.i64.bits = 7 := by decide
  rw [e]
  congr 2
  rw [Int.fdiv_eq_ediv_of_nonneg _ (by decide)]
  simp
theorem run_byte {s t : TypeId} {j : IntKind} [IntT s j] [IntT t .u8] (n : Nat) : Run w0 L (convert s t (.int .i64 (n : Nat))) (.int .u8 ((n % 256 : Nat) : Int)) := fun w hw => by
  rw [run_conv (t := t) (s := s) _ w hw]
  congr 2
theorem run_int8 {s t : TypeId} {j : IntKind} [IntT s j] [IntT t .i64] (n : Nat) (h : n < 256) : Run w0 L (convert s t (.int .u8 (n : Nat))) (.int .i64 (n : Nat)) := fun w hw => by
  rw [run_conv (t := t) (s := s) _ w hw, wrap_i64 (by omega)]
theorem ent_put1 {l : List UInt8} {v : Value} {x : Nat} {K : Value → World → Prop} (hx : x < 256) (hl : l.length ≤ 1099511627776) (h : ∀ v', Ent w0 (vecB v' 5 (l ++ [UInt8.ofNat x]) :: L) (K v')) :
    Ent w0 (vecB v 5 l :: L) (hV P (buildSlice 35 1 #[(0, .int .u8 (x : Nat))]) fun t => hV P (Builtin.append_ #[35, 35] 35 #[v, t]) K) := by
  refine ent_bs (zs := [.int .u8 0]) rfl (n := 1) (parts := [(0, .int .u8 (x : Nat))]) (cs := [.int .u8 (x : Nat)]) (by simp) rfl fun b => ?_
  refine ent_append (zs := [.int .u8 0]) (lx := [.int .u8 (x : Nat)]) 1 rfl (RdS.all 0 rfl rfl) rfl (by simp [Value.oneCell']) (by omega) (by omega) fun v' => ?_
  have e : by8 l ++ [Value.int .u8 (x : Nat)] = by8 (l ++ [UInt8.ofNat x]) := by rw [by8_app]; simp [by8, u8_nat hx]
  refine Ent.imp (Imp.drop 1) ?_
  have := h v'
  unfold vecB at this
  rw [show (l ++ [UInt8.ofNat x]).length = l.length + 1 by simp] at this
  rw [e]; exact this
theorem raw_within (b : Value) (l : List UInt8) (p : Int) : Spec w0 215 [b, .int .i64 p] [roB w0 b l] (fun _ : Unit => .bool (decide (0 ≤ p ∧ p ≤ l.length))) (fun _ => [roB w0 b l]) := by
  refine spec_go (fun R w => H215) fun F => ?_
  show Ent w0 (roB w0 b l :: F) _
  unfold F215
  refine Ent.ro fun a cap R hv hln hrd => ?_
  subst hv
  refine ent_qb (run_ge _ _) (fun h1 => ?_) (fun h1 => ?_)
  · (repeat (first | refine ent_gT ?_ | refine ent_q (run_len) ?_))
    refine ent_qb (run_le _ _) (fun h2 => ?_) (fun h2 => ?_)
    · (repeat refine ent_pT ?_)
      exact ent_ret () (by rw [decide_eq_true ⟨h1, h2⟩]) (by (repeat refine Imp.pick 1 rfl ?_); exact Imp.drop1)
    · (repeat refine ent_pT ?_)
      exact ent_ret () (by rw [decide_eq_false (fun h => h2 h.2)]) (by (repeat refine Imp.pick 1 rfl ?_); exact Imp.drop1)
  · (repeat (first | refine ent_gF ?_ | refine ent_pF ?_))
    exact ent_ret () (by rw [decide_eq_false (fun h => h1 h.1)]) (by (repeat refine Imp.pick 1 rfl ?_); exact Imp.drop1)
theorem raw_put (b : Value) (l : List UInt8) (n : Int) (hl : l.length ≤ 549755813888) (hn : n ≤ 9223372036854775807) :
    Spec w0 191 [b, .int .i64 n] [roB w0 b l] (fun v : Value => v) (fun v => [vecB v 5 (l ++ enc n.toNat)]) := by
  refine spec_go (fun R w => H191) fun F => ?_
  show Ent w0 (roB w0 b l :: F) _
  unfold F191
  have key : ∀ (m : Nat) (o : List UInt8) (v r : Value) (next : List Value → World → Prop), o.length ≤ 1099511627776 → o ++ enc m = l ++ enc n.toNat →
      (∀ v', 128 ≤ m → Ent w0 (vecB v' 5 (o ++ [UInt8.ofNat (m % 128 + 128)]) :: F) (next [.int .i64 ((m / 128 : Nat) : Int), v', r])) →
      Ent w0 (vecB v 5 o :: F) (putPass (fun v w' => ∃ i : Value, v = i ∧ Sat w0 ([vecB i 5 (l ++ enc n.toNat)] ++ F) w') [.int .i64 (m : Nat), v, r] next) := by
    intro m o v r next ho heq hnext
    unfold putPass
    refine ent_qb (run_ge _ _) (fun h => ?_) (fun h => ?_)
    · refine ent_ifT ?_
      refine ent_q (run_byte m) ?_
      refine ent_q (run_or128 (Nat.mod_lt _ (by omega))) ?_
      have e : m % 256 % 128 + 128 = m % 128 + 128 := by omega
      rw [e]
      refine ent_put1 (by omega) ho fun v' => ?_
      refine ent_q run_shr7 ?_
      exact hnext v' (by omega)
    · refine ent_ifF ?_
      refine ent_q (run_byte m) ?_
      rw [Nat.mod_eq_of_lt (by omega : m < 256)]
      refine ent_put1 (by omega) ho fun v' => ?_
      refine ent_ret v' rfl ?_
      rw [← heq, enc_lt (by omega : m < 128)]
      exact Imp.refl _
  refine ent_scope (ι := Nat × List UInt8 × Value) (fun s => s.2.1.length + (enc s.1).length ≤ 1099511627776 ∧ s.2.1 ++ enc s.1 = l ++ enc n.toNat) (fun s => [.int .i64 (s.1 : Nat), s.2.2, .slice none 0 0]) (fun s => vecB s.2.2 5 s.2.1 :: F) (fun s => s.1) ?_ ?_
  · intro next hnext
    refine ent_call (clone_bytes b l (by omega)) (Imp.refl _) fun v => ?_
    refine ent_q (run_max _ _) ?_
    have e : max n 0 = ((n.toNat : Nat) : Int) := by omega
    rw [e]
    have h9 := enc_len9 (n := n.toNat) (by omega)
    refine key n.toNat l v (.slice none 0 0) next (by omega) rfl fun v' hm => ?_
    rw [enc_ge (by omega)] at h9
    refine hnext (n.toNat / 128, l ++ [UInt8.ofNat (n.toNat % 128 + 128)], v') ⟨?_, ?_⟩
    · simp only [List.length_append, List.length_cons, List.length_nil] at h9 ⊢; omega
    · rw [enc_ge (n := n.toNat) (by omega)]; simp
  · intro s hs g next hnext
    refine key s.1 s.2.1 s.2.2 (.slice none 0 0) next (by omega) hs.2 fun v' hm => ?_
    have hsl := hs.1
    rw [enc_ge (by omega)] at hsl
    refine hnext (s.1 / 128, s.2.1 ++ [UInt8.ofNat (s.1 % 128 + 128)], v') ⟨?_, ?_⟩ (by simp only; omega)
    · simp only [List.length_append, List.length_cons, List.length_nil] at hsl ⊢; omega
    · rw [← hs.2, enc_ge (n := s.1) (by omega)]; simp
theorem raw_get (b : Value) (l : List UInt8) (p : Int) (hl : l.length ≤ 1099511627776) :
    Spec w0 188 [b, .int .i64 p] [roB w0 b l] (fun _ : Unit => .tuple #[.int .i64 ((getB l p).1 : Nat), .int .i64 ((getB l p).2.1 : Nat), .int .i64 ((getB l p).2.2 : Nat)]) (fun _ => [roB w0 b l]) := by
  refine spec_go (fun R w => H188) fun F => ?_
  show Ent w0 (roB w0 b l :: F) _
  unfold F188
  have key : ∀ (i acc : Nat) (r1 r2 : Value) (next : List Value → World → Prop), 0 ≤ p → p ≤ l.length → i < 9 → p.toNat + i ≤ l.length → acc < 128 ^ i → getL (l.drop p.toNat) 0 0 = getL (l.drop (p.toNat + i)) i acc →
      (∀ acc', i + 1 < 9 → p.toNat + (i + 1) ≤ l.length → acc' < 128 ^ (i + 1) → getL (l.drop p.toNat) 0 0 = getL (l.drop (p.toNat + (i + 1))) (i + 1) acc' → Ent w0 (roB w0 b l :: F) (next [.int .i64 ((i + 1 : Nat) : Int), .int .i64 (acc' : Nat), r1, r2])) →
      Ent w0 (roB w0 b l :: F) (getPass b (.int .i64 p) (fun v w' => ∃ _ : Unit, v = .tuple #[.int .i64 ((getB l p).1 : Nat), .int .i64 ((getB l p).2.1 : Nat), .int .i64 ((getB l p).2.2 : Nat)] ∧ Sat w0 ([roB w0 b l] ++ F) w') [.int .i64 (i : Nat), .int .i64 (acc : Nat), r1, r2] next) := by
    intro i acc r1 r2 next hp0 hp1 hi hil hacc heq hnext
    have hgB : getB l p = ((getL (l.drop p.toNat) 0 0).1, (if (getL (l.drop p.toNat) 0 0).2.2 = 0 then p.toNat + (getL (l.drop p.toNat) 0 0).2.1 else 0), (getL (l.drop p.toNat) 0 0).2.2) := by
      unfold getB; rw [if_pos ⟨hp0, hp1⟩]
    unfold getPass
    refine Ent.ro fun a cap R hv hln hrd => ?_
    subst hv
    refine ent_q (run_add64 (by omega)) ?_
    have e : p + ((i : Nat) : Int) = ((p.toNat + i : Nat) : Int) := by omega
    rw [e]
    refine ent_q run_len ?_
    refine ent_qb (run_eq _ _) (fun h => ?_) (fun h => ?_)
    · refine ent_ifT ?_
      have hd : l.drop (p.toNat + i) = [] := List.drop_eq_nil_of_le (by omega)
      rw [hd] at heq
      refine ent_ret () ?_ (by (repeat refine Imp.pick 1 rfl ?_); exact Imp.drop1)
      rw [hgB, heq]; rfl
    · refine ent_ifF ?_
      have hlt : p.toNat + i < l.length := by omega
      have hd : l.drop (p.toNat + i) = l[p.toNat + i] :: l.drop (p.toNat + i + 1) := List.drop_eq_getElem_cons hlt
      have hg : l[p.toNat + i]? = some l[p.toNat + i] := List.getElem?_eq_getElem hlt
      generalize l[p.toNat + i] = c at *
      have hc := u8_lt c
      refine ent_q (run_add64 (by omega)) ?_
      rw [e]
      obtain ⟨bb, o, rfl, hcell⟩ := RdS.cell8 (hrd (R :: roB w0 (.slice a l.length cap) l :: F) 0 rfl) hg
      refine ent_q (run_indexS (p.toNat + i) rfl hlt) ?_
      rw [Nat.mul_one]
      refine ent_q (run_load hcell) ?_
      refine ent_q (run_and127 hc) ?_
      refine ent_q (run_int8 _ (by omega)) ?_
      refine ent_q (run_mul64 (by omega)) ?_
      refine ent_q (run_shl7 (by omega) hi) ?_
      refine ent_q (run_orTop hacc (by omega) hi) ?_
      refine ent_q (run_add64 (by omega)) ?_
      rw [show ((i : Nat) : Int) + 1 = ((i + 1 : Nat) : Int) by omega]
      rw [hd] at heq
      simp only [getL] at heq
      have hstep : acc + c.toNat % 128 * 128 ^ i < 128 ^ (i + 1) := by
        have h1 : c.toNat % 128 ≤ 127 := by omega
        have h2 := Nat.mul_le_mul_right (128 ^ i) h1
        rw [Nat.pow_succ]; omega
      generalize acc + c.toNat % 128 * 128 ^ i = acc' at *
      refine ent_qb (run_ge _ _) (fun h1 => ?_) (fun h1 => ?_)
      · refine ent_ifT ?_
        rw [if_pos (by omega)] at heq
        refine ent_qb (run_eq _ _) (fun h2 => ?_) (fun h2 => ?_)
        · refine ent_ifT ?_
          rw [if_pos (by omega)] at heq
          refine ent_ret () ?_ (by (repeat refine Imp.pick 1 rfl ?_); exact Imp.drop1)
          rw [hgB, heq]; rfl
        · refine ent_ifF ?_
          rw [if_neg (by omega)] at heq
          exact Ent.imp Imp.drop1 (hnext acc' (by omega) (by omega) hstep heq)
      · refine ent_ifF ?_
        rw [if_neg (by omega)] at heq
        refine ent_qb (run_eq _ _) (fun h2 => ?_) (fun h2 => ?_)
        · (repeat (first | refine ent_gT ?_ | refine ent_j ?_))
          refine ent_qb (run_gt _ _) (fun h3 => ?_) (fun h3 => ?_)
          · (repeat (first | refine ent_ifT ?_ | refine ent_pT ?_))
            rw [if_pos (by omega)] at heq
            refine ent_ret () ?_ (by (repeat refine Imp.pick 1 rfl ?_); exact Imp.drop1)
            rw [hgB, heq]; rfl
          · (repeat (first | refine ent_ifF ?_ | refine ent_pT ?_))
            rw [if_neg (by omega)] at heq
            refine ent_q (run_add64 (by omega)) ?_
            refine ent_ret () ?_ (by (repeat refine Imp.pick 1 rfl ?_); exact Imp.drop1)
            rw [hgB, heq, show p + ((i + 1 : Nat) : Int) = ((p.toNat + (i + 1) : Nat) : Int) by omega]
            rfl
        · (repeat (first | refine ent_ifF ?_ | refine ent_gF ?_ | refine ent_pF ?_ | refine ent_j ?_))
          rw [if_neg (by omega)] at heq
          refine ent_q (run_add64 (by omega)) ?_
          refine ent_ret () ?_ (by (repeat refine Imp.pick 1 rfl ?_); exact Imp.drop1)
          rw [hgB, heq, show p + ((i + 1 : Nat) : Int) = ((p.toNat + (i + 1) : Nat) : Int) by omega]
          rfl
  refine ent_scope (ι := Nat × Nat) (fun s => 0 ≤ p ∧ p ≤ l.length ∧ s.1 < 9 ∧ p.toNat + s.1 ≤ l.length ∧ s.2 < 128 ^ s.1 ∧ getL (l.drop p.toNat) 0 0 = getL (l.drop (p.toNat + s.1)) s.1 s.2) (fun s => [.int .i64 (s.1 : Nat), .int .i64 (s.2 : Nat), .int .i64 0, .int .i64 0]) (fun s => roB w0 b l :: F) (fun s => 9 - s.1) ?_ ?_
  · intro next hnext
    refine ent_call (raw_within b l p) (Imp.refl _) fun _ => ?_
    by_cases hp : 0 ≤ p ∧ p ≤ l.length
    · rw [decide_eq_true hp]
      (repeat (first | refine ent_ifF ?_ | refine ent_q (run_notT) ?_))
      refine key 0 0 (.int .i64 0) (.int .i64 0) next hp.1 hp.2 (by omega) (by omega) (by simp) (by simp) fun acc' h1 h2 h3 h4 => ?_
      exact hnext (1, acc') ⟨hp.1, hp.2, h1, h2, h3, h4⟩
    · rw [decide_eq_false hp]
      (repeat (first | refine ent_ifT ?_ | refine ent_q (run_notF) ?_))
      refine ent_ret () ?_ (Imp.refl _)
      unfold getB; rw [if_neg hp]; rfl
  · rintro ⟨i, acc⟩ ⟨h1, h2, h3, h4, h5, h6⟩ g next hnext
    refine key i acc (.int .i64 0) (.int .i64 0) next h1 h2 h3 h4 h5 h6 fun acc' h7 h8 h9 h10 => ?_
    exact hnext (i + 1, acc') ⟨h1, h2, h7, h8, h9, h10⟩ (by simp only; omega)
theorem raw_getText (b : Value) (l : List UInt8) (p most : Int) (hl : l.length ≤ 1099511627776) :
    Spec w0 189 [b, .int .i64 p, .int .i64 most] [roB w0 b l] (fun v : Value => .tuple #[v, .int .i64 ((getT l p most).2.1 : Nat), .int .i64 ((getT l p most).2.2 : Nat)]) (fun v => [vecB v 5 (getT l p most).1, roB w0 b l]) := by
  refine spec_go (fun R w => H189) fun F => ?_
  show Ent w0 (roB w0 b l :: F) _
  unfold F189
  refine ent_call (raw_get b l p hl) (Imp.refl _) fun _ => ?_
  (repeat refine ent_q (run_ex rfl) ?_)
  have hle := getB_le l p
  have hval := getB_val l p
  by_cases h1 : (getB l p).2.2 = 0
  · refine ent_q ((run_ne _ _).F (by omega)) ?_
    (repeat refine ent_ifF ?_)
    refine ent_qb (run_gt _ _) (fun h2 => ?_) (fun h2 => ?_)
    · (repeat refine ent_ifT ?_)
      have e : getT l p most = ([], 0, 4) := by unfold getT; rw [if_neg (by omega), if_pos (by omega)]
      rw [e]
      exact ent_ret (.slice none 0 0) rfl (Imp.vec0 rfl (Imp.refl _))
    · (repeat refine ent_ifF ?_)
      show Ent w0 (roB w0 b l :: F) _
      refine Ent.roC fun a cap R hv hln hcap hrd => ?_
      subst hv
      refine ent_q run_len ?_
      refine ent_q (run_sub64 (by omega)) ?_
      refine ent_qb (run_gt _ _) (fun h3 => ?_) (fun h3 => ?_)
      · (repeat refine ent_ifT ?_)
        have e : getT l p most = ([], 0, 1) := by unfold getT; rw [if_neg (by omega), if_neg (by omega), if_pos (by omega)]
        rw [e]
        exact ent_ret (.slice none 0 0) rfl (Imp.vec0 rfl (by (repeat refine Imp.pick 1 rfl ?_); exact Imp.drop1))
      · (repeat refine ent_ifF ?_)
        have e : getT l p most = ((l.drop (getB l p).2.1).take (getB l p).1, (getB l p).2.1 + (getB l p).1, 0) := by unfold getT; rw [if_neg (by omega), if_neg (by omega), if_neg (by omega)]
        rw [e]
        refine ent_q (run_add64 (by omega)) ?_
        refine ent_q (run_slice (getB l p).2.1 ((getB l p).2.1 + (getB l p).1) rfl (by omega) (by omega) (by omega)) ?_
        refine Ent.at 1 rfl (Ent.roDup (Ent.imp (Imp.roPart (lo := (getB l p).2.1) (hi := (getB l p).2.1 + (getB l p).1) (by omega) (by omega)) ?_))
        rw [Nat.mul_one, Nat.mul_one, by8_part, Nat.add_sub_cancel_left]
        have hlen : ((l.drop (getB l p).2.1).take (getB l p).1).length = (getB l p).1 := by rw [List.length_take, List.length_drop]; omega
        generalize hT : (l.drop (getB l p).2.1).take (getB l p).1 = T at *
        rw [← hlen]
        refine ent_call (clone_bytes _ T (by omega)) (by (repeat refine Imp.pick 0 rfl ?_); exact Imp.refl _) fun v => ?_
        refine ent_q (run_add64 (by omega)) ?_
        refine ent_ret v ?_ (by (repeat refine Imp.pick 0 rfl ?_); exact Imp.drop1)
        simp only [Int.natCast_add]
        rfl
  · refine ent_q ((run_ne _ _).T (by omega)) ?_
    (repeat refine ent_ifT ?_)
    have e : getT l p most = ([], 0, (getB l p).2.2) := by unfold getT; rw [if_pos h1]
    rw [e]
    exact ent_ret (.slice none 0 0) rfl (Imp.vec0 rfl (Imp.refl _))
end
end Go.Gd
namespace Go.Gd
structure Shp where
  blocks : Nat
  size : Nat
  clients : Nat
  slots : Nat
structure Shp.Ok (s : Shp) : Prop where
  blocks : 1 ≤ s.blocks ∧ s.blocks ≤ 32
  size : 1 ≤ s.size ∧ s.size ≤ 16
  clients : 1 ≤ s.clients ∧ s.clients ≤ 4
  slots : 1 ≤ s.slots ∧ s.slots ≤ 4
def nums (l : List Nat) : List UInt8 := l.flatMap enc
theorem nums_cons (n : Nat) (l : List Nat) : nums (n :: l) = enc n ++ nums l := rfl
theorem nums_app (l : List Nat) (n : Nat) : nums (l ++ [n]) = nums l ++ enc n := by simp [nums]
def txt (b t : List UInt8) : List UInt8 := b ++ enc t.length ++ t
structure Rd where
  pos : Nat
  ok : Bool
def rNum (l : List UInt8) (r : Rd) : Nat × Rd := if r.ok then ((getB l r.pos).1, ⟨(getB l r.pos).2.1, decide ((getB l r.pos).2.2 = 0)⟩) else (0, r)
def rText (l : List UInt8) (size : Nat) (r : Rd) : List UInt8 × Rd :=
  if r.ok then ((getT l r.pos size).1, ⟨r.pos, decide ((getT l r.pos size).2.2 = 0) && (decide ((getT l r.pos size).1.length = size) && decide ((getT l r.pos size).2.1 = l.length))⟩) else ([], r)
def rNums (l : List UInt8) : Nat → Rd → List Nat × Rd
  | 0, r => ([], r)
  | n + 1, r => ((rNums l n r).1 ++ [(rNum l (rNums l n r).2).1], (rNum l (rNums l n r).2).2)
def rd0 : Rd := ⟨0, true⟩
def blkF (size : Nat) (l : List UInt8) : Nat × List UInt8 :=
  if (rText l size (rNum l rd0).2).2.ok = true ∧ (rNum l rd0).1 ≤ 1000 then ((rNum l rd0).1, (rText l size (rNum l rd0).2).1) else (0, List.replicate size 0)
def lastF (l : List UInt8) : Nat × Nat × Nat :=
  if (rNums l 3 rd0).2.ok = true ∧ (rNums l 3 rd0).2.pos = l.length ∧ (rNums l 3 rd0).1.getD 0 0 ≤ 1099511627776 ∧ (rNums l 3 rd0).1.getD 1 0 ≤ 1099511627776 ∧ (rNums l 3 rd0).1.getD 2 0 ≤ 16
  then ((rNums l 3 rd0).1.getD 0 0, (rNums l 3 rd0).1.getD 1 0, (rNums l 3 rd0).1.getD 2 0) else (0, 0, 0)
structure Wr where
  client : Int
  slot : Int
  boot : Int
  op : Int
  block : Int
  data : List UInt8
def Shp.fits (s : Shp) (w : Wr) : Prop := 0 ≤ w.client ∧ w.client < s.clients ∧ 0 ≤ w.slot ∧ w.slot < s.slots ∧ 1 ≤ w.boot ∧ w.boot ≤ 1099511627776 ∧ 1 ≤ w.op ∧ w.op ≤ 1099511627776
instance (s : Shp) (w : Wr) : Decidable (s.fits w) := by unfold Shp.fits; infer_instance
def Shp.need (s : Shp) : Nat := 1 + s.blocks + s.clients * s.slots
def Shp.slotAt (s : Shp) (c k : Nat) : Nat := 1 + s.blocks + s.slots * c + k
def jrnW (size : Nat) (l : List UInt8) : Wr := let r := rNums l 6 rd0; ⟨r.1.getD 0 0, r.1.getD 1 0, r.1.getD 2 0, r.1.getD 3 0, r.1.getD 4 0, (rText l size r.2).1⟩
def jrnV (l : List UInt8) : Nat := (rNums l 6 rd0).1.getD 5 0
def Shp.jrnIs (s : Shp) (l : List UInt8) : Prop := (rText l s.size (rNums l 6 rd0).2).2.ok = true ∧ s.fits (jrnW s.size l) ∧ (jrnW s.size l).block < s.blocks ∧ 1 ≤ jrnV l ∧ jrnV l ≤ 1000
instance (s : Shp) (l : List UInt8) : Decidable (s.jrnIs l) := by unfold Shp.jrnIs; infer_instance
def wrSeq : List (Nat × List UInt8) → Dk → Int × Dk
  | [], D => (0, D)
  | (a, b) :: l, D => if (D.write a b).1 ≠ 0 then D.write a b else wrSeq l (D.write a b).2
def Shp.does (s : Shp) (w : Wr) (v : Nat) (D : Dk) : Int × Dk :=
  wrSeq [(1 + w.block.toNat, txt (nums [v]) w.data), (s.slotAt w.client.toNat w.slot.toNat, nums [w.boot.toNat, w.op.toNat, 0]), (0, [])] D
def Shp.open (s : Shp) (D : Dk) : Int × Dk := if s.jrnIs (D.l 0) then s.does (jrnW s.size (D.l 0)) (jrnV (D.l 0)) D else (0, D)
def Shp.blk (s : Shp) (D : Dk) (b : Nat) : Nat × List UInt8 := blkF s.size (D.l (1 + b))
def Shp.last (s : Shp) (D : Dk) (c k : Nat) : Nat × Nat × Nat := lastF (D.l (s.slotAt c k))
def jrnB (w : Wr) (v : Nat) : List UInt8 := txt (nums [w.client.toNat, w.slot.toNat, w.boot.toNat, w.op.toNat, w.block.toNat, v]) w.data
def Shp.write (s : Shp) (w : Wr) (D : Dk) : Int × Int × Dk :=
  if w.block < 0 ∨ s.blocks ≤ w.block then (0, 9, D)
  else if w.data.length ≠ s.size then (0, 10, D)
  else if ¬ s.fits w then (0, 6, D)
  else if w.boot < (s.last D w.client.toNat w.slot.toNat).1 ∨ w.boot = (s.last D w.client.toNat w.slot.toNat).1 ∧ w.op < (s.last D w.client.toNat w.slot.toNat).2.1 then (0, 12, D)
  else if w.boot = (s.last D w.client.toNat w.slot.toNat).1 ∧ w.op = (s.last D w.client.toNat w.slot.toNat).2.1 then ((s.last D w.client.toNat w.slot.toNat).2.2, 0, D)
  else if (s.blk D w.block.toNat).1 = 1000 then
    (if (D.write (s.slotAt w.client.toNat w.slot.toNat) (nums [w.boot.toNat, w.op.toNat, 11])).1 ≠ 0 then (0, (D.write (s.slotAt w.client.toNat w.slot.toNat) (nums [w.boot.toNat, w.op.toNat, 11]))) else (11, (D.write (s.slotAt w.client.toNat w.slot.toNat) (nums [w.boot.toNat, w.op.toNat, 11]))))
  else if (D.write 0 (jrnB w ((s.blk D w.block.toNat).1 + 1))).1 ≠ 0 then (0, D.write 0 (jrnB w ((s.blk D w.block.toNat).1 + 1)))
  else (0, s.does w ((s.blk D w.block.toNat).1 + 1) (D.write 0 (jrnB w ((s.blk D w.block.toNat).1 + 1))).2)
structure Dk.Ok (D : Dk) : Prop where
  len : ∀ i, (D.l i).length ≤ 64
  fuse : -1 ≤ D.fuse ∧ D.fuse ≤ 9223372036854775807
theorem Dk.Ok.write {D : Dk} (h : D.Ok) {a : Nat} {b : List UInt8} (hb : b.length ≤ 64) : (D.write a b).2.Ok := by
  have h2 := h.fuse
  unfold Dk.write
  split
  · exact h
  · split
    · exact ⟨h.len, h.fuse⟩
    · refine ⟨fun i => ?_, by simp only; omega⟩
      simp only [upF]
      split
      · exact hb
      · exact h.len i
theorem Dk.Ok.seq {l : List (Nat × List UInt8)} (hl : ∀ x ∈ l, x.2.length ≤ 64) : ∀ {D : Dk}, D.Ok → (wrSeq l D).2.Ok := by
  induction l with
  | nil => exact fun h => h
  | cons x l ih =>
    intro D h
    have h1 := h.write (a := x.1) (b := x.2) (hl x List.mem_cons_self)
    unfold wrSeq
    split
    · exact h1
    · exact ih (fun y hy => hl y (List.mem_cons_of_mem _ hy)) h1
theorem enc40 {n : Nat} (h : n ≤ 1099511627776) : (enc n).length ≤ 6 := enc_len (k := 5) (by omega)
theorem enc14 {n : Nat} (h : n < 16384) : (enc n).length ≤ 2 := enc_len (k := 1) (by omega)
theorem enc7 {n : Nat} (h : n < 128) : (enc n).length = 1 := by rw [enc_lt h]; rfl
theorem Shp.fits.small {s : Shp} (hs : s.Ok) {w : Wr} (h : s.fits w) : w.client.toNat < 4 ∧ w.slot.toNat < 4 ∧ w.boot.toNat ≤ 1099511627776 ∧ w.op.toNat ≤ 1099511627776 := by
  have h1 := hs.clients; have h2 := hs.slots
  unfold Shp.fits at h
  omega
theorem len_txt (b t : List UInt8) (ht : t.length ≤ 16) : (txt b t).length = b.length + 1 + t.length := by
  unfold txt; rw [List.length_append, List.length_append, enc7 (by omega)]
theorem len_blk {v : Nat} {t : List UInt8} (hv : v ≤ 1001) (ht : t.length ≤ 16) : (txt (nums [v]) t).length ≤ 64 := by
  rw [len_txt _ _ ht]
  have := enc14 (n := v) (by omega)
  simp only [nums, List.flatMap_cons, List.flatMap_nil, List.append_nil]
  omega
theorem len_slot {a b c : Nat} (ha : a ≤ 1099511627776) (hb : b ≤ 1099511627776) (hc : c < 128) : (nums [a, b, c]).length ≤ 64 := by
  have h1 := enc40 ha; have h2 := enc40 hb; have h3 := enc7 hc
  simp only [nums, List.flatMap_cons, List.flatMap_nil, List.append_nil, List.length_append]
  omega
theorem len_jrn {s : Shp} (hs : s.Ok) {w : Wr} (h : s.fits w) {v : Nat} (hv : v ≤ 1001) (ht : w.data.length ≤ 16) (hb : w.block.toNat < 128) : (jrnB w v).length ≤ 64 := by
  obtain ⟨h1, h2, h3, h4⟩ := h.small hs
  unfold jrnB
  rw [len_txt _ _ ht]
  have e1 := enc7 (n := w.client.toNat) (by omega)
  have e2 := enc7 (n := w.slot.toNat) (by omega)
  have e3 := enc40 h3; have e4 := enc40 h4
  have e5 := enc7 hb
  have e6 := enc14 (n := v) (by omega)
  simp only [nums, List.flatMap_cons, List.flatMap_nil, List.append_nil, List.length_append]
  omega
end Go.Gd
