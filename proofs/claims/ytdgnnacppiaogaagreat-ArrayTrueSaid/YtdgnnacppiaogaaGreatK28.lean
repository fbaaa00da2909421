/- The contracts of package cache, third part: New. Conditions: those in the theorems. The plain law of numbers as bytes. Conditions: those in the theorems. The contracts of package raw. Conditions: those in the theorems. -/
import Derived.Test.YtdgnnacppiaogaaGreatK27
import Derived.Test.YtdgnnacppiaogaaGreatK15
import Derived.Test.YtdgnnacppiaogaaGreatK8
import Derived.Test.YtdgnnacppiaogaaGreatK25
import Derived.Test.YtdgnnacppiaogaaGreatK12
set_option linter.unusedVariables false
set_option linter.unusedSimpArgs false
namespace Go.Gd
open Go.Instr
attribute [local irreducible] loadAt storeAt fieldAt indexAt alloc box build buildSlice hNil eqG binOp Op.unary extract makeSlice makeInterface makeFunc convert hV mV pV hU hF hFV hI hIf hGuard hPick hJ hDraw hLoop ro Instr.index planI spaceH ptH mqH lruH lookup mapUpdate typeAssert mpI
def capN (c : Cfg) (i : Nat) : Nat := (c.cap i).toNat
structure CaN where
  k : Nat
  a : Nat
  p : Nat
  mb : Nat
  q : Nat
  hv : Value
  pv : Value
def mqC (c : Cfg) (tier : Nat) : MqC := ⟨capN c (tier - 1), c.queues.toNat, c.life.toNat, c.ghost.toNat⟩
def Ord.new (c : Cfg) (tier : Nat) (x : CaN) : Ord :=
  if c.place = 2 then .part ⟨x.q, c.blocks, capN c, c.hints, x.hv, x.pv, tier⟩ (lkNew (c.hints.length + 1))
  else if c.pol (tier - 1) = 2 then .mq (mqC c tier) (MqS.new (mqC c tier))
  else .lru (capN c (tier - 1)) []
theorem cfg_facts {c : Cfg} (h : cfgRight c = true) : CfgP c ∧ c.hints.length ≤ 8 ∧ (∀ x ∈ c.hints, HintP c.blocks x) ∧ hintsB c.hints c.blocks = true := by
  obtain ⟨h1, h2⟩ := cfgRight_ok h
  exact ⟨h1, (hintsB_ok h2).1, (hintsB_ok h2).2, h2⟩
theorem mqC_right {c : Cfg} (h : CfgP c) {tier : Nat} (ht : 1 ≤ tier ∧ tier ≤ 3) : (mqC c tier).Right := by
  obtain ⟨h1, h2, h3, h4, h5, h6, h7, h8, h9, h10, h11, h12, h13⟩ := h
  have := h1 (tier - 1) (by omega)
  unfold MqC.Right mqC capN
  dsimp only
  omega
theorem ordNew_fine {c : Cfg} (h : cfgRight c = true) {tier : Nat} (ht : 1 ≤ tier ∧ tier ≤ 3) (x : CaN) : (Ord.new c tier x).Fine 0 := by
  obtain ⟨hP, h8, hh, _⟩ := cfg_facts h
  have hcap := hP.1 (tier - 1) (by omega)
  unfold Ord.new
  split
  · exact ⟨⟨h8, hh, by show 1 ≤ tier ∧ tier ≤ 3; exact ht⟩, by simp [lkNew]⟩
  · split
    · exact ⟨mqC_right hP ht, by simp [MqS.new, lkNew], Nat.le_refl _, fun _ => Nat.le_refl _⟩
    · exact ⟨by unfold capN; omega, by unfold capN; omega, by simp⟩
section
variable {w0 : World} {L : List HP}
theorem ca_ordered (c : Cfg) (tier : Nat) (hr : cfgRight c = true) (ht : 1 ≤ tier ∧ tier ≤ 3) :
    Spec w0 92 [cfgV c, .int .i64 (tier : Nat)] [ro w0 c.hv 4 c.hints.length (hintsV c.hints)] (fun x : CaN => ordV x.a (Ord.new c tier x)) (fun x => [ordH w0 x.a x.p (Ord.new c tier x)]) := by
  obtain ⟨hP, h8, hh, hB⟩ := cfg_facts hr
  have hP' := hP
  obtain ⟨h1, h2, h3, h4, h5, h6, h7, h9, h10, h11, h12, h13, h14⟩ := hP'
  have hcap : ∀ i, i < 3 → c.cap i = ((capN c i : Nat) : Int) ∧ 1 ≤ capN c i ∧ capN c i ≤ 16 := fun i hi => by have := h1 i hi; unfold capN; omega
  refine spec_go (fun R w => H92) fun F => ?_
  show Ent w0 (ro w0 c.hv 4 c.hints.length (hintsV c.hints) :: F) _
  unfold F92
  refine ent_box fun cb => ?_
  rw [agg_cells, List.toList_toArray]
  refine ent_q (run_sub64 (by omega)) ?_
  (repeat refine ent_q (run_field0 _) ?_)
  refine ent_q (run_indexA (tier - 1) (by omega) (by omega)) ?_
  refine ent_q (run_load (v := .int .i64 (c.cap (tier - 1))) (cell_own 0 rfl (cfgL_cap (by omega)))) ?_
  (repeat refine ent_q (run_field0 _) ?_)
  refine ent_q (run_load (v := .int .i64 c.place) (cell_own 0 rfl rfl)) ?_
  refine ent_qb (run_eq _ _) (fun hp => ?_) (fun hp => ?_)
  · (repeat (first | refine ent_q (run_field0 _) ?_ | refine ent_ifT ?_))
    refine ent_q (run_load (v := c.hv) (cell_own 0 rfl rfl)) ?_
    (repeat refine ent_q (run_field0 _) ?_)
    refine ent_q (run_load (v := .int .i64 c.blocks) (cell_own 0 rfl rfl)) ?_
    (repeat refine ent_q (run_field0 _) ?_)
    refine ent_q (run_loadA (vs := [.int .i64 (c.cap 0), .int .i64 (c.cap 1), .int .i64 (c.cap 2)]) rfl (cells_own 0 rfl (fun j v hj => ?_))) ?_
    · match j with
      | 0 => exact hj
      | 1 => exact hj
      | 2 => exact hj
      | n + 3 => simp at hj
    rw [(hcap 0 (by omega)).1, (hcap 1 (by omega)).1, (hcap 2 (by omega)).1]
    refine ent_call (ka_new c.hv c.hints c.blocks (capN c) h4 hB (fun t ht => (hcap t ht).2)) (by (repeat refine Imp.pick 1 rfl ?_); exact Imp.refl _) fun x => ?_
    (repeat refine ent_q (run_ex rfl) ?_)
    refine ent_call (pt_new ⟨x.1, c.blocks, capN c, c.hints, x.2.1, x.2.2, tier⟩ ⟨h8, hh, ht⟩) (Imp.refl _) fun y => ?_
    (repeat (first | refine ent_q (run_ex rfl) ?_ | refine ent_q (run_mi _) ?_))
    have he : Ord.new c tier ⟨0, y.1, y.2, 0, x.1, x.2.1, x.2.2⟩ = .part ⟨x.1, c.blocks, capN c, c.hints, x.2.1, x.2.2, tier⟩ (lkNew (c.hints.length + 1)) := if_pos hp
    refine ent_ret ⟨0, y.1, y.2, 0, x.1, x.2.1, x.2.2⟩ ?_ ?_
    · rw [he]; rfl
    · rw [he]; exact Imp.trans (Imp.refl _) (by (repeat refine Imp.pick 0 rfl ?_); exact Imp.drop1)
  · (repeat refine ent_ifF ?_)
    refine ent_q (run_sub64 (by omega)) ?_
    (repeat refine ent_q (run_field0 _) ?_)
    refine ent_q (run_indexA (tier - 1) (by omega) (by omega)) ?_
    refine ent_q (run_load (v := .int .i64 (c.pol (tier - 1))) (cell_own 0 rfl (cfgL_pol (by omega)))) ?_
    refine ent_qb (run_eq _ _) (fun hq => ?_) (fun hq => ?_)
    · (repeat (first | refine ent_q (run_field0 _) ?_ | refine ent_ifT ?_))
      refine ent_q (run_load (v := .int .i64 c.queues) (cell_own 0 rfl rfl)) ?_
      (repeat refine ent_q (run_field0 _) ?_)
      refine ent_q (run_load (v := .int .i64 c.life) (cell_own 0 rfl rfl)) ?_
      (repeat refine ent_q (run_field0 _) ?_)
      refine ent_q (run_load (v := .int .i64 c.ghost) (cell_own 0 rfl rfl)) ?_
      refine ent_q (bd217_0_1_2_3 rfl rfl rfl rfl) ?_
      rw [(hcap (tier - 1) (by omega)).1, show c.queues = ((c.queues.toNat : Nat) : Int) by omega, show c.life = ((c.life.toNat : Nat) : Int) by omega, show c.ghost = ((c.ghost.toNat : Nat) : Int) by omega]
      refine ent_call (mq_new (mqC c tier) (mqC_right hP ht)) (Imp.refl _) fun x => ?_
      (repeat (first | refine ent_q (run_ex rfl) ?_ | refine ent_q (run_mi _) ?_))
      have he : Ord.new c tier ⟨0, x.1, x.2, 0, 0, .nilFunc, .nilFunc⟩ = .mq (mqC c tier) (MqS.new (mqC c tier)) := by unfold Ord.new; rw [if_neg hp, if_pos hq]
      refine ent_ret ⟨0, x.1, x.2, 0, 0, .nilFunc, .nilFunc⟩ ?_ ?_
      · rw [he]; rfl
      · rw [he]; exact Imp.trans (Imp.refl _) (by (repeat refine Imp.pick 0 rfl ?_); exact Imp.trans Imp.drop1 (Imp.drop1))
    · (repeat refine ent_ifF ?_)
      refine ent_call (lru_new (c.cap (tier - 1))) (Imp.refl _) fun x => ?_
      (repeat refine ent_q (run_mi _) ?_)
      have he : Ord.new c tier ⟨0, x.1, x.2, 0, 0, .nilFunc, .nilFunc⟩ = .lru (capN c (tier - 1)) [] := by unfold Ord.new; rw [if_neg hp, if_neg hq]
      have hc := hcap (tier - 1) (by omega)
      have e : (max 1 (min (c.cap (tier - 1)) 16)).toNat = capN c (tier - 1) := by unfold capN at *; omega
      rw [e]
      refine ent_ret ⟨0, x.1, x.2, 0, 0, .nilFunc, .nilFunc⟩ ?_ ?_
      · rw [he]; rfl
      · rw [he]; exact Imp.trans (Imp.refl _) (by (repeat refine Imp.pick 0 rfl ?_); exact Imp.trans Imp.drop1 (Imp.drop1))
theorem cfgL_one {c : Cfg} (h : c.hv.oneCell' = true) : ∀ u ∈ cfgL c, u.oneCell' = true := by
  intro u hu
  unfold cfgL at hu
  simp only [List.mem_cons, List.not_mem_nil, or_false] at hu
  rcases hu with rfl | rfl | rfl | rfl | rfl | rfl | rfl | rfl | rfl | rfl | rfl | rfl | rfl | rfl | rfl | rfl | rfl <;> first | rfl | exact h
def Ca.new (c : Cfg) (tier : Nat) (x : CaN) : Ca := ⟨Ord.new c tier x, fun _ => none⟩
theorem caF_new (o : Ord) (vs : Nat → Value) : caF ⟨o, fun _ => none⟩ vs = fun _ => none := by
  funext b; unfold caF; split <;> rfl
theorem ca_new (c : Cfg) (tier : Nat) (hr : cfgRight c = true) (ht : 1 ≤ tier ∧ tier ≤ 3) :
    Spec w0 46 [cfgV c, .int .i64 (tier : Nat)] [ro w0 c.hv 4 c.hints.length (hintsV c.hints)] (fun x : CaN => .tuple #[P0 x.k, .int .i64 0]) (fun x => [caH w0 x.k x.a x.p x.mb c tier (Ca.new c tier x)]) := by
  obtain ⟨hP, h8, hh, hB⟩ := cfg_facts hr
  refine spec_go (fun R w => H46) fun F => ?_
  show Ent w0 (ro w0 c.hv 4 c.hints.length (hintsV c.hints) :: F) _
  refine Ent.ro1 fun hhv => ?_
  unfold F46
  refine ent_box fun cb => ?_
  rw [agg_cells, List.toList_toArray]
  refine ent_q (run_loadA (vs := cfgL c) rfl (cells_all 0 rfl)) ?_
  refine Ent.at 1 rfl (Ent.roDup ?_)
  refine ent_call (cf_right c (by omega)) (by (repeat refine Imp.pick 0 rfl ?_); exact Imp.refl _) fun _ => ?_
  rw [hr]
  (repeat (first | refine ent_gT ?_ | refine ent_q (run_notT) ?_ | refine ent_j ?_))
  refine ent_q ((run_lt _ _).F (by omega)) ?_
  (repeat (first | refine ent_gT ?_ | refine ent_pF ?_ | refine ent_j ?_))
  refine ent_q ((run_gt _ _).F (by omega)) ?_
  (repeat (first | refine ent_q (run_field0 _) ?_ | refine ent_ifF ?_ | refine ent_pF ?_))
  refine ent_q (run_load (v := c.hv) (cell_own 1 rfl rfl)) ?_
  refine ent_call (clone_hints c.hv c.hints (by omega)) (by (repeat refine Imp.pick 0 rfl ?_); exact Imp.refl _) fun cv => ?_
  refine Ent.vecRo (Ent.ro1 fun hcv => ?_)
  (repeat refine ent_q (run_field0 _) ?_)
  refine Ent.to1 (ent_st0 hcv (by show 16 < 17; omega) (l' := cfgL { c with hv := cv }) rfl ?_)
  refine ent_draw [pt cb 25 (cfgL { c with hv := cv })] (by (repeat refine Imp.pick 0 rfl ?_); exact Imp.nil) ?_
  refine ent_m (run_loadA (vs := cfgL { c with hv := cv }) rfl (cells_all 0 rfl)) ?_
  refine ent_m (run_loadA (vs := cfgL { c with hv := cv }) rfl (cells_all 0 rfl)) ?_
  refine Ent.at 1 rfl (Ent.roDup ?_)
  have tail : ∀ (x : CaN), Ent w0 (ordH w0 x.a x.p (Ord.new c tier x) :: mpI x.mb (fun _ => none) :: ro w0 cv 4 c.hints.length (hintsV c.hints) :: pt cb 25 (cfgL { c with hv := cv }) :: F)
      (hAnd (Sat w0 [pt cb 25 (cfgL { c with hv := cv })]) <| pV P (build 157 #[(0, .agg (cfgL { c with hv := cv }).toArray), (1, .int .i64 (tier : Nat)), (2, ordV x.a (Ord.new c tier x)), (3, .map (some x.mb))]) fun t27 =>
      hV P (box 157 t27) fun t28 =>
      hAnd (Sat w0 [pt cb 25 (cfgL { c with hv := cv })]) <| (fun v w' => ∃ x : CaN, v = Value.tuple #[P0 x.k, .int .i64 0] ∧ Sat w0 ([caH w0 x.k x.a x.p x.mb c tier (Ca.new c tier x)] ++ F) w') (.tuple #[t28, (.int .i64 0)])) := by
    intro x
    refine ent_and (by (repeat refine Imp.pick 3 rfl ?_); exact Imp.nil) ?_
    refine ent_p (fun _ => bd157_0_1_2_3 rfl (ordV_one _ _) rfl) ?_
    refine ent_box fun k => ?_
    refine ent_and (by (repeat refine Imp.pick 4 rfl ?_); exact Imp.nil) ?_
    refine ent_ret { x with k := k } rfl ?_
    refine Imp.trans (L2 := pt k 157 (caL x.a x.mb c cv tier (Ord.new c tier x)) :: ordH w0 x.a x.p (Ord.new c tier x) :: mpI x.mb (fun _ => none) :: ro w0 cv 4 c.hints.length (hintsV c.hints) :: F) (by (repeat refine Imp.pick 0 rfl ?_); exact Imp.drop1) ?_
    refine Imp.ca (S := Ca.new c tier { x with k := k }) (cv := cv) (vs := fun _ => .nilFunc) ?_
    unfold Ca.new
    rw [caF_new]
    refine Imp.cons (Imp.cons (Imp.cons ?_))
    exact Imp.allOf (fun i _ M => Imp.pureI trivial (Imp.refl _)) (Imp.refl _)
  refine ent_and2 ?_ ?_
  · refine ent_call (ca_ordered { c with hv := cv } tier hr ht) (by (repeat refine Imp.pick 0 rfl ?_); exact Imp.refl _) fun x => ?_
    refine ent_and (by (repeat refine Imp.pick 2 rfl ?_); exact Imp.nil) ?_
    refine ent_makeMap fun mb => ?_
    refine Ent.imp ?_ (tail { x with mb := mb })
    exact (by (repeat (first | refine Imp.pick 0 rfl ?_ | refine Imp.pick 1 rfl ?_)); exact Imp.refl _)
  · refine ent_makeMap fun mb => ?_
    refine ent_and (by (repeat refine Imp.pick 3 rfl ?_); exact Imp.nil) ?_
    refine ent_call (ca_ordered { c with hv := cv } tier hr ht) (by (repeat refine Imp.pick 1 rfl ?_); exact Imp.refl _) fun x => ?_
    refine Ent.imp ?_ (tail { x with mb := mb })
    exact (by (repeat refine Imp.pick 0 rfl ?_); exact Imp.refl _)
theorem ca_new0 (c : Cfg) (tier : Nat) (hr : cfgRight c = false) (hl : c.hints.length ≤ 1000000) :
    Spec w0 46 [cfgV c, .int .i64 (tier : Nat)] [ro w0 c.hv 4 c.hints.length (hintsV c.hints)] (fun _ : Unit => .tuple #[.pointer none, .int .i64 6]) (fun _ => []) := by
  refine spec_go (fun R w => H46) fun F => ?_
  show Ent w0 (ro w0 c.hv 4 c.hints.length (hintsV c.hints) :: F) _
  unfold F46
  refine ent_box fun cb => ?_
  rw [agg_cells, List.toList_toArray]
  refine ent_q (run_loadA (vs := cfgL c) rfl (cells_all 0 rfl)) ?_
  refine ent_call (cf_right c hl) (by (repeat refine Imp.pick 1 rfl ?_); exact Imp.refl _) fun _ => ?_
  rw [hr]
  (repeat (first | refine ent_ifT ?_ | refine ent_gF' ?_ | refine ent_pT ?_ | refine ent_q (run_notF) ?_ | refine ent_j ?_))
  exact ent_ret () rfl (by exact Imp.drop1)
end
end Go.Gd
namespace Go.Gd
def enc (n : Nat) : List UInt8 := if _h : n < 128 then [UInt8.ofNat n] else UInt8.ofNat (n % 128 + 128) :: enc (n / 128)
termination_by n
decreasing_by omega
theorem enc_lt {n : Nat} (h : n < 128) : enc n = [UInt8.ofNat n] := by rw [enc]; simp [h]
theorem enc_ge {n : Nat} (h : ¬ n < 128) : enc n = UInt8.ofNat (n % 128 + 128) :: enc (n / 128) := by rw [enc]; simp [h]
theorem u8_nat {n : Nat} (h : n < 256) : (UInt8.ofNat n).toNat = n := by
  rw [UInt8.toNat_ofNat']; exact Nat.mod_eq_of_lt h
theorem u8_lt (x : UInt8) : x.toNat < 256 := x.toNat_lt
theorem enc_pos (n : Nat) : 0 < (enc n).length := by
  by_cases h : n < 128
  · rw [enc_lt h]; simp
  · rw [enc_ge h]; simp
theorem enc_len : ∀ {k n : Nat}, n < 128 ^ (k + 1) → (enc n).length ≤ k + 1
  | 0, n, h => by rw [enc_lt (by simpa using h)]; simp
  | k + 1, n, h => by
    by_cases h1 : n < 128
    · rw [enc_lt h1]; simp
    · rw [enc_ge h1, List.length_cons]
      have : n / 128 < 128 ^ (k + 1) := Nat.div_lt_of_lt_mul (by rw [Nat.pow_succ, Nat.mul_comm] at h; exact h)
      have := enc_len this
      omega
theorem enc_len9 {n : Nat} (h : n ≤ 9223372036854775807) : (enc n).length ≤ 9 := enc_len (k := 8) (by omega)
def getL : List UInt8 → Nat → Nat → Nat × Nat × Nat
  | [], _, _ => (0, 0, 1)
  | c :: t, i, acc =>
    if 128 ≤ c.toNat then (if i + 1 = 9 then (0, 0, 2) else getL t (i + 1) (acc + c.toNat % 128 * 128 ^ i))
    else if c.toNat = 0 ∧ 1 < i + 1 then (0, 0, 2) else (acc + c.toNat % 128 * 128 ^ i, i + 1, 0)
def getB (l : List UInt8) (p : Int) : Nat × Nat × Nat :=
  if 0 ≤ p ∧ p ≤ l.length then ((getL (l.drop p.toNat) 0 0).1, (if (getL (l.drop p.toNat) 0 0).2.2 = 0 then p.toNat + (getL (l.drop p.toNat) 0 0).2.1 else 0), (getL (l.drop p.toNat) 0 0).2.2) else (0, 0, 3)
theorem getL_err : ∀ (l : List UInt8) (i acc : Nat), (getL l i acc).2.2 ≠ 0 → (getL l i acc).1 = 0 ∧ (getL l i acc).2.1 = 0
  | [], _, _, _ => ⟨rfl, rfl⟩
  | c :: t, i, acc, h => by
    unfold getL at h ⊢
    split
    · rename_i h1
      rw [if_pos h1] at h
      split
      · exact ⟨rfl, rfl⟩
      · rename_i h2
        rw [if_neg h2] at h
        exact getL_err t _ _ h
    · rename_i h1
      rw [if_neg h1] at h
      split
      · exact ⟨rfl, rfl⟩
      · rename_i h2
        rw [if_neg h2] at h
        exact absurd rfl h
theorem getL_ok : ∀ (l : List UInt8) (i acc : Nat), acc < 128 ^ i → i < 9 → (getL l i acc).2.2 = 0 → i + 1 ≤ (getL l i acc).2.1 ∧ (getL l i acc).2.1 ≤ i + l.length ∧ (getL l i acc).2.1 ≤ 9 ∧ (getL l i acc).1 < 128 ^ (getL l i acc).2.1
  | [], i, acc, _, _, h => by simp [getL] at h
  | c :: t, i, acc, ha, hi, h => by
    have hstep : acc + c.toNat % 128 * 128 ^ i < 128 ^ (i + 1) := by
      have h1 : c.toNat % 128 ≤ 127 := by omega
      have h2 := Nat.mul_le_mul_right (128 ^ i) h1
      rw [Nat.pow_succ]; omega
    unfold getL at h ⊢
    split
    · rename_i h1
      rw [if_pos h1] at h
      split
      · rename_i h2
        rw [if_pos h2] at h
        simp at h
      · rename_i h2
        rw [if_neg h2] at h
        obtain ⟨a, b, c', d⟩ := getL_ok t (i + 1) _ hstep (by omega) h
        refine ⟨by omega, by simp only [List.length_cons]; omega, c', d⟩
    · rename_i h1
      rw [if_neg h1] at h
      split
      · rename_i h2
        rw [if_pos h2] at h
        simp at h
      · exact ⟨Nat.le_refl _, by simp only [List.length_cons]; omega, by simp only; omega, hstep⟩
theorem getL_enc (n : Nat) : ∀ (rest : List UInt8) (i acc : Nat), i + (enc n).length ≤ 9 → (n ≠ 0 ∨ i = 0) → getL (enc n ++ rest) i acc = (acc + n * 128 ^ i, i + (enc n).length, 0) := by
  induction n using Nat.strongRecOn with
  | _ n ih =>
    intro rest i acc hl hn
    by_cases h : n < 128
    · rw [enc_lt h]
      simp only [List.cons_append, List.nil_append, getL, u8_nat (show n < 256 by omega), List.length_cons, List.length_nil]
      rw [if_neg (by omega), if_neg (by omega), Nat.mod_eq_of_lt h]
    · rw [enc_ge h] at hl ⊢
      have hp := enc_pos (n / 128)
      simp only [List.length_cons] at hl
      simp only [List.cons_append, getL, u8_nat (show n % 128 + 128 < 256 by omega), List.length_cons]
      rw [if_pos (by omega), if_neg (by omega), ih (n / 128) (by omega) rest (i + 1) _ (by omega) (.inl (by omega))]
      have e : (n % 128 + 128) % 128 = n % 128 := by omega
      rw [e]
      have e2 : n % 128 * 128 ^ i + n / 128 * 128 ^ (i + 1) = n * 128 ^ i := by
        have h3 : n / 128 * 128 ^ (i + 1) = (128 * (n / 128)) * 128 ^ i := by rw [Nat.pow_succ, Nat.mul_comm 128, Nat.mul_assoc, Nat.mul_comm 128]
        rw [h3, ← Nat.add_mul, Nat.mod_add_div]
      have e3 : acc + n % 128 * 128 ^ i + n / 128 * 128 ^ (i + 1) = acc + n * 128 ^ i := by rw [Nat.add_assoc, e2]
      rw [e3]
      congr 2
      omega
def getT (l : List UInt8) (p most : Int) : List UInt8 × Nat × Nat :=
  if (getB l p).2.2 ≠ 0 then ([], 0, (getB l p).2.2)
  else if most < (getB l p).1 then ([], 0, 4)
  else if (l.length : Int) - (getB l p).2.1 < (getB l p).1 then ([], 0, 1)
  else ((l.drop (getB l p).2.1).take (getB l p).1, (getB l p).2.1 + (getB l p).1, 0)
theorem getB_ok {l : List UInt8} {p : Int} (h : (getB l p).2.2 = 0) : 0 ≤ p ∧ p ≤ l.length ∧ p.toNat + 1 ≤ (getB l p).2.1 ∧ (getB l p).2.1 ≤ l.length ∧ (getB l p).1 < 9223372036854775808 := by
  unfold getB at h ⊢
  split
  · rename_i hp
    rw [if_pos hp] at h
    simp only at h ⊢
    rw [if_pos h]
    obtain ⟨a, b, c, d⟩ := getL_ok (l.drop p.toNat) 0 0 (by simp) (by omega) h
    rw [List.length_drop] at b
    refine ⟨hp.1, hp.2, by omega, by omega, Nat.lt_of_lt_of_le d ?_⟩
    calc 128 ^ (getL (List.drop p.toNat l) 0 0).2.1 ≤ 128 ^ 9 := Nat.pow_le_pow_right (by omega) c
      _ = 9223372036854775808 := by decide
  · rename_i hp
    rw [if_neg hp] at h
    simp at h
theorem getB_le (l : List UInt8) (p : Int) : (getB l p).2.1 ≤ l.length := by
  by_cases h : (getB l p).2.2 = 0
  · exact (getB_ok h).2.2.2.1
  · unfold getB at h ⊢
    split
    · rename_i hp
      rw [if_pos hp] at h
      simp only at h ⊢
      rw [if_neg h]; omega
    · exact Nat.zero_le _
theorem getB_val (l : List UInt8) (p : Int) : (getB l p).1 ≤ 9223372036854775807 := by
  by_cases h : (getB l p).2.2 = 0
  · have := (getB_ok h).2.2.2.2; omega
  · unfold getB at h ⊢
    split
    · rename_i hp
      rw [if_pos hp] at h
      simp only at h ⊢
      rw [(getL_err _ _ _ h).1]; omega
    · exact Nat.zero_le _
theorem getB_enc {a : List UInt8} {n : Nat} (rest : List UInt8) (hn : n ≤ 9223372036854775807) : getB (a ++ enc n ++ rest) a.length = (n, a.length + (enc n).length, 0) := by
  unfold getB
  rw [if_pos (by simp only [List.length_append]; omega)]
  have e : (a ++ enc n ++ rest).drop ((a.length : Int).toNat) = enc n ++ rest := by
    rw [Int.toNat_natCast, List.append_assoc, List.drop_left]
  rw [e, getL_enc n rest 0 0 (by have := enc_len9 hn; omega) (.inr rfl)]
  simp
theorem getT_enc {a t : List UInt8} (rest : List UInt8) {most : Int} (hm : (t.length : Int) ≤ most) (ht : t.length ≤ 9223372036854775807) :
    getT (a ++ enc t.length ++ (t ++ rest)) a.length most = (t, a.length + (enc t.length).length + t.length, 0) := by
  unfold getT
  rw [getB_enc (t ++ rest) ht]
  simp only [ne_eq, not_true_eq_false, if_false]
  rw [if_neg (by omega), if_neg (by simp only [List.length_append]; omega)]
  have e : (a ++ enc t.length ++ (t ++ rest)).drop (a.length + (enc t.length).length) = t ++ rest := by
    rw [← List.length_append, List.drop_left]
  rw [e, List.take_left]
end Go.Gd
set_option linter.unusedVariables false
namespace Go.Gd
open Go.Instr
attribute [local irreducible] loadAt storeAt fieldAt indexAt alloc box build buildSlice hNil eqG binOp Op.unary extract makeSlice makeInterface makeFunc convert hV mV pV hU hF hFV hIf hGuard hPick hJ hDraw hLoop ro Instr.index
def putPass (R : Value → World → Prop) (vs4 : List Value) (jump2 : List Value → World → Prop) : World → Prop :=
 hV P (binOp .geq 3 (nthV vs4 0) (.int .i64 128)) fun t11 =>
 hIf t11 (hV P (convert 3 5 (nthV vs4 0)) fun t14 =>
 hV P (binOp .or 5 t14 (.int .u8 128)) fun t15 =>
 hV P (buildSlice 35 1 #[(0, t15)]) fun t16 =>
 hV P (Builtin.append_ #[35, 35] 35 #[(nthV vs4 1), t16]) fun t17 =>
 hV P (binOp .shr 3 (nthV vs4 0) (.int .u64 7)) fun t19 =>
 jump2 [t19, t17, (nthV vs4 2)]) (hV P (convert 3 5 (nthV vs4 0)) fun t22 =>
 hV P (buildSlice 35 1 #[(0, t22)]) fun t23 =>
 hV P (Builtin.append_ #[35, 35] 35 #[(nthV vs4 1), t23]) fun t24 =>
 R t24)
def getPass (b_0 at_1 : Value) (R : Value → World → Prop) (vs4 : List Value) (jump2 : List Value → World → Prop) : World → Prop :=
 hV P (binOp .add 3 at_1 (nthV vs4 0)) fun t15 =>
 hV P (Builtin.len_ #[35] 3 #[b_0]) fun t17 =>
 hV P (eqG false .eql 3 t15 t17) fun t18 =>
 hIf t18 (R (.tuple #[(.int .i64 0), (.int .i64 0), (.int .i64 1)])) (hV P (binOp .add 3 at_1 (nthV vs4 0)) fun t22 =>
 hV P (indexAt 35 b_0 t22) fun t23 =>
 hV P (loadAt 5 t23) fun t24 =>
 hV P (binOp .and 5 t24 (.int .u8 127)) fun t27 =>
 hV P (convert 5 3 t27) fun t28 =>
 hV P (binOp .mul 3 (.int .i64 7) (nthV vs4 0)) fun t30 =>
 hV P (binOp .shl 3 t28 t30) fun t31 =>
 hV P (binOp .or 3 (nthV vs4 1) t31) fun t32 =>
 hV P (binOp .add 3 (nthV vs4 0) (.int .i64 1)) fun t34 =>
 hV P (binOp .geq 5 t24 (.int .u8 128)) fun t36 =>
 hIf t36 (hV P (eqG true .eql 3 t34 (.int .i64 9)) fun t38 =>
 hIf t38 (R (.tuple #[(.int .i64 0), (.int .i64 0), (.int .i64 2)])) (jump2 [t34, t32, (nthV vs4 2), (nthV vs4 3)])) (hV P (eqG true .eql 5 t24 (.int .u8 0)) fun t40 =>
 hJ (fun (j43_9 : Value) =>
 hPick t40 j43_9 (.bool false) fun t44 =>
 hIf t44 (R (.tuple #[(.int .i64 0), (.int .i64 0), (.int .i64 2)])) (hV P (binOp .add 3 at_1 t34) fun t48 =>
 R (.tuple #[t32, t48, (.int .i64 0)]))) fun J10 =>
 hGuard t40 true (hV P (binOp .gtr 3 t34 (.int .i64 1)) fun t43 =>
 J10 t43) (J10 undef)))
theorem or128 : ∀ m : Fin 256, (m.val ||| 128) = m.val % 128 + 128 := by decide +kernel
theorem and127 : ∀ m : Fin 256, (m.val &&& 127) = m.val % 128 := by decide +kernel
section
variable {w0 : World} {L : List HP}
theorem run_or128 {t : TypeId} {n : Nat} (h : n < 256) : Run w0 L (binOp .or t (.int .u8 (n : Nat)) (.int .u8 128)) (.int .u8 ((n % 128 + 128 : Nat) : Int)) := fun w hw => by
  rw [run_or w hw]
  have e1 : (BitVec.ofInt 8 (n : Int) ||| BitVec.ofInt 8 128).toNat = n % 128 + 128 := by
    rw [BitVec.toNat_or]
    have a1 : (BitVec.ofInt 8 (n : Int)).toNat = n := by simp [BitVec.toNat_ofInt]; omega
    have a2 : (BitVec.ofInt 8 128).toNat = 128 := by decide
    rw [a1, a2]; exact or128 ⟨n, h⟩
  show Result.ok (Value.int .u8 (IntKind.u8.wrap ((BitVec.ofInt 8 (n : Int) ||| BitVec.ofInt 8 128).toNat : Nat))) w = _
  rw [e1, wrap_u8 (by omega)]
theorem run_and127 {t : TypeId} {n : Nat} (h : n < 256) : Run w0 L (binOp .and t (.int .u8 (n : Nat)) (.int .u8 127)) (.int .u8 ((n % 128 : Nat) : Int)) := fun w hw => by
  rw [run_and w hw]
  have e1 : (BitVec.ofInt 8 (n : Int) &&& BitVec.ofInt 8 127).toNat = n % 128 := by
    rw [BitVec.toNat_and]
    have a1 : (BitVec.ofInt 8 (n : Int)).toNat = n := by simp [BitVec.toNat_ofInt]; omega
    have a2 : (BitVec.ofInt 8 127).toNat = 127 := by decide
    rw [a1, a2]; exact and127 ⟨n, h⟩
  show Result.ok (Value.int .u8 (IntKind.u8.wrap ((BitVec.ofInt 8 (n : Int) &&& BitVec.ofInt 8 127).toNat : Nat))) w = _
  rw [e1, wrap_u8 (by omega)]
theorem pow128 (i : Nat) : 128 ^ i = 2 ^ (7 * i) := by rw [Nat.pow_mul]
theorem run_orTop {t : TypeId} {acc c i : Nat} (ha : acc < 128 ^ i) (hc : c < 128) (hi : i < 9) :
    Run w0 L (binOp .or t (.int .i64 (acc : Nat)) (.int .i64 ((c * 128 ^ i : Nat) : Int))) (.int .i64 ((acc + c * 128 ^ i : Nat) : Int)) := fun w hw => by
  rw [run_or w hw]
  have hp : 128 ^ i ≤ 128 ^ 8 := Nat.pow_le_pow_right (by omega) (by omega)
  have h8 : (128 : Nat) ^ 8 = 72057594037927936 := by decide
  have hm : c * 128 ^ i ≤ 127 * 72057594037927936 := Nat.le_trans (Nat.mul_le_mul (by omega : c ≤ 127) hp) (by omega)
  have e1 : (BitVec.ofInt 64 (acc : Int) ||| BitVec.ofInt 64 ((c * 128 ^ i : Nat) : Int)).toNat = acc + c * 128 ^ i := by
    rw [BitVec.toNat_or]
    have a1 : (BitVec.ofInt 64 (acc : Int)).toNat = acc := by simp [BitVec.toNat_ofInt]; omega
    have a2 : (BitVec.ofInt 64 ((c * 128 ^ i : Nat) : Int)).toNat = c * 128 ^ i := by
      generalize c * 128 ^ i = y at *
      simp [BitVec.toNat_ofInt]; omega
    rw [a1, a2]
    have := Nat.two_pow_add_eq_or_of_lt (i := 7 * i) (b := acc) (by rw [← pow128]; exact ha) c
    rw [← pow128, Nat.mul_comm] at this
    rw [Nat.or_comm, ← this, Nat.add_comm]
  show Result.ok (Value.int .i64 (IntKind.i64.wrap ((BitVec.ofInt 64 (acc : Int) ||| BitVec.ofInt 64 ((c * 128 ^ i : Nat) : Int)).toNat : Nat))) w = _
  rw [e1, wrap_i64 (by omega)]
theorem run_shl7 {t : TypeId} {c i : Nat} (hc : c < 128) (hi : i < 9) : Run w0 L (binOp .shl t (.int .i64 (c : Nat)) (.int .i64 (7 * (i : Nat)))) (.int .i64 ((c * 128 ^ i : Nat) : Int)) := fun w hw => by
  rw [run_shl (by omega) w hw]
  have hp : 128 ^ i ≤ 128 ^ 8 := Nat.pow_le_pow_right (by omega) (by omega)
  have h8 : (128 : Nat) ^ 8 = 72057594037927936 := by decide
  have hm : c * 128 ^ i ≤ 127 * 72057594037927936 := Nat.le_trans (Nat.mul_le_mul (by omega : c ≤ 127) hp) (by omega)
  have e : (7 * (i : Int)).toNat = 7 * i := by omega
  have e2 : min (7 * i) IntKind.i64.bits = 7 * i := by show min (7 * i) 64 = 7 * i; omega
  have e3 : ((c : Int) * 2 ^ (7 * i)) = ((c * 128 ^ i : Nat) : Int) := by rw [pow128]; simp
  rw [e, e2, e3, wrap_i64 (by omega)]
theorem run_shr7 {t : TypeId} {n : Nat} : Run w0 L (binOp .shr t (.int .i64 (n : Nat)) (.int .u64 7)) (.int .i64 ((n / 128 : Nat) : Int)) := fun w hw => by
  rw [run_shr (by omega) w hw]
  have e : min (Int.toNat 7) IntKind.i64.bits = 7 := by decide
  rw [e]
  congr 2
  rw [Int.fdiv_eq_ediv_of_nonneg _ (by decide)]
  simp
theorem run_byte {s t : TypeId} {j : IntKind} [IntT s j] [IntT t .u8] (n : Nat) : Run w0 L (convert s t (.int .i64 (n : Nat))) (.int .u8 ((n % 256 : Nat) : Int)) := fun w hw => by
  rw [run_conv (t := t) (s := s) _ w hw]
  congr 2
theorem run_int8 {s t : TypeId} {j : IntKind} [IntT s j] [IntT t .i64] (n : Nat) (h : n < 256) : Run w0 L (convert s t (.int .u8 (n : Nat))) (.int .i64 (n : Nat)) := fun w hw => by
  rw [run_conv (t := t) (s := s) _ w hw, wrap_i64 (by omega)]
theorem ent_put1 {l : List UInt8} {v : Value} {x : Nat} {K : Value → World → Prop} (hx : x < 256) (hl : l.length ≤ 1099511627776) (h : ∀ v', Ent w0 (vecB v' 5 (l ++ [UInt8.ofNat x]) :: L) (K v')) :
    Ent w0 (vecB v 5 l :: L) (hV P (buildSlice 35 1 #[(0, .int .u8 (x : Nat))]) fun t => hV P (Builtin.append_ #[35, 35] 35 #[v, t]) K) := by
  refine ent_bs (zs := [.int .u8 0]) rfl (n := 1) (parts := [(0, .int .u8 (x : Nat))]) (cs := [.int .u8 (x : Nat)]) (by simp) rfl fun b => ?_
  refine ent_append (zs := [.int .u8 0]) (lx := [.int .u8 (x : Nat)]) 1 rfl (RdS.all 0 rfl rfl) rfl (by simp [Value.oneCell']) (by omega) (by omega) fun v' => ?_
  have e : by8 l ++ [Value.int .u8 (x : Nat)] = by8 (l ++ [UInt8.ofNat x]) := by rw [by8_app]; simp [by8, u8_nat hx]
  refine Ent.imp (Imp.drop 1) ?_
  have := h v'
  unfold vecB at this
  rw [show (l ++ [UInt8.ofNat x]).length = l.length + 1 by simp] at this
  rw [e]; exact this
theorem raw_within (b : Value) (l : List UInt8) (p : Int) : Spec w0 215 [b, .int .i64 p] [roB w0 b l] (fun _ : Unit => .bool (decide (0 ≤ p ∧ p ≤ l.length))) (fun _ => [roB w0 b l]) := by
  refine spec_go (fun R w => H215) fun F => ?_
  show Ent w0 (roB w0 b l :: F) _
  unfold F215
  refine Ent.ro fun a cap R hv hln hrd => ?_
  subst hv
  refine ent_qb (run_ge _ _) (fun h1 => ?_) (fun h1 => ?_)
  · (repeat (first | refine ent_gT ?_ | refine ent_q (run_len) ?_))
    refine ent_qb (run_le _ _) (fun h2 => ?_) (fun h2 => ?_)
    · (repeat refine ent_pT ?_)
      exact ent_ret () (by rw [decide_eq_true ⟨h1, h2⟩]) (by (repeat refine Imp.pick 1 rfl ?_); exact Imp.drop1)
    · (repeat refine ent_pT ?_)
      exact ent_ret () (by rw [decide_eq_false (fun h => h2 h.2)]) (by (repeat refine Imp.pick 1 rfl ?_); exact Imp.drop1)
  · (repeat (first | refine ent_gF ?_ | refine ent_pF ?_))
    exact ent_ret () (by rw [decide_eq_false (fun h => h1 h.1)]) (by (repeat refine Imp.pick 1 rfl ?_); exact Imp.drop1)
theorem raw_put (b : Value) (l : List UInt8) (n : Int) (hl : l.length ≤ 549755813888) (hn : n ≤ 9223372036854775807) :
    Spec w0 191 [b, .int .i64 n] [roB w0 b l] (fun v : Value => v) (fun v => [vecB v 5 (l ++ enc n.toNat)]) := by
  refine spec_go (fun R w => H191) fun F => ?_
  show Ent w0 (roB w0 b l :: F) _
  unfold F191
  have key : ∀ (m : Nat) (o : List UInt8) (v r : Value) (next : List Value → World → Prop), o.length ≤ 1099511627776 → o ++ enc m = l ++ enc n.toNat →
      (∀ v', 128 ≤ m → Ent w0 (vecB v' 5 (o ++ [UInt8.ofNat (m % 128 + 128)]) :: F) (next [.int .i64 ((m / 128 : Nat) : Int), v', r])) →
      Ent w0 (vecB v 5 o :: F) (putPass (fun v w' => ∃ i : Value, v = i ∧ Sat w0 ([vecB i 5 (l ++ enc n.toNat)] ++ F) w') [.int .i64 (m : Nat), v, r] next) := by
    intro m o v r next ho heq hnext
    unfold putPass
    refine ent_qb (run_ge _ _) (fun h => ?_) (fun h => ?_)
    · refine ent_ifT ?_
      refine ent_q (run_byte m) ?_
      refine ent_q (run_or128 (Nat.mod_lt _ (by omega))) ?_
      have e : m % 256 % 128 + 128 = m % 128 + 128 := by omega
      rw [e]
      refine ent_put1 (by omega) ho fun v' => ?_
      refine ent_q run_shr7 ?_
      exact hnext v' (by omega)
    · refine ent_ifF ?_
      refine ent_q (run_byte m) ?_
      rw [Nat.mod_eq_of_lt (by omega : m < 256)]
      refine ent_put1 (by omega) ho fun v' => ?_
      refine ent_ret v' rfl ?_
      rw [← heq, enc_lt (by omega : m < 128)]
      exact Imp.refl _
  refine ent_scope (ι := Nat × List UInt8 × Value) (fun s => s.2.1.length + (enc s.1).length ≤ 1099511627776 ∧ s.2.1 ++ enc s.1 = l ++ enc n.toNat) (fun s => [.int .i64 (s.1 : Nat), s.2.2, .slice none 0 0]) (fun s => vecB s.2.2 5 s.2.1 :: F) (fun s => s.1) ?_ ?_
  · intro next hnext
    refine ent_call (clone_bytes b l (by omega)) (Imp.refl _) fun v => ?_
    refine ent_q (run_max _ _) ?_
    have e : max n 0 = ((n.toNat : Nat) : Int) := by omega
    rw [e]
    have h9 := enc_len9 (n := n.toNat) (by omega)
    refine key n.toNat l v (.slice none 0 0) next (by omega) rfl fun v' hm => ?_
    rw [enc_ge (by omega)] at h9
    refine hnext (n.toNat / 128, l ++ [UInt8.ofNat (n.toNat % 128 + 128)], v') ⟨?_, ?_⟩
    · simp only [List.length_append, List.length_cons, List.length_nil] at h9 ⊢; omega
    · rw [enc_ge (n := n.toNat) (by omega)]; simp
  · intro s hs g next hnext
    refine key s.1 s.2.1 s.2.2 (.slice none 0 0) next (by omega) hs.2 fun v' hm => ?_
    have hsl := hs.1
    rw [enc_ge (by omega)] at hsl
    refine hnext (s.1 / 128, s.2.1 ++ [UInt8.ofNat (s.1 % 128 + 128)], v') ⟨?_, ?_⟩ (by simp only; omega)
    · simp only [List.length_append, List.length_cons, List.length_nil] at hsl ⊢; omega
    · rw [← hs.2, enc_ge (n := s.1) (by omega)]; simp
theorem raw_get (b : Value) (l : List UInt8) (p : Int) (hl : l.length ≤ 1099511627776) :
    Spec w0 188 [b, .int .i64 p] [roB w0 b l] (fun _ : Unit => .tuple #[.int .i64 ((getB l p).1 : Nat), .int .i64 ((getB l p).2.1 : Nat), .int .i64 ((getB l p).2.2 : Nat)]) (fun _ => [roB w0 b l]) := by
  refine spec_go (fun R w => H188) fun F => ?_
  show Ent w0 (roB w0 b l :: F) _
  unfold F188
  have key : ∀ (i acc : Nat) (r1 r2 : Value) (next : List Value → World → Prop), 0 ≤ p → p ≤ l.length → i < 9 → p.toNat + i ≤ l.length → acc < 128 ^ i → getL (l.drop p.toNat) 0 0 = getL (l.drop (p.toNat + i)) i acc →
      (∀ acc', i + 1 < 9 → p.toNat + (i + 1) ≤ l.length → acc' < 128 ^ (i + 1) → getL (l.drop p.toNat) 0 0 = getL (l.drop (p.toNat + (i + 1))) (i + 1) acc' → Ent w0 (roB w0 b l :: F) (next [.int .i64 ((i + 1 : Nat) : Int), .int .i64 (acc' : Nat), r1, r2])) →
      Ent w0 (roB w0 b l :: F) (getPass b (.int .i64 p) (fun v w' => ∃ _ : Unit, v = .tuple #[.int .i64 ((getB l p).1 : Nat), .int .i64 ((getB l p).2.1 : Nat), .int .i64 ((getB l p).2.2 : Nat)] ∧ Sat w0 ([roB w0 b l] ++ F) w') [.int .i64 (i : Nat), .int .i64 (acc : Nat), r1, r2] next) := by
    intro i acc r1 r2 next hp0 hp1 hi hil hacc heq hnext
    have hgB : getB l p = ((getL (l.drop p.toNat) 0 0).1, (if (getL (l.drop p.toNat) 0 0).2.2 = 0 then p.toNat + (getL (l.drop p.toNat) 0 0).2.1 else 0), (getL (l.drop p.toNat) 0 0).2.2) := by
      unfold getB; rw [if_pos ⟨hp0, hp1⟩]
    unfold getPass
    refine Ent.ro fun a cap R hv hln hrd => ?_
    subst hv
    refine ent_q (run_add64 (by omega)) ?_
    have e : p + ((i : Nat) : Int) = ((p.toNat + i : Nat) : Int) := by omega
    rw [e]
    refine ent_q run_len ?_
    refine ent_qb (run_eq _ _) (fun h => ?_) (fun h => ?_)
    · refine ent_ifT ?_
      have hd : l.drop (p.toNat + i) = [] := List.drop_eq_nil_of_le (by omega)
      rw [hd] at heq
      refine ent_ret () ?_ (by (repeat refine Imp.pick 1 rfl ?_); exact Imp.drop1)
      rw [hgB, heq]; rfl
    · refine ent_ifF ?_
      have hlt : p.toNat + i < l.length := by omega
      have hd : l.drop (p.toNat + i) = l[p.toNat + i] :: l.drop (p.toNat + i + 1) := List.drop_eq_getElem_cons hlt
      have hg : l[p.toNat + i]? = some l[p.toNat + i] := List.getElem?_eq_getElem hlt
      generalize l[p.toNat + i] = c at *
      have hc := u8_lt c
      refine ent_q (run_add64 (by omega)) ?_
      rw [e]
      obtain ⟨bb, o, rfl, hcell⟩ := RdS.cell8 (hrd (R :: roB w0 (.slice a l.length cap) l :: F) 0 rfl) hg
      refine ent_q (run_indexS (p.toNat + i) rfl hlt) ?_
      rw [Nat.mul_one]
      refine ent_q (run_load hcell) ?_
      refine ent_q (run_and127 hc) ?_
      refine ent_q (run_int8 _ (by omega)) ?_
      refine ent_q (run_mul64 (by omega)) ?_
      refine ent_q (run_shl7 (by omega) hi) ?_
      refine ent_q (run_orTop hacc (by omega) hi) ?_
      refine ent_q (run_add64 (by omega)) ?_
      rw [show ((i : Nat) : Int) + 1 = ((i + 1 : Nat) : Int) by omega]
      rw [hd] at heq
      simp only [getL] at heq
      have hstep : acc + c.toNat % 128 * 128 ^ i < 128 ^ (i + 1) := by
        have h1 : c.toNat % 128 ≤ 127 := by omega
        have h2 := Nat.mul_le_mul_right (128 ^ i) h1
        rw [Nat.pow_succ]; omega
      generalize acc + c.toNat % 128 * 128 ^ i = acc' at *
      refine ent_qb (run_ge _ _) (fun h1 => ?_) (fun h1 => ?_)
      · refine ent_ifT ?_
        rw [if_pos (by omega)] at heq
        refine ent_qb (run_eq _ _) (fun h2 => ?_) (fun h2 => ?_)
        · refine ent_ifT ?_
          rw [if_pos (by omega)] at heq
          refine ent_ret () ?_ (by (repeat refine Imp.pick 1 rfl ?_); exact Imp.drop1)
          rw [hgB, heq]; rfl
        · refine ent_ifF ?_
          rw [if_neg (by omega)] at heq
          exact Ent.imp Imp.drop1 (hnext acc' (by omega) (by omega) hstep heq)
      · refine ent_ifF ?_
        rw [if_neg (by omega)] at heq
        refine ent_qb (run_eq _ _) (fun h2 => ?_) (fun h2 => ?_)
        · (repeat (first | refine ent_gT ?_ | refine ent_j ?_))
          refine ent_qb (run_gt _ _) (fun h3 => ?_) (fun h3 => ?_)
          · (repeat (first | refine ent_ifT ?_ | refine ent_pT ?_))
            rw [if_pos (by omega)] at heq
            refine ent_ret () ?_ (by (repeat refine Imp.pick 1 rfl ?_); exact Imp.drop1)
            rw [hgB, heq]; rfl
          · (repeat (first | refine ent_ifF ?_ | refine ent_pT ?_))
            rw [if_neg (by omega)] at heq
            refine ent_q (run_add64 (by omega)) ?_
            refine ent_ret () ?_ (by (repeat refine Imp.pick 1 rfl ?_); exact Imp.drop1)
            rw [hgB, heq, show p + ((i + 1 : Nat) : Int) = ((p.toNat + (i + 1) : Nat) : Int) by omega]
            rfl
        · (repeat (first | refine ent_ifF ?_ | refine ent_gF ?_ | refine ent_pF ?_ | refine ent_j ?_))
          rw [if_neg (by omega)] at heq
          refine ent_q (run_add64 (by omega)) ?_
          refine ent_ret () ?_ (by (repeat refine Imp.pick 1 rfl ?_); exact Imp.drop1)
          rw [hgB, heq, show p + ((i + 1 : Nat) : Int) = ((p.toNat + (i + 1) : Nat) : Int) by omega]
          rfl
  refine ent_scope (ι := Nat × Nat) (fun s => 0 ≤ p ∧ p ≤ l.length ∧ s.1 < 9 ∧ p.toNat + s.1 ≤ l.length ∧ s.2 < 128 ^ s.1 ∧ getL (l.drop p.toNat) 0 0 = getL (l.drop (p.toNat + s.1)) s.1 s.2) (fun s => [.int .i64 (s.1 : Nat), .int .i64 (s.2 : Nat), .int .i64 0, .int .i64 0]) (fun s => roB w0 b l :: F) (fun s => 9 - s.1) ?_ ?_
  · intro next hnext
    refine ent_call (raw_within b l p) (Imp.refl _) fun _ => ?_
    by_cases hp : 0 ≤ p ∧ p ≤ l.length
    · rw [decide_eq_true hp]
      (repeat (first | refine ent_ifF ?_ | refine ent_q (run_notT) ?_))
      refine key 0 0 (.int .i64 0) (.int .i64 0) next hp.1 hp.2 (by omega) (by omega) (by simp) (by simp) fun acc' h1 h2 h3 h4 => ?_
      exact hnext (1, acc') ⟨hp.1, hp.2, h1, h2, h3, h4⟩
    · rw [decide_eq_false hp]
      (repeat (first | refine ent_ifT ?_ | refine ent_q (run_notF) ?_))
      refine ent_ret () ?_ (Imp.refl _)
      unfold getB; rw [if_neg hp]; rfl
  · rintro ⟨i, acc⟩ ⟨h1, h2, h3, h4, h5, h6⟩ g next hnext
    refine key i acc (.int .i64 0) (.int .i64 0) next h1 h2 h3 h4 h5 h6 fun acc' h7 h8 h9 h10 => ?_
    exact hnext (i + 1, acc') ⟨h1, h2, h7, h8, h9, h10⟩ (by simp only; omega)
theorem raw_getText (b : Value) (l : List UInt8) (p most : Int) (hl : l.length ≤ 1099511627776) :
    Spec w0 189 [b, .int .i64 p, .int .i64 most] [roB w0 b l] (fun v : Value => .tuple #[v, .int .i64 ((getT l p most).2.1 : Nat), .int .i64 ((getT l p most).2.2 : Nat)]) (fun v => [vecB v 5 (getT l p most).1, roB w0 b l]) := by
  refine spec_go (fun R w => H189) fun F => ?_
  show Ent w0 (roB w0 b l :: F) _
  unfold F189
  refine ent_call (raw_get b l p hl) (Imp.refl _) fun _ => ?_
  (repeat refine ent_q (run_ex rfl) ?_)
  have hle := getB_le l p
  have hval := getB_val l p
  by_cases h1 : (getB l p).2.2 = 0
  · refine ent_q ((run_ne _ _).F (by omega)) ?_
    (repeat refine ent_ifF ?_)
    refine ent_qb (run_gt _ _) (fun h2 => ?_) (fun h2 => ?_)
    · (repeat refine ent_ifT ?_)
      have e : getT l p most = ([], 0, 4) := by unfold getT; rw [if_neg (by omega), if_pos (by omega)]
      rw [e]
      exact ent_ret (.slice none 0 0) rfl (Imp.vec0 rfl (Imp.refl _))
    · (repeat refine ent_ifF ?_)
      show Ent w0 (roB w0 b l :: F) _
      refine Ent.roC fun a cap R hv hln hcap hrd => ?_
      subst hv
      refine ent_q run_len ?_
      refine ent_q (run_sub64 (by omega)) ?_
      refine ent_qb (run_gt _ _) (fun h3 => ?_) (fun h3 => ?_)
      · (repeat refine ent_ifT ?_)
        have e : getT l p most = ([], 0, 1) := by unfold getT; rw [if_neg (by omega), if_neg (by omega), if_pos (by omega)]
        rw [e]
        exact ent_ret (.slice none 0 0) rfl (Imp.vec0 rfl (by (repeat refine Imp.pick 1 rfl ?_); exact Imp.drop1))
      · (repeat refine ent_ifF ?_)
        have e : getT l p most = ((l.drop (getB l p).2.1).take (getB l p).1, (getB l p).2.1 + (getB l p).1, 0) := by unfold getT; rw [if_neg (by omega), if_neg (by omega), if_neg (by omega)]
        rw [e]
        refine ent_q (run_add64 (by omega)) ?_
        refine ent_q (run_slice (getB l p).2.1 ((getB l p).2.1 + (getB l p).1) rfl (by omega) (by omega) (by omega)) ?_
        refine Ent.at 1 rfl (Ent.roDup (Ent.imp (Imp.roPart (lo := (getB l p).2.1) (hi := (getB l p).2.1 + (getB l p).1) (by omega) (by omega)) ?_))
        rw [Nat.mul_one, Nat.mul_one, by8_part, Nat.add_sub_cancel_left]
        have hlen : ((l.drop (getB l p).2.1).take (getB l p).1).length = (getB l p).1 := by rw [List.length_take, List.length_drop]; omega
        generalize hT : (l.drop (getB l p).2.1).take (getB l p).1 = T at *
        rw [← hlen]
        refine ent_call (clone_bytes _ T (by omega)) (by (repeat refine Imp.pick 0 rfl ?_); exact Imp.refl _) fun v => ?_
        refine ent_q (run_add64 (by omega)) ?_
        refine ent_ret v ?_ (by (repeat refine Imp.pick 0 rfl ?_); exact Imp.drop1)
        simp only [Int.natCast_add]
        rfl
  · refine ent_q ((run_ne _ _).T (by omega)) ?_
    (repeat refine ent_ifT ?_)
    have e : getT l p most = ([], 0, (getB l p).2.2) := by unfold getT; rw [if_pos h1]
    rw [e]
    exact ent_ret (.slice none 0 0) rfl (Imp.vec0 rfl (Imp.refl _))
end
end Go.Gd
