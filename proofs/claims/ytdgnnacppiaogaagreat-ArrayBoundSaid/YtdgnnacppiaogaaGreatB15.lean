/- The contracts of package conf. Conditions: those in the theorems. The contract of conf.Right. Conditions: those in the theorem. -/
import Derived.Test.YtdgnnacppiaogaaGreatB8
import Derived.Test.YtdgnnacppiaogaaGreatB14
set_option linter.unusedVariables false
set_option linter.unusedSimpArgs false
namespace Go.Gd
open Go.Instr
attribute [local irreducible] loadAt storeAt fieldAt indexAt alloc box build buildSlice hNil eqG binOp Op.unary extract makeSlice makeInterface makeFunc convert hV mV pV hU hF hIf hGuard hPick hJ hDraw hLoop spaceH ro
structure Hint where
  frm : Int
  size : Int
  often : Int
  loop : Bool
def hintV (h : Hint) : List Value := [.int .i64 h.frm, .int .i64 h.size, .int .i64 h.often, .bool h.loop]
def hintsV (l : List Hint) : List Value := l.flatMap hintV
structure Cfg where
  clients : Int
  slots : Int
  blocks : Int
  size : Int
  mode : Int
  place : Int
  pol : Nat → Int
  cap : Nat → Int
  queues : Int
  life : Int
  ghost : Int
  demote : Int
  hints : List Hint
  hv : Value
def cfgL (c : Cfg) : List Value := [.int .i64 c.clients, .int .i64 c.slots, .int .i64 c.blocks, .int .i64 c.size, .int .i64 c.mode, .int .i64 c.place, .int .i64 (c.pol 0), .int .i64 (c.pol 1), .int .i64 (c.pol 2),
  .int .i64 (c.cap 0), .int .i64 (c.cap 1), .int .i64 (c.cap 2), .int .i64 c.queues, .int .i64 c.life, .int .i64 c.ghost, .int .i64 c.demote, c.hv]
abbrev cfgV (c : Cfg) : Value := .agg (cfgL c).toArray
theorem hintV_len (h : Hint) : (hintV h).length = 4 := rfl
theorem hintsV_len (l : List Hint) : (hintsV l).length = l.length * 4 := by
  unfold hintsV
  induction l with
  | nil => rfl
  | cons h l ih => simp only [List.flatMap_cons, List.length_append, hintV_len, ih, List.length_cons]; omega
theorem hintsV_get : ∀ {l : List Hint} {i : Nat} {h : Hint}, l[i]? = some h → ∀ j v, (hintV h)[j]? = some v → (hintsV l)[i * 4 + j]? = some v
  | [], i, h, hi, j, v, hj => by simp at hi
  | x :: l, 0, h, hi, j, v, hj => by
    simp only [List.getElem?_cons_zero, Option.some.injEq] at hi
    subst hi
    have : j < (hintV x).length := (List.getElem?_eq_some_iff.1 hj).1
    unfold hintsV
    rw [List.flatMap_cons, List.getElem?_append_left (by omega), Nat.zero_mul, Nat.zero_add]; exact hj
  | x :: l, i + 1, h, hi, j, v, hj => by
    have := hintsV_get (l := l) (i := i) (h := h) (by simpa using hi) j v hj
    unfold hintsV at *
    rw [List.flatMap_cons, List.getElem?_append_right (by rw [hintV_len]; omega), hintV_len, show (i + 1) * 4 + j - 4 = i * 4 + j by omega]; exact this
theorem hintsV_one (l : List Hint) : ∀ v ∈ hintsV l, v.oneCell' = true := by
  intro v hv
  obtain ⟨h, _, hh⟩ := List.mem_flatMap.1 hv
  simp only [hintV, List.mem_cons, List.not_mem_nil, or_false] at hh
  rcases hh with rfl | rfl | rfl | rfl <;> rfl
def HintP (blocks : Int) (h : Hint) : Prop := 0 ≤ h.frm ∧ 1 ≤ h.size ∧ h.frm ≤ blocks ∧ h.size ≤ blocks - h.frm ∧ h.frm + h.size ≤ 32 ∧ 0 ≤ h.often ∧ h.often ≤ 2147483647
instance (blocks : Int) (h : Hint) : Decidable (HintP blocks h) := by unfold HintP; infer_instance
def markN (met : Nat → Bool) (f : Nat) : Nat → Option (Nat → Bool)
  | 0 => some met
  | n + 1 => match markN met f n with
    | none => none
    | some m => if m (f + n) then none else some (upF m (f + n) true)
def hintsN (blocks : Int) (l : List Hint) : Nat → Option (Nat → Bool)
  | 0 => some fun _ => false
  | n + 1 => match hintsN blocks l n with
    | none => none
    | some m => match l[n]? with
      | none => none
      | some h => if HintP blocks h then markN m h.frm.toNat h.size.toNat else none
def hintsB (l : List Hint) (blocks : Int) : Bool := (hintsN blocks l l.length).isSome && decide (l.length ≤ 8)
theorem hintsN_none {blocks : Int} {l : List Hint} {n : Nat} (h : hintsN blocks l n = none) : ∀ {m : Nat}, n ≤ m → hintsN blocks l m = none
  | 0, hm => by have : n = 0 := by omega
                subst this; exact h
  | m + 1, hm => by
    rcases Nat.lt_or_ge n (m + 1) with h1 | h1
    · unfold hintsN; rw [hintsN_none h (by omega : n ≤ m)]
    · have : n = m + 1 := by omega
      subst this; exact h
theorem markN_none {met : Nat → Bool} {f n : Nat} (h : markN met f n = none) : ∀ {m : Nat}, n ≤ m → markN met f m = none
  | 0, hm => by have : n = 0 := by omega
                subst this; exact h
  | m + 1, hm => by
    rcases Nat.lt_or_ge n (m + 1) with h1 | h1
    · unfold markN; rw [markN_none h (by omega : n ≤ m)]
    · have : n = m + 1 := by omega
      subst this; exact h
theorem hintsN_ok {blocks : Int} {l : List Hint} : ∀ {n : Nat} {m : Nat → Bool}, hintsN blocks l n = some m → ∀ i, i < n → ∃ h, l[i]? = some h ∧ HintP blocks h
  | 0, m, _, i, hi => by omega
  | n + 1, m, h, i, hi => by
    unfold hintsN at h
    cases h1 : hintsN blocks l n with
    | none => rw [h1] at h; cases h
    | some m1 =>
      rw [h1] at h
      simp only at h
      cases h2 : l[n]? with
      | none => rw [h2] at h; cases h
      | some x =>
        rw [h2] at h
        simp only at h
        rcases Nat.lt_or_ge i n with h3 | h3
        · exact hintsN_ok h1 i h3
        · have : i = n := by omega
          subst this
          by_cases hp : HintP blocks x
          · exact ⟨x, h2, hp⟩
          · rw [if_neg hp] at h; cases h
theorem hintsB_ok {l : List Hint} {blocks : Int} (h : hintsB l blocks = true) : l.length ≤ 8 ∧ ∀ x ∈ l, HintP blocks x := by
  unfold hintsB at h
  simp only [Bool.and_eq_true, decide_eq_true_eq] at h
  obtain ⟨h1, h2⟩ := h
  obtain ⟨m, hm⟩ := Option.isSome_iff_exists.1 h1
  refine ⟨h2, fun x hx => ?_⟩
  obtain ⟨i, hi, rfl⟩ := List.mem_iff_getElem.1 hx
  obtain ⟨h, h3, h4⟩ := hintsN_ok hm i hi
  rw [List.getElem?_eq_getElem hi] at h3
  cases h3
  exact h4
def CfgP (c : Cfg) : Prop := (∀ i, i < 3 → (1 ≤ c.pol i ∧ c.pol i ≤ 2) ∧ 1 ≤ c.cap i ∧ c.cap i ≤ 16) ∧ (1 ≤ c.clients ∧ c.clients ≤ 4) ∧ (1 ≤ c.slots ∧ c.slots ≤ 4) ∧ (1 ≤ c.blocks ∧ c.blocks ≤ 32) ∧ (1 ≤ c.size ∧ c.size ≤ 16) ∧ (1 ≤ c.mode ∧ c.mode ≤ 3) ∧ (0 ≤ c.place ∧ c.place ≤ 2) ∧
  (c.place ≠ 0 → c.mode = 2) ∧ (1 ≤ c.queues ∧ c.queues ≤ 8) ∧ (1 ≤ c.life ∧ c.life ≤ 100) ∧ (0 ≤ c.ghost ∧ c.ghost ≤ 16) ∧ (1 ≤ c.demote ∧ c.demote ≤ 16) ∧ (c.place ≠ 2 → c.hints.length = 0)
noncomputable def cfgRight (c : Cfg) : Bool := by
  classical
  exact decide (CfgP c) && hintsB c.hints c.blocks
theorem cfgRight_no {c : Cfg} (h : ¬ CfgP c) : cfgRight c = false := by unfold cfgRight; simp [h]
theorem cfgRight_yes {c : Cfg} (h : CfgP c) : cfgRight c = hintsB c.hints c.blocks := by unfold cfgRight; simp [h]
theorem cfgRight_ok {c : Cfg} (h : cfgRight c = true) : CfgP c ∧ hintsB c.hints c.blocks = true := by
  unfold cfgRight at h
  simpa using h
theorem cfgL_pol {c : Cfg} : ∀ {i : Nat}, i < 3 → (cfgL c)[6 + i * 1]? = some (.int .i64 (c.pol i))
  | 0, _ => rfl
  | 1, _ => rfl
  | 2, _ => rfl
  | n + 3, h => by omega
theorem cfgL_cap {c : Cfg} : ∀ {i : Nat}, i < 3 → (cfgL c)[9 + i * 1]? = some (.int .i64 (c.cap i))
  | 0, _ => rfl
  | 1, _ => rfl
  | 2, _ => rfl
  | n + 3, h => by omega
section
variable {w0 : World}
theorem cf_within (n a b : Int) : Spec w0 138 [.int .i64 n, .int .i64 a, .int .i64 b] [] (fun _ : Unit => .bool (decide (a ≤ n ∧ n ≤ b))) (fun _ => []) := by
  refine spec_go (fun R w => H138) fun F => ?_
  show Ent w0 F _
  unfold F138
  refine ent_qb (run_ge _ _) (fun h1 => ?_) (fun h1 => ?_)
  · (repeat refine ent_gT ?_)
    refine ent_qb (run_le _ _) (fun h2 => ?_) (fun h2 => ?_)
    · (repeat refine ent_pT ?_)
      exact ent_ret () (by rw [decide_eq_true ⟨h1, h2⟩]) (Imp.refl _)
    · (repeat refine ent_pT ?_)
      exact ent_ret () (by rw [decide_eq_false (fun h => h2 h.2)]) (Imp.refl _)
  · (repeat (first | refine ent_gF ?_ | refine ent_pF ?_))
    exact ent_ret () (by rw [decide_eq_false (fun h => h1 h.1)]) (Imp.refl _)
theorem hintsB_no {l : List Hint} {blocks : Int} {i : Nat} {m : Nat → Bool} {x : Hint} (hm : hintsN blocks l i = some m) (hx : l[i]? = some x) (hi : i < l.length) (h : ¬ HintP blocks x ∨ markN m x.frm.toNat x.size.toNat = none) : hintsB l blocks = false := by
  have h1 : hintsN blocks l (i + 1) = none := by
    unfold hintsN
    rw [hm, hx]
    simp only
    rcases h with h | h
    · rw [if_neg h]
    · rw [h]; split <;> rfl
  unfold hintsB
  rw [hintsN_none h1 (by omega : i + 1 ≤ l.length)]
  rfl
theorem cf_hints (v : Value) (l : List Hint) (blocks : Int) (hb : 0 ≤ blocks ∧ blocks ≤ 1000) (hl : l.length ≤ 1000000) :
    Spec w0 139 [v, .int .i64 blocks] [ro w0 v 4 l.length (hintsV l)] (fun _ : Unit => .bool (hintsB l blocks)) (fun _ => []) := by
  refine spec_go (fun R w => H139) fun F => ?_
  show Ent w0 (ro w0 v 4 l.length (hintsV l) :: F) _
  refine Ent.ro fun a cap R hv hln hrd => ?_
  subst hv
  unfold F139
  refine ent_alloc fun met => ?_
  refine ent_q run_len ?_
  rw [show zs116 = bv 32 (fun _ => false) from rfl]
  refine ent_loop (ι := Nat × (Nat → Bool)) (fun i => i.1 ≤ l.length ∧ hintsN blocks l i.1 = some i.2) (fun i => [.int .i64 (i.1 : Nat), .bool false])
    (fun i => pt met 116 (bv 32 i.2) :: R :: F) (fun i => l.length - i.1) (0, fun _ => false) ⟨Nat.zero_le _, rfl⟩ rfl (by (repeat refine Imp.pick 0 rfl ?_); exact Imp.drop1) ?_
  rintro ⟨i, m⟩ ⟨hi, hm⟩ g next hnext
  simp only at hi hm hnext ⊢
  show Ent w0 _ (hV P (binOp .lss 3 (.int .i64 (i : Nat)) (.int .i64 (l.length : Nat))) _)
  refine ent_qb (run_lt _ _) (fun h => ?_) (fun h => ?_)
  · have hil : i < l.length := by omega
    obtain ⟨x, hx⟩ : ∃ x, l[i]? = some x := ⟨_, List.getElem?_eq_getElem hil⟩
    obtain ⟨b, o, ha, hc⟩ : ∃ b o, a = some ⟨b, o, none⟩ ∧ Cells w0 (pt met 116 (bv 32 m) :: R :: F) b o (hintsV l) := by
      obtain ⟨a', cap', e1, _, e2⟩ := hrd (pt met 116 (bv 32 m) :: R :: F) 1 rfl
      cases e1
      rcases e2 with e2 | e2
      · have := hintsV_len l; rw [e2] at this; simp at this; omega
      · exact e2
    subst ha
    (repeat refine ent_ifT ?_)
    refine ent_q (run_indexS i rfl hil) ?_
    refine ent_q (run_loadA (vs := hintV x) rfl (fun j u hj => ?_)) ?_
    · rw [show o + i * 4 + j = o + (i * 4 + j) by omega]
      exact hc _ _ (hintsV_get hx j u hj)
    refine ent_alloc fun h7 => ?_
    refine ent_sa0 (l' := hintV x) rfl (by simp [hintV, Value.oneCell']) (by simp [hintV]) rfl ?_
    have no : ¬ HintP blocks x → ∀ L, Imp L F → Ent w0 L (fun w' => ∃ i : Unit, (Value.bool false) = Value.bool (hintsB l blocks) ∧ Sat w0 ([] ++ F) w') := fun hno L hI =>
      ent_ret () (by rw [hintsB_no hm hx hil (.inl hno)]) hI
    (repeat (first | refine ent_q (run_fieldZ _ _) ?_ | refine ent_q (run_load (cell_own 0 rfl rfl)) ?_))
    refine ent_qb (run_lt _ _) (fun h1 => ?_) (fun h1 => ?_)
    · (repeat (first | refine ent_ifT ?_ | refine ent_gF' ?_ | refine ent_pT ?_ | refine ent_j ?_))
      exact no (by unfold HintP; omega) _ (by exact Imp.trans Imp.drop1 (Imp.trans Imp.drop1 (Imp.drop1)))
    (repeat (first | refine ent_q (run_field0 _) ?_ | refine ent_gT ?_ | refine ent_j ?_ | refine ent_q (run_load (cell_own 0 rfl rfl)) ?_))
    refine ent_qb (run_lt _ _) (fun h2 => ?_) (fun h2 => ?_)
    · (repeat (first | refine ent_ifT ?_ | refine ent_gF' ?_ | refine ent_pT ?_ | refine ent_pF ?_ | refine ent_j ?_))
      exact no (by unfold HintP; omega) _ (by exact Imp.trans Imp.drop1 (Imp.trans Imp.drop1 (Imp.drop1)))
    (repeat (first | refine ent_q (run_fieldZ _ _) ?_ | refine ent_gT ?_ | refine ent_pF ?_ | refine ent_j ?_ | refine ent_q (run_load (cell_own 0 rfl rfl)) ?_))
    refine ent_qb (run_gt _ _) (fun h3 => ?_) (fun h3 => ?_)
    · (repeat (first | refine ent_ifT ?_ | refine ent_gF' ?_ | refine ent_pT ?_ | refine ent_pF ?_ | refine ent_j ?_))
      exact no (by unfold HintP; omega) _ (by exact Imp.trans Imp.drop1 (Imp.trans Imp.drop1 (Imp.drop1)))
    (repeat (first | refine ent_q (run_fieldZ _ _) ?_ | refine ent_q (run_field0 _) ?_ | refine ent_gT ?_ | refine ent_pF ?_ | refine ent_j ?_ | refine ent_q (run_load (cell_own 0 rfl rfl)) ?_))
    refine ent_q (run_sub64 (by omega)) ?_
    refine ent_qb (run_gt _ _) (fun h4 => ?_) (fun h4 => ?_)
    · (repeat (first | refine ent_ifT ?_ | refine ent_gF' ?_ | refine ent_pT ?_ | refine ent_pF ?_ | refine ent_j ?_))
      exact no (by unfold HintP; omega) _ (by exact Imp.trans Imp.drop1 (Imp.trans Imp.drop1 (Imp.drop1)))
    (repeat (first | refine ent_q (run_fieldZ _ _) ?_ | refine ent_q (run_field0 _) ?_ | refine ent_gT ?_ | refine ent_pF ?_ | refine ent_j ?_ | refine ent_q (run_load (cell_own 0 rfl rfl)) ?_))
    refine ent_q (run_add64 (by omega)) ?_
    refine ent_qb (run_gt _ _) (fun h5 => ?_) (fun h5 => ?_)
    · (repeat (first | refine ent_ifT ?_ | refine ent_gF' ?_ | refine ent_pT ?_ | refine ent_pF ?_ | refine ent_j ?_))
      exact no (by unfold HintP; omega) _ (by exact Imp.trans Imp.drop1 (Imp.trans Imp.drop1 (Imp.drop1)))
    (repeat (first | refine ent_q (run_field0 _) ?_ | refine ent_gT ?_ | refine ent_pF ?_ | refine ent_j ?_ | refine ent_q (run_load (cell_own 0 rfl rfl)) ?_))
    refine ent_call (cf_within x.often 0 2147483647) (Imp.refl _) fun _ => ?_
    by_cases h6 : 0 ≤ x.often ∧ x.often ≤ 2147483647
    · rw [decide_eq_true h6]
      have hp : HintP blocks x := by unfold HintP; omega
      obtain ⟨f, hf⟩ : ∃ f : Nat, x.frm = f := ⟨x.frm.toNat, by omega⟩
      obtain ⟨s, hs⟩ : ∃ s : Nat, x.size = s := ⟨x.size.toNat, by omega⟩
      show Ent w0 (pt h7 114 (hintV x) :: pt met 116 (bv 32 m) :: R :: F) _
      (repeat (first | refine ent_q (run_field0 _) ?_ | refine ent_ifF ?_ | refine ent_pF ?_ | refine ent_q (run_notT) ?_ | refine ent_q (run_load (cell_own 0 rfl rfl)) ?_))
      refine ent_loop (ι := Nat × (Nat → Bool)) (fun j => j.1 ≤ s ∧ markN m f j.1 = some j.2) (fun j => [.int .i64 (j.1 : Nat), .bool false])
        (fun j => pt h7 114 (hintV x) :: pt met 116 (bv 32 j.2) :: R :: F) (fun j => s - j.1) (0, m) ⟨Nat.zero_le _, rfl⟩ rfl (by (repeat refine Imp.pick 0 rfl ?_); exact Imp.refl _) ?_
      rintro ⟨j, mj⟩ ⟨hj, hmj⟩ g2 next2 hnext2
      simp only at hj hmj hnext2 ⊢
      show Ent w0 _ (hV P (binOp .lss 3 (.int .i64 (j : Nat)) (.int .i64 x.size)) _)
      refine ent_qb (run_lt _ _) (fun h8 => ?_) (fun h8 => ?_)
      · have hfj : f + j < 32 := by omega
        (repeat (first | refine ent_q (run_fieldZ _ _) ?_ | refine ent_ifT ?_ | refine ent_q (run_load (cell_own 0 rfl rfl)) ?_))
        refine ent_q (run_add64 (by omega)) ?_
        refine ent_q (run_indexA (f + j) (by omega) hfj) ?_
        rw [Nat.zero_add, Nat.mul_one]
        refine ent_q (run_load (cell_own 1 rfl (bv_get hfj))) ?_
        have hmn : markN m f (j + 1) = if mj (f + j) then none else some (upF mj (f + j) true) := by
          conv => lhs; unfold markN
          rw [hmj]
        cases hmet : mj (f + j) with
        | true =>
          rw [hmet] at hmn
          (repeat refine ent_ifT ?_)
          refine ent_ret () ?_ (by exact Imp.trans Imp.drop1 (Imp.trans Imp.drop1 (Imp.drop1)))
          rw [hintsB_no hm hx hil (.inr ?_)]
          rw [hf, hs]
          exact markN_none hmn (by omega)
        | false =>
          rw [hmet] at hmn
          (repeat (first | refine ent_q (run_fieldZ _ _) ?_ | refine ent_ifF ?_ | refine ent_q (run_load (cell_own 0 rfl rfl)) ?_))
          refine ent_q (run_add64 (by omega)) ?_
          refine ent_q (run_indexA (f + j) (by omega) hfj) ?_
          rw [Nat.zero_add, Nat.mul_one]
          refine ent_st1 rfl (by rw [bv_len]; exact hfj) (bv_set true) ?_
          refine ent_q (run_add64 (by omega)) ?_
          have := hnext2 (j + 1, upF mj (f + j) true) ⟨by omega, hmn⟩ (by omega)
          exact this
      · have : j = s := by omega
        subst this
        (repeat refine ent_ifF ?_)
        refine ent_q (run_add64 (by omega)) ?_
        have hN : hintsN blocks l (i + 1) = some mj := by
          conv => lhs; unfold hintsN
          rw [hm, hx]
          simp only
          rw [if_pos hp, hf, hs]
          exact hmj
        have := hnext (i + 1, mj) ⟨by omega, hN⟩ (by omega)
        exact Ent.imp (by (repeat refine Imp.pick 1 rfl ?_); exact Imp.drop1) this
    · rw [decide_eq_false h6]
      (repeat (first | refine ent_ifT ?_ | refine ent_pF ?_ | refine ent_q (run_notF) ?_))
      exact no (by unfold HintP; omega) _ (by exact Imp.trans Imp.drop1 (Imp.trans Imp.drop1 (Imp.drop1)))
  · have : i = l.length := by omega
    subst this
    (repeat (first | refine ent_ifF ?_ | refine ent_q (run_len) ?_))
    refine ent_q (run_le _ _) ?_
    refine ent_ret () ?_ (by exact Imp.trans Imp.drop1 (Imp.drop1))
    unfold hintsB
    rw [hm]
    simp
    omega
end
end Go.Gd
namespace Go.Gd
open Go.Instr
attribute [local irreducible] loadAt storeAt fieldAt indexAt alloc box build buildSlice hNil eqG binOp Op.unary extract makeSlice makeInterface makeFunc convert hV mV pV hU hF hIf hGuard hPick hJ hDraw hLoop spaceH ro
section
variable {w0 : World}
theorem cf_right (c : Cfg) (hl : c.hints.length ≤ 1000000) :
    Spec w0 91 [cfgV c] [ro w0 c.hv 4 c.hints.length (hintsV c.hints)] (fun _ : Unit => .bool (cfgRight c)) (fun _ => []) := by
  refine spec_go (fun R w => H91) fun F => ?_
  show Ent w0 (ro w0 c.hv 4 c.hints.length (hintsV c.hints) :: F) _
  unfold F91
  refine ent_box fun q => ?_
  rw [agg_cells, List.toList_toArray]
  have no : ¬ CfgP c → ∀ L, Imp L F → Ent w0 L (fun w' => ∃ i : Unit, (Value.bool false) = Value.bool (cfgRight c) ∧ Sat w0 ([] ++ F) w') := fun hno L hI =>
      ent_ret () (by rw [cfgRight_no hno]) hI
  refine ent_loop (ι := Nat) (fun i => i ≤ 3 ∧ ∀ j, j < i → (1 ≤ c.pol j ∧ c.pol j ≤ 2) ∧ 1 ≤ c.cap j ∧ c.cap j ≤ 16) (fun i => [.int .i64 (i : Nat), .bool false])
    (fun i => pt q 25 (cfgL c) :: ro w0 c.hv 4 c.hints.length (hintsV c.hints) :: F) (fun i => 3 - i) 0 ⟨by omega, fun j h => by omega⟩ rfl (Imp.refl _) ?_
  intro i ⟨hi, hok⟩ g next hnext
  show Ent w0 _ (hV P (binOp .lss 3 (.int .i64 (i : Nat)) (.int .i64 3)) _)
  refine ent_qb (run_lt _ _) (fun h => ?_) (fun h => ?_)
  · have hi3 : i < 3 := by omega
    (repeat (first | refine ent_q (run_field0 _) ?_ | refine ent_ifT ?_))
    refine ent_q (run_indexA i rfl hi3) ?_
    refine ent_q (run_load (cell_own 0 rfl (cfgL_pol hi3))) ?_
    refine ent_call (cf_within _ _ _) (Imp.refl _) fun _ => ?_
    by_cases h1 : 1 ≤ c.pol i ∧ c.pol i ≤ 2
    · rw [decide_eq_true h1]
      (repeat (first | refine ent_q (run_field0 _) ?_ | refine ent_gT ?_ | refine ent_q (run_notT) ?_ | refine ent_j ?_))
      refine ent_q (run_indexA i rfl hi3) ?_
      refine ent_q (run_load (cell_own 0 rfl (cfgL_cap hi3))) ?_
      refine ent_call (cf_within _ _ _) (Imp.refl _) fun _ => ?_
      by_cases h2 : 1 ≤ c.cap i ∧ c.cap i ≤ 16
      · rw [decide_eq_true h2]
        (repeat (first | refine ent_ifF ?_ | refine ent_pF ?_ | refine ent_q (run_notT) ?_))
        refine ent_q (run_add64 (by omega)) ?_
        refine hnext (i + 1) ⟨by omega, fun j hj => ?_⟩ (by omega)
        by_cases hji : j = i
        · subst hji; exact ⟨h1, h2⟩
        · exact hok j (by omega)
      · rw [decide_eq_false h2]
        (repeat (first | refine ent_ifT ?_ | refine ent_pF ?_ | refine ent_q (run_notF) ?_))
        exact no (fun hc => h2 (hc.1 i hi3).2) _ (by exact Imp.trans Imp.drop1 (Imp.drop1))
    · rw [decide_eq_false h1]
      (repeat (first | refine ent_ifT ?_ | refine ent_gF' ?_ | refine ent_pT ?_ | refine ent_q (run_notF) ?_ | refine ent_j ?_))
      exact no (fun hc => h1 (hc.1 i hi3).1) _ (by exact Imp.trans Imp.drop1 (Imp.drop1))
  have : i = 3 := by omega
  subst this
  (repeat (first | refine ent_q (run_fieldZ _ _) ?_ | refine ent_ifF ?_ | refine ent_q (run_load (cell_own 0 rfl rfl)) ?_))
  refine ent_call (cf_within _ _ _) (Imp.refl _) fun _ => ?_
  by_cases h1 : 1 ≤ c.clients ∧ c.clients ≤ 4
  case neg => rw [decide_eq_false h1]; (repeat (first | refine ent_ifT ?_ | refine ent_gF' ?_ | refine ent_pT ?_ | refine ent_q (run_notF) ?_ | refine ent_j ?_)); exact no (fun hc => by unfold CfgP at hc; omega) _ (by exact Imp.trans Imp.drop1 (Imp.drop1))
  rw [decide_eq_true h1]
  show Ent w0 (pt q 25 (cfgL c) :: ro w0 c.hv 4 c.hints.length (hintsV c.hints) :: F) _
  (repeat (first | refine ent_q (run_field0 _) ?_ | refine ent_gT ?_ | refine ent_q (run_notT) ?_ | refine ent_j ?_ | refine ent_q (run_load (cell_own 0 rfl rfl)) ?_))
  refine ent_call (cf_within _ _ _) (Imp.refl _) fun _ => ?_
  by_cases h2 : 1 ≤ c.slots ∧ c.slots ≤ 4
  case neg => rw [decide_eq_false h2]; (repeat (first | refine ent_ifT ?_ | refine ent_pF ?_ | refine ent_q (run_notF) ?_)); exact no (fun hc => by unfold CfgP at hc; omega) _ (by exact Imp.trans Imp.drop1 (Imp.drop1))
  rw [decide_eq_true h2]
  show Ent w0 (pt q 25 (cfgL c) :: ro w0 c.hv 4 c.hints.length (hintsV c.hints) :: F) _
  (repeat (first | refine ent_q (run_field0 _) ?_ | refine ent_ifF ?_ | refine ent_pF ?_ | refine ent_q (run_notT) ?_ | refine ent_q (run_load (cell_own 0 rfl rfl)) ?_))
  refine ent_call (cf_within _ _ _) (Imp.refl _) fun _ => ?_
  by_cases h3 : 1 ≤ c.blocks ∧ c.blocks ≤ 32
  case neg => rw [decide_eq_false h3]; (repeat (first | refine ent_ifT ?_ | refine ent_gF' ?_ | refine ent_pT ?_ | refine ent_q (run_notF) ?_ | refine ent_j ?_)); exact no (fun hc => by unfold CfgP at hc; omega) _ (by exact Imp.trans Imp.drop1 (Imp.drop1))
  rw [decide_eq_true h3]
  show Ent w0 (pt q 25 (cfgL c) :: ro w0 c.hv 4 c.hints.length (hintsV c.hints) :: F) _
  (repeat (first | refine ent_q (run_field0 _) ?_ | refine ent_gT ?_ | refine ent_q (run_notT) ?_ | refine ent_j ?_ | refine ent_q (run_load (cell_own 0 rfl rfl)) ?_))
  refine ent_call (cf_within _ _ _) (Imp.refl _) fun _ => ?_
  by_cases h4 : 1 ≤ c.size ∧ c.size ≤ 16
  case neg => rw [decide_eq_false h4]; (repeat (first | refine ent_ifT ?_ | refine ent_pF ?_ | refine ent_q (run_notF) ?_)); exact no (fun hc => by unfold CfgP at hc; omega) _ (by exact Imp.trans Imp.drop1 (Imp.drop1))
  rw [decide_eq_true h4]
  show Ent w0 (pt q 25 (cfgL c) :: ro w0 c.hv 4 c.hints.length (hintsV c.hints) :: F) _
  (repeat (first | refine ent_q (run_field0 _) ?_ | refine ent_ifF ?_ | refine ent_pF ?_ | refine ent_q (run_notT) ?_ | refine ent_q (run_load (cell_own 0 rfl rfl)) ?_))
  refine ent_call (cf_within _ _ _) (Imp.refl _) fun _ => ?_
  by_cases h5 : 1 ≤ c.mode ∧ c.mode ≤ 3
  case neg => rw [decide_eq_false h5]; (repeat (first | refine ent_ifT ?_ | refine ent_gF' ?_ | refine ent_pT ?_ | refine ent_q (run_notF) ?_ | refine ent_j ?_)); exact no (fun hc => by unfold CfgP at hc; omega) _ (by exact Imp.trans Imp.drop1 (Imp.drop1))
  rw [decide_eq_true h5]
  show Ent w0 (pt q 25 (cfgL c) :: ro w0 c.hv 4 c.hints.length (hintsV c.hints) :: F) _
  (repeat (first | refine ent_q (run_field0 _) ?_ | refine ent_gT ?_ | refine ent_q (run_notT) ?_ | refine ent_j ?_ | refine ent_q (run_load (cell_own 0 rfl rfl)) ?_))
  refine ent_call (cf_within _ _ _) (Imp.refl _) fun _ => ?_
  by_cases h6 : 0 ≤ c.place ∧ c.place ≤ 2
  case neg => rw [decide_eq_false h6]; (repeat (first | refine ent_ifT ?_ | refine ent_pF ?_ | refine ent_q (run_notF) ?_)); exact no (fun hc => by unfold CfgP at hc; omega) _ (by exact Imp.trans Imp.drop1 (Imp.drop1))
  rw [decide_eq_true h6]
  show Ent w0 (pt q 25 (cfgL c) :: ro w0 c.hv 4 c.hints.length (hintsV c.hints) :: F) _
  (repeat (first | refine ent_q (run_field0 _) ?_ | refine ent_ifF ?_ | refine ent_pF ?_ | refine ent_q (run_notT) ?_ | refine ent_q (run_load (cell_own 0 rfl rfl)) ?_))
  have rest : (c.place ≠ 0 → c.mode = 2) → Ent w0 (pt q 25 (cfgL c) :: ro w0 c.hv 4 c.hints.length (hintsV c.hints) :: F) (hV P (fieldAt 25 (.pointer (some ⟨q, 0, none⟩)) 8) fun t65 =>
 hV P (loadAt 3 t65) fun t66 =>
 hF P 138 #[t66, (.int .i64 1), (.int .i64 8)] fun t67 =>
 hV P (Op.unary .not t67) fun t68 =>
 hJ (fun (j73_30 : Value) =>
 hPick t68 (.bool true) j73_30 fun t74 =>
 hJ (fun (j79_34 : Value) =>
 hPick t74 (.bool true) j79_34 fun t80 =>
 hJ (fun (j85_38 : Value) =>
 hPick t80 (.bool true) j85_38 fun t86 =>
 hIf t86 (fun w' => ∃ i : Unit, (Value.bool false) = Value.bool (cfgRight c) ∧ Sat w0 ([] ++ F) w') (hV P (fieldAt 25 (.pointer (some ⟨q, 0, none⟩)) 5) fun t88 =>
 hV P (loadAt 3 t88) fun t89 =>
 hV P (eqG true .neq 3 t89 (.int .i64 2)) fun t90 =>
 hJ (fun (j95_42 : Value) =>
 hPick t90 j95_42 (.bool false) fun t96 =>
 hIf t96 (fun w' => ∃ i : Unit, (Value.bool false) = Value.bool (cfgRight c) ∧ Sat w0 ([] ++ F) w') (hV P (fieldAt 25 (.pointer (some ⟨q, 0, none⟩)) 12) fun t97 =>
 hV P (loadAt 23 t97) fun t98 =>
 hV P (fieldAt 25 (.pointer (some ⟨q, 0, none⟩)) 2) fun t99 =>
 hV P (loadAt 3 t99) fun t100 =>
 hF P 139 #[t98, t100] fun t101 =>
 fun w' => ∃ i : Unit, t101 = Value.bool (cfgRight c) ∧ Sat w0 ([] ++ F) w')) fun J43 =>
 hGuard t90 true (hV P (fieldAt 25 (.pointer (some ⟨q, 0, none⟩)) 12) fun t92 =>
 hV P (loadAt 23 t92) fun t93 =>
 hV P (Builtin.len_ #[23] 3 #[t93]) fun t94 =>
 hV P (binOp .gtr 3 t94 (.int .i64 0)) fun t95 =>
 J43 t95) (J43 undef))) fun J44 =>
 hGuard t80 false (hV P (fieldAt 25 (.pointer (some ⟨q, 0, none⟩)) 11) fun t82 =>
 hV P (loadAt 3 t82) fun t83 =>
 hF P 138 #[t83, (.int .i64 1), (.int .i64 16)] fun t84 =>
 hV P (Op.unary .not t84) fun t85 =>
 J44 t85) (J44 undef)) fun J45 =>
 hGuard t74 false (hV P (fieldAt 25 (.pointer (some ⟨q, 0, none⟩)) 10) fun t76 =>
 hV P (loadAt 3 t76) fun t77 =>
 hF P 138 #[t77, (.int .i64 0), (.int .i64 16)] fun t78 =>
 hV P (Op.unary .not t78) fun t79 =>
 J45 t79) (J45 undef)) fun J46 =>
 hGuard t68 false (hV P (fieldAt 25 (.pointer (some ⟨q, 0, none⟩)) 9) fun t70 =>
 hV P (loadAt 3 t70) fun t71 =>
 hF P 138 #[t71, (.int .i64 1), (.int .i64 100)] fun t72 =>
 hV P (Op.unary .not t72) fun t73 =>
 J46 t73) (J46 undef)) := by
    intro h7
    (repeat (first | refine ent_q (run_field0 _) ?_ | refine ent_q (run_load (cell_own 0 rfl rfl)) ?_))
    refine ent_call (cf_within _ _ _) (Imp.refl _) fun _ => ?_
    by_cases h8 : 1 ≤ c.queues ∧ c.queues ≤ 8
    case neg => rw [decide_eq_false h8]; (repeat (first | refine ent_ifT ?_ | refine ent_gF' ?_ | refine ent_pT ?_ | refine ent_q (run_notF) ?_ | refine ent_j ?_)); exact no (fun hc => by unfold CfgP at hc; omega) _ (by exact Imp.trans Imp.drop1 (Imp.drop1))
    rw [decide_eq_true h8]
    show Ent w0 (pt q 25 (cfgL c) :: ro w0 c.hv 4 c.hints.length (hintsV c.hints) :: F) _
    (repeat (first | refine ent_q (run_field0 _) ?_ | refine ent_gT ?_ | refine ent_q (run_notT) ?_ | refine ent_j ?_ | refine ent_q (run_load (cell_own 0 rfl rfl)) ?_))
    refine ent_call (cf_within _ _ _) (Imp.refl _) fun _ => ?_
    by_cases h9 : 1 ≤ c.life ∧ c.life ≤ 100
    case neg => rw [decide_eq_false h9]; (repeat (first | refine ent_ifT ?_ | refine ent_gF' ?_ | refine ent_pT ?_ | refine ent_pF ?_ | refine ent_q (run_notF) ?_ | refine ent_j ?_)); exact no (fun hc => by unfold CfgP at hc; omega) _ (by exact Imp.trans Imp.drop1 (Imp.drop1))
    rw [decide_eq_true h9]
    show Ent w0 (pt q 25 (cfgL c) :: ro w0 c.hv 4 c.hints.length (hintsV c.hints) :: F) _
    (repeat (first | refine ent_q (run_field0 _) ?_ | refine ent_gT ?_ | refine ent_pF ?_ | refine ent_q (run_notT) ?_ | refine ent_j ?_ | refine ent_q (run_load (cell_own 0 rfl rfl)) ?_))
    refine ent_call (cf_within _ _ _) (Imp.refl _) fun _ => ?_
    by_cases h10 : 0 ≤ c.ghost ∧ c.ghost ≤ 16
    case neg => rw [decide_eq_false h10]; (repeat (first | refine ent_ifT ?_ | refine ent_gF' ?_ | refine ent_pT ?_ | refine ent_pF ?_ | refine ent_q (run_notF) ?_ | refine ent_j ?_)); exact no (fun hc => by unfold CfgP at hc; omega) _ (by exact Imp.trans Imp.drop1 (Imp.drop1))
    rw [decide_eq_true h10]
    show Ent w0 (pt q 25 (cfgL c) :: ro w0 c.hv 4 c.hints.length (hintsV c.hints) :: F) _
    (repeat (first | refine ent_q (run_field0 _) ?_ | refine ent_gT ?_ | refine ent_pF ?_ | refine ent_q (run_notT) ?_ | refine ent_j ?_ | refine ent_q (run_load (cell_own 0 rfl rfl)) ?_))
    refine ent_call (cf_within _ _ _) (Imp.refl _) fun _ => ?_
    by_cases h11 : 1 ≤ c.demote ∧ c.demote ≤ 16
    case neg => rw [decide_eq_false h11]; (repeat (first | refine ent_ifT ?_ | refine ent_pF ?_ | refine ent_q (run_notF) ?_)); exact no (fun hc => by unfold CfgP at hc; omega) _ (by exact Imp.trans Imp.drop1 (Imp.drop1))
    rw [decide_eq_true h11]
    show Ent w0 (pt q 25 (cfgL c) :: ro w0 c.hv 4 c.hints.length (hintsV c.hints) :: F) _
    (repeat (first | refine ent_q (run_field0 _) ?_ | refine ent_ifF ?_ | refine ent_pF ?_ | refine ent_q (run_notT) ?_ | refine ent_q (run_load (cell_own 0 rfl rfl)) ?_))
    have last : (c.place ≠ 2 → c.hints.length = 0) → Ent w0 (pt q 25 (cfgL c) :: ro w0 c.hv 4 c.hints.length (hintsV c.hints) :: F) (hF P 139 #[c.hv, .int .i64 c.blocks] fun t101 => fun w' => ∃ i : Unit, t101 = Value.bool (cfgRight c) ∧ Sat w0 ([] ++ F) w') := by
      intro h12
      refine ent_call (cf_hints c.hv c.hints c.blocks (by omega) hl) (by (repeat refine Imp.pick 1 rfl ?_); exact Imp.refl _) fun _ => ?_
      refine ent_ret () ?_ (by exact Imp.drop1)
      rw [cfgRight_yes]
      exact ⟨hok, h1, h2, h3, h4, h5, h6, h7, h8, h9, h10, h11, h12⟩
    refine ent_qb (run_ne _ _) (fun h12 => ?_) (fun h12 => ?_)
    · (repeat (first | refine ent_q (run_field0 _) ?_ | refine ent_gT ?_ | refine ent_j ?_ | refine ent_q (run_load (cell_own 0 rfl rfl)) ?_))
      refine Ent.at 1 rfl (Ent.ro fun a cap R hv hln hrd => ?_)
      rw [hv]
      refine ent_q run_len ?_
      refine ent_qb (run_gt _ _) (fun h13 => ?_) (fun h13 => ?_)
      · (repeat (first | refine ent_ifT ?_ | refine ent_pT ?_))
        exact no (fun hc => by unfold CfgP at hc; omega) _ (by exact Imp.trans Imp.drop1 (Imp.trans Imp.drop1 (Imp.drop1)))
      · (repeat (first | refine ent_q (run_field0 _) ?_ | refine ent_ifF ?_ | refine ent_pT ?_))
        have := last (by omega)
        rw [hv] at this
        refine ent_q (run_load (cell_own 2 rfl (show (cfgL c)[16]? = some (.slice a c.hints.length cap) by simp [cfgL, hv]))) ?_
        (repeat (first | refine ent_q (run_field0 _) ?_ | refine ent_q (run_load (cell_own 2 rfl rfl)) ?_))
        exact Ent.imp (by (repeat (first | refine Imp.pick 1 rfl ?_ | refine Imp.pick 2 rfl ?_)); exact Imp.drop1) this
    · (repeat (first | refine ent_q (run_field0 _) ?_ | refine ent_ifF ?_ | refine ent_gF ?_ | refine ent_pF ?_ | refine ent_j ?_ | refine ent_q (run_load (cell_own 0 rfl rfl)) ?_))
      exact last (by omega)
  refine ent_qb (run_ne _ _) (fun h7 => ?_) (fun h7 => ?_)
  · (repeat (first | refine ent_q (run_field0 _) ?_ | refine ent_gT ?_ | refine ent_j ?_ | refine ent_q (run_load (cell_own 0 rfl rfl)) ?_))
    refine ent_qb (run_ne _ _) (fun h8 => ?_) (fun h8 => ?_)
    · (repeat (first | refine ent_ifT ?_ | refine ent_pT ?_))
      exact no (fun hc => by unfold CfgP at hc; omega) _ (by exact Imp.trans Imp.drop1 (Imp.drop1))
    · refine ent_pT ?_
      refine ent_ifF ?_
      exact rest (fun _ => by omega)
  · refine ent_j ?_
    refine ent_gF ?_
    refine ent_pF ?_
    refine ent_ifF ?_
    exact rest (fun h => absurd h (by omega))
end
end Go.Gd
