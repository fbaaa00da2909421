/- The contracts of package list. Conditions: those in the theorems. The contracts of package list, second part. Conditions: those in the theorems. The contracts of package list, third part: all of a list, a new space. Conditions: those in the theorems. Rules of the logic: conversions of integers, division, shifts, rows of numbers. Conditions: none beyond those in the theorems. Rules of the logic: an owned slice appended to another; what a space of lists says. Conditions: none beyond those in the theorems. -/
import Derived.Test.YtdgnnacppiaogaaGreatB5
import Derived.Test.YtdgnnacppiaogaaGreatB6
set_option linter.unusedVariables false
set_option linter.unusedSimpArgs false
namespace Go.Gd
open Go.Instr
attribute [local irreducible] loadAt storeAt fieldAt indexAt alloc box build buildSlice hNil eqG binOp Op.unary extract makeSlice makeInterface makeFunc hV mV pV hU hF hIf hGuard hPick hJ hDraw hLoop
def spaceH (p : Nat) (L : List (List Nat)) : HP := exH fun (x : (Nat → Nd) × (Nat → Nd) × Nat × Nat × List Value) =>
  star [pt p 293 (ndL 64 x.1 ++ [.slice (some ⟨x.2.2.1, 0, none⟩) L.length x.2.2.2.1]), pt x.2.2.1 295 (ndL L.length x.2.1 ++ x.2.2.2.2), pureH (Link L x.1 x.2.1 ∧ L.length ≤ 40)]
abbrev P0 (p : Nat) : Value := .pointer (some ⟨p, 0, none⟩)
section
variable {w0 : World}
theorem Ent.space {p : Nat} {L : List (List Nat)} {F : List HP} {X : World → Prop}
    (h : ∀ at_ en e cap junk, Link L at_ en → L.length ≤ 40 → Ent w0 (pt p 293 (ndL 64 at_ ++ [.slice (some ⟨e, 0, none⟩) L.length cap]) :: pt e 295 (ndL L.length en ++ junk) :: F) X) : Ent w0 (spaceH p L :: F) X := by
  unfold spaceH
  refine Ent.ex fun x => Ent.star ?_
  refine Ent.to2 ?_
  exact Ent.pure fun hx => h _ _ _ _ _ hx.1 hx.2
theorem Imp.space {p e cap : Nat} {L : List (List Nat)} {at_ en : Nat → Nd} {junk : List Value} {F F' : List HP} (h1 : Link L at_ en) (h2 : L.length ≤ 40)
    (h : Imp F (pt p 293 (ndL 64 at_ ++ [.slice (some ⟨e, 0, none⟩) L.length cap]) :: pt e 295 (ndL L.length en ++ junk) :: F')) : Imp F (spaceH p L :: F') := by
  unfold spaceH
  refine Imp.exI (at_, en, e, cap, junk) (Imp.starI (h.trans ?_))
  exact Imp.cons (Imp.cons (Imp.pureI ⟨h1, h2⟩ (Imp.refl _)))
attribute [local irreducible] spaceH
theorem sp_block (p : Nat) (b : Int) : Spec w0 278 [P0 p, .int .i64 b] [] (fun _ : Unit => .bool (decide (0 ≤ b ∧ b < 64))) (fun _ => []) := by
  refine spec_go (fun R w => H278) fun F => ?_
  show Ent w0 F _
  unfold F278
  (repeat (first | refine ent_gT ?_ | refine ent_q (run_nepS _) ?_ | refine ent_j ?_))
  refine ent_qb (run_ge _ _) (fun h1 => ?_) (fun h1 => ?_)
  · (repeat (first | refine ent_gT ?_ | refine ent_pT ?_))
    refine ent_qb (run_lt _ _) (fun h2 => ?_) (fun h2 => ?_)
    · (repeat refine ent_pT ?_)
      exact ent_ret () (by rw [decide_eq_true ⟨h1, h2⟩]) (Imp.refl _)
    · (repeat refine ent_pT ?_)
      exact ent_ret () (by rw [decide_eq_false (fun h => h2 h.2)]) (Imp.refl _)
  · (repeat (first | refine ent_gF ?_ | refine ent_pT ?_ | refine ent_pF ?_))
    exact ent_ret () (by rw [decide_eq_false (fun h => h1 h.1)]) (Imp.refl _)
theorem sp_list (p : Nat) (L : List (List Nat)) (l : Int) : Spec w0 275 [P0 p, .int .i64 l] [spaceH p L] (fun _ : Unit => .bool (decide (0 ≤ l ∧ l < L.length))) (fun _ => [spaceH p L]) := by
  refine spec_go (fun R w => H275) fun F => ?_
  show Ent w0 (spaceH p L :: F) _
  refine Ent.space fun at_ en e cap junk hl h40 => ?_
  unfold F275
  (repeat (first | refine ent_gT ?_ | refine ent_q (run_nepS _) ?_ | refine ent_j ?_))
  refine ent_qb (run_ge _ _) (fun h1 => ?_) (fun h1 => ?_)
  · (repeat (first | refine ent_q (run_nil _) ?_ | refine ent_q (run_field0 _) ?_ | refine ent_gT ?_ | refine ent_pT ?_))
    refine ent_q (run_load (v := .slice (some ⟨e, 0, none⟩) L.length cap) (cell_own 0 rfl ?_)) ?_
    · rw [List.getElem?_append_right (by rw [ndL_len]; decide)]; rw [ndL_len]; rfl
    (repeat refine ent_q (run_len) ?_)
    refine ent_qb (run_lt _ _) (fun h2 => ?_) (fun h2 => ?_)
    · (repeat refine ent_pT ?_)
      exact ent_ret () (by rw [decide_eq_true ⟨h1, h2⟩]) (Imp.space hl h40 (Imp.refl _))
    · (repeat refine ent_pT ?_)
      exact ent_ret () (by rw [decide_eq_false (fun h => h2 h.2)]) (Imp.space hl h40 (Imp.refl _))
  · (repeat (first | refine ent_gF ?_ | refine ent_pT ?_ | refine ent_pF ?_))
    exact ent_ret () (by rw [decide_eq_false (fun h => h1 h.1)]) (Imp.space hl h40 (Imp.refl _))
theorem sp_slice {L : List (List Nat)} {at_ : Nat → Nd} {e cap : Nat} : (ndL 64 at_ ++ [Value.slice (some ⟨e, 0, none⟩) L.length cap])[192]? = some (.slice (some ⟨e, 0, none⟩) L.length cap) := by
  rw [List.getElem?_append_right (by rw [ndL_len]; decide)]; rw [ndL_len]; rfl
theorem Link.len64 {L : List (List Nat)} {at_ en : Nat → Nd} (h : Link L at_ en) {k : Nat} {l : List Nat} (hk : L[k]? = some l) : l.length ≤ 64 := by
  have := List.Nodup.length_le_of_subset (h.nodup k l hk) (l₂ := List.range 64) (fun x hx => List.mem_range.2 (h.lt k l x hk hx))
  simpa using this
theorem Link.ahX {L : List (List Nat)} {at_ en : Nat → Nd} (h : Link L at_ en) {k b : Nat} {l : List Nat} (hk : L[k]? = some l) (hb : b ∈ l) : (at_ b).ah = -1 ∨ ∃ x : Nat, (at_ b).ah = x ∧ x < 64 := by
  obtain ⟨xs, ys, rfl, hx, hy⟩ := mem_split hb (h.nodup k l hk)
  rw [h.node k _ b hk hb, prv_split hx]
  rcases List.eq_nil_or_concat xs with rfl | ⟨zs, x, rfl⟩
  · exact .inl rfl
  · exact .inr ⟨x, by rw [List.concat_eq_append, lsN_snoc], h.lt k _ x hk (by simp)⟩
theorem Link.beX {L : List (List Nat)} {at_ en : Nat → Nd} (h : Link L at_ en) {k b : Nat} {l : List Nat} (hk : L[k]? = some l) (hb : b ∈ l) : (at_ b).be = -1 ∨ ∃ x : Nat, (at_ b).be = x ∧ x < 64 := by
  obtain ⟨xs, ys, rfl, hx, hy⟩ := mem_split hb (h.nodup k l hk)
  rw [h.node k _ b hk hb, nxt_split hx]
  cases ys with
  | nil => exact .inl rfl
  | cons y t => exact .inr ⟨y, rfl, h.lt k _ y hk (by simp)⟩
theorem lkOut_length (L : List (List Nat)) (b : Nat) : (lkOut L b).length = L.length := by simp [lkOut]
theorem sp_out (p : Nat) (L : List (List Nat)) (b k : Nat) (l : List Nat) (hk : L[k]? = some l) (hb : b ∈ l) : Spec w0 279 [P0 p, .int .i64 (b : Int)] [spaceH p L] (fun _ : Unit => .tuple #[]) (fun _ => [spaceH p (lkOut L b)]) := by
  refine spec_go (fun R w => H279) fun F => ?_
  show Ent w0 (spaceH p L :: F) _
  refine Ent.space fun at_ en e cap junk hl h40 => ?_
  have hb64 : b < 64 := hl.lt k l b hk hb
  have hkL : k < L.length := (List.getElem?_eq_some_iff.1 hk).1
  have hnode := hl.node k l b hk hb
  have hlen := hl.len64 hk
  have hen : (en k).be = l.length := by rw [hl.ends k l hk]
  have hout := hl.out hk hb
  unfold F279
  (repeat (first | refine ent_q (run_nil _) ?_ | refine ent_q (run_fieldZ _ _) ?_))
  refine ent_q (run_indexA0 b rfl hb64) ?_
  refine ent_q (run_loadA (vs := nd3 (at_ b)) rfl (cells_own 0 rfl (nd_all hb64))) ?_
  refine ent_alloc fun n => ?_
  refine ent_sa0 (l' := nd3 (at_ b)) rfl (by simp [nd3, Value.oneCell']) (by simp [nd3]) rfl ?_
  refine ent_draw _ (Imp.refl _) ?_
  (repeat (first | refine ent_p (fun _ => run_nil _) ?_ | refine ent_p (fun _ => run_field0 _) ?_))
  refine ent_m (run_load (cell_own 1 rfl sp_slice)) ?_
  (repeat refine ent_p (fun _ => run_fieldZ _ _) ?_)
  refine ent_m (run_load (cell_own 0 rfl rfl)) ?_
  refine ent_p (fun _ => run_indexS0 (k := .i64) k (by rw [hnode]) hkL) ?_
  (repeat refine ent_q (run_field0 _) ?_)
  refine ent_q (run_load (cell_own 0 rfl rfl)) ?_
  have fin : ∀ (a2 e2 : Nat → Nd), (e2 k).be = l.length → upF a2 b { a2 b with li := -1 } = atOut at_ b → upF e2 k { e2 k with be := (l.length : Int) - 1 } = enOut at_ en k b →
      ∀ X : World → Prop, (∀ L', Imp L' (spaceH p (lkOut L b) :: F) → Ent w0 L' X) →
      Ent w0 (pt n 290 (nd3 (at_ b)) :: pt p 293 (ndL 64 a2 ++ [.slice (some ⟨e, 0, none⟩) L.length cap]) :: pt e 295 (ndL L.length e2 ++ junk) :: F)
        (hV P (hNil (.pointer (some ⟨e, k * 3, none⟩))) fun t54 =>
 hV P (fieldAt 295 t54 2) fun t55 =>
 hV P (loadAt 3 t55) fun t56 =>
 hV P (binOp .sub 3 t56 (.int .i64 1)) fun t57 =>
 hV P (hNil (.pointer (some ⟨e, k * 3, none⟩))) fun t58 =>
 hV P (fieldAt 295 t58 2) fun t59 =>
 hU P (storeAt 3 t59 t57) <|
 hV P (hNil (P0 p)) fun t62 =>
 hV P (fieldAt 293 t62 0) fun t63 =>
 hV P (indexAt 291 t63 (.int .i64 (b : Int))) fun t64 =>
 hV P (fieldAt 290 t64 0) fun t65 =>
 hU P (storeAt 3 t65 (.int .i64 (-1))) <|
 X) := by
    intro a2 e2 h1 h2 h3 X hR
    (repeat (first | refine ent_q (run_nil _) ?_ | refine ent_q (run_field _ _) ?_))
    refine ent_q (run_load (cell_own 2 rfl (nd_be hkL))) ?_
    refine ent_q (run_sub64 (by rw [h1]; omega)) ?_
    (repeat (first | refine ent_q (run_nil _) ?_ | refine ent_q (run_field _ _) ?_))
    refine ent_st2 rfl (nd_len hkL (by omega)) (nd_s2 hkL _) ?_
    (repeat (first | refine ent_q (run_nil _) ?_ | refine ent_q (run_fieldZ _ _) ?_))
    refine ent_q (run_indexA0 b rfl hb64) ?_
    (repeat refine ent_q (run_fieldZ _ _) ?_)
    refine ent_st1 rfl (nd_len (j := 0) hb64 (by omega)) (nd_s0 hb64 _) ?_
    refine hR _ ?_
    rw [h1, h2, h3]
    exact Imp.trans Imp.drop1 (Imp.space hout (by rw [lkOut_length]; exact h40) (by rw [lkOut_length]; exact Imp.refl _))
  have hret : ∀ L', Imp L' (spaceH p (lkOut L b) :: F) → Ent w0 L' (fun w' => ∃ i : Unit, (Value.tuple #[]) = Value.tuple #[] ∧ Sat w0 ([spaceH p (lkOut L b)] ++ F) w') := fun L' hI => ent_ret () rfl hI
  refine ent_qb (run_eq _ _) (fun ha => ?_) (fun ha => ?_)
  · (repeat (first | refine ent_q (run_field0 _) ?_ | refine ent_ifT ?_ | refine ent_j ?_))
    refine ent_q (run_load (cell_own 0 rfl rfl)) ?_
    (repeat (first | refine ent_q (run_nil _) ?_ | refine ent_q (run_fieldZ _ _) ?_))
    refine ent_st2 rfl (nd_len (j := 0) hkL (by omega)) (nd_s0 hkL _) ?_
    (repeat refine ent_q (run_field0 _) ?_)
    refine ent_q (run_load (cell_own 0 rfl rfl)) ?_
    refine ent_qb (run_eq _ _) (fun hb' => ?_) (fun hb' => ?_)
    · (repeat (first | refine ent_q (run_field0 _) ?_ | refine ent_ifT ?_ | refine ent_j ?_))
      refine ent_q (run_load (cell_own 0 rfl rfl)) ?_
      (repeat (first | refine ent_q (run_nil _) ?_ | refine ent_q (run_field _ _) ?_))
      refine ent_st2 rfl (nd_len hkL (by omega)) (nd_s1 hkL _) ?_
      refine fin _ _ ?_ ?_ ?_ _ hret
      · simp [hen]
      · simp [atOut, ha, hb']
      · simp [enOut, ha, hb', upF_up, hen]
    · obtain ⟨y, hy, hy64⟩ := (hl.beX hk hb).resolve_left hb'
      (repeat (first | refine ent_ifF ?_ | refine ent_j ?_))
      refine ent_draw _ (Imp.refl _) ?_
      (repeat refine ent_p (fun _ => run_field0 _) ?_)
      refine ent_m (run_load (cell_own 0 rfl rfl)) ?_
      (repeat refine ent_p (fun _ => run_field0 _) ?_)
      refine ent_m (run_load (cell_own 0 rfl rfl)) ?_
      (repeat (first | refine ent_p (fun _ => run_nil _) ?_ | refine ent_p (fun _ => run_fieldZ _ _) ?_))
      refine ent_p (fun _ => run_indexA0 y hy hy64) ?_
      (repeat refine ent_p (fun _ => run_field _ _) ?_)
      refine ent_st1 rfl (nd_len hy64 (by omega)) (nd_s1 hy64 _) ?_
      refine fin _ _ ?_ ?_ ?_ _ hret
      · simp [hen]
      · simp [atOut, ha, hb', hy]
      · simp [enOut, ha, hb', upF_up, hen]
  · obtain ⟨x, hx, hx64⟩ := (hl.ahX hk hb).resolve_left ha
    (repeat (first | refine ent_ifF ?_ | refine ent_j ?_))
    refine ent_draw _ (Imp.refl _) ?_
    (repeat refine ent_p (fun _ => run_field0 _) ?_)
    refine ent_m (run_load (cell_own 0 rfl rfl)) ?_
    (repeat refine ent_p (fun _ => run_field0 _) ?_)
    refine ent_m (run_load (cell_own 0 rfl rfl)) ?_
    (repeat (first | refine ent_p (fun _ => run_nil _) ?_ | refine ent_p (fun _ => run_fieldZ _ _) ?_))
    refine ent_p (fun _ => run_indexA0 x hx hx64) ?_
    (repeat refine ent_p (fun _ => run_field _ _) ?_)
    refine ent_st1 rfl (nd_len hx64 (by omega)) (nd_s2 hx64 _) ?_
    (repeat refine ent_q (run_field0 _) ?_)
    refine ent_q (run_load (cell_own 0 rfl rfl)) ?_
    refine ent_qb (run_eq _ _) (fun hb' => ?_) (fun hb' => ?_)
    · (repeat (first | refine ent_q (run_field0 _) ?_ | refine ent_ifT ?_ | refine ent_j ?_))
      refine ent_q (run_load (cell_own 0 rfl rfl)) ?_
      (repeat (first | refine ent_q (run_nil _) ?_ | refine ent_q (run_field _ _) ?_))
      refine ent_st2 rfl (nd_len hkL (by omega)) (nd_s1 hkL _) ?_
      refine fin _ _ ?_ ?_ ?_ _ hret
      · simp [hen]
      · simp [atOut, ha, hb', hx]
      · simp [enOut, ha, hb', upF_up, hen]
    · obtain ⟨y, hy, hy64⟩ := (hl.beX hk hb).resolve_left hb'
      (repeat (first | refine ent_ifF ?_ | refine ent_j ?_))
      refine ent_draw _ (Imp.refl _) ?_
      (repeat refine ent_p (fun _ => run_field0 _) ?_)
      refine ent_m (run_load (cell_own 0 rfl rfl)) ?_
      (repeat refine ent_p (fun _ => run_field0 _) ?_)
      refine ent_m (run_load (cell_own 0 rfl rfl)) ?_
      (repeat (first | refine ent_p (fun _ => run_nil _) ?_ | refine ent_p (fun _ => run_fieldZ _ _) ?_))
      refine ent_p (fun _ => run_indexA0 y hy hy64) ?_
      (repeat refine ent_p (fun _ => run_field _ _) ?_)
      refine ent_st1 rfl (nd_len hy64 (by omega)) (nd_s1 hy64 _) ?_
      refine fin _ _ ?_ ?_ ?_ _ hret
      · exact hen
      · simp [atOut, ha, hb', hx, hy]
      · simp [enOut, ha, hb', hen]
end
end Go.Gd
namespace Go.Gd
open Go.Instr
attribute [local irreducible] loadAt storeAt fieldAt indexAt alloc box build buildSlice hNil eqG binOp Op.unary extract makeSlice makeInterface makeFunc hV mV pV hU hF hIf hGuard hPick hJ hDraw hLoop spaceH
theorem lkOut_none {L : List (List Nat)} {b : Nat} (h : lkOf L b = none) : lkOut L b = L := by
  unfold lkOut
  conv => rhs; rw [← List.map_id L]
  exact List.map_congr_left fun l hl => filter_not (lkOf_none h l hl)
theorem lkOut_not {L : List (List Nat)} {b : Nat} : ∀ l ∈ lkOut L b, b ∉ l := by
  intro l hl
  obtain ⟨l', _, rfl⟩ := List.mem_map.1 hl
  simp
theorem lkPush_length (L : List (List Nat)) (k b : Nat) : (lkPush L k b).length = L.length := by simp [lkPush]
def lkI (L : List (List Nat)) (b : Int) : Option Nat := if 0 ≤ b ∧ b < 64 then lkOf L b.toNat else none
theorem lkI_nat {L : List (List Nat)} {b : Nat} (h : b < 64) : lkI L (b : Int) = lkOf L b := by unfold lkI; rw [if_pos (by omega)]; rfl
theorem lkI_out {L : List (List Nat)} {b : Int} (h : ¬ (0 ≤ b ∧ b < 64)) : lkI L b = none := if_neg h
section
variable {w0 : World}
theorem sp_ready (p : Nat) (L : List (List Nat)) (k b : Nat) (hk : k < L.length) (hb : b < 64) : Spec w0 280 [P0 p, .int .i64 k, .int .i64 b] [spaceH p L] (fun _ : Unit => .int .i64 0) (fun _ => [spaceH p (lkOut L b)]) := by
  refine spec_go (fun R w => H280) fun F => ?_
  show Ent w0 (spaceH p L :: F) _
  unfold F280
  (repeat (first | refine ent_ifF ?_ | refine ent_q (run_eqpS _) ?_))
  refine ent_call (sp_list p L k) (Imp.refl _) fun _ => ?_
  rw [decide_eq_true (show (0 : Int) ≤ k ∧ (k : Int) < L.length by omega)]
  (repeat (first | refine ent_gT ?_ | refine ent_q (run_notT) ?_ | refine ent_j ?_))
  refine ent_call (sp_block p b) (Imp.refl _) fun _ => ?_
  rw [decide_eq_true (show (0 : Int) ≤ b ∧ (b : Int) < 64 by omega)]
  (repeat (first | refine ent_q (run_nil _) ?_ | refine ent_q (run_fieldZ _ _) ?_ | refine ent_ifF ?_ | refine ent_pF ?_ | refine ent_q (run_notT) ?_))
  show Ent w0 (spaceH p L :: F) _
  refine Ent.space fun at_ en e cap junk hl h40 => ?_
  (skip)
  refine ent_q (run_indexA0 b rfl hb) ?_
  (repeat refine ent_q (run_fieldZ _ _) ?_)
  refine ent_q (run_load (cell_own 0 rfl (nd_li hb))) ?_
  cases ho : lkOf L b with
  | none =>
    refine ent_q ((run_ne _ _).F (by rw [hl.li hb, ho]; simp)) ?_
    (repeat refine ent_ifF ?_)
    rw [lkOut_none ho]
    exact ent_ret () rfl (Imp.space hl h40 (Imp.refl _))
  | some k' =>
    refine ent_q ((run_ne _ _).T (by rw [hl.li hb, ho]; simp)) ?_
    (repeat refine ent_ifT ?_)
    obtain ⟨l', h1, h2⟩ := lkOf_some ho
    refine ent_call (sp_out p L b k' l' h1 h2) (Imp.space hl h40 (Imp.refl _)) fun _ => ?_
    exact ent_ret () rfl (Imp.refl _)
theorem sp_front (p : Nat) (L : List (List Nat)) (k b : Nat) (hk : k < L.length) (hb : b < 64) : Spec w0 272 [P0 p, .int .i64 k, .int .i64 b] [spaceH p L] (fun _ : Unit => .int .i64 0) (fun _ => [spaceH p (lkPush (lkOut L b) k b)]) := by
  refine spec_go (fun R w => H272) fun F => ?_
  show Ent w0 (spaceH p L :: F) _
  unfold F272
  refine ent_call (sp_ready p L k b hk hb) (Imp.refl _) fun _ => ?_
  refine ent_q ((run_ne _ _).F (by simp)) ?_
  (repeat (first | refine ent_q (run_nil _) ?_ | refine ent_q (run_field0 _) ?_ | refine ent_ifF ?_))
  show Ent w0 (spaceH p (lkOut L b) :: F) _
  refine Ent.space fun at_ en e cap junk hl h40 => ?_
  have hkl : k < (lkOut L b).length := by rw [lkOut_length]; exact hk
  have hgk : (lkOut L b)[k]? = some ((lkOut L b)[k]) := List.getElem?_eq_getElem hkl
  have hpush := hl.push hgk lkOut_not hb
  have hnd := hl.nodup k _ hgk
  have hlen := hl.len64 hgk
  have hen := hl.ends k _ hgk
  generalize (lkOut L b)[k] = l at *
  refine ent_q (run_load (cell_own 0 rfl sp_slice)) ?_
  (skip)
  refine ent_q (run_indexS0 k rfl hkl) ?_
  refine ent_draw _ (Imp.refl _) ?_
  (repeat (first | refine ent_p (fun _ => run_nil _) ?_ | refine ent_p (fun _ => run_fieldZ _ _) ?_))
  refine ent_m (run_load (cell_own 1 rfl (nd_li hkl))) ?_
  refine ent_p (fun _ => run_build (cs := [.int .i64 k, .int .i64 (-1), .int .i64 (en k).li]) rfl) ?_
  (repeat (first | refine ent_p (fun _ => run_nil _) ?_ | refine ent_p (fun _ => run_fieldZ _ _) ?_))
  refine ent_p (fun _ => run_indexA0 b rfl hb) ?_
  refine ent_sa0 (vs := nd3 ⟨k, -1, (en k).li⟩) rfl (by simp [nd3, Value.oneCell']) (nd_len (j := 2) hb (by omega)) (nd_sa hb _) ?_
  (repeat (first | refine ent_q (run_nil _) ?_ | refine ent_q (run_fieldZ _ _) ?_))
  refine ent_q (run_load (cell_own 1 rfl (nd_li hkl))) ?_
  have fin : ∀ (a2 e2 : Nat → Nd), a2 = atPush at_ en k b → upF e2 k ⟨b, (e2 k).ah, (e2 k).be + 1⟩ = enPush en k b → (e2 k).be = l.length →
     Ent w0 (pt p 293 (ndL 64 a2 ++ [.slice (some ⟨e, 0, none⟩) (lkOut L b).length cap]) :: pt e 295 (ndL (lkOut L b).length e2 ++ junk) :: F) (hV P (hNil (.pointer (some ⟨e, k * 3, none⟩))) fun t54 =>
 hV P (fieldAt 295 t54 0) fun t55 =>
 hU P (storeAt 3 t55 (.int .i64 (b : Int))) <|
 hV P (hNil (.pointer (some ⟨e, k * 3, none⟩))) fun t57 =>
 hV P (fieldAt 295 t57 2) fun t58 =>
 hV P (loadAt 3 t58) fun t59 =>
 hV P (binOp .add 3 t59 (.int .i64 1)) fun t60 =>
 hV P (hNil (.pointer (some ⟨e, k * 3, none⟩))) fun t61 =>
 hV P (fieldAt 295 t61 2) fun t62 =>
 hU P (storeAt 3 t62 t60) <|
 fun w' => ∃ i : Unit, (Value.int .i64 0) = Value.int .i64 0 ∧ Sat w0 ([spaceH p (lkPush (lkOut L b) k b)] ++ F) w') := by
    intro a2 e2 h1 h2 h3
    (repeat (first | refine ent_q (run_nil _) ?_ | refine ent_q (run_fieldZ _ _) ?_))
    refine ent_st1 rfl (nd_len (j := 0) hkl (by omega)) (nd_s0 hkl _) ?_
    (repeat (first | refine ent_q (run_nil _) ?_ | refine ent_q (run_field _ _) ?_))
    refine ent_q (run_load (cell_own 1 rfl (nd_be hkl))) ?_
    refine ent_q (run_add64 (by simp only [upF_same]; rw [h3]; omega)) ?_
    (repeat (first | refine ent_q (run_nil _) ?_ | refine ent_q (run_field _ _) ?_))
    refine ent_st1 rfl (nd_len hkl (by omega)) (nd_s2 hkl _) ?_
    refine ent_ret () rfl ?_
    simp only [upF_same, upF_up]
    rw [h1, h2]
    exact Imp.space hpush (by rw [lkPush_length]; exact h40) (by rw [lkPush_length]; exact Imp.refl _)
  refine ent_qb (run_eq _ _) (fun ha => ?_) (fun ha => ?_)
  · (repeat (first | refine ent_q (run_nil _) ?_ | refine ent_q (run_field _ _) ?_ | refine ent_ifT ?_ | refine ent_j ?_))
    refine ent_st1 rfl (nd_len hkl (by omega)) (nd_s1 hkl _) ?_
    refine fin _ _ ?_ ?_ ?_
    · simp [atPush, ha]
    · simp [enPush, ha, upF_up]
    · simp [hen]
  · (repeat (first | refine ent_ifF ?_ | refine ent_j ?_))
    refine ent_draw _ (Imp.refl _) ?_
    (repeat (first | refine ent_p (fun _ => run_nil _) ?_ | refine ent_p (fun _ => run_fieldZ _ _) ?_))
    refine ent_m (run_load (cell_own 1 rfl (nd_li hkl))) ?_
    (repeat (first | refine ent_p (fun _ => run_nil _) ?_ | refine ent_p (fun _ => run_fieldZ _ _) ?_))
    have : ∃ x : Nat, (en k).li = x ∧ x < 64 ∧ x ∈ l := by
      rw [hen] at ha ⊢
      cases l with
      | nil => simp [fsN] at ha
      | cons x t => exact ⟨x, rfl, hl.lt k _ x hgk (by simp), by simp⟩
    obtain ⟨x, hx, hx64, hxl⟩ := this
    refine ent_p (fun _ => run_indexA0 x hx hx64) ?_
    (repeat refine ent_p (fun _ => run_field _ _) ?_)
    refine ent_st0 rfl (nd_len hx64 (by omega)) (nd_s1 hx64 _) ?_
    refine fin _ _ ?_ ?_ ?_
    · simp [atPush, ha, hx]
    · simp [enPush, ha]
    · simp [hen]
theorem sp_of (p : Nat) (L : List (List Nat)) (b : Int) : Spec w0 274 [P0 p, .int .i64 b] [spaceH p L] (fun _ : Unit => .tuple #[.int .i64 (match lkI L b with | some k => k | none => 0), .bool (lkI L b).isSome]) (fun _ => [spaceH p L]) := by
  refine spec_go (fun R w => H274) fun F => ?_
  show Ent w0 (spaceH p L :: F) _
  unfold F274
  refine ent_call (sp_block p b) (Imp.refl _) fun _ => ?_
  by_cases hb : 0 ≤ b ∧ b < 64
  · rw [decide_eq_true hb]
    obtain ⟨n, rfl⟩ : ∃ n : Nat, b = n := ⟨b.toNat, by omega⟩
    have hn : n < 64 := by omega
    show Ent w0 (spaceH p L :: F) _
    refine Ent.space fun at_ en e cap junk hl h40 => ?_
    (repeat (first | refine ent_q (run_nil _) ?_ | refine ent_q (run_fieldZ _ _) ?_ | refine ent_gT ?_ | refine ent_q (run_notT) ?_ | refine ent_j ?_))
    refine ent_q (run_indexA0 n rfl hn) ?_
    (repeat refine ent_q (run_fieldZ _ _) ?_)
    refine ent_q (run_load (cell_own 0 rfl (nd_li hn))) ?_
    rw [lkI_nat hn]
    cases ho : lkOf L n with
    | none =>
      refine ent_q ((run_eq _ _).T (by rw [hl.li hn, ho])) ?_
      (repeat (first | refine ent_ifT ?_ | refine ent_pF ?_))
      exact ent_ret () rfl (Imp.space hl h40 (Imp.refl _))
    | some k' =>
      refine ent_q ((run_eq _ _).F (by rw [hl.li hn, ho]; simp)) ?_
      (repeat (first | refine ent_q (run_nil _) ?_ | refine ent_q (run_fieldZ _ _) ?_ | refine ent_ifF ?_ | refine ent_pF ?_))
      refine ent_q (run_indexA0 n rfl hn) ?_
      (repeat refine ent_q (run_fieldZ _ _) ?_)
      refine ent_q (run_load (cell_own 0 rfl (nd_li hn))) ?_
      refine ent_ret () ?_ (Imp.space hl h40 (Imp.refl _))
      rw [hl.li hn, ho]; rfl
  · rw [decide_eq_false hb, lkI_out hb]
    (repeat (first | refine ent_ifT ?_ | refine ent_gF' ?_ | refine ent_pT ?_ | refine ent_q (run_notF) ?_ | refine ent_j ?_))
    exact ent_ret () rfl (Imp.refl _)
theorem sp_remove (p : Nat) (L : List (List Nat)) (b k : Nat) (hb : lkOf L b = some k) (hb64 : b < 64) : Spec w0 271 [P0 p, .int .i64 b] [spaceH p L] (fun _ : Unit => .int .i64 0) (fun _ => [spaceH p (lkOut L b)]) := by
  refine spec_go (fun R w => H271) fun F => ?_
  show Ent w0 (spaceH p L :: F) _
  unfold F271
  (repeat (first | refine ent_ifF ?_ | refine ent_q (run_eqpS _) ?_))
  refine ent_call (sp_block p b) (Imp.refl _) fun _ => ?_
  rw [decide_eq_true (show (0 : Int) ≤ b ∧ (b : Int) < 64 by omega)]
  (repeat (first | refine ent_q (run_nil _) ?_ | refine ent_q (run_fieldZ _ _) ?_ | refine ent_ifF ?_ | refine ent_q (run_notT) ?_))
  show Ent w0 (spaceH p L :: F) _
  obtain ⟨l', h1, h2⟩ := lkOf_some hb
  refine Ent.space fun at_ en e cap junk hl h40 => ?_
  (skip)
  refine ent_q (run_indexA0 b rfl hb64) ?_
  (repeat refine ent_q (run_fieldZ _ _) ?_)
  refine ent_q (run_load (cell_own 0 rfl (nd_li hb64))) ?_
  refine ent_q ((run_eq _ _).F (by rw [hl.li hb64, hb]; simp)) ?_
  (repeat refine ent_ifF ?_)
  refine ent_call (sp_out p L b k l' h1 h2) (Imp.space hl h40 (Imp.refl _)) fun _ => ?_
  exact ent_ret () rfl (Imp.refl _)
theorem sp_last (p : Nat) (L : List (List Nat)) (k : Nat) (l : List Nat) (hk : L[k]? = some l) : Spec w0 276 [P0 p, .int .i64 k] [spaceH p L] (fun _ : Unit => .tuple #[.int .i64 (match l.getLast? with | some x => x | none => 0), .bool (!l.isEmpty)]) (fun _ => [spaceH p L]) := by
  refine spec_go (fun R w => H276) fun F => ?_
  show Ent w0 (spaceH p L :: F) _
  unfold F276
  have hkl : k < L.length := (List.getElem?_eq_some_iff.1 hk).1
  refine ent_call (sp_list p L k) (Imp.refl _) fun _ => ?_
  rw [decide_eq_true (show (0 : Int) ≤ k ∧ (k : Int) < L.length by omega)]
  show Ent w0 (spaceH p L :: F) _
  refine Ent.space fun at_ en e cap junk hl h40 => ?_
  have hen := hl.ends k _ hk
  (repeat (first | refine ent_q (run_nil _) ?_ | refine ent_q (run_field0 _) ?_ | refine ent_gT ?_ | refine ent_q (run_notT) ?_ | refine ent_j ?_))
  refine ent_q (run_load (cell_own 0 rfl sp_slice)) ?_
  (skip)
  refine ent_q (run_indexS0 k rfl hkl) ?_
  (repeat refine ent_q (run_field _ _) ?_)
  refine ent_q (run_load (cell_own 1 rfl (nd_be hkl))) ?_
  rcases List.eq_nil_or_concat l with rfl | ⟨xs, x, rfl⟩
  · refine ent_q ((run_eq _ _).T (by rw [hen]; rfl)) ?_
    (repeat (first | refine ent_ifT ?_ | refine ent_pF ?_))
    exact ent_ret () rfl (Imp.space hl h40 (Imp.refl _))
  · refine ent_q ((run_eq _ _).F (by rw [hen]; simp; omega)) ?_
    (repeat (first | refine ent_q (run_nil _) ?_ | refine ent_q (run_field0 _) ?_ | refine ent_ifF ?_ | refine ent_pF ?_))
    refine ent_q (run_load (cell_own 0 rfl sp_slice)) ?_
    (skip)
    refine ent_q (run_indexS0 k rfl hkl) ?_
    (repeat refine ent_q (run_field _ _) ?_)
    refine ent_q (run_load (cell_own 1 rfl (nd_ah hkl))) ?_
    refine ent_ret () ?_ (Imp.space hl h40 (Imp.refl _))
    rw [hen]; simp [List.concat_eq_append, lsN_snoc]
theorem sp_first (p : Nat) (L : List (List Nat)) (k : Nat) (l : List Nat) (hk : L[k]? = some l) : Spec w0 277 [P0 p, .int .i64 k] [spaceH p L] (fun _ : Unit => .tuple #[.int .i64 ((l.headD 0 : Nat) : Int), .bool (!l.isEmpty)]) (fun _ => [spaceH p L]) := by
  refine spec_go (fun R w => H277) fun F => ?_
  show Ent w0 (spaceH p L :: F) _
  unfold F277
  have hkl : k < L.length := (List.getElem?_eq_some_iff.1 hk).1
  refine ent_call (sp_list p L k) (Imp.refl _) fun _ => ?_
  rw [decide_eq_true (show (0 : Int) ≤ k ∧ (k : Int) < L.length by omega)]
  show Ent w0 (spaceH p L :: F) _
  refine Ent.space fun at_ en e cap junk hl h40 => ?_
  have hen := hl.ends k _ hk
  (repeat (first | refine ent_q (run_nil _) ?_ | refine ent_q (run_field0 _) ?_ | refine ent_gT ?_ | refine ent_q (run_notT) ?_ | refine ent_j ?_))
  refine ent_q (run_load (cell_own 0 rfl sp_slice)) ?_
  (skip)
  refine ent_q (run_indexS0 k rfl hkl) ?_
  (repeat refine ent_q (run_field _ _) ?_)
  refine ent_q (run_load (cell_own 1 rfl (nd_be hkl))) ?_
  cases l with
  | nil =>
    refine ent_q ((run_eq _ _).T (by rw [hen]; rfl)) ?_
    (repeat (first | refine ent_ifT ?_ | refine ent_pF ?_))
    exact ent_ret () rfl (Imp.space hl h40 (Imp.refl _))
  | cons x t =>
    refine ent_q ((run_eq _ _).F (by rw [hen]; simp; omega)) ?_
    (repeat (first | refine ent_q (run_nil _) ?_ | refine ent_q (run_field0 _) ?_ | refine ent_ifF ?_ | refine ent_pF ?_))
    refine ent_q (run_load (cell_own 0 rfl sp_slice)) ?_
    (skip)
    refine ent_q (run_indexS0 k rfl hkl) ?_
    (repeat refine ent_q (run_fieldZ _ _) ?_)
    refine ent_q (run_load (cell_own 1 rfl (nd_li hkl))) ?_
    refine ent_ret () ?_ (Imp.space hl h40 (Imp.refl _))
    rw [hen]; rfl
theorem sp_len (p : Nat) (L : List (List Nat)) (k : Nat) (l : List Nat) (hk : L[k]? = some l) : Spec w0 269 [P0 p, .int .i64 k] [spaceH p L] (fun _ : Unit => .int .i64 l.length) (fun _ => [spaceH p L]) := by
  refine spec_go (fun R w => H269) fun F => ?_
  show Ent w0 (spaceH p L :: F) _
  unfold F269
  have hkl : k < L.length := (List.getElem?_eq_some_iff.1 hk).1
  refine ent_call (sp_list p L k) (Imp.refl _) fun _ => ?_
  rw [decide_eq_true (show (0 : Int) ≤ k ∧ (k : Int) < L.length by omega)]
  show Ent w0 (spaceH p L :: F) _
  refine Ent.space fun at_ en e cap junk hl h40 => ?_
  have hen := hl.ends k _ hk
  (repeat (first | refine ent_q (run_nil _) ?_ | refine ent_q (run_field0 _) ?_ | refine ent_ifF ?_ | refine ent_q (run_notT) ?_))
  refine ent_q (run_load (cell_own 0 rfl sp_slice)) ?_
  (skip)
  refine ent_q (run_indexS0 k rfl hkl) ?_
  (repeat refine ent_q (run_field _ _) ?_)
  refine ent_q (run_load (cell_own 1 rfl (nd_be hkl))) ?_
  refine ent_ret () ?_ (Imp.space hl h40 (Imp.refl _))
  rw [hen]
end
end Go.Gd
namespace Go.Gd
open Go.Instr
attribute [local irreducible] loadAt storeAt fieldAt indexAt alloc box build buildSlice hNil eqG binOp Op.unary extract makeSlice makeInterface makeFunc hV mV pV hU hF hIf hGuard hPick hJ hDraw hLoop spaceH
def intsV (l : List Nat) : List Value := l.map fun (b : Nat) => Value.int .i64 (b : Int)
theorem intsV_len (l : List Nat) : (intsV l).length = l.length := by simp [intsV]
theorem intsV_append (a b : List Nat) : intsV (a ++ b) = intsV a ++ intsV b := by simp [intsV]
theorem intsV_one (l : List Nat) : ∀ v ∈ intsV l, v.oneCell' = true := by
  intro v hv
  obtain ⟨b, _, rfl⟩ := List.mem_map.1 hv
  rfl
section
variable {w0 : World}
theorem sp_all (p : Nat) (L : List (List Nat)) (k : Nat) (l : List Nat) (hk : L[k]? = some l) : Spec w0 273 [P0 p, .int .i64 k] [spaceH p L] (fun v : Value => v) (fun v => [vec v 3 1 (intsV l) l.length, spaceH p L]) := by
  refine spec_go (fun R w => H273) fun F => ?_
  show Ent w0 (spaceH p L :: F) _
  unfold F273
  have hkl : k < L.length := (List.getElem?_eq_some_iff.1 hk).1
  refine ent_call (sp_list p L k) (Imp.refl _) fun _ => ?_
  rw [decide_eq_true (show (0 : Int) ≤ k ∧ (k : Int) < L.length by omega)]
  show Ent w0 (spaceH p L :: F) _
  refine Ent.space fun at_ en e cap junk hl h40 => ?_
  have hen := hl.ends k _ hk
  have hnd := hl.nodup k _ hk
  have h64 := hl.len64 hk
  (repeat (first | refine ent_q (run_nil _) ?_ | refine ent_q (run_field0 _) ?_ | refine ent_ifF ?_ | refine ent_q (run_notT) ?_))
  refine ent_q (run_load (cell_own 0 rfl sp_slice)) ?_
  (skip)
  refine ent_q (run_indexS0 k rfl hkl) ?_
  (repeat refine ent_q (run_fieldZ _ _) ?_)
  refine ent_q (run_load (cell_own 1 rfl (nd_li hkl))) ?_
  refine ent_loop (ι := List Nat × List Nat × Value) (fun i => i.1 ++ i.2.1 = l) (fun i => [.int .i64 (fsN i.2.1), i.2.2])
    (fun i => vec i.2.2 3 1 (intsV i.1) i.1.length :: pt p 293 (ndL 64 at_ ++ [.slice (some ⟨e, 0, none⟩) L.length cap]) :: pt e 295 (ndL L.length en ++ junk) :: F)
    (fun i => i.2.1.length) ([], l, .slice none 0 0) rfl (by rw [hen]) (show Imp _ (vec (.slice none 0 0) 3 1 [] 0 :: _) from Imp.vec0 (a := none) rfl (Imp.refl _)) ?_
  rintro ⟨xs, ys, v⟩ hi g next hnext
  simp only at hi hnext ⊢
  cases ys with
  | nil =>
    refine ent_q ((run_ne _ _).F (by simp [fsN])) ?_
    (repeat refine ent_ifF ?_)
    refine ent_ret v rfl ?_
    simp only [List.append_nil] at hi
    subst hi
    exact Imp.cons (Imp.space hl h40 (Imp.refl _))
  | cons y t =>
    have hyl : y ∈ l := by rw [← hi]; simp
    have hy64 := hl.lt k _ y hk hyl
    have hlen : xs.length + 1 + t.length = l.length := by rw [← hi]; simp; omega
    refine ent_q ((run_ne _ _).T (by simp [fsN])) ?_
    (repeat refine ent_ifT ?_)
    refine bs64_1 rfl fun n => ?_
    refine ent_append (zs := [.int .i64 0]) 1 rfl (RdS.all (l := [.int .i64 y]) 0 rfl rfl) rfl (by simp [Value.oneCell', fsN]) (by omega) (by omega) fun v' => ?_
    refine Ent.imp (Imp.drop 1) ?_
    simp only [List.eraseIdx_cons_succ, List.eraseIdx_cons_zero]
    (repeat (first | refine ent_q (run_nil _) ?_ | refine ent_q (run_fieldZ _ _) ?_))
    refine ent_q (run_indexA0 y rfl hy64) ?_
    (repeat refine ent_q (run_field _ _) ?_)
    refine ent_q (run_load (cell_own 1 rfl (nd_be hy64))) ?_
    have hnx : (at_ y).be = fsN t := by
      rw [hl.node k _ y hk hyl, ← hi]
      exact nxt_split (by rw [← hi] at hnd; intro hx; exact (List.nodup_append.1 hnd).2.2 y hx y (by simp) rfl)
    have hh := hnext (xs ++ [y], t, v') (by simp [← hi]) (by simp)
    rw [hnx]
    refine Ent.imp ?_ hh
    rw [show intsV (xs ++ [y]) = intsV xs ++ [.int .i64 y] by simp [intsV], show (xs ++ [y]).length = xs.length + 1 by simp]
    exact Imp.refl _
def lkNew (n : Nat) : List (List Nat) := List.replicate n []
theorem Link.new (n : Nat) (at_ en : Nat → Nd) (h1 : ∀ b, b < 64 → (at_ b).li = -1) (h2 : ∀ k, k < n → en k = ⟨-1, -1, 0⟩) : Link (lkNew n) at_ en := by
  have hget : ∀ k l, (lkNew n)[k]? = some l → l = [] ∧ k < n := by
    intro k l h
    unfold lkNew at h
    rw [List.getElem?_replicate] at h
    split at h
    · exact ⟨by simpa using h.symm, by assumption⟩
    · cases h
  refine ⟨fun k l h => ?_, fun k l b h hb => ?_, fun b hb _ => h1 b hb, fun k l h => ?_, fun k k' l l' b h _ hb _ => ?_, fun k l b h hb => ?_⟩
  · obtain ⟨rfl, hk⟩ := hget k l h; rw [h2 k hk]; rfl
  · obtain ⟨rfl, _⟩ := hget k l h; cases hb
  · obtain ⟨rfl, _⟩ := hget k l h; exact List.nodup_nil
  · obtain ⟨rfl, _⟩ := hget k l h; cases hb
  · obtain ⟨rfl, _⟩ := hget k l h; cases hb
theorem rep_ndL (n : Nat) : List.replicate (n * 3) (Value.int .i64 0) = ndL n (fun _ => ⟨0, 0, 0⟩) := by
  unfold ndL
  induction n with
  | zero => rfl
  | succ n ih => rw [fl_succ, ← ih, Nat.add_mul, Nat.one_mul, ← List.replicate_append_replicate]; rfl
theorem rep_flat (n : Nat) : (List.replicate n [Value.int .i64 0, .int .i64 0, .int .i64 0]).flatten = ndL n (fun _ => ⟨0, 0, 0⟩) := by
  unfold ndL
  induction n with
  | zero => rfl
  | succ n ih => rw [fl_succ, List.replicate_succ', List.flatten_append, ih]; rfl
theorem sp_new (m : Int) : Spec w0 184 [.int .i64 m] [] (fun p : Nat => P0 p) (fun p => [spaceH p (lkNew (max 1 (min m 40)).toNat)]) := by
  refine spec_go (fun R w => H184) fun F => ?_
  show Ent w0 F _
  unfold F184
  refine ent_q (run_min _ _) ?_
  refine ent_q (run_max _ _) ?_
  obtain ⟨n, hn⟩ : ∃ n : Nat, max 1 (min m 40) = n := ⟨(max 1 (min m 40)).toNat, by omega⟩
  have hn40 : n ≤ 40 ∧ 1 ≤ n := by omega
  rw [hn]
  refine ent_make (zs := [.int .i64 0, .int .i64 0, .int .i64 0]) rfl n n rfl rfl (Nat.le_refl _) (by omega) (by omega) fun v => ?_
  rw [rep_flat]
  refine Ent.vec (fun a _ _ h => by omega) fun e cap junk hv hl1 hl2 => ?_
  subst hv
  refine ent_q (bd293_1 rfl) ?_
  refine ent_box fun p => ?_
  rw [agg_cells, List.toList_toArray, show (192 : Nat) = 64 * 3 from rfl, rep_ndL]
  refine ent_loop (ι := Nat × (Nat → Nd)) (fun i => i.1 ≤ 64 ∧ ∀ b, b < i.1 → (i.2 b).li = -1) (fun i => [.int .i64 i.1])
    (fun i => pt p 293 (ndL 64 i.2 ++ [.slice (some ⟨e, 0, none⟩) n cap]) :: pt e 295 (ndL n (fun _ => ⟨0, 0, 0⟩) ++ junk) :: F)
    (fun i => 64 - i.1) (0, fun _ => ⟨0, 0, 0⟩) ⟨by simp, by simp⟩ rfl (Imp.refl _) ?_
  rintro ⟨i, at_⟩ ⟨hi, hli⟩ g next hnext
  simp only at hi hli hnext ⊢
  show Ent w0 _ (hV P (binOp .lss 3 (.int .i64 (i : Int)) (.int .i64 64)) _)
  refine ent_qb (run_lt _ _) (fun h => ?_) (fun h => ?_)
  · (repeat (first | refine ent_q (run_nil _) ?_ | refine ent_q (run_fieldZ _ _) ?_ | refine ent_ifT ?_))
    have hi64 : i < 64 := by omega
    refine ent_q (run_indexA0 i rfl hi64) ?_
    (repeat refine ent_q (run_fieldZ _ _) ?_)
    refine ent_st0 rfl (nd_len (j := 0) hi64 (by omega)) (nd_s0 hi64 _) ?_
    refine ent_q (run_add64 (by omega)) ?_
    refine hnext (i + 1, upF at_ i { at_ i with li := -1 }) ⟨by omega, fun b hb => ?_⟩ (by simp only; omega)
    simp only at hb ⊢
    by_cases hbi : b = i
    · subst hbi; simp
    · rw [upF_ne _ _ hbi]; exact hli b (by omega)
  · have hi64 : i = 64 := by omega
    subst hi64
    (repeat (first | refine ent_q (run_nil _) ?_ | refine ent_q (run_field0 _) ?_ | refine ent_ifF ?_))
    have hsl : (ndL 64 at_ ++ [Value.slice (some ⟨e, 0, none⟩) n cap])[192]? = some (.slice (some ⟨e, 0, none⟩) n cap) := by
      rw [List.getElem?_append_right (by rw [ndL_len]; decide)]; rw [ndL_len]; rfl
    refine ent_q (run_load (cell_own 0 rfl hsl)) ?_
    refine ent_q run_len ?_
    refine ent_loop (ι := Nat × (Nat → Nd)) (fun i => i.1 ≤ n ∧ ∀ k, k < i.1 → i.2 k = ⟨-1, -1, 0⟩) (fun i => [.int .i64 i.1])
      (fun i => pt p 293 (ndL 64 at_ ++ [.slice (some ⟨e, 0, none⟩) n cap]) :: pt e 295 (ndL n i.2 ++ junk) :: F)
      (fun i => n - i.1) (0, fun _ => ⟨0, 0, 0⟩) ⟨by simp, by simp⟩ rfl (Imp.refl _) ?_
    rintro ⟨i, en⟩ ⟨hi, hei⟩ g2 next2 hnext2
    simp only at hi hei hnext2 ⊢
    show Ent w0 _ (hV P (binOp .lss 3 (.int .i64 (i : Int)) (.int .i64 (n : Int))) _)
    refine ent_qb (run_lt _ _) (fun h => ?_) (fun h => ?_)
    · (repeat (first | refine ent_q (run_nil _) ?_ | refine ent_q (run_field0 _) ?_ | refine ent_ifT ?_))
      have hin : i < n := by omega
      refine ent_q (run_load (cell_own 0 rfl hsl)) ?_
      refine ent_q (bd295_0_1 rfl rfl) ?_
      refine ent_q (run_indexS0 i rfl hin) ?_
      refine ent_sa1 (vs := nd3 ⟨-1, -1, 0⟩) rfl (by simp [nd3, Value.oneCell']) (nd_len (j := 2) hin (by omega)) (nd_sa hin _) ?_
      refine ent_q (run_add64 (by omega)) ?_
      refine hnext2 (i + 1, upF en i ⟨-1, -1, 0⟩) ⟨by omega, fun b hb => ?_⟩ (by simp only; omega)
      simp only at hb ⊢
      by_cases hbi : b = i
      · subst hbi; simp
      · rw [upF_ne _ _ hbi]; exact hei b (by omega)
    · have hin : i = n := by omega
      subst hin
      (repeat refine ent_ifF ?_)
      refine ent_ret p rfl ?_
      refine Imp.space (e := e) (cap := cap) (junk := junk) (L := lkNew i) (Link.new i at_ en hli hei) (by simp [lkNew]; omega) ?_
      simp only [lkNew, List.length_replicate]
      exact Imp.refl _
end
end Go.Gd
namespace Go.Gd
open Go.Instr
section
variable {w0 : World} {L : List HP}
theorem intT_und {t : TypeId} {k : IntKind} [h : IntT t k] : P.underlying t = some (.int k) := by
  have h := h.h
  unfold intT at h
  cases hu : P.underlying t with
  | none => rw [hu] at h; cases h
  | some d => rw [hu] at h; cases d <;> simp only [reduceCtorEq, Option.some.injEq] at h; rw [h]
theorem run_conv {s t : TypeId} {k k' j : IntKind} [IntT s j] [IntT t k'] (n : Int) : Run w0 L (convert s t (.int k n)) (.int k' (k'.wrap n)) := fun w _ => by
  unfold convert
  simp only [Sem.run_bind, run_underlying (intT_und (t := s) (k := j)), run_underlying (intT_und (t := t) (k := k')), Result.andThen_ok]
  rfl
theorem wrap_u64 {n : Int} (h : 0 ≤ n ∧ n ≤ 18446744073709551615) : IntKind.u64.wrap n = n := by
  simp only [IntKind.wrap, IntKind.bits, IntKind.signed, Bool.false_and, Bool.false_eq_true, if_false]
  omega
theorem wrap_u8 {n : Int} (h : 0 ≤ n ∧ n ≤ 255) : IntKind.u8.wrap n = n := by
  simp only [IntKind.wrap, IntKind.bits, IntKind.signed, Bool.false_and, Bool.false_eq_true, if_false]
  omega
theorem run_quo {t : TypeId} {k : IntKind} {a b : Int} (hb : b ≠ 0) : Run w0 L (binOp .quo t (.int k a) (.int k b)) (.int k (k.wrap (a.tdiv b))) := fun w _ => by simp [binOp, Op.intDiv, hb]
theorem run_and {t : TypeId} {k : IntKind} {a b : Int} : Run w0 L (binOp .and t (.int k a) (.int k b)) (.int k (k.wrap (BitVec.ofInt k.bits a &&& BitVec.ofInt k.bits b).toNat)) := fun w _ => by simp [binOp, Op.intBits]
theorem run_or {t : TypeId} {k : IntKind} {a b : Int} : Run w0 L (binOp .or t (.int k a) (.int k b)) (.int k (k.wrap (BitVec.ofInt k.bits a ||| BitVec.ofInt k.bits b).toNat)) := fun w _ => by simp [binOp, Op.intBits]
theorem run_shl {t : TypeId} {k j : IntKind} {a b : Int} (hb : 0 ≤ b) : Run w0 L (binOp .shl t (.int k a) (.int j b)) (.int k (k.wrap (a * 2 ^ (min b.toNat k.bits)))) := fun w _ => by
  have : ¬ b < 0 := by omega
  simp [binOp, Op.shift, this]
theorem run_shr {t : TypeId} {k j : IntKind} {a b : Int} (hb : 0 ≤ b) : Run w0 L (binOp .shr t (.int k a) (.int j b)) (.int k (a.fdiv (2 ^ (min b.toNat k.bits)))) := fun w _ => by
  have : ¬ b < 0 := by omega
  simp [binOp, Op.shift, this]
end
def iv (n : Nat) (f : Nat → Nat) : List Value := (List.range n).map fun i => Value.int .i64 (f i : Nat)
theorem iv_len (n : Nat) (f : Nat → Nat) : (iv n f).length = n := by simp [iv]
theorem iv_get {n : Nat} {f : Nat → Nat} {i : Nat} (h : i < n) : (iv n f)[i]? = some (.int .i64 (f i : Nat)) := by simp [iv, h]
theorem iv_set {n : Nat} {f : Nat → Nat} {i : Nat} (x : Nat) : (iv n f).set i (.int .i64 (x : Nat)) = iv n (upF f i x) := by
  apply List.ext_getElem?
  intro j
  by_cases hj : j < n
  · rw [iv_get hj, List.getElem?_set]
    by_cases hij : i = j
    · subst hij; simp [iv_len, hj]
    · rw [if_neg hij, iv_get hj, upF_ne _ _ (Ne.symm hij)]
  · rw [List.getElem?_eq_none (by simp [iv_len]; omega), List.getElem?_eq_none (by simp [iv_len]; omega)]
theorem rep_iv (n : Nat) : List.replicate n (Value.int .i64 0) = iv n (fun _ => 0) := by
  apply List.ext_getElem?
  intro j
  by_cases hj : j < n
  · rw [iv_get hj]; simp [hj]
  · rw [List.getElem?_eq_none (by simpa using hj), List.getElem?_eq_none (by simp [iv_len]; omega)]
end Go.Gd
namespace Go.Gd
open Go.Instr
section
variable {w0 : World} {L : List HP}
theorem ent_appv {st xt ty e : TypeId} {sz : Nat} [ElS st e sz] [ElS xt e sz] {by_ : Nat} [hB : Byt e by_] {zs : List Value} [Zer e zs] {s x : Value} {ls lx : List Value} {n m : Nat} {K : Value → World → Prop}
    (hzs : zs.length = sz) (hone : ∀ v ∈ lx, v.oneCell' = true) (hbd : (n + m) * by_ ≤ 140737488355328) (hsmall : n + m ≤ 9223372036854775807)
    (h : ∀ v', Ent w0 (vec v' e sz (ls ++ lx) (n + m) :: L) (K v')) : Ent w0 (vec x e sz lx m :: vec s e sz ls n :: L) (hV P (Builtin.append_ #[st, xt] ty #[s, x]) K) := by
  refine Ent.vec (fun a hx hl hm => ?_) fun b cap junk hx hl hc => ?_
  · subst hx; subst hl; subst hm
    exact ent_append 0 rfl RdS.nil hzs hone hbd hsmall h
  · subst hx
    refine ent_append (zs := zs) 1 rfl (RdS.at 0 rfl hl) hzs hone hbd hsmall fun v' => ?_
    exact Ent.imp (Imp.drop 1) (h v')
end
structure LkOk (L : List (List Nat)) : Prop where
  nodup : ∀ (k : Nat) (l : List Nat), L[k]? = some l → l.Nodup
  apart : ∀ (k k' : Nat) (l l' : List Nat) (b : Nat), L[k]? = some l → L[k']? = some l' → b ∈ l → b ∈ l' → k = k'
  lt : ∀ (k : Nat) (l : List Nat) (b : Nat), L[k]? = some l → b ∈ l → b < 64
  many : L.length ≤ 40
  len : ∀ (k : Nat) (l : List Nat), L[k]? = some l → l.length ≤ 64
section
variable {w0 : World} {p : Nat} {L : List (List Nat)} {F : List HP} {X : World → Prop}
theorem Ent.spaceOk (h : LkOk L → Ent w0 (spaceH p L :: F) X) : Ent w0 (spaceH p L :: F) X := by
  refine Ent.space fun at_ en e cap junk hl h40 => ?_
  exact Ent.imp (Imp.space hl h40 (Imp.refl _)) (h ⟨hl.nodup, hl.apart, hl.lt, h40, fun k l hk => hl.len64 hk⟩)
theorem Ent.spaceOkAt (i : Nat) {L0 : List HP} (hi : L0[i]? = some (spaceH p L)) (h : LkOk L → Ent w0 L0 X) : Ent w0 L0 X := by
  refine Ent.at i hi ?_
  refine Ent.spaceOk fun hk => ?_
  exact Ent.imp (Imp.perm (pick_perm hi).symm) (h hk)
end
theorem LkOk.of_mem {L : List (List Nat)} (h : LkOk L) {k b : Nat} {l : List Nat} (hk : L[k]? = some l) (hb : b ∈ l) : lkOf L b = some k := by
  cases ho : lkOf L b with
  | none => exact absurd hb (lkOf_none ho l (List.mem_of_getElem? hk))
  | some j =>
    obtain ⟨l', hl', hb'⟩ := lkOf_some ho
    exact congrArg some (h.apart j k l' l b hl' hk hb' hb)
end Go.Gd
