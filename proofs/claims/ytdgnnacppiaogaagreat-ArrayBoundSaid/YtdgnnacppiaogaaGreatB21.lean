/- The contracts of package mq, fourth part. Conditions: those in the theorems. The contracts of package mq, last part. Conditions: those in the theorems. The contracts of package part. Conditions: those in the theorems. The contracts of package part, second part. Conditions: those in the theorems. -/
import Derived.Test.YtdgnnacppiaogaaGreatB20
import Derived.Test.YtdgnnacppiaogaaGreatB17
set_option linter.unusedVariables false
set_option linter.unusedSimpArgs false
namespace Go.Gd
open Go.Instr
attribute [local irreducible] loadAt storeAt fieldAt indexAt alloc box build buildSlice hNil eqG binOp Op.unary extract makeSlice makeInterface makeFunc convert hV mV pV hU hF hIf hGuard hPick hJ hDraw hLoop spaceH mqH
def fstN (L : List (List Nat)) : Nat → Nat → Nat
  | 0, k => k
  | n + 1, k => if (L.getD k []).isEmpty then fstN L n (k + 1) else k
def lkEvict (q gh : Nat) (L : List (List Nat)) : List (List Nat) × Nat :=
  match lkLast L (fstN L q 0) with
  | none => (L, 0)
  | some b =>
    let L1 := lkPush (lkOut L b) q b
    if gh < (L1.getD q []).length then
      match lkLast L1 q with
      | none => (L1, b)
      | some o => (lkOut L1 o, b)
    else (L1, b)
theorem lkEvict_length (q gh : Nat) (L : List (List Nat)) : (lkEvict q gh L).1.length = L.length := by
  unfold lkEvict
  split
  · rfl
  · simp only
    split
    · split
      · exact lkMove_length _ _ _
      · rw [lkOut_length, lkMove_length]
    · exact lkMove_length _ _ _
theorem fstN_spec {L : List (List Nat)} {q : Nat} : ∀ (n i : Nat), n + i = q → (∃ k, i ≤ k ∧ k < q ∧ (L.getD k []).isEmpty = false) → fstN L n i < q ∧ (L.getD (fstN L n i) []).isEmpty = false
  | 0, i, h, ⟨k, h1, h2, _⟩ => by omega
  | n + 1, i, h, ⟨k, h1, h2, h3⟩ => by
    unfold fstN
    cases he : (L.getD i []).isEmpty with
    | false => rw [if_neg (by simp)]; exact ⟨by omega, he⟩
    | true =>
      rw [if_pos rfl]
      refine fstN_spec n (i + 1) (by omega) ⟨k, ?_, h2, h3⟩
      rcases Nat.lt_or_ge i k with h4 | h4
      · exact h4
      · have : k = i := by omega
        subst this; rw [he] at h3; cases h3
theorem lkLast_some {L : List (List Nat)} {k : Nat} (h : (L.getD k []).isEmpty = false) : ∃ b, lkLast L k = some b ∧ b ∈ L.getD k [] := by
  unfold lkLast
  generalize L.getD k [] = l at *
  rcases List.eq_nil_or_concat l with rfl | ⟨xs, x, rfl⟩
  · cases h
  · exact ⟨x, by simp, by simp⟩
section
variable {w0 : World}
theorem mq_evict (m p : Nat) (c : MqC) (s : MqS) (hk : MqOk c s) (hne : ∃ k, k < c.q ∧ (s.L.getD k []).isEmpty = false) :
    Spec w0 288 [P0 m] [mqH m p c s] (fun _ : Unit => .int .i64 ((lkEvict c.q c.gh s.L).2 : Nat)) (fun _ => [mqH m p c { s with L := (lkEvict c.q c.gh s.L).1 }]) := by
  refine spec_go (fun R w => H288) fun F => ?_
  show Ent w0 (mqH m p c s :: F) _
  refine Ent.mq ?_
  refine Ent.spaceOkAt 1 rfl fun hsp => ?_
  have h40 := hsp.many
  have hl := hk.len
  unfold F288
  refine ent_loop (ι := Nat) (fun i => i ≤ c.q ∧ fstN s.L (c.q - i) i = fstN s.L c.q 0 ∧ ∃ k, i ≤ k ∧ k < c.q ∧ (s.L.getD k []).isEmpty = false) (fun i => [.int .i64 (i : Nat)]) (fun i => pt m 267 (mqL p c s) :: spaceH p s.L :: F) (fun i => c.q - i) 0
    ⟨Nat.zero_le _, rfl, let ⟨k, h1, h2⟩ := hne; ⟨k, Nat.zero_le _, h1, h2⟩⟩ rfl (Imp.refl _) ?_
  intro i ⟨hi, hfi, hex⟩ g next hnext
  obtain ⟨k, hik, hkq, hkn⟩ := hex
  have hilt : i < s.L.length := by omega
  have h64 := hsp.len _ _ (lkAt_some hilt)
  show Ent w0 _ (hV P (hNil (P0 m)) _)
  (repeat (first | refine ent_q (run_nil _) ?_ | refine ent_q (run_fieldZ _ _) ?_ | refine ent_q (run_load (cell_own 0 rfl rfl)) ?_))
  refine ent_call (sp_len p s.L i _ (lkAt_some hilt)) (by (repeat refine Imp.pick 1 rfl ?_); exact Imp.refl _) fun _ => ?_
  cases he : (s.L.getD i []).isEmpty with
  | true =>
    have : s.L.getD i [] = [] := by simpa using he
    rw [this]
    refine ent_q ((run_eq _ _).T rfl) ?_
    (repeat refine ent_ifT ?_)
    refine ent_q (run_add64 (by omega)) ?_
    have hik' : i + 1 ≤ k := by
      rcases Nat.lt_or_ge i k with h4 | h4
      · exact h4
      · have : k = i := by omega
        subst this; rw [he] at hkn; cases hkn
    have := hnext (i + 1) ⟨by omega, ?_, k, hik', hkq, hkn⟩ (by omega)
    · exact Ent.imp (by (repeat (first | refine Imp.pick 0 rfl ?_ | refine Imp.pick 1 rfl ?_)); exact Imp.refl _) this
    · rw [← hfi, show c.q - i = (c.q - (i + 1)) + 1 by omega, fstN, he]; rfl
  | false =>
    have hfst : fstN s.L c.q 0 = i := by
      rw [← hfi, show c.q - i = (c.q - (i + 1)) + 1 by omega, fstN, he]; rfl
    obtain ⟨b, hb, hbm⟩ := lkLast_some he
    have hb64 := hsp.lt _ _ _ (lkAt_some hilt) hbm
    have hev : lkEvict c.q c.gh s.L = (let L1 := lkPush (lkOut s.L b) c.q b
      if c.gh < (L1.getD c.q []).length then
        match lkLast L1 c.q with
        | none => (L1, b)
        | some o => (lkOut L1 o, b)
      else (L1, b)) := by
      unfold lkEvict; rw [hfst, hb]
    simp only at hev
    have hcl : c.q < (lkPush (lkOut s.L b) c.q b).length := by rw [lkMove_length]; omega
    have hL1 : ((lkPush (lkOut s.L b) c.q b).getD c.q []).isEmpty = false := by
      unfold lkPush
      rw [List.getD_eq_getElem?_getD, List.getElem?_modify]
      simp only [if_true]
      rw [List.getElem?_eq_getElem (by rw [lkOut_length]; omega)]
      rfl
    refine ent_q ((run_eq _ _).F ?_) ?_
    · cases hx : s.L.getD i [] with
      | nil => rw [hx] at he; cases he
      | cons => simp; omega
    (repeat (first | refine ent_q (run_nil _) ?_ | refine ent_q (run_fieldZ _ _) ?_ | refine ent_ifF ?_ | refine ent_q (run_load (cell_own 1 rfl rfl)) ?_))
    refine ent_call (sp_last p s.L i _ (lkAt_some hilt)) (by (repeat refine Imp.pick 0 rfl ?_); exact Imp.refl _) fun _ => ?_
    rw [show (s.L.getD i []).getLast? = some b from hb]
    (repeat refine ent_q (run_ex rfl) ?_)
    refine ent_draw [pt m 267 (mqL p c s)] (by (repeat refine Imp.pick 1 rfl ?_); exact Imp.nil) ?_
    (repeat (first | refine ent_p (fun _ => run_nil _) ?_ | refine ent_p (fun _ => run_fieldZ _ _) ?_ | refine ent_m (run_load (cell_own 0 rfl rfl)) ?_))
    refine ent_call (mq_ghost m p c s) (by (repeat refine Imp.pick 1 rfl ?_); exact Imp.refl _) fun _ => ?_
    refine ent_and (by (repeat refine Imp.pick 0 rfl ?_); exact Imp.nil) ?_
    refine ent_call (sp_front p s.L c.q b (by omega) hb64) (by (repeat refine Imp.pick 1 rfl ?_); exact Imp.refl _) fun _ => ?_
    refine ent_draw [pt m 267 (mqL p c s)] (by (repeat refine Imp.pick 1 rfl ?_); exact Imp.nil) ?_
    generalize lkPush (lkOut s.L b) c.q b = L1 at *
    (repeat (first | refine ent_p (fun _ => run_nil _) ?_ | refine ent_p (fun _ => run_fieldZ _ _) ?_ | refine ent_p (fun _ => run_field0 _) ?_ | refine ent_p (fun _ => run_field _ _) ?_ | refine ent_m (run_load (cell_own 0 rfl rfl)) ?_))
    refine ent_call (mq_ghost m p c s) (by (repeat refine Imp.pick 1 rfl ?_); exact Imp.refl _) fun _ => ?_
    refine ent_and (by (repeat refine Imp.pick 0 rfl ?_); exact Imp.nil) ?_
    refine ent_call (sp_len p L1 c.q _ (lkAt_some hcl)) (by (repeat refine Imp.pick 1 rfl ?_); exact Imp.refl _) fun _ => ?_
    refine ent_and (by (repeat refine Imp.pick 1 rfl ?_); exact Imp.nil) ?_
    by_cases hgh : c.gh < (L1.getD c.q []).length
    · refine ent_p (fun _ => (run_gt _ _).T (by omega)) ?_
      (repeat refine ent_ifT ?_)
      refine ent_draw [pt m 267 (mqL p c s)] (by (repeat refine Imp.pick 1 rfl ?_); exact Imp.nil) ?_
      (repeat (first | refine ent_p (fun _ => run_nil _) ?_ | refine ent_p (fun _ => run_fieldZ _ _) ?_ | refine ent_m (run_load (cell_own 0 rfl rfl)) ?_))
      refine ent_call (mq_ghost m p c s) (by (repeat refine Imp.pick 1 rfl ?_); exact Imp.refl _) fun _ => ?_
      refine ent_and (by (repeat refine Imp.pick 0 rfl ?_); exact Imp.nil) ?_
      refine ent_call (sp_last p L1 c.q _ (lkAt_some hcl)) (by (repeat refine Imp.pick 1 rfl ?_); exact Imp.refl _) fun _ => ?_
      obtain ⟨o, ho, hom⟩ := lkLast_some hL1
      rw [show (L1.getD c.q []).getLast? = some o from ho]
      refine Ent.spaceOk fun hsp1 => ?_
      (repeat (first | refine ent_q (run_nil _) ?_ | refine ent_q (run_fieldZ _ _) ?_ | refine ent_p (fun _ => run_ex rfl) ?_ | refine ent_q (run_load (cell_own 1 rfl rfl)) ?_))
      refine ent_call (sp_remove p L1 o c.q (hsp1.of_mem (lkAt_some hcl) hom) (hsp1.lt _ _ _ (lkAt_some hcl) hom)) (by (repeat refine Imp.pick 0 rfl ?_); exact Imp.refl _) fun _ => ?_
      rw [if_pos hgh, ho] at hev
      rw [hev]
      exact ent_ret () rfl (Imp.mq (by (repeat (first | refine Imp.pick 0 rfl ?_ | refine Imp.pick 1 rfl ?_)); exact Imp.refl _))
    · refine ent_p (fun _ => (run_gt _ _).F (by omega)) ?_
      (repeat refine ent_ifF ?_)
      rw [if_neg hgh] at hev
      rw [hev]
      exact ent_ret () rfl (Imp.mq (by (repeat (first | refine Imp.pick 0 rfl ?_ | refine Imp.pick 1 rfl ?_)); exact Imp.refl _))
def MqS.make (c : MqC) (s : MqS) : MqS × Option Nat := if lenN s.L c.q = c.cap then ({ s with L := (lkEvict c.q c.gh s.L).1 }, some (lkEvict c.q c.gh s.L).2) else (s, none)
def MqS.begins (s : MqS) (b : Nat) : MqS := match lkOf s.L b with | some _ => s | none => { s with oft := upF s.oft b 0 }
def MqS.add (c : MqC) (s : MqS) (b : Nat) : MqS × Option Nat :=
  if MqS.has c s b then (MqS.use c s b, none)
  else (MqS.age c (MqS.place c (((MqS.make c s.tick).1.begins b).more b) b), (MqS.make c s.tick).2)
theorem lenN_pos {L : List (List Nat)} : ∀ {n : Nat}, 1 ≤ lenN L n → ∃ k, k < n ∧ (L.getD k []).isEmpty = false
  | 0, h => by simp [lenN] at h
  | n + 1, h => by
    unfold lenN at h
    cases hx : L.getD n [] with
    | nil =>
      rw [hx] at h
      obtain ⟨k, h1, h2⟩ := lenN_pos (n := n) (by simpa using h)
      exact ⟨k, by omega, h2⟩
    | cons x t => exact ⟨n, by omega, by rw [hx]; rfl⟩
theorem MqRoom.begins {c : MqC} {s : MqS} (h : MqOk c s) (h1 : ∀ b, s.oft b + 1 ≤ 4611686018427387904) (b : Nat) : MqOk c ((s.begins b).more b) := by
  unfold MqS.begins
  split
  · exact h.more (h1 b)
  · refine MqOk.more (s := { s with oft := upF s.oft b 0 }) (b := b) ⟨h.len, h.q, h.life, h.now, fun t => ?_⟩ (by simp)
    simp only [upF]; split
    · exact Nat.zero_le _
    · exact h.oft t
theorem mq_add (m p : Nat) (c : MqC) (s : MqS) (b : Nat) (hk : MqRoom c s) (hb : b < 64) (hc : 1 ≤ c.cap) :
    Spec w0 281 [P0 m, .int .i64 b] [mqH m p c s] (fun _ : Unit => gone3 (MqS.add c s b).2 0) (fun _ => [mqH m p c (MqS.add c s b).1]) := by
  refine spec_go (fun R w => H281) fun F => ?_
  show Ent w0 (mqH m p c s :: F) _
  unfold F281
  (repeat (first | refine ent_ifF ?_ | refine ent_q (run_eqpS _) ?_))
  refine ent_q ((run_lt _ _).F (by omega)) ?_
  (repeat (first | refine ent_gT ?_ | refine ent_j ?_))
  refine ent_q ((run_ge _ _).F (by omega)) ?_
  (repeat (first | refine ent_ifF ?_ | refine ent_pF ?_))
  refine ent_call (mq_use m p c s b hk hb) (Imp.refl _) fun _ => ?_
  cases hh : MqS.has c s b with
  | true =>
    have hu : MqS.add c s b = (MqS.use c s b, none) := by unfold MqS.add; rw [hh]; rfl
    rw [hu]
    (repeat refine ent_ifT ?_)
    exact ent_ret () rfl (Imp.refl _)
  | false =>
    have hu : MqS.add c s b = (MqS.age c (MqS.place c (((MqS.make c s.tick).1.begins b).more b) b), (MqS.make c s.tick).2) := by unfold MqS.add; rw [hh]; rfl
    rw [hu]
    have hus : MqS.use c s b = s := by unfold MqS.use; rw [hh]; rfl
    rw [hus]
    show Ent w0 (mqH m p c s :: F) _
    refine Ent.mq ?_
    (repeat (first | refine ent_q (run_nil _) ?_ | refine ent_q (run_field0 _) ?_ | refine ent_ifF ?_ | refine ent_q (run_load (cell_own 0 rfl rfl)) ?_))
    have h1 := hk.now1
    refine ent_q (run_add64 (by omega)) ?_
    (repeat (first | refine ent_q (run_nil _) ?_ | refine ent_q (run_field0 _) ?_))
    refine ent_st0 rfl (by rw [mqL_len]; omega) (mqL_now (s.now + 1)) ?_
    have hkt := hk.toMqOk.tick hk.now1
    refine ent_draw [pt m 267 (mqL p c s.tick)] (by (repeat refine Imp.pick 0 rfl ?_); exact Imp.nil) ?_
    (repeat (first | refine ent_p (fun _ => run_nil _) ?_ | refine ent_p (fun _ => run_fieldZ _ _) ?_ | refine ent_p (fun _ => run_field0 _) ?_ | refine ent_m (run_load (cell_own 0 rfl rfl)) ?_))
    refine ent_call (mq_len m p c s.tick hkt) (Imp.mq (by (repeat refine Imp.pick 0 rfl ?_); exact Imp.refl _)) fun _ => ?_
    show Ent w0 (mqH m p c s.tick :: F) _
    refine Ent.mq ?_
    refine ent_and (by (repeat refine Imp.pick 0 rfl ?_); exact Imp.nil) ?_
    have fin : ∀ (t : MqS) (o : Option Nat) (v1 v2 : Value), MqS.make c s.tick = (t, o) → (Value.tuple #[v1, v2, .int .i64 0]) = gone3 o 0 → MqOk c t → (∀ b, t.oft b + 1 ≤ 4611686018427387904) →
        Ent w0 (pt m 267 (mqL p c t) :: spaceH p t.L :: F) (hV P (hNil (P0 m)) fun t42 =>
 hV P (fieldAt 267 t42 0) fun t43 =>
 hV P (fieldAt 264 t43 0) fun t44 =>
 hV P (loadAt 257 t44) fun t45 =>
 hF P 274 #[t45, .int .i64 b] fun t47 =>
 hV P (extract t47 0) fun t48 =>
 hV P (extract t47 1) fun t49 =>
 hV P (Op.unary .not t49) fun t51 =>
 hJ (hDraw fun C14 =>
 pV P (hNil (P0 m)) fun t59 =>
 pV P (fieldAt 267 t59 3) fun t60 =>
 pV P (indexAt 265 t60 (.int .i64 b)) fun t61 =>
 mV P C14 (loadAt 3 t61) fun t62 =>
 pV P (binOp .add 3 t62 (.int .i64 1)) fun t63 =>
 pV P (hNil (P0 m)) fun t64 =>
 pV P (fieldAt 267 t64 3) fun t65 =>
 pV P (indexAt 265 t65 (.int .i64 b)) fun t66 =>
 hU P (storeAt 3 t66 t63) <|
 hF P 289 #[(P0 m), (.int .i64 b)] fun t69 =>
 hF P 287 #[(P0 m)] fun t71 => fun w' => ∃ i : Unit, (Value.tuple #[v1, v2, .int .i64 0]) = gone3 (MqS.make c s.tick).2 0 ∧ Sat w0 ([mqH m p c (MqS.age c (MqS.place c (((MqS.make c s.tick).1.begins b).more b) b))] ++ F) w') fun J15 =>
 hIf t51 (hV P (hNil (P0 m)) fun t54 =>
 hV P (fieldAt 267 t54 3) fun t55 =>
 hV P (indexAt 265 t55 (.int .i64 b)) fun t56 =>
 hU P (storeAt 3 t56 (.int .i64 0)) <|
 J15) (J15)) := by
      intro t o v1 v2 hmk hv hkt hoft
      rw [hmk]
      simp only
      have hk3 := MqRoom.begins hkt hoft b
      have rest : Ent w0 (pt m 267 (mqL p c (t.begins b)) :: spaceH p (t.begins b).L :: F) (hDraw fun C14 =>
 pV P (hNil (P0 m)) fun t59 =>
 pV P (fieldAt 267 t59 3) fun t60 =>
 pV P (indexAt 265 t60 (.int .i64 b)) fun t61 =>
 mV P C14 (loadAt 3 t61) fun t62 =>
 pV P (binOp .add 3 t62 (.int .i64 1)) fun t63 =>
 pV P (hNil (P0 m)) fun t64 =>
 pV P (fieldAt 267 t64 3) fun t65 =>
 pV P (indexAt 265 t65 (.int .i64 b)) fun t66 =>
 hU P (storeAt 3 t66 t63) <|
 hF P 289 #[(P0 m), (.int .i64 b)] fun t69 =>
 hF P 287 #[(P0 m)] fun t71 => fun w' => ∃ i : Unit, (Value.tuple #[v1, v2, .int .i64 0]) = gone3 o 0 ∧ Sat w0 ([mqH m p c (MqS.age c (MqS.place c ((t.begins b).more b) b))] ++ F) w') := by
        generalize t.begins b = u at *
        have hu1 : u.oft b + 1 ≤ 4611686018427387904 := by
          have := hk3.oft b
          simpa [MqS.more] using this
        refine ent_draw [pt m 267 (mqL p c u)] (by (repeat refine Imp.pick 0 rfl ?_); exact Imp.nil) ?_
        (repeat (first | refine ent_p (fun _ => run_nil _) ?_ | refine ent_p (fun _ => run_field0 _) ?_))
        refine ent_p (fun _ => run_indexA b rfl hb) ?_
        refine ent_m (run_load (cell_own 0 rfl (mqL_oft hb))) ?_
        refine ent_p (fun _ => run_add64 (by omega)) ?_
        (repeat (first | refine ent_p (fun _ => run_nil _) ?_ | refine ent_p (fun _ => run_field0 _) ?_))
        refine ent_p (fun _ => run_indexA b rfl hb) ?_
        refine ent_st0 rfl (by rw [mqL_len]; omega) (mqL_set hb (u.oft b + 1)) ?_
        refine ent_call (mq_place m p c (u.more b) b hk3 hb (by simp [MqS.more])) (Imp.mq (by (repeat refine Imp.pick 0 rfl ?_); exact Imp.refl _)) fun _ => ?_
        refine ent_call (mq_age m p c _ (hk3.place b)) (by (repeat refine Imp.pick 0 rfl ?_); exact Imp.refl _) fun _ => ?_
        exact ent_ret () hv (Imp.refl _)
      (repeat (first | refine ent_q (run_nil _) ?_ | refine ent_q (run_fieldZ _ _) ?_ | refine ent_q (run_load (cell_own 0 rfl rfl)) ?_))
      refine ent_call (sp_of p t.L b) (by (repeat refine Imp.pick 1 rfl ?_); exact Imp.refl _) fun _ => ?_
      rw [lkI_nat hb]
      cases ho : lkOf t.L b with
      | some k =>
        have : t.begins b = t := by unfold MqS.begins; rw [ho]
        rw [this] at rest ⊢
        (repeat (first | refine ent_ifF ?_ | refine ent_q (run_notT) ?_ | refine ent_q (run_ex rfl) ?_ | refine ent_j ?_))
        exact Ent.imp (by (repeat (first | refine Imp.pick 0 rfl ?_ | refine Imp.pick 1 rfl ?_)); exact Imp.refl _) rest
      | none =>
        have : t.begins b = { t with oft := upF t.oft b 0 } := by unfold MqS.begins; rw [ho]
        rw [this] at rest ⊢
        (repeat (first | refine ent_q (run_nil _) ?_ | refine ent_q (run_field0 _) ?_ | refine ent_ifT ?_ | refine ent_q (run_notF) ?_ | refine ent_q (run_ex rfl) ?_ | refine ent_j ?_))
        refine ent_q (run_indexA b rfl hb) ?_
        refine ent_st1 rfl (by rw [mqL_len]; omega) (mqL_set hb 0) ?_
        exact Ent.imp (by (repeat (first | refine Imp.pick 0 rfl ?_ | refine Imp.pick 1 rfl ?_)); exact Imp.refl _) rest
    by_cases hcap : lenN s.tick.L c.q = c.cap
    · have hmk : MqS.make c s.tick = ({ s.tick with L := (lkEvict c.q c.gh s.tick.L).1 }, some (lkEvict c.q c.gh s.tick.L).2) := by unfold MqS.make; rw [if_pos hcap]
      refine ent_p (fun _ => (run_eq _ _).T (by omega)) ?_
      refine ent_j ?_
      refine ent_ifT ?_
      refine ent_call (mq_evict m p c s.tick hkt (lenN_pos (by omega))) (Imp.mq (by (repeat refine Imp.pick 0 rfl ?_); exact Imp.refl _)) fun _ => ?_
      refine Ent.mq ?_
      exact fin _ _ _ _ hmk rfl (hkt.lists _ (lkEvict_length _ _ _)) hk.oft1
    · have hmk : MqS.make c s.tick = (s.tick, none) := by unfold MqS.make; rw [if_neg hcap]
      refine ent_p (fun _ => (run_eq _ _).F (by omega)) ?_
      refine ent_j ?_
      refine ent_ifF ?_
      exact fin _ _ _ _ hmk rfl hkt hk.oft1
end
end Go.Gd
namespace Go.Gd
open Go.Instr
attribute [local irreducible] loadAt storeAt fieldAt indexAt alloc box build buildSlice hNil eqG binOp Op.unary extract makeSlice makeInterface makeFunc convert hV mV pV hU hF hIf hGuard hPick hJ hDraw hLoop spaceH mqH
theorem lenN_le {L : List (List Nat)} (h : LkOk L) : ∀ n, lenN L n ≤ n * 64
  | 0 => Nat.le_refl _
  | n + 1 => by
    have := lenN_le h n
    unfold lenN
    have h2 : (L.getD n []).length ≤ 64 := by
      rcases Nat.lt_or_ge n L.length with h1 | h1
      · exact h.len _ _ (lkAt_some h1)
      · rw [List.getD_eq_getElem?_getD, List.getElem?_eq_none h1]; simp
    omega
theorem allN_length (L : List (List Nat)) : ∀ n, (allN L n).length = lenN L n
  | 0 => rfl
  | n + 1 => by unfold allN lenN; rw [List.length_append, allN_length L n]; omega
section
variable {w0 : World}
theorem mq_queue (m p : Nat) (c : MqC) (s : MqS) (i : Nat) (hk : MqOk c s) (hi : i < c.q) :
    Spec w0 290 [P0 m, .int .i64 i] [mqH m p c s] (fun v : Value => v) (fun v => [vec v 3 1 (intsV (s.L.getD i [])) (s.L.getD i []).length, mqH m p c s]) := by
  refine spec_go (fun R w => H290) fun F => ?_
  show Ent w0 (mqH m p c s :: F) _
  refine Ent.mq ?_
  have hl := hk.len
  unfold F290
  (repeat (first | refine ent_gT ?_ | refine ent_q (run_eqpS _) ?_ | refine ent_j ?_))
  refine ent_q ((run_lt _ _).F (by omega)) ?_
  (repeat (first | refine ent_q (run_nil _) ?_ | refine ent_q (run_field0 _) ?_ | refine ent_q (run_field _ _) ?_ | refine ent_gT ?_ | refine ent_pF ?_ | refine ent_j ?_ | refine ent_q (run_load (cell_own 0 rfl rfl)) ?_))
  refine ent_q ((run_ge _ _).F (by omega)) ?_
  (repeat (first | refine ent_q (run_nil _) ?_ | refine ent_q (run_fieldZ _ _) ?_ | refine ent_ifF ?_ | refine ent_pF ?_ | refine ent_q (run_load (cell_own 0 rfl rfl)) ?_))
  refine ent_call (sp_all p s.L i _ (lkAt_some (by omega))) (by (repeat refine Imp.pick 1 rfl ?_); exact Imp.refl _) fun v => ?_
  exact ent_ret v rfl (Imp.cons (Imp.mq (by (repeat (first | refine Imp.pick 0 rfl ?_ | refine Imp.pick 1 rfl ?_)); exact Imp.refl _)))
theorem mq_all (m p : Nat) (c : MqC) (s : MqS) (hk : MqOk c s) :
    Spec w0 282 [P0 m] [mqH m p c s] (fun v : Value => v) (fun v => [vec v 3 1 (intsV (allN s.L c.q)) (lenN s.L c.q), mqH m p c s]) := by
  refine spec_go (fun R w => H282) fun F => ?_
  show Ent w0 (mqH m p c s :: F) _
  refine Ent.mq ?_
  have hl := hk.len
  refine Ent.spaceOkAt 1 rfl fun hsp => ?_
  have h40 := hsp.many
  have hle := lenN_le hsp c.q
  unfold F282
  (repeat (first | refine ent_q (run_nil _) ?_ | refine ent_q (run_field0 _) ?_ | refine ent_q (run_field _ _) ?_ | refine ent_ifF ?_ | refine ent_q (run_eqpS _) ?_ | refine ent_q (run_load (cell_own 0 rfl rfl)) ?_))
  refine ent_q (run_sub64 (by omega)) ?_
  refine ent_loop (ι := Nat × Value × List Nat × Nat) (fun i => i.1 ≤ c.q ∧ i.2.2.1 ++ allN s.L i.1 = allN s.L c.q ∧ i.2.2.1.length = i.2.2.2) (fun i => [.int .i64 ((i.1 : Nat) - 1), i.2.1]) (fun i => vec i.2.1 3 1 (intsV i.2.2.1) i.2.2.2 :: mqH m p c s :: F) (fun i => i.1)
    (c.q, .slice none 0 0, [], 0) ⟨Nat.le_refl _, rfl, rfl⟩ rfl (show Imp _ (vec (.slice none 0 0) 3 1 [] 0 :: _) from Imp.vec0 (a := none) rfl (Imp.mq (Imp.refl _))) ?_
  rintro ⟨i, v, l, n⟩ ⟨hi, hcat, hln⟩ g next hnext
  simp only at hi hcat hln hnext ⊢
  subst hln
  show Ent w0 _ (hV P (binOp .geq 3 (.int .i64 ((i : Nat) - 1)) (.int .i64 0)) _)
  cases i with
  | zero =>
    refine ent_q ((run_ge _ _).F (by omega)) ?_
    (repeat refine ent_ifF ?_)
    refine ent_ret v rfl ?_
    have : l = allN s.L c.q := by simpa [allN] using hcat
    rw [this, allN_length]
    exact Imp.refl _
  | succ i =>
    refine ent_q ((run_ge _ _).T (by omega)) ?_
    (repeat refine ent_ifT ?_)
    show Ent w0 _ (hF P 290 #[P0 m, .int .i64 (((i + 1 : Nat) : Int) - 1)] _)
    rw [show (((i + 1 : Nat) : Int) - 1) = ((i : Nat) : Int) by omega]
    refine ent_call (mq_queue m p c s i hk (by omega)) (by (repeat refine Imp.pick 1 rfl ?_); exact Imp.refl _) fun x => ?_
    have hsum : lenN s.L c.q = l.length + (s.L.getD i []).length + lenN s.L i := by
      rw [← allN_length, ← hcat, List.length_append, allN, List.length_append, allN_length]; omega
    refine Ent.imp (L' := vec x 3 1 (intsV (s.L.getD i [])) (s.L.getD i []).length :: vec v 3 1 (intsV l) l.length :: mqH m p c s :: F) (by (repeat (first | refine Imp.pick 0 rfl ?_ | refine Imp.pick 1 rfl ?_)); exact Imp.refl _) ?_
    refine ent_appv (zs := [.int .i64 0]) rfl (intsV_one _) (by omega) (by omega) fun v' => ?_
    refine ent_q (run_sub64 (by omega)) ?_
    have := hnext (i, v', l ++ s.L.getD i [], l.length + (s.L.getD i []).length) ⟨by omega, by rw [← hcat, allN, List.append_assoc], by simp⟩ (by omega)
    rw [intsV_append] at this
    exact this
def MqC.Right (c : MqC) : Prop := 1 ≤ c.cap ∧ c.cap ≤ 16 ∧ 1 ≤ c.q ∧ c.q ≤ 8 ∧ 1 ≤ c.life ∧ c.life ≤ 100 ∧ c.gh ≤ 16
theorem mq_right (c : MqC) (h : c.Right) : Spec w0 186 [.agg #[.int .i64 c.cap, .int .i64 c.q, .int .i64 c.life, .int .i64 c.gh]] [] (fun _ : Unit => .bool true) (fun _ => []) := by
  refine spec_go (fun R w => H186) fun F => ?_
  show Ent w0 F _
  obtain ⟨h1, h2, h3, h4, h5, h6, h7⟩ := h
  unfold F186
  refine ent_box fun b => ?_
  (repeat (first | refine ent_q (run_fieldZ _ _) ?_ | refine ent_q (run_load (cell_own 0 rfl rfl)) ?_))
  refine ent_q ((run_ge _ _).T (by omega)) ?_
  (repeat (first | refine ent_q (run_fieldZ _ _) ?_ | refine ent_gT ?_ | refine ent_j ?_ | refine ent_q (run_load (cell_own 0 rfl rfl)) ?_))
  refine ent_q ((run_le _ _).T (by omega)) ?_
  (repeat (first | refine ent_q (run_field0 _) ?_ | refine ent_gT ?_ | refine ent_pT ?_ | refine ent_j ?_ | refine ent_q (run_load (cell_own 0 rfl rfl)) ?_))
  refine ent_q ((run_ge _ _).T (by omega)) ?_
  (repeat (first | refine ent_q (run_field0 _) ?_ | refine ent_gT ?_ | refine ent_pT ?_ | refine ent_j ?_ | refine ent_q (run_load (cell_own 0 rfl rfl)) ?_))
  refine ent_q ((run_le _ _).T (by omega)) ?_
  (repeat (first | refine ent_q (run_field0 _) ?_ | refine ent_gT ?_ | refine ent_pT ?_ | refine ent_j ?_ | refine ent_q (run_load (cell_own 0 rfl rfl)) ?_))
  refine ent_q ((run_ge _ _).T (by omega)) ?_
  (repeat (first | refine ent_q (run_field0 _) ?_ | refine ent_gT ?_ | refine ent_pT ?_ | refine ent_j ?_ | refine ent_q (run_load (cell_own 0 rfl rfl)) ?_))
  refine ent_q ((run_le _ _).T (by omega)) ?_
  (repeat (first | refine ent_q (run_field0 _) ?_ | refine ent_gT ?_ | refine ent_pT ?_ | refine ent_j ?_ | refine ent_q (run_load (cell_own 0 rfl rfl)) ?_))
  refine ent_q ((run_ge _ _).T (by omega)) ?_
  (repeat (first | refine ent_q (run_field0 _) ?_ | refine ent_gT ?_ | refine ent_pT ?_ | refine ent_q (run_load (cell_own 0 rfl rfl)) ?_))
  refine ent_q ((run_le _ _).T (by omega)) ?_
  (repeat refine ent_pT ?_)
  exact ent_ret () rfl Imp.drop1
def MqS.new (c : MqC) : MqS := ⟨lkNew (c.q + 1), 0, fun _ => 0, fun _ => 0⟩
theorem mq_new (c : MqC) (h : c.Right) : Spec w0 142 [.agg #[.int .i64 c.cap, .int .i64 c.q, .int .i64 c.life, .int .i64 c.gh]] [] (fun x : Nat × Nat => .tuple #[P0 x.1, .int .i64 0]) (fun x => [mqH x.1 x.2 c (MqS.new c)]) := by
  refine spec_go (fun R w => H142) fun F => ?_
  show Ent w0 F _
  unfold F142
  have h3 := h.2.2.1
  have h4 := h.2.2.2.1
  refine ent_box fun b => ?_
  refine ent_q (run_loadA (vs := [.int .i64 c.cap, .int .i64 c.q, .int .i64 c.life, .int .i64 c.gh]) rfl (cells_all 0 rfl)) ?_
  refine ent_call (mq_right c h) (Imp.refl _) fun _ => ?_
  (repeat (first | refine ent_ifF ?_ | refine ent_q (run_notT) ?_))
  refine ent_draw [pt b 217 [.int .i64 c.cap, .int .i64 c.q, .int .i64 c.life, .int .i64 c.gh]] (by (repeat refine Imp.pick 0 rfl ?_); exact Imp.nil) ?_
  (repeat (first | refine ent_p (fun _ => run_field0 _) ?_ | refine ent_m (run_load (cell_own 0 rfl rfl)) ?_))
  refine ent_p (fun _ => run_add64 (by omega)) ?_
  refine ent_m (run_loadA (vs := [.int .i64 c.cap, .int .i64 c.q, .int .i64 c.life, .int .i64 c.gh]) rfl (cells_all 0 rfl)) ?_
  refine ent_call (sp_new _) (Imp.refl _) fun p => ?_
  refine ent_and (by (repeat refine Imp.pick 1 rfl ?_); exact Imp.nil) ?_
  refine ent_p (fun _ => run_build (cs := [P0 p]) rfl) ?_
  refine ent_p (fun _ => bd267_0_1) ?_
  refine ent_box fun m => ?_
  refine ent_and (by (repeat refine Imp.pick 2 rfl ?_); exact Imp.nil) ?_
  refine ent_ret (m, p) rfl (Imp.mq ?_)
  have e : (max 1 (min ((c.q : Int) + 1) 40)).toNat = c.q + 1 := by omega
  rw [e, agg_cells, List.toList_toArray]
  have e2 : mqL p c (MqS.new c) = [P0 p] ++ [.int .i64 c.cap] ++ [.int .i64 c.q] ++ [.int .i64 c.life] ++ [.int .i64 c.gh] ++ List.replicate 129 (.int .i64 0) := by
    unfold mqL MqS.new
    rw [show (129 : Nat) = 1 + (64 + 64) from rfl, ← List.replicate_append_replicate, ← List.replicate_append_replicate, rep_iv]
    rfl
  rw [e2]
  exact (by (repeat refine Imp.pick 0 rfl ?_); exact Imp.drop1)
end
end Go.Gd
namespace Go.Gd
open Go.Instr
attribute [local irreducible] loadAt storeAt fieldAt indexAt alloc box build buildSlice hNil eqG binOp Op.unary extract makeSlice makeInterface makeFunc convert hV mV pV hU hF hFV hIf hGuard hPick hJ hDraw hLoop ro Instr.index planI spaceH
structure PtC where
  q : Nat
  blocks : Int
  caps : Nat → Nat
  l : List Hint
  hv : Value
  pv : Value
  tier : Nat
structure PtC.Ok (c : PtC) : Prop where
  h8 : c.l.length ≤ 8
  hints : ∀ x ∈ c.l, HintP c.blocks x
  tier : 1 ≤ c.tier ∧ c.tier ≤ 3
abbrev PtC.plan (w0 : World) (c : PtC) : HP := planI w0 c.q c.blocks c.caps c.l c.hv c.pv
def ptH (w0 : World) (m p : Nat) (c : PtC) (L : List (List Nat)) : HP := star [pt m 263 [P0 p, P0 c.q, .int .i64 c.tier], spaceH p L, c.plan w0]
def ptUse (L : List (List Nat)) (b : Nat) : List (List Nat) := match lkOf L b with | some r => lkPush (lkOut L b) r b | none => L
def PtC.part (c : PtC) (b : Nat) : Nat := partF c.l c.caps b c.tier
def ptGoes (c : PtC) (L : List (List Nat)) (r b : Nat) : Nat := if loopF c.l b then (L.getD r []).headD 0 else (L.getD r []).getLastD 0
def ptAdd (c : PtC) (L : List (List Nat)) (b : Nat) : List (List Nat) × Option Nat :=
  match lkOf L b with
  | some _ => (ptUse L b, none)
  | none =>
    match rangeF c.l b with
    | none => (L, none)
    | some r =>
      if c.part b ≤ (L.getD r []).length then (lkPush (lkOut (lkOut L (ptGoes c L r b)) b) r b, some (ptGoes c L r b))
      else (lkPush (lkOut L b) r b, none)
section
variable {w0 : World}
theorem Ent.part {m p : Nat} {c : PtC} {L : List (List Nat)} {F : List HP} {X : World → Prop} (h : Ent w0 (pt m 263 [P0 p, P0 c.q, .int .i64 c.tier] :: spaceH p L :: c.plan w0 :: F) X) : Ent w0 (ptH w0 m p c L :: F) X := Ent.star h
theorem Imp.part {m p : Nat} {c : PtC} {L : List (List Nat)} {F F' : List HP} (h : Imp F (pt m 263 [P0 p, P0 c.q, .int .i64 c.tier] :: spaceH p L :: c.plan w0 :: F')) : Imp F (ptH w0 m p c L :: F') := Imp.starI h
theorem Ent.planDup {c : PtC} {L : List HP} {X : World → Prop} (i : Nat) (hi : L[i]? = some (c.plan w0)) (h : Ent w0 (c.plan w0 :: L) X) : Ent w0 L X := Ent.imp (Imp.dup (Pers.plan _ _ _ _ _ _ _) i hi (Imp.refl _)) h
attribute [local irreducible] ptH
theorem pt_has (m p : Nat) (c : PtC) (L : List (List Nat)) (b : Int) : Spec w0 265 [P0 m, .int .i64 b] [ptH w0 m p c L] (fun _ : Unit => .bool (lkI L b).isSome) (fun _ => [ptH w0 m p c L]) := by
  refine spec_go (fun R w => H265) fun F => ?_
  show Ent w0 (ptH w0 m p c L :: F) _
  refine Ent.part ?_
  unfold F265
  (repeat (first | refine ent_q (run_nil _) ?_ | refine ent_q (run_fieldZ _ _) ?_ | refine ent_ifF ?_ | refine ent_q (run_eqpS _) ?_ | refine ent_q (run_load (cell_own 0 rfl rfl)) ?_))
  refine ent_call (sp_of p L b) (by (repeat refine Imp.pick 1 rfl ?_); exact Imp.refl _) fun _ => ?_
  (repeat refine ent_q (run_ex rfl) ?_)
  exact ent_ret () rfl (Imp.part (by (repeat (first | refine Imp.pick 0 rfl ?_ | refine Imp.pick 1 rfl ?_)); exact Imp.refl _))
theorem pt_takes (m p : Nat) (c : PtC) (L : List (List Nat)) (b : Nat) (hc : c.Ok) : Spec w0 194 [P0 m, .int .i64 b] [ptH w0 m p c L] (fun _ : Unit => .bool (decide (0 < c.part b))) (fun _ => [ptH w0 m p c L]) := by
  refine spec_go (fun R w => H194) fun F => ?_
  show Ent w0 (ptH w0 m p c L :: F) _
  refine Ent.part ?_
  unfold F194
  refine ent_draw [pt m 263 [P0 p, P0 c.q, .int .i64 c.tier]] (by (repeat refine Imp.pick 0 rfl ?_); exact Imp.nil) ?_
  (repeat (first | refine ent_p (fun _ => run_nil _) ?_ | refine ent_p (fun _ => run_field0 _) ?_ | refine ent_gT ?_ | refine ent_p (fun _ => run_nepS _) ?_ | refine ent_m (run_load (cell_own 0 rfl rfl)) ?_))
  refine Ent.planDup (c := c) 2 rfl ?_
  refine ent_call (ka_part c.q c.blocks c.caps c.l c.hv c.pv b c.tier hc.h8 hc.hints) (by (repeat refine Imp.pick 0 rfl ?_); exact Imp.refl _) fun _ => ?_
  unfold PtC.part
  by_cases h : 0 < partF c.l c.caps b c.tier
  · refine ent_p (fun _ => (run_gt _ _).T (by omega)) ?_
    (repeat refine ent_pT ?_)
    exact ent_ret () (by rw [decide_eq_true h]) (Imp.part (by (repeat refine Imp.pick 0 rfl ?_); exact Imp.refl _))
  · refine ent_p (fun _ => (run_gt _ _).F (by omega)) ?_
    (repeat refine ent_pT ?_)
    exact ent_ret () (by rw [decide_eq_false h]) (Imp.part (by (repeat refine Imp.pick 0 rfl ?_); exact Imp.refl _))
theorem pt_use (m p : Nat) (c : PtC) (L : List (List Nat)) (b : Nat) (hb : b < 64) : Spec w0 268 [P0 m, .int .i64 b] [ptH w0 m p c L] (fun _ : Unit => .bool (lkOf L b).isSome) (fun _ => [ptH w0 m p c (ptUse L b)]) := by
  refine spec_go (fun R w => H268) fun F => ?_
  show Ent w0 (ptH w0 m p c L :: F) _
  unfold F268
  refine ent_call (pt_has m p c L b) (Imp.refl _) fun _ => ?_
  rw [lkI_nat hb]
  unfold ptUse
  cases ho : lkOf L b with
  | none =>
    (repeat (first | refine ent_ifT ?_ | refine ent_q (run_notF) ?_))
    exact ent_ret () rfl (Imp.refl _)
  | some r =>
    show Ent w0 (ptH w0 m p c L :: F) _
    refine Ent.part ?_
    (repeat (first | refine ent_q (run_nil _) ?_ | refine ent_q (run_fieldZ _ _) ?_ | refine ent_ifF ?_ | refine ent_q (run_notT) ?_ | refine ent_q (run_load (cell_own 0 rfl rfl)) ?_))
    refine ent_call (sp_of p L b) (by (repeat refine Imp.pick 1 rfl ?_); exact Imp.refl _) fun _ => ?_
    rw [lkI_nat hb, ho]
    (repeat (first | refine ent_q (run_nil _) ?_ | refine ent_q (run_fieldZ _ _) ?_ | refine ent_q (run_ex rfl) ?_ | refine ent_q (run_load (cell_own 1 rfl rfl)) ?_))
    obtain ⟨l', h1, h2⟩ := lkOf_some ho
    refine ent_call (sp_front p L r b (List.getElem?_eq_some_iff.1 h1).1 hb) (by (repeat refine Imp.pick 0 rfl ?_); exact Imp.refl _) fun _ => ?_
    exact ent_ret () rfl (Imp.part (by (repeat (first | refine Imp.pick 0 rfl ?_ | refine Imp.pick 1 rfl ?_)); exact Imp.refl _))
theorem pt_remove (m p : Nat) (c : PtC) (L : List (List Nat)) (b : Nat) (hb : b < 64) : Spec w0 267 [P0 m, .int .i64 b] [ptH w0 m p c L] (fun _ : Unit => .bool (lkOf L b).isSome) (fun _ => [ptH w0 m p c (lkOut L b)]) := by
  refine spec_go (fun R w => H267) fun F => ?_
  show Ent w0 (ptH w0 m p c L :: F) _
  unfold F267
  refine ent_call (pt_has m p c L b) (Imp.refl _) fun _ => ?_
  rw [lkI_nat hb]
  cases ho : lkOf L b with
  | none =>
    rw [lkOut_none ho]
    (repeat (first | refine ent_gF ?_ | refine ent_pF ?_))
    exact ent_ret () rfl (Imp.refl _)
  | some r =>
    show Ent w0 (ptH w0 m p c L :: F) _
    refine Ent.part ?_
    (repeat (first | refine ent_q (run_nil _) ?_ | refine ent_q (run_fieldZ _ _) ?_ | refine ent_gT ?_ | refine ent_q (run_load (cell_own 0 rfl rfl)) ?_))
    refine ent_call (sp_remove p L b r ho hb) (by (repeat refine Imp.pick 1 rfl ?_); exact Imp.refl _) fun _ => ?_
    refine ent_q ((run_eq _ _).T rfl) ?_
    (repeat refine ent_pT ?_)
    exact ent_ret () rfl (Imp.part (by (repeat (first | refine Imp.pick 0 rfl ?_ | refine Imp.pick 1 rfl ?_)); exact Imp.refl _))
end
end Go.Gd
namespace Go.Gd
open Go.Instr
attribute [local irreducible] loadAt storeAt fieldAt indexAt alloc box build buildSlice hNil eqG binOp Op.unary extract makeSlice makeInterface makeFunc convert hV mV pV hU hF hFV hIf hGuard hPick hJ hDraw hLoop ro Instr.index planI spaceH ptH
theorem lastV (l : List Nat) : (match l.getLast? with | some x => (x : Int) | none => 0) = ((l.getLastD 0 : Nat) : Int) := by
  rw [List.getLastD_eq_getLast?]; cases l.getLast? <;> rfl
theorem ptGoes_mem {c : PtC} {L : List (List Nat)} {r b : Nat} (h : (L.getD r []) ≠ []) : ptGoes c L r b ∈ L.getD r [] := by
  unfold ptGoes
  generalize L.getD r [] = l at *
  split
  · cases l with
    | nil => exact absurd rfl h
    | cons x t => simp
  · rcases List.eq_nil_or_concat l with rfl | ⟨xs, x, rfl⟩
    · exact absurd rfl h
    · rw [List.getLastD_eq_getLast?]; simp
section
variable {w0 : World}
theorem pt_goes (m p : Nat) (c : PtC) (L : List (List Nat)) (r b : Nat) (hc : c.Ok) (hr : r < L.length) : Spec w0 270 [P0 m, .int .i64 r, .int .i64 b] [ptH w0 m p c L] (fun _ : Unit => .int .i64 (ptGoes c L r b : Nat)) (fun _ => [ptH w0 m p c L]) := by
  refine spec_go (fun R w => H270) fun F => ?_
  show Ent w0 (ptH w0 m p c L :: F) _
  refine Ent.part ?_
  unfold F270
  (repeat (first | refine ent_q (run_nil _) ?_ | refine ent_q (run_fieldZ _ _) ?_ | refine ent_q (run_load (cell_own 0 rfl rfl)) ?_))
  refine ent_call (sp_last p L r _ (lkAt_some hr)) (by (repeat refine Imp.pick 1 rfl ?_); exact Imp.refl _) fun _ => ?_
  (repeat (first | refine ent_q (run_nil _) ?_ | refine ent_q (run_field0 _) ?_ | refine ent_q (run_ex rfl) ?_ | refine ent_q (run_load (cell_own 1 rfl rfl)) ?_))
  refine Ent.planDup (c := c) 2 rfl ?_
  refine ent_call (ka_loop c.q c.blocks c.caps c.l c.hv c.pv b hc.h8 hc.hints) (by (repeat refine Imp.pick 0 rfl ?_); exact Imp.refl _) fun _ => ?_
  unfold ptGoes
  cases hl : loopF c.l b with
  | true =>
    (repeat (first | refine ent_q (run_nil _) ?_ | refine ent_q (run_fieldZ _ _) ?_ | refine ent_ifT ?_ | refine ent_q (run_load (cell_own 1 rfl rfl)) ?_))
    refine ent_call (sp_first p L r _ (lkAt_some hr)) (by (repeat refine Imp.pick 0 rfl ?_); exact Imp.refl _) fun _ => ?_
    (repeat refine ent_q (run_ex rfl) ?_)
    refine ent_ret () ?_ (Imp.part (by (repeat (first | refine Imp.pick 0 rfl ?_ | refine Imp.pick 1 rfl ?_)); exact Imp.refl _))
    rw [if_pos rfl]; rfl
  | false =>
    (repeat refine ent_ifF ?_)
    refine ent_ret () ?_ (Imp.part (by (repeat (first | refine Imp.pick 0 rfl ?_ | refine Imp.pick 1 rfl ?_)); exact Imp.refl _))
    rw [if_neg (by simp), ← lastV]
    rfl
theorem pt_add (m p : Nat) (c : PtC) (L : List (List Nat)) (b : Nat) (hc : c.Ok) (hb : b < 64) (hL : L.length = c.l.length + 1) (ht : 0 < c.part b) :
    Spec w0 263 [P0 m, .int .i64 b] [ptH w0 m p c L] (fun _ : Unit => gone3 (ptAdd c L b).2 0) (fun _ => [ptH w0 m p c (ptAdd c L b).1]) := by
  refine spec_go (fun R w => H263) fun F => ?_
  show Ent w0 (ptH w0 m p c L :: F) _
  unfold F263
  (repeat (first | refine ent_ifF ?_ | refine ent_q (run_eqpS _) ?_))
  refine ent_call (pt_takes m p c L b hc) (Imp.refl _) fun _ => ?_
  rw [decide_eq_true ht]
  (repeat (first | refine ent_ifF ?_ | refine ent_q (run_notT) ?_))
  refine ent_call (pt_use m p c L b hb) (Imp.refl _) fun _ => ?_
  cases ho : lkOf L b with
  | some r =>
    have he : ptAdd c L b = (ptUse L b, none) := by unfold ptAdd; rw [ho]
    rw [he]
    (repeat refine ent_ifT ?_)
    exact ent_ret () rfl (Imp.refl _)
  | none =>
    obtain ⟨r, hr⟩ : ∃ r, rangeF c.l b = some r := by
      unfold PtC.part partF at ht
      cases hx : rangeF c.l b with
      | none => rw [hx] at ht; simp at ht
      | some r => exact ⟨r, rfl⟩
    have hrl := rangeF_lt hr
    have hrL : r < L.length := by omega
    have he : ptAdd c L b = if c.part b ≤ (L.getD r []).length then (lkPush (lkOut (lkOut L (ptGoes c L r b)) b) r b, some (ptGoes c L r b)) else (lkPush (lkOut L b) r b, none) := by
      unfold ptAdd; rw [ho]; simp only; rw [hr]
    have hus : ptUse L b = L := by unfold ptUse; rw [ho]
    rw [hus]
    show Ent w0 (ptH w0 m p c L :: F) _
    refine Ent.part ?_
    (repeat (first | refine ent_q (run_nil _) ?_ | refine ent_q (run_field0 _) ?_ | refine ent_ifF ?_ | refine ent_q (run_load (cell_own 0 rfl rfl)) ?_))
    refine Ent.planDup (c := c) 2 rfl ?_
    refine ent_call (ka_range c.q c.blocks c.caps c.l c.hv c.pv b hc.h8 hc.hints) (by (repeat refine Imp.pick 0 rfl ?_); exact Imp.refl _) fun _ => ?_
    have hri : rangeI c.l b = (r : Int) := by unfold rangeI; rw [hr]
    rw [hri]
    show Ent w0 (pt m 263 [P0 p, P0 c.q, .int .i64 c.tier] :: spaceH p L :: c.plan w0 :: F) _
    (repeat refine ent_q (run_ex rfl) ?_)
    refine ent_draw [pt m 263 [P0 p, P0 c.q, .int .i64 c.tier]] (by (repeat refine Imp.pick 0 rfl ?_); exact Imp.nil) ?_
    (repeat (first | refine ent_p (fun _ => run_nil _) ?_ | refine ent_p (fun _ => run_fieldZ _ _) ?_ | refine ent_p (fun _ => run_field0 _) ?_ | refine ent_m (run_load (cell_own 0 rfl rfl)) ?_))
    refine ent_call (sp_len p L r _ (lkAt_some hrL)) (by (repeat refine Imp.pick 1 rfl ?_); exact Imp.refl _) fun _ => ?_
    refine ent_and (by (repeat refine Imp.pick 1 rfl ?_); exact Imp.nil) ?_
    refine Ent.planDup (c := c) 2 rfl ?_
    refine ent_call (ka_part c.q c.blocks c.caps c.l c.hv c.pv b c.tier hc.h8 hc.hints) (by (repeat refine Imp.pick 0 rfl ?_); exact Imp.refl _) fun _ => ?_
    refine ent_and (by (repeat refine Imp.pick 1 rfl ?_); exact Imp.nil) ?_
    by_cases hfull : c.part b ≤ (L.getD r []).length
    · refine ent_p (fun _ => (run_ge _ _).T ?_) ?_
      · unfold PtC.part at hfull; omega
      rw [if_pos hfull] at he
      rw [he]
      (repeat (first | refine ent_ifT ?_ | refine ent_j ?_))
      refine ent_call (pt_goes m p c L r b hc hrL) (Imp.part (by (repeat (first | refine Imp.pick 0 rfl ?_ | refine Imp.pick 1 rfl ?_)); exact Imp.refl _)) fun _ => ?_
      have hgm := ptGoes_mem (c := c) (b := b) (show L.getD r [] ≠ [] by
        intro e; rw [e] at hfull; simp at hfull; omega)
      generalize ptGoes c L r b = v at *
      show Ent w0 (ptH w0 m p c L :: F) _
      refine Ent.part ?_
      refine Ent.spaceOkAt 1 rfl fun hsp => ?_
      have hv64 := hsp.lt _ _ _ (lkAt_some hrL) hgm
      (repeat (first | refine ent_q (run_nil _) ?_ | refine ent_q (run_fieldZ _ _) ?_ | refine ent_q (run_load (cell_own 0 rfl rfl)) ?_))
      refine ent_call (sp_remove p L v r (hsp.of_mem (lkAt_some hrL) hgm) hv64) (by (repeat refine Imp.pick 1 rfl ?_); exact Imp.refl _) fun _ => ?_
      (repeat (first | refine ent_q (run_nil _) ?_ | refine ent_q (run_fieldZ _ _) ?_ | refine ent_q (run_load (cell_own 1 rfl rfl)) ?_))
      refine ent_call (sp_front p (lkOut L v) r b (by rw [lkOut_length]; exact hrL) hb) (by (repeat refine Imp.pick 0 rfl ?_); exact Imp.refl _) fun _ => ?_
      exact ent_ret () rfl (Imp.part (by (repeat (first | refine Imp.pick 0 rfl ?_ | refine Imp.pick 1 rfl ?_)); exact Imp.refl _))
    · refine ent_p (fun _ => (run_ge _ _).F ?_) ?_
      · unfold PtC.part at hfull; omega
      rw [if_neg hfull] at he
      rw [he]
      (repeat (first | refine ent_q (run_nil _) ?_ | refine ent_q (run_fieldZ _ _) ?_ | refine ent_ifF ?_ | refine ent_j ?_ | refine ent_q (run_load (cell_own 1 rfl rfl)) ?_))
      refine ent_call (sp_front p L r b hrL hb) (by (repeat refine Imp.pick 0 rfl ?_); exact Imp.refl _) fun _ => ?_
      exact ent_ret () rfl (Imp.part (by (repeat (first | refine Imp.pick 0 rfl ?_ | refine Imp.pick 1 rfl ?_)); exact Imp.refl _))
theorem pt_new (c : PtC) (hc : c.Ok) : Spec w0 141 [P0 c.q, .int .i64 c.tier] [c.plan w0] (fun x : Nat × Nat => .tuple #[P0 x.1, .int .i64 0]) (fun x => [ptH w0 x.1 x.2 c (lkNew (c.l.length + 1))]) := by
  refine spec_go (fun R w => H141) fun F => ?_
  show Ent w0 (c.plan w0 :: F) _
  have h8 := hc.h8
  have htr := hc.tier
  unfold F141
  (repeat (first | refine ent_ifF ?_ | refine ent_q (run_eqpS _) ?_))
  refine ent_q ((run_lt _ _).F (by omega)) ?_
  (repeat (first | refine ent_gT ?_ | refine ent_j ?_))
  refine ent_q ((run_gt _ _).F (by omega)) ?_
  (repeat (first | refine ent_ifF ?_ | refine ent_pF ?_))
  refine Ent.planDup (c := c) 0 rfl ?_
  refine ent_call (ka_parts c.q c.blocks c.caps c.l c.hv c.pv h8) (by (repeat refine Imp.pick 0 rfl ?_); exact Imp.refl _) fun v => ?_
  refine Ent.vecRo (Ent.ro fun a cap R hv _ _ => ?_)
  subst hv
  refine ent_q run_len ?_
  refine ent_q (run_add64 (by omega)) ?_
  refine ent_call (sp_new _) (Imp.refl _) fun p => ?_
  refine ent_q (run_build (cs := [P0 p]) rfl) ?_
  refine ent_q (run_build (cs := [P0 p, P0 c.q, .int .i64 c.tier]) rfl) ?_
  refine ent_box fun m => ?_
  rw [agg_cells, List.toList_toArray, show (max 1 (min ((c.l.length : Int) + 1) 40)).toNat = c.l.length + 1 by omega]
  exact fun w hs => ⟨(m, p), rfl, Imp.sat (Imp.part (by (repeat (first | refine Imp.pick 0 rfl ?_ | refine Imp.pick 2 rfl ?_)); exact Imp.trans Imp.drop1 (Imp.drop1))) hs⟩
end
end Go.Gd
