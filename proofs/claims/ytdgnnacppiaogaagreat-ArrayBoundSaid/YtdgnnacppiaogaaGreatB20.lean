/- The contracts of package mq. Conditions: those in the theorems. The contracts of package mq, second part. Conditions: those in the theorems. The contracts of package mq, third part. Conditions: those in the theorems. The contracts of package lru. Conditions: those in the theorems. -/
import Derived.Test.YtdgnnacppiaogaaGreatB7
import Derived.Test.YtdgnnacppiaogaaGreatB18
import Derived.Test.YtdgnnacppiaogaaGreatB14
import Derived.Test.YtdgnnacppiaogaaGreatB16
import Derived.Test.YtdgnnacppiaogaaGreatB6
import Derived.Test.YtdgnnacppiaogaaGreatB19
set_option linter.unusedVariables false
set_option linter.unusedSimpArgs false
namespace Go.Gd
open Go.Instr
attribute [local irreducible] loadAt storeAt fieldAt indexAt alloc box build buildSlice hNil eqG binOp Op.unary extract makeSlice makeInterface makeFunc convert hV mV pV hU hF hIf hGuard hPick hJ hDraw hLoop spaceH
structure MqS where
  L : List (List Nat)
  now : Nat
  oft : Nat → Nat
  exp : Nat → Nat
structure MqC where
  cap : Nat
  q : Nat
  life : Nat
  gh : Nat
def mqL (p : Nat) (c : MqC) (s : MqS) : List Value := [P0 p, .int .i64 c.cap, .int .i64 c.q, .int .i64 c.life, .int .i64 c.gh, .int .i64 s.now] ++ (iv 64 s.oft ++ iv 64 s.exp)
def mqH (m p : Nat) (c : MqC) (s : MqS) : HP := star [pt m 267 (mqL p c s), spaceH p s.L]
theorem mqL_oft {p : Nat} {c : MqC} {s : MqS} {b : Nat} (hb : b < 64) : (mqL p c s)[6 + b * 1]? = some (.int .i64 (s.oft b : Nat)) := by
  rw [Nat.mul_one]
  unfold mqL
  rw [List.getElem?_append_right (by simp), List.getElem?_append_left (by simp [iv_len, hb])]
  simp only [List.length_cons, List.length_nil, Nat.add_sub_cancel_left]
  exact iv_get hb
theorem mqL_exp {p : Nat} {c : MqC} {s : MqS} {b : Nat} (hb : b < 64) : (mqL p c s)[70 + b * 1]? = some (.int .i64 (s.exp b : Nat)) := by
  rw [Nat.mul_one]
  unfold mqL
  rw [List.getElem?_append_right (by simp; omega), List.getElem?_append_right (by simp [iv_len]; omega)]
  simp only [List.length_cons, List.length_nil, iv_len]
  rw [show 70 + b - (0 + 1 + 1 + 1 + 1 + 1 + 1) - 64 = b by omega]
  exact iv_get hb
theorem mqL_len (p : Nat) (c : MqC) (s : MqS) : (mqL p c s).length = 134 := by simp [mqL, iv_len]
theorem mqL_set {p : Nat} {c : MqC} {s : MqS} {b : Nat} (hb : b < 64) (x : Nat) : (mqL p c s).set (6 + b * 1) (.int .i64 (x : Nat)) = mqL p c { s with oft := upF s.oft b x } := by
  rw [Nat.mul_one]
  unfold mqL
  rw [List.set_append_right _ _ (by simp), List.set_append_left _ _ (by simp [iv_len, hb])]
  simp only [List.length_cons, List.length_nil, Nat.add_sub_cancel_left]
  rw [iv_set]
theorem mqL_setE {p : Nat} {c : MqC} {s : MqS} {b : Nat} (x : Nat) : (mqL p c s).set (70 + b * 1) (.int .i64 (x : Nat)) = mqL p c { s with exp := upF s.exp b x } := by
  rw [Nat.mul_one]
  unfold mqL
  rw [List.set_append_right _ _ (by simp; omega), List.set_append_right _ _ (by simp [iv_len]; omega)]
  simp only [List.length_cons, List.length_nil, iv_len]
  rw [show 70 + b - (0 + 1 + 1 + 1 + 1 + 1 + 1) - 64 = b by omega, iv_set]
theorem mqL_now {p : Nat} {c : MqC} {s : MqS} (x : Nat) : (mqL p c s).set 5 (.int .i64 (x : Nat)) = mqL p c { s with now := x } := rfl
def MqS.renew (c : MqC) (s : MqS) (b : Nat) : MqS := { s with exp := upF s.exp b (s.now + c.life) }
def MqS.place (c : MqC) (s : MqS) (b : Nat) : MqS := MqS.renew c { s with L := lkPush (lkOut s.L b) (min (Lib.bitLen (s.oft b) - 1) (c.q - 1)) b } b
def lkLast (L : List (List Nat)) (k : Nat) : Option Nat := (L.getD k []).getLast?
def MqS.age1 (c : MqC) (s : MqS) (q : Nat) : MqS := match lkLast s.L q with
  | some b => if s.exp b < s.now then MqS.renew c { s with L := lkPush (lkOut s.L b) (q - 1) b } b else s
  | none => s
def MqS.ageN (c : MqC) (s : MqS) : Nat → MqS
  | 0 => s
  | n + 1 => MqS.age1 c (MqS.ageN c s n) (n + 1)
def MqS.age (c : MqC) (s : MqS) : MqS := MqS.ageN c s (c.q - 1)
def MqS.tick (s : MqS) : MqS := { s with now := s.now + 1 }
def MqS.more (s : MqS) (b : Nat) : MqS := { s with oft := upF s.oft b (s.oft b + 1) }
def MqS.has (c : MqC) (s : MqS) (b : Nat) : Bool := match lkOf s.L b with | some k => decide (k < c.q) | none => false
def MqS.use (c : MqC) (s : MqS) (b : Nat) : MqS := if MqS.has c s b then MqS.age c (MqS.place c (MqS.more s.tick b) b) else s
def MqS.hasI (c : MqC) (s : MqS) (b : Int) : Bool := match lkI s.L b with | some k => decide (k < c.q) | none => false
section
variable {w0 : World}
theorem Ent.mq {m p : Nat} {c : MqC} {s : MqS} {F : List HP} {X : World → Prop} (h : Ent w0 (pt m 267 (mqL p c s) :: spaceH p s.L :: F) X) : Ent w0 (mqH m p c s :: F) X := Ent.star h
theorem Imp.mq {m p : Nat} {c : MqC} {s : MqS} {F F' : List HP} (h : Imp F (pt m 267 (mqL p c s) :: spaceH p s.L :: F')) : Imp F (mqH m p c s :: F') := Imp.starI h
attribute [local irreducible] mqH
theorem mq_ghost (m p : Nat) (c : MqC) (s : MqS) : Spec w0 291 [P0 m] [pt m 267 (mqL p c s)] (fun _ : Unit => .int .i64 c.q) (fun _ => [pt m 267 (mqL p c s)]) := by
  refine spec_go (fun R w => H291) fun F => ?_
  show Ent w0 (pt m 267 (mqL p c s) :: F) _
  unfold F291
  (repeat (first | refine ent_q (run_nil _) ?_ | refine ent_q (run_field0 _) ?_ | refine ent_q (run_field _ _) ?_ | refine ent_q (run_load (cell_own 0 rfl rfl)) ?_))
  exact ent_ret () rfl (Imp.refl _)
theorem mq_renew (m p : Nat) (c : MqC) (s : MqS) (b : Nat) (hb : b < 64) (hn : s.now + c.life ≤ 9223372036854775807) : Spec w0 292 [P0 m, .int .i64 b] [pt m 267 (mqL p c s)] (fun _ : Unit => .tuple #[]) (fun _ => [pt m 267 (mqL p c (MqS.renew c s b))]) := by
  refine spec_go (fun R w => H292) fun F => ?_
  show Ent w0 (pt m 267 (mqL p c s) :: F) _
  unfold F292
  refine ent_draw _ (Imp.refl _) ?_
  (repeat (first | refine ent_p (fun _ => run_nil _) ?_ | refine ent_p (fun _ => run_field0 _) ?_ | refine ent_p (fun _ => run_field _ _) ?_ | refine ent_m (run_load (cell_own 0 rfl rfl)) ?_))
  refine ent_p (fun _ => run_add64 (by omega)) ?_
  (repeat (first | refine ent_p (fun _ => run_nil _) ?_ | refine ent_p (fun _ => run_field0 _) ?_))
  refine ent_p (fun _ => run_indexA b rfl hb) ?_
  refine ent_st0 rfl (by rw [mqL_len]; omega) (l' := mqL p c (MqS.renew c s b)) ?_ ?_
  · rw [show ((s.now : Nat) : Int) + (c.life : Nat) = ((s.now + c.life : Nat) : Int) by omega]
    exact mqL_setE _
  exact ent_ret () rfl (Imp.refl _)
theorem mq_has (m p : Nat) (c : MqC) (s : MqS) (b : Int) : Spec w0 283 [P0 m, .int .i64 b] [mqH m p c s] (fun _ : Unit => .bool (MqS.hasI c s b)) (fun _ => [mqH m p c s]) := by
  refine spec_go (fun R w => H283) fun F => ?_
  show Ent w0 (mqH m p c s :: F) _
  refine Ent.mq ?_
  unfold F283
  (repeat (first | refine ent_q (run_nil _) ?_ | refine ent_q (run_fieldZ _ _) ?_ | refine ent_ifF ?_ | refine ent_q (run_eqpS _) ?_ | refine ent_q (run_load (cell_own 0 rfl rfl)) ?_))
  refine ent_call (sp_of p s.L b) (by (repeat refine Imp.pick 1 rfl ?_); exact Imp.refl _) fun _ => ?_
  cases ho : lkI s.L b with
  | none =>
    (repeat (first | refine ent_gF ?_ | refine ent_pF ?_ | refine ent_q (run_ex rfl) ?_))
    exact ent_ret () (by simp [MqS.hasI, ho]) (Imp.mq (by (repeat (first | refine Imp.pick 0 rfl ?_ | refine Imp.pick 1 rfl ?_)); exact Imp.refl _))
  | some k =>
    (repeat (first | refine ent_gT ?_ | refine ent_q (run_ex rfl) ?_))
    refine ent_call (mq_ghost m p c s) (by (repeat refine Imp.pick 1 rfl ?_); exact Imp.refl _) fun _ => ?_
    by_cases hk : k < c.q
    · refine ent_q ((run_lt _ _).T (by simp; omega)) ?_
      (repeat refine ent_pT ?_)
      exact ent_ret () (by simp [MqS.hasI, ho, hk]) (Imp.mq (by (repeat refine Imp.pick 0 rfl ?_); exact Imp.refl _))
    · refine ent_q ((run_lt _ _).F (by simp; omega)) ?_
      (repeat refine ent_pT ?_)
      exact ent_ret () (by simp [MqS.hasI, ho, hk]) (Imp.mq (by (repeat refine Imp.pick 0 rfl ?_); exact Imp.refl _))
end
end Go.Gd
namespace Go.Gd
open Go.Instr
attribute [local irreducible] loadAt storeAt fieldAt indexAt alloc box build buildSlice hNil eqG binOp Op.unary extract makeSlice makeInterface makeFunc convert hV mV pV hU hF hIf hGuard hPick hJ hDraw hLoop spaceH mqH
theorem bitLen_pos {x : Nat} (h : 1 ≤ x) : 1 ≤ Lib.bitLen x := by
  unfold Lib.bitLen
  rw [show (64 : Nat) = 63 + 1 from rfl, Lib.bitLenAux]
  rw [if_neg (by omega)]; omega
theorem bitLenAux_le : ∀ (n x : Nat), Lib.bitLenAux n x ≤ n
  | 0, _ => by simp [Lib.bitLenAux]
  | n + 1, x => by
    rw [Lib.bitLenAux]
    split
    · omega
    · have := bitLenAux_le n (x / 2); omega
theorem bitLen_le (x : Nat) : Lib.bitLen x ≤ 64 := bitLenAux_le 64 x
theorem lkAt_some {L : List (List Nat)} {k : Nat} (h : k < L.length) : L[k]? = some (L.getD k []) := by
  rw [List.getElem?_eq_getElem h, List.getD_eq_getElem?_getD, List.getElem?_eq_getElem h]; rfl
structure MqOk (c : MqC) (s : MqS) : Prop where
  len : s.L.length = c.q + 1
  q : 1 ≤ c.q
  life : c.life ≤ 1000
  now : s.now ≤ 4611686018427387904
  oft : ∀ b, s.oft b ≤ 4611686018427387904
theorem MqOk.renew {c : MqC} {s : MqS} (h : MqOk c s) (b : Nat) : MqOk c (MqS.renew c s b) := ⟨h.len, h.q, h.life, h.now, h.oft⟩
theorem MqOk.lists {c : MqC} {s : MqS} (h : MqOk c s) (L : List (List Nat)) (hl : L.length = s.L.length) : MqOk c { s with L := L } := ⟨hl.trans h.len, h.q, h.life, h.now, h.oft⟩
theorem lkMove_length (L : List (List Nat)) (k b : Nat) : (lkPush (lkOut L b) k b).length = L.length := by rw [lkPush_length, lkOut_length]
theorem MqOk.place {c : MqC} {s : MqS} (h : MqOk c s) (b : Nat) : MqOk c (MqS.place c s b) := MqOk.renew (h.lists _ (lkMove_length _ _ _)) b
theorem MqOk.age1 {c : MqC} {s : MqS} (h : MqOk c s) (q : Nat) : MqOk c (MqS.age1 c s q) := by
  unfold MqS.age1
  split
  · split
    · exact MqOk.renew (h.lists _ (lkMove_length _ _ _)) _
    · exact h
  · exact h
theorem MqOk.ageN {c : MqC} {s : MqS} (h : MqOk c s) : ∀ n, MqOk c (MqS.ageN c s n)
  | 0 => h
  | n + 1 => (MqOk.ageN h n).age1 _
section
variable {w0 : World}
theorem mq_place (m p : Nat) (c : MqC) (s : MqS) (b : Nat) (hk : MqOk c s) (hb : b < 64) (ho : 1 ≤ s.oft b) :
    Spec w0 289 [P0 m, .int .i64 b] [mqH m p c s] (fun _ : Unit => .tuple #[]) (fun _ => [mqH m p c (MqS.place c s b)]) := by
  refine spec_go (fun R w => H289) fun F => ?_
  show Ent w0 (mqH m p c s :: F) _
  refine Ent.mq ?_
  have h1 := hk.oft b
  have h2 := bitLen_le (s.oft b)
  have h3 := bitLen_pos ho
  have h4 := hk.q
  have h5 := hk.now
  have h6 := hk.life
  unfold F289
  (repeat (first | refine ent_q (run_nil _) ?_ | refine ent_q (run_field0 _) ?_))
  refine ent_q (run_indexA b rfl hb) ?_
  refine ent_q (run_load (cell_own 0 rfl (mqL_oft hb))) ?_
  refine ent_q (run_conv _) ?_
  rw [wrap_u64 (by omega)]
  refine ent_call (bits_len (s.oft b) (by omega)) (Imp.refl _) fun _ => ?_
  refine ent_q (run_sub64 (by omega)) ?_
  show Ent w0 (pt m 267 (mqL p c s) :: spaceH p s.L :: F) _
  refine Ent.spaceOkAt 1 rfl fun hsp => ?_
  have h7 := hsp.many
  have h8 := hk.len
  refine ent_draw [pt m 267 (mqL p c s)] (by (repeat refine Imp.pick 0 rfl ?_); exact Imp.nil) ?_
  (repeat (first | refine ent_p (fun _ => run_nil _) ?_ | refine ent_p (fun _ => run_fieldZ _ _) ?_ | refine ent_p (fun _ => run_field0 _) ?_ | refine ent_p (fun _ => run_field _ _) ?_ | refine ent_m (run_load (cell_own 0 rfl rfl)) ?_))
  refine ent_p (fun _ => run_sub64 (by omega)) ?_
  refine ent_p (fun _ => run_min _ _) ?_
  rw [show min (((Lib.bitLen (s.oft b) : Nat) : Int) - 1) ((c.q : Nat) - 1) = ((min (Lib.bitLen (s.oft b) - 1) (c.q - 1) : Nat) : Int) by omega]
  refine ent_call (sp_front p s.L (min (Lib.bitLen (s.oft b) - 1) (c.q - 1)) b (by omega) hb) (by (repeat refine Imp.pick 1 rfl ?_); exact Imp.refl _) fun _ => ?_
  refine ent_and (by (repeat refine Imp.pick 1 rfl ?_); exact Imp.nil) ?_
  refine ent_call (mq_renew m p c s b hb (by omega)) (by (repeat refine Imp.pick 1 rfl ?_); exact Imp.refl _) fun _ => ?_
  exact ent_ret () rfl (Imp.mq (by (repeat refine Imp.pick 0 rfl ?_); exact Imp.refl _))
theorem mq_age (m p : Nat) (c : MqC) (s : MqS) (hk : MqOk c s) : Spec w0 287 [P0 m] [mqH m p c s] (fun _ : Unit => .tuple #[]) (fun _ => [mqH m p c (MqS.age c s)]) := by
  refine spec_go (fun R w => H287) fun F => ?_
  show Ent w0 (mqH m p c s :: F) _
  unfold F287
  refine ent_loop (ι := Nat) (fun i => i ≤ c.q - 1) (fun i => [.int .i64 ((i + 1 : Nat) : Int)]) (fun i => mqH m p c (MqS.ageN c s i) :: F) (fun i => c.q - 1 - i) 0 (Nat.zero_le _) rfl (Imp.refl _) ?_
  intro i hi g next hnext
  show Ent w0 _ (hV P (hNil (P0 m)) _)
  have hki := hk.ageN i
  have h1 := hk.q
  have hage : MqS.ageN c s (i + 1) = MqS.age1 c (MqS.ageN c s i) (i + 1) := rfl
  generalize hsi : MqS.ageN c s i = si at *
  refine Ent.mq ?_
  (repeat (first | refine ent_q (run_nil _) ?_ | refine ent_q (run_field0 _) ?_ | refine ent_q (run_field _ _) ?_ | refine ent_q (run_load (cell_own 0 rfl rfl)) ?_))
  refine Ent.spaceOkAt 1 rfl fun hsp => ?_
  have h7 := hsp.many
  have h8 := hki.len
  have h9 := hki.now
  have h10 := hki.life
  refine ent_qb (run_lt _ _) (fun h => ?_) (fun h => ?_)
  · (repeat (first | refine ent_q (run_nil _) ?_ | refine ent_q (run_fieldZ _ _) ?_ | refine ent_ifT ?_ | refine ent_j ?_))
    have hlt : i + 1 < si.L.length := by omega
    have fin : ∀ s', s' = MqS.ageN c s (i + 1) → ∀ L', Imp L' (pt m 267 (mqL p c s') :: spaceH p s'.L :: F) →
        Ent w0 L' (hV P (binOp .add 3 (.int .i64 ((i + 1 : Nat) : Int)) (.int .i64 1)) fun t13 => next [t13]) := by
      intro s' hs' L' hI
      refine ent_q (run_add64 (by omega)) ?_
      have := hnext (i + 1) (by omega) (by omega)
      rw [← hs'] at this
      exact Ent.imp (Imp.mq hI) this
    (repeat refine ent_q (run_load (cell_own 0 rfl rfl)) ?_)
    refine ent_call (sp_last p si.L (i + 1) _ (lkAt_some hlt)) (by (repeat refine Imp.pick 1 rfl ?_); exact Imp.refl _) fun _ => ?_
    (repeat refine ent_q (run_ex rfl) ?_)
    refine ent_draw [pt m 267 (mqL p c si)] (by (repeat refine Imp.pick 1 rfl ?_); exact Imp.nil) ?_
    have hl : (si.L.getD (i + 1) []).getLast? = lkLast si.L (i + 1) := rfl
    rw [hl]
    cases hb : lkLast si.L (i + 1) with
    | none =>
      have : si.L.getD (i + 1) [] = [] := by
        have hb := hb
        unfold lkLast at hb
        simpa using hb
      rw [this]
      (repeat (first | refine ent_ifF ?_ | refine ent_gF ?_ | refine ent_pF ?_ | refine ent_j ?_))
      refine fin si ?_ _ (by (repeat (first | refine Imp.pick 0 rfl ?_ | refine Imp.pick 1 rfl ?_)); exact Imp.refl _)
      rw [hage]; simp [MqS.age1, hb]
    | some b =>
      have hmem : b ∈ si.L.getD (i + 1) [] := List.mem_of_getLast? hb
      have hne : (!(si.L.getD (i + 1) []).isEmpty) = true := by
        cases hx : si.L.getD (i + 1) [] with
        | nil => rw [hx] at hmem; cases hmem
        | cons => rfl
      have hb64 := hsp.lt _ _ _ (lkAt_some hlt) hmem
      rw [hne]
      (repeat (first | refine ent_p (fun _ => run_nil _) ?_ | refine ent_p (fun _ => run_field0 _) ?_ | refine ent_gT ?_ | refine ent_j ?_))
      refine ent_p (fun _ => run_indexA b rfl hb64) ?_
      refine ent_m (run_load (cell_own 0 rfl (mqL_exp hb64))) ?_
      (repeat (first | refine ent_p (fun _ => run_nil _) ?_ | refine ent_p (fun _ => run_field0 _) ?_ | refine ent_m (run_load (cell_own 0 rfl rfl)) ?_))
      by_cases he : si.exp b < si.now
      · refine ent_p (fun _ => (run_lt _ _).T (by omega)) ?_
        (repeat (first | refine ent_q (run_nil _) ?_ | refine ent_q (run_fieldZ _ _) ?_ | refine ent_ifT ?_ | refine ent_pT ?_ | refine ent_q (run_load (cell_own 1 rfl rfl)) ?_))
        refine ent_q (run_sub64 (by omega)) ?_
        rw [show (((i + 1 : Nat) : Int) - 1) = ((i : Nat) : Int) by omega]
        refine ent_call (sp_front p si.L i b (by omega) hb64) (by (repeat refine Imp.pick 0 rfl ?_); exact Imp.refl _) fun _ => ?_
        refine ent_call (mq_renew m p c si b hb64 (by omega)) (by (repeat refine Imp.pick 1 rfl ?_); exact Imp.refl _) fun _ => ?_
        refine fin (MqS.renew c { si with L := lkPush (lkOut si.L b) i b } b) ?_ _ (by (repeat refine Imp.pick 0 rfl ?_); exact Imp.refl _)
        rw [hage]; simp [MqS.age1, hb, he]
      · refine ent_p (fun _ => (run_lt _ _).F (by omega)) ?_
        (repeat (first | refine ent_ifF ?_ | refine ent_pT ?_))
        refine fin si ?_ _ (by (repeat (first | refine Imp.pick 0 rfl ?_ | refine Imp.pick 1 rfl ?_)); exact Imp.refl _)
        rw [hage]; simp [MqS.age1, hb, he]
  · have : i = c.q - 1 := by omega
    (repeat refine ent_ifF ?_)
    have e : si = MqS.age c s := by rw [← hsi]; unfold MqS.age; rw [this]
    subst e
    exact ent_ret () rfl (Imp.mq (by (repeat refine Imp.pick 0 rfl ?_); exact Imp.refl _))
end
end Go.Gd
namespace Go.Gd
open Go.Instr
attribute [local irreducible] loadAt storeAt fieldAt indexAt alloc box build buildSlice hNil eqG binOp Op.unary extract makeSlice makeInterface makeFunc convert hV mV pV hU hF hIf hGuard hPick hJ hDraw hLoop spaceH mqH
theorem lkI_has {c : MqC} {s : MqS} {b : Nat} (hb : b < 64) : MqS.hasI c s b = MqS.has c s b := by
  unfold MqS.hasI MqS.has; rw [lkI_nat hb]
theorem MqOk.tick {c : MqC} {s : MqS} (h : MqOk c s) (h1 : s.now + 1 ≤ 4611686018427387904) : MqOk c s.tick := ⟨h.len, h.q, h.life, h1, h.oft⟩
theorem MqOk.more {c : MqC} {s : MqS} (h : MqOk c s) {b : Nat} (h1 : s.oft b + 1 ≤ 4611686018427387904) : MqOk c (s.more b) := ⟨h.len, h.q, h.life, h.now, fun t => by
  simp only [MqS.more, upF]; split
  · exact h1
  · exact h.oft t⟩
structure MqRoom (c : MqC) (s : MqS) : Prop extends MqOk c s where
  now1 : s.now + 1 ≤ 4611686018427387904
  oft1 : ∀ b, s.oft b + 1 ≤ 4611686018427387904
def lenN (L : List (List Nat)) : Nat → Nat
  | 0 => 0
  | n + 1 => lenN L n + (L.getD n []).length
def allN (L : List (List Nat)) : Nat → List Nat
  | 0 => []
  | n + 1 => L.getD n [] ++ allN L n
section
variable {w0 : World}
theorem mq_use (m p : Nat) (c : MqC) (s : MqS) (b : Nat) (hk : MqRoom c s) (hb : b < 64) :
    Spec w0 286 [P0 m, .int .i64 b] [mqH m p c s] (fun _ : Unit => .bool (MqS.has c s b)) (fun _ => [mqH m p c (MqS.use c s b)]) := by
  refine spec_go (fun R w => H286) fun F => ?_
  show Ent w0 (mqH m p c s :: F) _
  unfold F286
  refine ent_call (mq_has m p c s b) (Imp.refl _) fun _ => ?_
  rw [lkI_has hb]
  cases hh : MqS.has c s b with
  | false =>
    (repeat (first | refine ent_ifT ?_ | refine ent_q (run_notF) ?_))
    refine ent_ret () rfl ?_
    unfold MqS.use
    rw [hh]
    exact Imp.refl _
  | true =>
    have hu : MqS.use c s b = MqS.age c (MqS.place c (MqS.more s.tick b) b) := by unfold MqS.use; rw [hh]; rfl
    rw [hu]
    show Ent w0 (mqH m p c s :: F) _
    refine Ent.mq ?_
    (repeat (first | refine ent_q (run_nil _) ?_ | refine ent_q (run_field0 _) ?_ | refine ent_ifF ?_ | refine ent_q (run_notT) ?_ | refine ent_q (run_load (cell_own 0 rfl rfl)) ?_))
    have h1 := hk.now1
    have h2 := hk.oft1 b
    refine ent_q (run_add64 (by omega)) ?_
    (repeat (first | refine ent_q (run_nil _) ?_ | refine ent_q (run_field0 _) ?_))
    refine ent_st0 rfl (by rw [mqL_len]; omega) (mqL_now (s.now + 1)) ?_
    refine ent_draw [pt m 267 (mqL p c s.tick)] (by (repeat refine Imp.pick 0 rfl ?_); exact Imp.nil) ?_
    (repeat (first | refine ent_p (fun _ => run_nil _) ?_ | refine ent_p (fun _ => run_field0 _) ?_))
    refine ent_p (fun _ => run_indexA b rfl hb) ?_
    refine ent_m (run_load (cell_own 0 rfl (mqL_oft hb))) ?_
    refine ent_p (fun _ => run_add64 (by simp only [MqS.tick]; omega)) ?_
    (repeat (first | refine ent_p (fun _ => run_nil _) ?_ | refine ent_p (fun _ => run_field0 _) ?_))
    refine ent_p (fun _ => run_indexA b rfl hb) ?_
    refine ent_st0 rfl (by rw [mqL_len]; omega) (mqL_set (s := s.tick) hb (s.oft b + 1)) ?_
    have hk2 : MqOk c (s.tick.more b) := (hk.toMqOk.tick hk.now1).more (hk.oft1 b)
    refine ent_call (mq_place m p c (s.tick.more b) b hk2 hb (by simp [MqS.more])) (Imp.mq (by (repeat refine Imp.pick 0 rfl ?_); exact Imp.refl _)) fun _ => ?_
    refine ent_call (mq_age m p c _ (hk2.place b)) (by (repeat refine Imp.pick 0 rfl ?_); exact Imp.refl _) fun _ => ?_
    exact ent_ret () rfl (Imp.refl _)
theorem mq_remove (m p : Nat) (c : MqC) (s : MqS) (b : Nat) (hb : b < 64) :
    Spec w0 285 [P0 m, .int .i64 b] [mqH m p c s] (fun _ : Unit => .bool (MqS.has c s b)) (fun _ => [mqH m p c (if MqS.has c s b then { s with L := lkOut s.L b } else s)]) := by
  refine spec_go (fun R w => H285) fun F => ?_
  show Ent w0 (mqH m p c s :: F) _
  unfold F285
  refine ent_call (mq_has m p c s b) (Imp.refl _) fun _ => ?_
  rw [lkI_has hb]
  cases hh : MqS.has c s b with
  | false =>
    (repeat (first | refine ent_gF ?_ | refine ent_pF ?_))
    exact ent_ret () rfl (Imp.refl _)
  | true =>
    show Ent w0 (mqH m p c s :: F) _
    refine Ent.mq ?_
    (repeat (first | refine ent_q (run_nil _) ?_ | refine ent_q (run_fieldZ _ _) ?_ | refine ent_gT ?_ | refine ent_q (run_load (cell_own 0 rfl rfl)) ?_))
    have : ∃ k, lkOf s.L b = some k := by
      unfold MqS.has at hh
      cases ho : lkOf s.L b with
      | none => rw [ho] at hh; cases hh
      | some k => exact ⟨k, rfl⟩
    obtain ⟨k, hk⟩ := this
    refine ent_call (sp_remove p s.L b k hk hb) (by (repeat refine Imp.pick 1 rfl ?_); exact Imp.refl _) fun _ => ?_
    refine ent_q ((run_eq _ _).T rfl) ?_
    (repeat refine ent_pT ?_)
    exact ent_ret () rfl (Imp.mq (s := { s with L := lkOut s.L b }) (by (repeat (first | refine Imp.pick 0 rfl ?_ | refine Imp.pick 1 rfl ?_)); exact Imp.refl _))
theorem mq_len (m p : Nat) (c : MqC) (s : MqS) (hk : MqOk c s) :
    Spec w0 284 [P0 m] [mqH m p c s] (fun _ : Unit => .int .i64 (lenN s.L c.q)) (fun _ => [mqH m p c s]) := by
  refine spec_go (fun R w => H284) fun F => ?_
  show Ent w0 (mqH m p c s :: F) _
  refine Ent.mq ?_
  refine Ent.spaceOkAt 1 rfl fun hsp => ?_
  have h40 := hsp.many
  have hl := hk.len
  unfold F284
  (repeat (first | refine ent_q (run_nil _) ?_ | refine ent_q (run_field0 _) ?_ | refine ent_q (run_field _ _) ?_ | refine ent_ifF ?_ | refine ent_q (run_eqpS _) ?_ | refine ent_q (run_load (cell_own 0 rfl rfl)) ?_))
  refine ent_loop (ι := Nat) (fun i => i ≤ c.q ∧ lenN s.L i ≤ i * 64) (fun i => [.int .i64 (i : Nat), .int .i64 (lenN s.L i : Nat)]) (fun i => pt m 267 (mqL p c s) :: spaceH p s.L :: F) (fun i => c.q - i) 0 ⟨Nat.zero_le _, Nat.le_refl _⟩ rfl (Imp.refl _) ?_
  intro i ⟨hi, hin⟩ g next hnext
  show Ent w0 _ (hV P (binOp .lss 3 (.int .i64 (i : Nat)) (.int .i64 (c.q : Nat))) _)
  refine ent_qb (run_lt _ _) (fun h => ?_) (fun h => ?_)
  · have hlt : i < s.L.length := by omega
    have h64 := hsp.len _ _ (lkAt_some hlt)
    (repeat (first | refine ent_q (run_nil _) ?_ | refine ent_q (run_fieldZ _ _) ?_ | refine ent_ifT ?_ | refine ent_q (run_load (cell_own 0 rfl rfl)) ?_))
    refine ent_call (sp_len p s.L i _ (lkAt_some hlt)) (by (repeat refine Imp.pick 1 rfl ?_); exact Imp.refl _) fun _ => ?_
    refine ent_q (run_add64 (by omega)) ?_
    refine ent_q (run_add64 (by omega)) ?_
    have hn : lenN s.L (i + 1) = lenN s.L i + (s.L.getD i []).length := rfl
    have := hnext (i + 1) ⟨by omega, by rw [hn]; omega⟩ (by omega)
    rw [hn, Int.natCast_add, Int.natCast_add] at this
    exact Ent.imp (by (repeat (first | refine Imp.pick 0 rfl ?_ | refine Imp.pick 1 rfl ?_)); exact Imp.refl _) this
  · have : i = c.q := by omega
    subst this
    (repeat refine ent_ifF ?_)
    exact ent_ret () rfl (Imp.mq (by (repeat refine Imp.pick 0 rfl ?_); exact Imp.refl _))
end
end Go.Gd
namespace Go.Gd
open Go.Instr
attribute [local irreducible] loadAt storeAt fieldAt indexAt alloc box build buildSlice hNil eqG binOp Op.unary extract makeSlice makeInterface makeFunc hV mV pV hU hF hIf hGuard hPick hJ hDraw hLoop spaceH
theorem lkOf_one (l : List Nat) (b : Nat) : lkOf [l] b = if b ∈ l then some 0 else none := by
  unfold lkOf
  by_cases h : b ∈ l <;> simp [List.findIdx?_cons, h]
theorem lkOut_one (l : List Nat) (b : Nat) : lkOut [l] b = [l.filter (· != b)] := rfl
theorem lkPush_one (l : List Nat) (b : Nat) : lkPush [l] 0 b = [b :: l] := rfl
theorem lkI_one (l : List Nat) (b : Int) : (lkI [l] b).isSome = decide ((0 ≤ b ∧ b < 64) ∧ b.toNat ∈ l) := by
  unfold lkI
  split
  · rename_i h; rw [lkOf_one]; by_cases hm : b.toNat ∈ l <;> simp [hm, h]
  · rename_i h; simp [h]
def lruH (q p : Nat) (cap : Nat) (l : List Nat) : HP := star [pt q 270 [P0 p, .int .i64 cap], spaceH p [l]]
section
variable {w0 : World}
theorem Ent.lru {q p cap : Nat} {l : List Nat} {F : List HP} {X : World → Prop} (h : Ent w0 (pt q 270 [P0 p, .int .i64 cap] :: spaceH p [l] :: F) X) : Ent w0 (lruH q p cap l :: F) X := Ent.star h
theorem Imp.lru {q cap p : Nat} {l : List Nat} {F F' : List HP} (h : Imp F (pt q 270 [P0 p, .int .i64 cap] :: spaceH p [l] :: F')) : Imp F (lruH q p cap l :: F') := Imp.starI h
attribute [local irreducible] lruH
theorem lru_new (m : Int) : Spec w0 143 [.int .i64 m] [] (fun x : Nat × Nat => P0 x.1) (fun x => [lruH x.1 x.2 (max 1 (min m 16)).toNat []]) := by
  refine spec_go (fun R w => H143) fun F => ?_
  show Ent w0 F _
  unfold F143
  refine ent_call (sp_new 1) (Imp.refl _) fun p => ?_
  refine ent_q (run_build (cs := [P0 p]) rfl) ?_
  refine ent_q (run_min _ _) ?_
  refine ent_q (run_max _ _) ?_
  refine ent_q (run_build (cs := [P0 p, .int .i64 (max 1 (min m 16))]) rfl) ?_
  refine ent_box fun q => ?_
  refine ent_ret (q, p) rfl (Imp.lru ?_)
  rw [agg_cells, show (((max 1 (min m 16)).toNat : Nat) : Int) = max 1 (min m 16) by omega]
  exact Imp.refl _
theorem lru_has (q p cap : Nat) (l : List Nat) (b : Int) : Spec w0 298 [P0 q, .int .i64 b] [lruH q p cap l] (fun _ : Unit => .bool (decide ((0 ≤ b ∧ b < 64) ∧ b.toNat ∈ l))) (fun _ => [lruH q p cap l]) := by
  refine spec_go (fun R w => H298) fun F => ?_
  show Ent w0 (lruH q p cap l :: F) _
  refine Ent.lru ?_
  unfold F298
  (repeat (first | refine ent_q (run_nil _) ?_ | refine ent_q (run_fieldZ _ _) ?_ | refine ent_ifF ?_ | refine ent_q (run_eqpS _) ?_ | refine ent_q (run_load (cell_own 0 rfl rfl)) ?_))
  refine ent_call (sp_of p [l] b) (by (repeat refine Imp.pick 1 rfl ?_); exact Imp.refl _) fun _ => ?_
  rw [lkI_one]
  (repeat refine ent_q (run_ex rfl) ?_)
  refine ent_ret () rfl (Imp.lru (by (repeat (first | refine Imp.pick 0 rfl ?_ | refine Imp.pick 1 rfl ?_)); exact Imp.refl _))
theorem lru_len (q p cap : Nat) (l : List Nat) : Spec w0 299 [P0 q] [lruH q p cap l] (fun _ : Unit => .int .i64 l.length) (fun _ => [lruH q p cap l]) := by
  refine spec_go (fun R w => H299) fun F => ?_
  show Ent w0 (lruH q p cap l :: F) _
  refine Ent.lru ?_
  unfold F299
  (repeat (first | refine ent_q (run_nil _) ?_ | refine ent_q (run_fieldZ _ _) ?_ | refine ent_ifF ?_ | refine ent_q (run_eqpS _) ?_ | refine ent_q (run_load (cell_own 0 rfl rfl)) ?_))
  refine ent_call (sp_len p [l] 0 l rfl) (by (repeat refine Imp.pick 1 rfl ?_); exact Imp.refl _) fun _ => ?_
  exact ent_ret () rfl (Imp.lru (by (repeat (first | refine Imp.pick 0 rfl ?_ | refine Imp.pick 1 rfl ?_)); exact Imp.refl _))
theorem lru_all (q p cap : Nat) (l : List Nat) : Spec w0 297 [P0 q] [lruH q p cap l] (fun v : Value => v) (fun v => [vec v 3 1 (intsV l) l.length, lruH q p cap l]) := by
  refine spec_go (fun R w => H297) fun F => ?_
  show Ent w0 (lruH q p cap l :: F) _
  refine Ent.lru ?_
  unfold F297
  (repeat (first | refine ent_q (run_nil _) ?_ | refine ent_q (run_fieldZ _ _) ?_ | refine ent_ifF ?_ | refine ent_q (run_eqpS _) ?_ | refine ent_q (run_load (cell_own 0 rfl rfl)) ?_))
  refine ent_call (sp_all p [l] 0 l rfl) (by (repeat refine Imp.pick 1 rfl ?_); exact Imp.refl _) fun v => ?_
  exact ent_ret v rfl (Imp.cons (Imp.lru (by (repeat (first | refine Imp.pick 0 rfl ?_ | refine Imp.pick 1 rfl ?_)); exact Imp.refl _)))
theorem lru_use (q p cap : Nat) (l : List Nat) (b : Nat) (hb : b < 64) : Spec w0 301 [P0 q, .int .i64 b] [lruH q p cap l] (fun _ : Unit => .bool (decide (b ∈ l))) (fun _ => [lruH q p cap (if b ∈ l then b :: l.filter (· != b) else l)]) := by
  refine spec_go (fun R w => H301) fun F => ?_
  show Ent w0 (lruH q p cap l :: F) _
  unfold F301
  refine ent_call (lru_has q p cap l b) (Imp.refl _) fun _ => ?_
  by_cases hm : b ∈ l
  · rw [decide_eq_true (by simp [hm]; omega), decide_eq_true hm, if_pos hm]
    show Ent w0 (lruH q p cap l :: F) _
    refine Ent.lru ?_
    (repeat (first | refine ent_q (run_nil _) ?_ | refine ent_q (run_fieldZ _ _) ?_ | refine ent_ifF ?_ | refine ent_q (run_notT) ?_ | refine ent_q (run_load (cell_own 0 rfl rfl)) ?_))
    refine ent_call (sp_front p [l] 0 b (by simp) hb) (by (repeat refine Imp.pick 1 rfl ?_); exact Imp.refl _) fun _ => ?_
    exact ent_ret () rfl (Imp.lru (by (repeat (first | refine Imp.pick 0 rfl ?_ | refine Imp.pick 1 rfl ?_)); exact Imp.refl _))
  · rw [decide_eq_false (by simp [hm]), decide_eq_false hm, if_neg hm]
    (repeat (first | refine ent_ifT ?_ | refine ent_q (run_notF) ?_))
    exact ent_ret () rfl (Imp.refl _)
theorem lru_remove (q p cap : Nat) (l : List Nat) (b : Nat) (hb : b < 64) : Spec w0 300 [P0 q, .int .i64 b] [lruH q p cap l] (fun _ : Unit => .bool (decide (b ∈ l))) (fun _ => [lruH q p cap (l.filter (· != b))]) := by
  refine spec_go (fun R w => H300) fun F => ?_
  show Ent w0 (lruH q p cap l :: F) _
  unfold F300
  refine ent_call (lru_has q p cap l b) (Imp.refl _) fun _ => ?_
  by_cases hm : b ∈ l
  · rw [decide_eq_true (by simp [hm]; omega), decide_eq_true hm]
    show Ent w0 (lruH q p cap l :: F) _
    refine Ent.lru ?_
    (repeat (first | refine ent_q (run_nil _) ?_ | refine ent_q (run_fieldZ _ _) ?_ | refine ent_gT ?_ | refine ent_q (run_load (cell_own 0 rfl rfl)) ?_))
    refine ent_call (sp_remove p [l] b 0 (by rw [lkOf_one, if_pos hm]) hb) (by (repeat refine Imp.pick 1 rfl ?_); exact Imp.refl _) fun _ => ?_
    refine ent_q ((run_eq _ _).T rfl) ?_
    (repeat refine ent_pT ?_)
    exact ent_ret () rfl (Imp.lru (by (repeat (first | refine Imp.pick 0 rfl ?_ | refine Imp.pick 1 rfl ?_)); exact Imp.refl _))
  · rw [decide_eq_false (by simp [hm]), decide_eq_false hm, filter_not hm]
    (repeat (first | refine ent_gF ?_ | refine ent_pF ?_))
    exact ent_ret () rfl (Imp.refl _)
def lruAdd (cap : Nat) (l : List Nat) (b : Nat) : List Nat × Option Nat :=
  if b ∈ l then (b :: l.filter (· != b), none)
  else if l.length + 1 ≤ cap then (b :: l, none)
  else ((b :: l).filter (· != (b :: l).getLast (by simp)), some ((b :: l).getLast (by simp)))
def gone3 (o : Option Nat) (e : Int) : Value := .tuple #[.int .i64 (match o with | some x => (x : Int) | none => 0), .bool o.isSome, .int .i64 e]
theorem lru_add (q p cap : Nat) (l : List Nat) (b : Nat) (hb : b < 64) (hl : ∀ x ∈ l, x < 64) : Spec w0 296 [P0 q, .int .i64 b] [lruH q p cap l] (fun _ : Unit => gone3 (lruAdd cap l b).2 0) (fun _ => [lruH q p cap (lruAdd cap l b).1]) := by
  refine spec_go (fun R w => H296) fun F => ?_
  show Ent w0 (lruH q p cap l :: F) _
  unfold F296
  (repeat (first | refine ent_ifF ?_ | refine ent_q (run_eqpS _) ?_))
  refine ent_call (lru_use q p cap l b hb) (Imp.refl _) fun _ => ?_
  by_cases hm : b ∈ l
  · rw [decide_eq_true hm, if_pos hm]
    (repeat refine ent_ifT ?_)
    have he : lruAdd cap l b = (b :: l.filter (· != b), none) := if_pos hm
    rw [he]
    exact ent_ret () rfl (Imp.refl _)
  · rw [decide_eq_false hm, if_neg hm]
    show Ent w0 (lruH q p cap l :: F) _
    refine Ent.lru ?_
    (repeat (first | refine ent_q (run_nil _) ?_ | refine ent_q (run_fieldZ _ _) ?_ | refine ent_ifF ?_ | refine ent_q (run_load (cell_own 0 rfl rfl)) ?_))
    refine ent_call (sp_front p [l] 0 b (by simp) hb) (by (repeat refine Imp.pick 1 rfl ?_); exact Imp.refl _) fun _ => ?_
    rw [lkOut_one, filter_not hm, lkPush_one]
    refine ent_q ((run_ne _ _).F (by simp)) ?_
    (repeat refine ent_ifF ?_)
    refine ent_draw _ (Imp.refl _) ?_
    (repeat (first | refine ent_p (fun _ => run_nil _) ?_ | refine ent_p (fun _ => run_field0 _) ?_ | refine ent_m (run_load (cell_own 1 rfl rfl)) ?_))
    refine ent_call (lru_len q p cap (b :: l)) (Imp.lru (by (repeat (first | refine Imp.pick 0 rfl ?_ | refine Imp.pick 1 rfl ?_)); exact Imp.refl _)) fun _ => ?_
    show Ent w0 (lruH q p cap (b :: l) :: F) _
    refine Ent.lru ?_
    refine ent_and (by (repeat (first | refine Imp.pick 0 rfl ?_ | refine Imp.pick 1 rfl ?_)); exact Imp.refl _) ?_
    by_cases hc : l.length + 1 ≤ cap
    · have he : lruAdd cap l b = (b :: l, none) := by unfold lruAdd; rw [if_neg hm, if_pos hc]
      rw [he]
      refine ent_p (fun _ => (run_le _ _).T (by simp; omega)) ?_
      (repeat refine ent_ifT ?_)
      exact ent_ret () rfl (Imp.lru (by (repeat refine Imp.pick 0 rfl ?_); exact Imp.refl _))
    · have he : lruAdd cap l b = ((b :: l).filter (· != (b :: l).getLast (by simp)), some ((b :: l).getLast (by simp))) := by unfold lruAdd; rw [if_neg hm, if_neg hc]
      rw [he]
      refine ent_p (fun _ => (run_le _ _).F (by simp; omega)) ?_
      (repeat (first | refine ent_q (run_nil _) ?_ | refine ent_q (run_fieldZ _ _) ?_ | refine ent_ifF ?_ | refine ent_q (run_load (cell_own 0 rfl rfl)) ?_))
      refine ent_call (sp_last p [b :: l] 0 (b :: l) rfl) (by (repeat refine Imp.pick 1 rfl ?_); exact Imp.refl _) fun _ => ?_
      rw [List.getLast?_eq_some_getLast (show b :: l ≠ [] by simp)]
      have hmem : (b :: l).getLast (by simp) ∈ b :: l := List.getLast_mem _
      have hlt : (b :: l).getLast (by simp) < 64 := by
        rcases List.mem_cons.1 hmem with h | h
        · omega
        · exact hl _ h
      generalize (b :: l).getLast (by simp) = v at *
      (repeat (first | refine ent_q (run_nil _) ?_ | refine ent_q (run_fieldZ _ _) ?_ | refine ent_q (run_ex rfl) ?_ | refine ent_q (run_load (cell_own 1 rfl rfl)) ?_))
      refine ent_call (sp_remove p [b :: l] v 0 (by rw [lkOf_one, if_pos hmem]) hlt) (by (repeat refine Imp.pick 0 rfl ?_); exact Imp.refl _) fun _ => ?_
      exact ent_ret () rfl (Imp.lru (by (repeat (first | refine Imp.pick 0 rfl ?_ | refine Imp.pick 1 rfl ?_)); exact Imp.refl _))
end
end Go.Gd
