/- What the space of an order says of it: no block twice, none beyond 63; what goes is one of them. Conditions: those in the theorems. The contracts of package cache, second part. Conditions: those in the theorems. The contracts of package cache, third part: New. Conditions: those in the theorems. The plain law of numbers as bytes. Conditions: those in the theorems. -/
import Derived.Test.YtdgnnacppiaogaaGreatB22
import Derived.Test.YtdgnnacppiaogaaGreatB27
import Derived.Test.YtdgnnacppiaogaaGreatB28
import Derived.Test.YtdgnnacppiaogaaGreatB15
import Derived.Test.YtdgnnacppiaogaaGreatB8
set_option linter.unusedVariables false
set_option linter.unusedSimpArgs false
namespace Go.Gd
def Ord.Lk : Ord → Prop
  | .lru _ l => LkOk [l]
  | .mq _ s => LkOk s.L
  | .part _ L => LkOk L
theorem Ent.ordOk {w0 : World} {a p : Nat} {o : Ord} {L : List HP} {X : World → Prop} (h : o.Lk → Ent w0 (ordH w0 a p o :: L) X) : Ent w0 (ordH w0 a p o :: L) X := by
  cases o with
  | lru cap l =>
    refine Ent.lru ?_
    refine Ent.spaceOkAt 1 rfl fun hk => ?_
    exact Ent.imp (Imp.lru (Imp.refl _)) (h hk)
  | mq c s =>
    refine Ent.mq ?_
    refine Ent.spaceOkAt 1 rfl fun hk => ?_
    exact Ent.imp (Imp.mq (Imp.refl _)) (h hk)
  | part c M =>
    refine Ent.part ?_
    refine Ent.spaceOkAt 1 rfl fun hk => ?_
    exact Ent.imp (Imp.part (Imp.refl _)) (h hk)
theorem lk_mem_lt {L : List (List Nat)} (h : LkOk L) {k x : Nat} (hx : x ∈ L.getD k []) : x < 64 := by
  rcases Nat.lt_or_ge k L.length with h1 | h1
  · exact h.lt _ _ _ (lkAt_some h1) hx
  · rw [List.getD_eq_getElem?_getD, List.getElem?_eq_none h1] at hx; simp at hx
theorem lkLast_mem {L : List (List Nat)} {k b : Nat} (h : lkLast L k = some b) : b ∈ L.getD k [] := by
  unfold lkLast at h
  exact List.mem_of_getLast? h
theorem evict_lt {L : List (List Nat)} (h : LkOk L) (q gh : Nat) : (lkEvict q gh L).2 < 64 := by
  unfold lkEvict
  split
  · show 0 < 64; omega
  · rename_i b hb
    have hlt := lk_mem_lt h (lkLast_mem hb)
    simp only
    split
    · split <;> exact hlt
    · exact hlt
theorem Ord.add_vic {o : Ord} (h : o.Lk) {b : Nat} (hb : b < 64) (ht : o.takes b) {x : Nat} (hx : (o.add b).2 = some x) : x < 64 := by
  cases o with
  | lru cap l =>
    simp only [Ord.add, lruAdd] at hx
    split at hx
    · cases hx
    · split at hx
      · cases hx
      · simp only [Option.some.injEq] at hx
        have hm := List.getLast_mem (l := b :: l) (by simp)
        rw [hx] at hm
        rcases List.mem_cons.1 hm with rfl | hm
        · exact hb
        · exact h.lt 0 l x rfl hm
  | mq c s =>
    simp only [Ord.add, MqS.add] at hx
    split at hx
    · cases hx
    · simp only [MqS.make] at hx
      split at hx
      · simp only [Option.some.injEq] at hx
        rw [← hx]
        exact evict_lt (L := s.tick.L) h _ _
      · cases hx
  | part c M =>
    simp only [Ord.add, ptAdd] at hx
    split at hx
    · cases hx
    · split at hx
      · cases hx
      · split at hx
        · rename_i r hr hfull
          simp only [Option.some.injEq] at hx
          rw [← hx]
          refine lk_mem_lt h (ptGoes_mem (fun e => ?_))
          rw [e] at hfull
          have : 0 < c.part b := ht
          simp at hfull; omega
        · cases hx
end Go.Gd
namespace Go.Gd
open Go.Instr
attribute [local irreducible] loadAt storeAt fieldAt indexAt alloc box build buildSlice hNil eqG binOp Op.unary extract makeSlice makeInterface makeFunc convert hV mV pV hU hF hFV hI hIf hGuard hPick hJ hDraw hLoop ro Instr.index planI spaceH ptH mqH lruH lookup mapUpdate typeAssert mpI ordH
noncomputable def Ca.put (c : Cfg) (tier : Int) (S : Ca) (b : Int) (d : List UInt8) (level : Int) : Ca × Option (Nat × List UInt8) × Int := by
  classical
  exact if ¬ Ca.there c b then (S, none, 9)
  else if (d.length : Int) ≠ c.size then (S, none, 10)
  else if ¬ Ca.takes c tier S b level then (S, none, 5)
  else ((S.add b.toNat d).1, (S.add b.toNat d).2, 0)
def vicV : Option (Nat × List UInt8) → Int
  | some x => x.1
  | none => 0
def vicD : Option (Nat × List UInt8) → List UInt8
  | some x => x.2
  | none => []
section
variable {w0 : World} {L : List HP} {k a p mb : Nat} {c : Cfg} {tier : Int} {S : Ca} {F : List HP} {X : World → Prop}
theorem two_one {n : Int} {dv : Value} (h : dv.oneCell' = true) : ∀ u ∈ ([.int .i64 n, dv] : List Value), u.oneCell' = true := by
  intro u hu
  simp only [List.mem_cons, List.not_mem_nil, or_false] at hu
  rcases hu with rfl | rfl
  · rfl
  · exact h
theorem ca_all (n : Nat) (hf : S.o.Fine n) (hn : n < 4611686018427387904) : Spec w0 78 [P0 k] [caH w0 k a p mb c tier S] (fun v : Value => v) (fun v => [vec v 3 1 (intsV S.o.all) S.o.all.length, caH w0 k a p mb c tier S]) := by
  refine spec_go (fun R w => H78) fun F => ?_
  show Ent w0 (caH w0 k a p mb c tier S :: F) _
  unfold F78
  refine Ent.ca fun cv vs => ?_
  (repeat (first | refine ent_q (run_nil _) ?_ | refine ent_q (run_field0 _) ?_ | refine ent_ifF ?_ | refine ent_q (run_eqpS _) ?_))
  refine ent_q (run_load (v := ordV a S.o) (cell_own 0 rfl rfl)) ?_
  refine Ent.at 1 rfl (ent_ordAll hf hn fun v => ?_)
  exact ent_ret v rfl (Imp.cons (Imp.ca (by (repeat (first | refine Imp.pick 0 rfl ?_ | refine Imp.pick 1 rfl ?_)); exact Imp.refl _)))
set_option maxHeartbeats 1000000 in
theorem ca_put (n : Nat) (b level : Int) (dv : Value) (d : List UInt8) (hdl : d.length ≤ 1099511627776) (hf : S.o.Fine n) (hn : n < 4611686018427387904) (hbl : c.blocks ≤ 64) (hp : c.place = 2 → ∃ pc M, S.o = .part pc M ∧ pc.Ok)
    (htk : c.place ≠ 2 → ∀ b, S.o.takes b) :
    Spec w0 160 [P0 k, .agg #[.int .i64 b, dv], .int .i64 level] [caH w0 k a p mb c tier S, roB w0 dv d]
      (fun gv : Value => .tuple #[.agg #[.int .i64 (vicV (S.put c tier b d level).2.1), gv], .bool (S.put c tier b d level).2.1.isSome, .int .i64 (S.put c tier b d level).2.2])
      (fun gv => [roB w0 gv (vicD (S.put c tier b d level).2.1), caH w0 k a p mb c tier (S.put c tier b d level).1]) := by
  classical
  refine spec_go (fun R w => H160) fun F => ?_
  show Ent w0 (caH w0 k a p mb c tier S :: roB w0 dv d :: F) _
  generalize hW : S.put c tier b d level = W
  unfold Ca.put at hW
  refine Ent.at 1 rfl (Ent.ro1 fun hdv => Ent.to1 ?_)
  unfold F160
  refine ent_box fun fb => ?_
  show Ent w0 (pt fb 141 [.int .i64 b, dv] :: _) _
  refine ent_alloc fun vb => ?_
  have leaf : ∀ e : Int, W = (S, none, e) → Ent w0 (pt vb 141 [.int .i64 0, .slice none 0 0] :: caH w0 k a p mb c tier S :: F) (hV P (build 141 #[]) fun t13 => hU P (storeAt 141 (P0 vb) t13) <| hR P (loadAt 141 (P0 vb)) fun r0 =>
      ((fun v w' => ∃ gv : Value, v = Value.tuple #[.agg #[.int .i64 (vicV W.2.1), gv], .bool W.2.1.isSome, .int .i64 W.2.2] ∧ Sat w0 ([roB w0 gv (vicD W.2.1), caH w0 k a p mb c tier W.1] ++ F) w') (.tuple #[r0, .bool false, .int .i64 e]))) := by
    intro e he
    subst he
    refine ent_q bd141 ?_
    refine ent_sa0 (vs := [.int .i64 0, .slice none 0 0]) rfl (two_one rfl) (by simp) rfl ?_
    refine ent_r (run_loadA (vs := [.int .i64 0, .slice none 0 0]) rfl (cells_all 0 rfl)) ?_
    exact ent_ret (.slice none 0 0) rfl (Imp.ro0 rfl (by (repeat refine Imp.pick 1 rfl ?_); exact Imp.drop1))
  (repeat (first | refine ent_q (run_fieldZ _ _) ?_ | refine ent_ifF ?_ | refine ent_q (run_eqpS _) ?_ | refine ent_q (run_load (cell_own 1 rfl rfl)) ?_))
  refine ent_call (ca_there b) (by (repeat refine Imp.pick 2 rfl ?_); exact Imp.refl _) fun _ => ?_
  by_cases h1 : Ca.there c b
  rotate_left
  · rw [if_pos h1] at hW
    rw [decide_eq_false h1]
    (repeat (first | refine ent_ifT ?_ | refine ent_q (run_notF) ?_))
    exact Ent.imp (by (repeat (first | refine Imp.pick 0 rfl ?_ | refine Imp.pick 1 rfl ?_)); exact Imp.trans Imp.drop1 (Imp.drop1)) (leaf 9 hW.symm)
  rw [if_neg (by simpa using h1)] at hW
  rw [decide_eq_true h1]
  (repeat (first | refine ent_ifF ?_ | refine ent_q (run_notT) ?_))
  refine Ent.ca fun cv vs => ?_
  refine ent_draw [pt k 157 (caL a mb c cv tier S.o), pt fb 141 [.int .i64 b, dv], roB w0 dv d] (by (repeat (first | refine Imp.pick 0 rfl ?_ | refine Imp.pick 5 rfl ?_)); exact Imp.nil) ?_
  (repeat (first | refine ent_p (fun _ => run_field0 _) ?_ | refine ent_m (run_load (cell_own 1 rfl rfl)) ?_))
  refine ent_m (run_lenR 2 rfl) ?_
  (repeat (first | refine ent_p (fun _ => run_nil _) ?_ | refine ent_p (fun _ => run_fieldZ _ _) ?_ | refine ent_p (fun _ => run_field0 _) ?_))
  refine ent_m (run_load (v := .int .i64 c.size) (cell_own 0 rfl rfl)) ?_
  by_cases h2 : (d.length : Int) = c.size
  rotate_left
  · rw [if_pos h2] at hW
    refine ent_p (fun _ => (run_ne _ _).T h2) ?_
    (repeat refine ent_ifT ?_)
    refine Ent.imp (L' := pt vb 141 [.int .i64 0, .slice none 0 0] :: caH w0 k a p mb c tier S :: F) ?_ (leaf 10 hW.symm)
    exact Imp.trans (L2 := pt vb 141 [.int .i64 0, .slice none 0 0] :: pt k 157 (caL a mb c cv tier S.o) :: ordH w0 a p S.o :: mpI mb (caF S vs) :: allH 64 (fun i => roO w0 (vs i) (S.m i)) :: ro w0 cv 4 c.hints.length (hintsV c.hints) :: F) (by (repeat (first | refine Imp.pick 0 rfl ?_ | refine Imp.pick 5 rfl ?_)); exact Imp.trans Imp.drop1 (Imp.drop1)) (Imp.cons (Imp.ca (Imp.refl _)))
  rw [if_neg (by simpa using h2)] at hW
  refine ent_p (fun _ => (run_ne _ _).F (by simpa using h2)) ?_
  (repeat (first | refine ent_q (run_fieldZ _ _) ?_ | refine ent_ifF ?_ | refine ent_q (run_load (cell_own 6 rfl rfl)) ?_))
  refine Ent.imp (L' := caH w0 k a p mb c tier S :: pt fb 141 [.int .i64 b, dv] :: pt vb 141 [.int .i64 0, .slice none 0 0] :: roB w0 dv d :: F) (Imp.ca (by (repeat (first | refine Imp.pick 0 rfl ?_ | refine Imp.pick 1 rfl ?_)); exact Imp.refl _)) ?_
  (skip)
  refine ent_call (ca_takes b level hp (decide (Ca.takes c tier S b level)) decide_eq_true_iff) (by (repeat refine Imp.pick 0 rfl ?_); exact Imp.refl _) fun _ => ?_
  by_cases h3 : Ca.takes c tier S b level
  rotate_left
  · rw [if_pos h3] at hW
    rw [decide_eq_false h3]
    (repeat (first | refine ent_ifT ?_ | refine ent_q (run_notF) ?_))
    exact Ent.imp (by (repeat (first | refine Imp.pick 0 rfl ?_ | refine Imp.pick 2 rfl ?_)); exact Imp.trans Imp.drop1 (Imp.drop1)) (leaf 5 hW.symm)
  rw [if_neg (by simpa using h3)] at hW
  rw [decide_eq_true h3]
  obtain ⟨hb0, hb1⟩ := h1
  obtain ⟨bn, rfl⟩ := Int.eq_ofNat_of_zero_le hb0
  have hbn : bn < 64 := by omega
  simp only [Int.toNat_natCast] at hW
  have htake : S.o.takes bn := by
    by_cases hpl : c.place = 2
    · have := h3.2.2 hpl; simpa using this
    · exact htk hpl bn
  subst hW
  (repeat (first | refine ent_ifF ?_ | refine ent_q (run_notT) ?_))
  refine Ent.ca fun cv vs => ?_
  refine ent_draw [pt k 157 (caL a mb c cv tier S.o), pt fb 141 [.int .i64 (bn : Nat), dv], roB w0 dv d] (by (repeat (first | refine Imp.pick 0 rfl ?_ | refine Imp.pick 4 rfl ?_ | refine Imp.pick 5 rfl ?_)); exact Imp.nil) ?_
  (repeat (first | refine ent_p (fun _ => run_nil _) ?_ | refine ent_p (fun _ => run_field0 _) ?_))
  refine ent_m (run_load (v := ordV a S.o) (cell_own 0 rfl rfl)) ?_
  (repeat (first | refine ent_p (fun _ => run_fieldZ _ _) ?_ | refine ent_m (run_load (cell_own 1 rfl rfl)) ?_))
  refine Ent.at 1 rfl (Ent.ordOk fun hlk => ent_ordAdd hf hn hbn htake ?_)
  have hadd : S.add bn d = match (S.o.add bn).2 with
    | some x => (⟨(S.o.add bn).1, upF (upF S.m x none) bn (some d)⟩, some (x, (S.m x).getD []))
    | none => (⟨(S.o.add bn).1, upF S.m bn (some d)⟩, none) := rfl
  have tail : ∀ (mm : Nat → Option (List UInt8)) (q : Bool) (g : Int) (gv : Value) (gd : List UInt8), gv.oneCell' = true → Ent w0 (pt vb 141 [.int .i64 g, gv] :: pt fb 141 [.int .i64 (bn : Nat), dv] :: roB w0 dv d :: roB w0 gv gd :: pt k 157 (caL a mb c cv tier (S.o.add bn).1) :: ordH w0 a p (S.o.add bn).1 :: mpI mb (caF ⟨(S.o.add bn).1, mm⟩ vs) :: allH 64 (fun i => roO w0 (vs i) (mm i)) :: ro w0 cv 4 c.hints.length (hintsV c.hints) :: F)
      (hDraw fun C16 =>
 pV P (hNil (P0 k)) fun t70 =>
 pV P (fieldAt 157 t70 3) fun t71 =>
 mV P C16 (loadAt 155 t71) fun t72 =>
 pV P (fieldAt 141 (P0 fb) 0) fun t73 =>
 mV P C16 (loadAt 3 t73) fun t74 =>
 pV P (fieldAt 141 (P0 fb) 1) fun t75 =>
 mV P C16 (loadAt 35 t75) fun t76 =>
 hF P 99 #[t76] fun t77 =>
 hAnd C16 <| hU P (mapUpdate 155 t72 t74 t77) <|
 hV P (loadAt 141 (P0 vb)) fun t78 =>
 hU P (storeAt 141 (P0 vb) t78) <|
 hR P (loadAt 141 (P0 vb)) fun r0 =>
(fun v w' => ∃ gv' : Value, v = Value.tuple #[.agg #[.int .i64 g, gv'], .bool q, .int .i64 0] ∧ Sat w0 ([roB w0 gv' gd, caH w0 k a p mb c tier ⟨(S.o.add bn).1, upF mm bn (some d)⟩] ++ F) w') (.tuple #[r0, .bool q, (.int .i64 0)])) := by
    intro mm q g gv gd hgv
    refine ent_draw [pt k 157 (caL a mb c cv tier (S.o.add bn).1), pt fb 141 [.int .i64 (bn : Nat), dv]] (by (repeat (first | refine Imp.pick 1 rfl ?_ | refine Imp.pick 4 rfl ?_)); exact Imp.nil) ?_
    (repeat (first | refine ent_p (fun _ => run_nil _) ?_ | refine ent_p (fun _ => run_field0 _) ?_))
    refine ent_m (run_load (v := .map (some mb)) (cell_own 0 rfl rfl)) ?_
    (repeat (first | refine ent_p (fun _ => run_fieldZ _ _) ?_ | refine ent_p (fun _ => run_field0 _) ?_ | refine ent_m (run_load (cell_own 1 rfl rfl)) ?_))
    refine ent_call (clone_bytes dv d hdl) (by (repeat refine Imp.pick 2 rfl ?_); exact Imp.refl _) fun nv => ?_
    refine ent_and (by (repeat (first | refine Imp.pick 2 rfl ?_ | refine Imp.pick 4 rfl ?_)); exact Imp.nil) ?_
    refine Ent.vecRo (Ent.ro1 fun hnv => ?_)
    refine Ent.imp (L' := mpI mb (caF ⟨(S.o.add bn).1, mm⟩ vs) :: pt vb 141 [.int .i64 g, gv] :: roB w0 nv d :: roB w0 gv gd :: pt k 157 (caL a mb c cv tier (S.o.add bn).1) :: ordH w0 a p (S.o.add bn).1 :: allH 64 (fun i => roO w0 (vs i) (mm i)) :: ro w0 cv 4 c.hints.length (hintsV c.hints) :: F) (by (repeat (first | refine Imp.pick 0 rfl ?_ | refine Imp.pick 1 rfl ?_ | refine Imp.pick 6 rfl ?_)); exact Imp.drop1) ?_
    refine ent_setI ?_
    rw [caF_put (o := (S.o.add bn).1) (d := d) hbn]
    refine ent_q (run_loadA (vs := [.int .i64 g, gv]) rfl (cells_all 1 rfl)) ?_
    refine Ent.to1 (ent_sa0 (vs := [.int .i64 g, gv]) rfl (two_one hgv) (by simp) rfl ?_)
    refine ent_r (run_loadA (vs := [.int .i64 g, gv]) rfl (cells_all 0 rfl)) ?_
    refine ent_ret gv rfl ?_
    refine Imp.trans (L2 := roB w0 gv gd :: pt k 157 (caL a mb c cv tier (S.o.add bn).1) :: ordH w0 a p (S.o.add bn).1 :: mpI mb (caF ⟨(S.o.add bn).1, upF mm bn (some d)⟩ (upF vs bn nv)) :: roB w0 nv d :: allH 64 (fun i => roO w0 (vs i) (mm i)) :: ro w0 cv 4 c.hints.length (hintsV c.hints) :: F) (by (repeat (first | refine Imp.pick 1 rfl ?_ | refine Imp.pick 3 rfl ?_)); exact Imp.drop1) (Imp.cons ?_)
    refine Imp.ca (S := ⟨(S.o.add bn).1, upF mm bn (some d)⟩) (cv := cv) (vs := upF vs bn nv) ?_
    refine Imp.cons (Imp.cons (Imp.cons ?_))
    exact Imp.trans Imp.allPut (Imp.refl _)
  cases hx : (S.o.add bn).2 with
  | none =>
    rw [hx] at hadd
    dsimp only at hadd
    rw [hadd]
    unfold gone3
    (repeat refine ent_p (fun _ => run_ex rfl) ?_)
    refine ent_q ((run_ne _ _).F (by simp)) ?_
    (repeat (first | refine ent_ifF ?_ | refine ent_j ?_))
    refine Ent.imp ?_ (tail S.m false 0 (.slice none 0 0) [] rfl)
    refine Imp.trans (L2 := pt vb 141 [.int .i64 0, .slice none 0 0] :: pt fb 141 [.int .i64 (bn : Nat), dv] :: roB w0 dv d :: pt k 157 (caL a mb c cv tier S.o) :: ordH w0 a p (S.o.add bn).1 :: mpI mb (caF S vs) :: allH 64 (fun i => roO w0 (vs i) (S.m i)) :: ro w0 cv 4 c.hints.length (hintsV c.hints) :: F) (by (repeat (first | refine Imp.pick 0 rfl ?_ | refine Imp.pick 1 rfl ?_ | refine Imp.pick 5 rfl ?_ | refine Imp.pick 6 rfl ?_)); exact Imp.refl _) ?_
    refine Imp.cons (Imp.cons (Imp.cons (Imp.ro0 rfl ?_)))
    unfold caL
    rw [ordV_add]
    exact Imp.refl _
  | some x =>
    have hx64 := Ord.add_vic hlk hbn htake hx
    rw [hx] at hadd
    dsimp only at hadd
    rw [hadd]
    unfold gone3
    (repeat refine ent_p (fun _ => run_ex rfl) ?_)
    refine ent_q ((run_ne _ _).F (by simp)) ?_
    (repeat (first | refine ent_q (run_nil _) ?_ | refine ent_q (run_field0 _) ?_ | refine ent_ifT ?_ | refine ent_ifF ?_ | refine ent_j ?_))
    refine ent_q (run_load (v := .map (some mb)) (cell_own 1 rfl rfl)) ?_
    refine Ent.imp (L' := allH 64 (fun i => roO w0 (vs i) (S.m i)) :: mpI mb (caF S vs) :: pt vb 141 [.int .i64 0, .slice none 0 0] :: pt k 157 (caL a mb c cv tier S.o) :: pt fb 141 [.int .i64 (bn : Nat), dv] :: roB w0 dv d :: ordH w0 a p (S.o.add bn).1 :: ro w0 cv 4 c.hints.length (hintsV c.hints) :: F) (by (repeat (first | refine Imp.pick 0 rfl ?_ | refine Imp.pick 1 rfl ?_ | refine Imp.pick 2 rfl ?_ | refine Imp.pick 3 rfl ?_ | refine Imp.pick 4 rfl ?_)); exact Imp.refl _) ?_
    refine ent_caLook hx64 0 rfl fun gv => ?_
    refine Ent.ro1 fun hgv => ?_
    refine ent_q (bd141_0_1 rfl hgv) ?_
    refine Ent.to3 (ent_sa0 (vs := [.int .i64 (x : Nat), gv]) rfl (two_one hgv) (by simp) rfl ?_)
    (repeat (first | refine ent_q (run_nil _) ?_ | refine ent_q (run_field0 _) ?_))
    refine ent_q (run_load (v := .map (some mb)) (cell_own 4 rfl rfl)) ?_
    refine Ent.to3 (ent_delI ?_)
    rw [caF_del (o := (S.o.add bn).1) hx64]
    refine Ent.imp ?_ (tail (upF S.m x none) true x gv ((S.m x).getD []) hgv)
    refine Imp.trans (L2 := pt vb 141 [.int .i64 (x : Nat), gv] :: pt fb 141 [.int .i64 (bn : Nat), dv] :: roB w0 dv d :: roB w0 gv ((S.m x).getD []) :: pt k 157 (caL a mb c cv tier S.o) :: ordH w0 a p (S.o.add bn).1 :: mpI mb (caF ⟨(S.o.add bn).1, upF S.m x none⟩ vs) :: allH 64 (fun i => roO w0 (vs i) (S.m i)) :: ro w0 cv 4 c.hints.length (hintsV c.hints) :: F) (by (repeat (first | refine Imp.pick 0 rfl ?_ | refine Imp.pick 1 rfl ?_ | refine Imp.pick 2 rfl ?_ | refine Imp.pick 4 rfl ?_)); exact Imp.refl _) ?_
    refine Imp.cons (Imp.cons (Imp.cons (Imp.cons ?_)))
    unfold caL
    rw [ordV_add]
    exact Imp.cons (Imp.cons (Imp.cons Imp.allDel))
end
end Go.Gd
namespace Go.Gd
open Go.Instr
attribute [local irreducible] loadAt storeAt fieldAt indexAt alloc box build buildSlice hNil eqG binOp Op.unary extract makeSlice makeInterface makeFunc convert hV mV pV hU hF hFV hI hIf hGuard hPick hJ hDraw hLoop ro Instr.index planI spaceH ptH mqH lruH lookup mapUpdate typeAssert mpI
def capN (c : Cfg) (i : Nat) : Nat := (c.cap i).toNat
structure CaN where
  k : Nat
  a : Nat
  p : Nat
  mb : Nat
  q : Nat
  hv : Value
  pv : Value
def mqC (c : Cfg) (tier : Nat) : MqC := ⟨capN c (tier - 1), c.queues.toNat, c.life.toNat, c.ghost.toNat⟩
def Ord.new (c : Cfg) (tier : Nat) (x : CaN) : Ord :=
  if c.place = 2 then .part ⟨x.q, c.blocks, capN c, c.hints, x.hv, x.pv, tier⟩ (lkNew (c.hints.length + 1))
  else if c.pol (tier - 1) = 2 then .mq (mqC c tier) (MqS.new (mqC c tier))
  else .lru (capN c (tier - 1)) []
theorem cfg_facts {c : Cfg} (h : cfgRight c = true) : CfgP c ∧ c.hints.length ≤ 8 ∧ (∀ x ∈ c.hints, HintP c.blocks x) ∧ hintsB c.hints c.blocks = true := by
  obtain ⟨h1, h2⟩ := cfgRight_ok h
  exact ⟨h1, (hintsB_ok h2).1, (hintsB_ok h2).2, h2⟩
theorem mqC_right {c : Cfg} (h : CfgP c) {tier : Nat} (ht : 1 ≤ tier ∧ tier ≤ 3) : (mqC c tier).Right := by
  obtain ⟨h1, h2, h3, h4, h5, h6, h7, h8, h9, h10, h11, h12, h13⟩ := h
  have := h1 (tier - 1) (by omega)
  unfold MqC.Right mqC capN
  dsimp only
  omega
theorem ordNew_fine {c : Cfg} (h : cfgRight c = true) {tier : Nat} (ht : 1 ≤ tier ∧ tier ≤ 3) (x : CaN) : (Ord.new c tier x).Fine 0 := by
  obtain ⟨hP, h8, hh, _⟩ := cfg_facts h
  have hcap := hP.1 (tier - 1) (by omega)
  unfold Ord.new
  split
  · exact ⟨⟨h8, hh, by show 1 ≤ tier ∧ tier ≤ 3; exact ht⟩, by simp [lkNew]⟩
  · split
    · exact ⟨mqC_right hP ht, by simp [MqS.new, lkNew], Nat.le_refl _, fun _ => Nat.le_refl _⟩
    · exact ⟨by unfold capN; omega, by unfold capN; omega, by simp⟩
section
variable {w0 : World} {L : List HP}
theorem ca_ordered (c : Cfg) (tier : Nat) (hr : cfgRight c = true) (ht : 1 ≤ tier ∧ tier ≤ 3) :
    Spec w0 92 [cfgV c, .int .i64 (tier : Nat)] [ro w0 c.hv 4 c.hints.length (hintsV c.hints)] (fun x : CaN => ordV x.a (Ord.new c tier x)) (fun x => [ordH w0 x.a x.p (Ord.new c tier x)]) := by
  obtain ⟨hP, h8, hh, hB⟩ := cfg_facts hr
  have hP' := hP
  obtain ⟨h1, h2, h3, h4, h5, h6, h7, h9, h10, h11, h12, h13, h14⟩ := hP'
  have hcap : ∀ i, i < 3 → c.cap i = ((capN c i : Nat) : Int) ∧ 1 ≤ capN c i ∧ capN c i ≤ 16 := fun i hi => by have := h1 i hi; unfold capN; omega
  refine spec_go (fun R w => H92) fun F => ?_
  show Ent w0 (ro w0 c.hv 4 c.hints.length (hintsV c.hints) :: F) _
  unfold F92
  refine ent_box fun cb => ?_
  rw [agg_cells, List.toList_toArray]
  refine ent_q (run_sub64 (by omega)) ?_
  (repeat refine ent_q (run_field0 _) ?_)
  refine ent_q (run_indexA (tier - 1) (by omega) (by omega)) ?_
  refine ent_q (run_load (v := .int .i64 (c.cap (tier - 1))) (cell_own 0 rfl (cfgL_cap (by omega)))) ?_
  (repeat refine ent_q (run_field0 _) ?_)
  refine ent_q (run_load (v := .int .i64 c.place) (cell_own 0 rfl rfl)) ?_
  refine ent_qb (run_eq _ _) (fun hp => ?_) (fun hp => ?_)
  · (repeat (first | refine ent_q (run_field0 _) ?_ | refine ent_ifT ?_))
    refine ent_q (run_load (v := c.hv) (cell_own 0 rfl rfl)) ?_
    (repeat refine ent_q (run_field0 _) ?_)
    refine ent_q (run_load (v := .int .i64 c.blocks) (cell_own 0 rfl rfl)) ?_
    (repeat refine ent_q (run_field0 _) ?_)
    refine ent_q (run_loadA (vs := [.int .i64 (c.cap 0), .int .i64 (c.cap 1), .int .i64 (c.cap 2)]) rfl (cells_own 0 rfl (fun j v hj => ?_))) ?_
    · match j with
      | 0 => exact hj
      | 1 => exact hj
      | 2 => exact hj
      | n + 3 => simp at hj
    rw [(hcap 0 (by omega)).1, (hcap 1 (by omega)).1, (hcap 2 (by omega)).1]
    refine ent_call (ka_new c.hv c.hints c.blocks (capN c) h4 hB (fun t ht => (hcap t ht).2)) (by (repeat refine Imp.pick 1 rfl ?_); exact Imp.refl _) fun x => ?_
    (repeat refine ent_q (run_ex rfl) ?_)
    refine ent_call (pt_new ⟨x.1, c.blocks, capN c, c.hints, x.2.1, x.2.2, tier⟩ ⟨h8, hh, ht⟩) (Imp.refl _) fun y => ?_
    (repeat (first | refine ent_q (run_ex rfl) ?_ | refine ent_q (run_mi _) ?_))
    have he : Ord.new c tier ⟨0, y.1, y.2, 0, x.1, x.2.1, x.2.2⟩ = .part ⟨x.1, c.blocks, capN c, c.hints, x.2.1, x.2.2, tier⟩ (lkNew (c.hints.length + 1)) := if_pos hp
    refine ent_ret ⟨0, y.1, y.2, 0, x.1, x.2.1, x.2.2⟩ ?_ ?_
    · rw [he]; rfl
    · rw [he]; exact Imp.trans (Imp.refl _) (by (repeat refine Imp.pick 0 rfl ?_); exact Imp.drop1)
  · (repeat refine ent_ifF ?_)
    refine ent_q (run_sub64 (by omega)) ?_
    (repeat refine ent_q (run_field0 _) ?_)
    refine ent_q (run_indexA (tier - 1) (by omega) (by omega)) ?_
    refine ent_q (run_load (v := .int .i64 (c.pol (tier - 1))) (cell_own 0 rfl (cfgL_pol (by omega)))) ?_
    refine ent_qb (run_eq _ _) (fun hq => ?_) (fun hq => ?_)
    · (repeat (first | refine ent_q (run_field0 _) ?_ | refine ent_ifT ?_))
      refine ent_q (run_load (v := .int .i64 c.queues) (cell_own 0 rfl rfl)) ?_
      (repeat refine ent_q (run_field0 _) ?_)
      refine ent_q (run_load (v := .int .i64 c.life) (cell_own 0 rfl rfl)) ?_
      (repeat refine ent_q (run_field0 _) ?_)
      refine ent_q (run_load (v := .int .i64 c.ghost) (cell_own 0 rfl rfl)) ?_
      refine ent_q (bd217_0_1_2_3 rfl rfl rfl rfl) ?_
      rw [(hcap (tier - 1) (by omega)).1, show c.queues = ((c.queues.toNat : Nat) : Int) by omega, show c.life = ((c.life.toNat : Nat) : Int) by omega, show c.ghost = ((c.ghost.toNat : Nat) : Int) by omega]
      refine ent_call (mq_new (mqC c tier) (mqC_right hP ht)) (Imp.refl _) fun x => ?_
      (repeat (first | refine ent_q (run_ex rfl) ?_ | refine ent_q (run_mi _) ?_))
      have he : Ord.new c tier ⟨0, x.1, x.2, 0, 0, .nilFunc, .nilFunc⟩ = .mq (mqC c tier) (MqS.new (mqC c tier)) := by unfold Ord.new; rw [if_neg hp, if_pos hq]
      refine ent_ret ⟨0, x.1, x.2, 0, 0, .nilFunc, .nilFunc⟩ ?_ ?_
      · rw [he]; rfl
      · rw [he]; exact Imp.trans (Imp.refl _) (by (repeat refine Imp.pick 0 rfl ?_); exact Imp.trans Imp.drop1 (Imp.drop1))
    · (repeat refine ent_ifF ?_)
      refine ent_call (lru_new (c.cap (tier - 1))) (Imp.refl _) fun x => ?_
      (repeat refine ent_q (run_mi _) ?_)
      have he : Ord.new c tier ⟨0, x.1, x.2, 0, 0, .nilFunc, .nilFunc⟩ = .lru (capN c (tier - 1)) [] := by unfold Ord.new; rw [if_neg hp, if_neg hq]
      have hc := hcap (tier - 1) (by omega)
      have e : (max 1 (min (c.cap (tier - 1)) 16)).toNat = capN c (tier - 1) := by unfold capN at *; omega
      rw [e]
      refine ent_ret ⟨0, x.1, x.2, 0, 0, .nilFunc, .nilFunc⟩ ?_ ?_
      · rw [he]; rfl
      · rw [he]; exact Imp.trans (Imp.refl _) (by (repeat refine Imp.pick 0 rfl ?_); exact Imp.trans Imp.drop1 (Imp.drop1))
theorem cfgL_one {c : Cfg} (h : c.hv.oneCell' = true) : ∀ u ∈ cfgL c, u.oneCell' = true := by
  intro u hu
  unfold cfgL at hu
  simp only [List.mem_cons, List.not_mem_nil, or_false] at hu
  rcases hu with rfl | rfl | rfl | rfl | rfl | rfl | rfl | rfl | rfl | rfl | rfl | rfl | rfl | rfl | rfl | rfl | rfl <;> first | rfl | exact h
def Ca.new (c : Cfg) (tier : Nat) (x : CaN) : Ca := ⟨Ord.new c tier x, fun _ => none⟩
theorem caF_new (o : Ord) (vs : Nat → Value) : caF ⟨o, fun _ => none⟩ vs = fun _ => none := by
  funext b; unfold caF; split <;> rfl
theorem ca_new (c : Cfg) (tier : Nat) (hr : cfgRight c = true) (ht : 1 ≤ tier ∧ tier ≤ 3) :
    Spec w0 46 [cfgV c, .int .i64 (tier : Nat)] [ro w0 c.hv 4 c.hints.length (hintsV c.hints)] (fun x : CaN => .tuple #[P0 x.k, .int .i64 0]) (fun x => [caH w0 x.k x.a x.p x.mb c tier (Ca.new c tier x)]) := by
  obtain ⟨hP, h8, hh, hB⟩ := cfg_facts hr
  refine spec_go (fun R w => H46) fun F => ?_
  show Ent w0 (ro w0 c.hv 4 c.hints.length (hintsV c.hints) :: F) _
  refine Ent.ro1 fun hhv => ?_
  unfold F46
  refine ent_box fun cb => ?_
  rw [agg_cells, List.toList_toArray]
  refine ent_q (run_loadA (vs := cfgL c) rfl (cells_all 0 rfl)) ?_
  refine Ent.at 1 rfl (Ent.roDup ?_)
  refine ent_call (cf_right c (by omega)) (by (repeat refine Imp.pick 0 rfl ?_); exact Imp.refl _) fun _ => ?_
  rw [hr]
  (repeat (first | refine ent_gT ?_ | refine ent_q (run_notT) ?_ | refine ent_j ?_))
  refine ent_q ((run_lt _ _).F (by omega)) ?_
  (repeat (first | refine ent_gT ?_ | refine ent_pF ?_ | refine ent_j ?_))
  refine ent_q ((run_gt _ _).F (by omega)) ?_
  (repeat (first | refine ent_q (run_field0 _) ?_ | refine ent_ifF ?_ | refine ent_pF ?_))
  refine ent_q (run_load (v := c.hv) (cell_own 1 rfl rfl)) ?_
  refine ent_call (clone_hints c.hv c.hints (by omega)) (by (repeat refine Imp.pick 0 rfl ?_); exact Imp.refl _) fun cv => ?_
  refine Ent.vecRo (Ent.ro1 fun hcv => ?_)
  (repeat refine ent_q (run_field0 _) ?_)
  refine Ent.to1 (ent_st0 hcv (by show 16 < 17; omega) (l' := cfgL { c with hv := cv }) rfl ?_)
  refine ent_draw [pt cb 25 (cfgL { c with hv := cv })] (by (repeat refine Imp.pick 0 rfl ?_); exact Imp.nil) ?_
  refine ent_m (run_loadA (vs := cfgL { c with hv := cv }) rfl (cells_all 0 rfl)) ?_
  refine ent_m (run_loadA (vs := cfgL { c with hv := cv }) rfl (cells_all 0 rfl)) ?_
  refine Ent.at 1 rfl (Ent.roDup ?_)
  have tail : ∀ (x : CaN), Ent w0 (ordH w0 x.a x.p (Ord.new c tier x) :: mpI x.mb (fun _ => none) :: ro w0 cv 4 c.hints.length (hintsV c.hints) :: pt cb 25 (cfgL { c with hv := cv }) :: F)
      (hAnd (Sat w0 [pt cb 25 (cfgL { c with hv := cv })]) <| pV P (build 157 #[(0, .agg (cfgL { c with hv := cv }).toArray), (1, .int .i64 (tier : Nat)), (2, ordV x.a (Ord.new c tier x)), (3, .map (some x.mb))]) fun t27 =>
      hV P (box 157 t27) fun t28 =>
      hAnd (Sat w0 [pt cb 25 (cfgL { c with hv := cv })]) <| (fun v w' => ∃ x : CaN, v = Value.tuple #[P0 x.k, .int .i64 0] ∧ Sat w0 ([caH w0 x.k x.a x.p x.mb c tier (Ca.new c tier x)] ++ F) w') (.tuple #[t28, (.int .i64 0)])) := by
    intro x
    refine ent_and (by (repeat refine Imp.pick 3 rfl ?_); exact Imp.nil) ?_
    refine ent_p (fun _ => bd157_0_1_2_3 rfl (ordV_one _ _) rfl) ?_
    refine ent_box fun k => ?_
    refine ent_and (by (repeat refine Imp.pick 4 rfl ?_); exact Imp.nil) ?_
    refine ent_ret { x with k := k } rfl ?_
    refine Imp.trans (L2 := pt k 157 (caL x.a x.mb c cv tier (Ord.new c tier x)) :: ordH w0 x.a x.p (Ord.new c tier x) :: mpI x.mb (fun _ => none) :: ro w0 cv 4 c.hints.length (hintsV c.hints) :: F) (by (repeat refine Imp.pick 0 rfl ?_); exact Imp.drop1) ?_
    refine Imp.ca (S := Ca.new c tier { x with k := k }) (cv := cv) (vs := fun _ => .nilFunc) ?_
    unfold Ca.new
    rw [caF_new]
    refine Imp.cons (Imp.cons (Imp.cons ?_))
    exact Imp.allOf (fun i _ M => Imp.pureI trivial (Imp.refl _)) (Imp.refl _)
  refine ent_and2 ?_ ?_
  · refine ent_call (ca_ordered { c with hv := cv } tier hr ht) (by (repeat refine Imp.pick 0 rfl ?_); exact Imp.refl _) fun x => ?_
    refine ent_and (by (repeat refine Imp.pick 2 rfl ?_); exact Imp.nil) ?_
    refine ent_makeMap fun mb => ?_
    refine Ent.imp ?_ (tail { x with mb := mb })
    exact (by (repeat (first | refine Imp.pick 0 rfl ?_ | refine Imp.pick 1 rfl ?_)); exact Imp.refl _)
  · refine ent_makeMap fun mb => ?_
    refine ent_and (by (repeat refine Imp.pick 3 rfl ?_); exact Imp.nil) ?_
    refine ent_call (ca_ordered { c with hv := cv } tier hr ht) (by (repeat refine Imp.pick 1 rfl ?_); exact Imp.refl _) fun x => ?_
    refine Ent.imp ?_ (tail { x with mb := mb })
    exact (by (repeat refine Imp.pick 0 rfl ?_); exact Imp.refl _)
theorem ca_new0 (c : Cfg) (tier : Nat) (hr : cfgRight c = false) (hl : c.hints.length ≤ 1000000) :
    Spec w0 46 [cfgV c, .int .i64 (tier : Nat)] [ro w0 c.hv 4 c.hints.length (hintsV c.hints)] (fun _ : Unit => .tuple #[.pointer none, .int .i64 6]) (fun _ => []) := by
  refine spec_go (fun R w => H46) fun F => ?_
  show Ent w0 (ro w0 c.hv 4 c.hints.length (hintsV c.hints) :: F) _
  unfold F46
  refine ent_box fun cb => ?_
  rw [agg_cells, List.toList_toArray]
  refine ent_q (run_loadA (vs := cfgL c) rfl (cells_all 0 rfl)) ?_
  refine ent_call (cf_right c hl) (by (repeat refine Imp.pick 1 rfl ?_); exact Imp.refl _) fun _ => ?_
  rw [hr]
  (repeat (first | refine ent_ifT ?_ | refine ent_gF' ?_ | refine ent_pT ?_ | refine ent_q (run_notF) ?_ | refine ent_j ?_))
  exact ent_ret () rfl (by exact Imp.drop1)
end
end Go.Gd
namespace Go.Gd
def enc (n : Nat) : List UInt8 := if _h : n < 128 then [UInt8.ofNat n] else UInt8.ofNat (n % 128 + 128) :: enc (n / 128)
termination_by n
decreasing_by omega
theorem enc_lt {n : Nat} (h : n < 128) : enc n = [UInt8.ofNat n] := by rw [enc]; simp [h]
theorem enc_ge {n : Nat} (h : ¬ n < 128) : enc n = UInt8.ofNat (n % 128 + 128) :: enc (n / 128) := by rw [enc]; simp [h]
theorem u8_nat {n : Nat} (h : n < 256) : (UInt8.ofNat n).toNat = n := by
  rw [UInt8.toNat_ofNat']; exact Nat.mod_eq_of_lt h
theorem u8_lt (x : UInt8) : x.toNat < 256 := x.toNat_lt
theorem enc_len : ∀ {k n : Nat}, n < 128 ^ (k + 1) → (enc n).length ≤ k + 1
  | 0, n, h => by rw [enc_lt (by simpa using h)]; simp
  | k + 1, n, h => by
    by_cases h1 : n < 128
    · rw [enc_lt h1]; simp
    · rw [enc_ge h1, List.length_cons]
      have : n / 128 < 128 ^ (k + 1) := Nat.div_lt_of_lt_mul (by rw [Nat.pow_succ, Nat.mul_comm] at h; exact h)
      have := enc_len this
      omega
theorem enc_len9 {n : Nat} (h : n ≤ 9223372036854775807) : (enc n).length ≤ 9 := enc_len (k := 8) (by omega)
def getL : List UInt8 → Nat → Nat → Nat × Nat × Nat
  | [], _, _ => (0, 0, 1)
  | c :: t, i, acc =>
    if 128 ≤ c.toNat then (if i + 1 = 9 then (0, 0, 2) else getL t (i + 1) (acc + c.toNat % 128 * 128 ^ i))
    else if c.toNat = 0 ∧ 1 < i + 1 then (0, 0, 2) else (acc + c.toNat % 128 * 128 ^ i, i + 1, 0)
def getB (l : List UInt8) (p : Int) : Nat × Nat × Nat :=
  if 0 ≤ p ∧ p ≤ l.length then ((getL (l.drop p.toNat) 0 0).1, (if (getL (l.drop p.toNat) 0 0).2.2 = 0 then p.toNat + (getL (l.drop p.toNat) 0 0).2.1 else 0), (getL (l.drop p.toNat) 0 0).2.2) else (0, 0, 3)
theorem getL_err : ∀ (l : List UInt8) (i acc : Nat), (getL l i acc).2.2 ≠ 0 → (getL l i acc).1 = 0 ∧ (getL l i acc).2.1 = 0
  | [], _, _, _ => ⟨rfl, rfl⟩
  | c :: t, i, acc, h => by
    unfold getL at h ⊢
    split
    · rename_i h1
      rw [if_pos h1] at h
      split
      · exact ⟨rfl, rfl⟩
      · rename_i h2
        rw [if_neg h2] at h
        exact getL_err t _ _ h
    · rename_i h1
      rw [if_neg h1] at h
      split
      · exact ⟨rfl, rfl⟩
      · rename_i h2
        rw [if_neg h2] at h
        exact absurd rfl h
theorem getL_ok : ∀ (l : List UInt8) (i acc : Nat), acc < 128 ^ i → i < 9 → (getL l i acc).2.2 = 0 → i + 1 ≤ (getL l i acc).2.1 ∧ (getL l i acc).2.1 ≤ i + l.length ∧ (getL l i acc).2.1 ≤ 9 ∧ (getL l i acc).1 < 128 ^ (getL l i acc).2.1
  | [], i, acc, _, _, h => by simp [getL] at h
  | c :: t, i, acc, ha, hi, h => by
    have hstep : acc + c.toNat % 128 * 128 ^ i < 128 ^ (i + 1) := by
      have h1 : c.toNat % 128 ≤ 127 := by omega
      have h2 := Nat.mul_le_mul_right (128 ^ i) h1
      rw [Nat.pow_succ]; omega
    unfold getL at h ⊢
    split
    · rename_i h1
      rw [if_pos h1] at h
      split
      · rename_i h2
        rw [if_pos h2] at h
        simp at h
      · rename_i h2
        rw [if_neg h2] at h
        obtain ⟨a, b, c', d⟩ := getL_ok t (i + 1) _ hstep (by omega) h
        refine ⟨by omega, by simp only [List.length_cons]; omega, c', d⟩
    · rename_i h1
      rw [if_neg h1] at h
      split
      · rename_i h2
        rw [if_pos h2] at h
        simp at h
      · exact ⟨Nat.le_refl _, by simp only [List.length_cons]; omega, by simp only; omega, hstep⟩
def getT (l : List UInt8) (p most : Int) : List UInt8 × Nat × Nat :=
  if (getB l p).2.2 ≠ 0 then ([], 0, (getB l p).2.2)
  else if most < (getB l p).1 then ([], 0, 4)
  else if (l.length : Int) - (getB l p).2.1 < (getB l p).1 then ([], 0, 1)
  else ((l.drop (getB l p).2.1).take (getB l p).1, (getB l p).2.1 + (getB l p).1, 0)
theorem getB_ok {l : List UInt8} {p : Int} (h : (getB l p).2.2 = 0) : 0 ≤ p ∧ p ≤ l.length ∧ p.toNat + 1 ≤ (getB l p).2.1 ∧ (getB l p).2.1 ≤ l.length ∧ (getB l p).1 < 9223372036854775808 := by
  unfold getB at h ⊢
  split
  · rename_i hp
    rw [if_pos hp] at h
    simp only at h ⊢
    rw [if_pos h]
    obtain ⟨a, b, c, d⟩ := getL_ok (l.drop p.toNat) 0 0 (by simp) (by omega) h
    rw [List.length_drop] at b
    refine ⟨hp.1, hp.2, by omega, by omega, Nat.lt_of_lt_of_le d ?_⟩
    calc 128 ^ (getL (List.drop p.toNat l) 0 0).2.1 ≤ 128 ^ 9 := Nat.pow_le_pow_right (by omega) c
      _ = 9223372036854775808 := by decide
  · rename_i hp
    rw [if_neg hp] at h
    simp at h
theorem getB_le (l : List UInt8) (p : Int) : (getB l p).2.1 ≤ l.length := by
  by_cases h : (getB l p).2.2 = 0
  · exact (getB_ok h).2.2.2.1
  · unfold getB at h ⊢
    split
    · rename_i hp
      rw [if_pos hp] at h
      simp only at h ⊢
      rw [if_neg h]; omega
    · exact Nat.zero_le _
theorem getB_val (l : List UInt8) (p : Int) : (getB l p).1 ≤ 9223372036854775807 := by
  by_cases h : (getB l p).2.2 = 0
  · have := (getB_ok h).2.2.2.2; omega
  · unfold getB at h ⊢
    split
    · rename_i hp
      rw [if_pos hp] at h
      simp only at h ⊢
      rw [(getL_err _ _ _ h).1]; omega
    · exact Nat.zero_le _
end Go.Gd
