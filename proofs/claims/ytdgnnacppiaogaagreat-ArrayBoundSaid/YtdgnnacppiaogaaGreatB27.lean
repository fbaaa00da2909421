/- The contracts of package cache. Conditions: those in the theorems. -/
import Derived.Test.YtdgnnacppiaogaaGreatB22
import Derived.Test.YtdgnnacppiaogaaGreatB25
import Derived.Test.YtdgnnacppiaogaaGreatB26
set_option linter.unusedVariables false
set_option linter.unusedSimpArgs false
namespace Go.Gd
open Go.Instr
attribute [local irreducible] loadAt storeAt fieldAt indexAt alloc box build buildSlice hNil eqG binOp Op.unary extract makeSlice makeInterface makeFunc convert hV mV pV hU hF hFV hI hIf hGuard hPick hJ hDraw hLoop ro Instr.index planI spaceH ptH mqH lruH lookup mapUpdate typeAssert mpI ordH
structure Ca where
  o : Ord
  m : Nat → Option (List UInt8)
def caF (S : Ca) (vs : Nat → Value) : Int → Option Value := fun b => if 0 ≤ b ∧ b < 64 then (S.m b.toNat).map (fun _ => vs b.toNat) else none
def roO (w0 : World) (v : Value) : Option (List UInt8) → HP
  | none => pureH True
  | some d => roB w0 v d
theorem Pers.roO (w0 : World) (v : Value) (d : Option (List UInt8)) : Pers (roO w0 v d) := by
  cases d with
  | none => exact Pers.pure _
  | some d => exact Pers.ro _ _ _ _ _
def caL (a mb : Nat) (c : Cfg) (cv : Value) (tier : Int) (o : Ord) : List Value := cfgL { c with hv := cv } ++ [.int .i64 tier, ordV a o, .map (some mb)]
def caH (w0 : World) (k a p mb : Nat) (c : Cfg) (tier : Int) (S : Ca) : HP := exH fun x : Value × (Nat → Value) =>
  star [pt k 157 (caL a mb c x.1 tier S.o), ordH w0 a p S.o, mpI mb (caF S x.2), allH 64 (fun i => roO w0 (x.2 i) (S.m i)), ro w0 x.1 4 c.hints.length (hintsV c.hints)]
def Ca.there (c : Cfg) (b : Int) : Prop := 0 ≤ b ∧ b < c.blocks
instance (c : Cfg) (b : Int) : Decidable (Ca.there c b) := by unfold Ca.there; infer_instance
def Ca.takes (c : Cfg) (tier : Int) (S : Ca) (b level : Int) : Prop := Ca.there c b ∧ (c.place = 1 → level = tier) ∧ (c.place = 2 → S.o.takes b.toNat)
def Ca.use (S : Ca) (b : Int) : Ca × List UInt8 × Bool := if S.o.has b then ({ S with o := S.o.use b.toNat }, (S.m b.toNat).getD [], true) else (S, [], false)
def Ca.drop (S : Ca) (b : Int) : Ca × List UInt8 × Bool := if S.o.has b then (⟨S.o.remove b.toNat, upF S.m b.toNat none⟩, (S.m b.toNat).getD [], true) else (S, [], false)
def Ca.add (S : Ca) (b : Nat) (d : List UInt8) : Ca × Option (Nat × List UInt8) :=
  match (S.o.add b).2 with
  | some x => (⟨(S.o.add b).1, upF (upF S.m x none) b (some d)⟩, some (x, (S.m x).getD []))
  | none => (⟨(S.o.add b).1, upF S.m b (some d)⟩, none)
theorem Ord.has_lt {o : Ord} {b : Int} (h : o.has b = true) : 0 ≤ b ∧ b < 64 := by
  cases o with
  | lru cap l => exact (of_decide_eq_true h).1
  | mq c s =>
    simp only [Ord.has, MqS.hasI] at h
    by_cases hb : 0 ≤ b ∧ b < 64
    · exact hb
    · rw [lkI_out hb] at h; cases h
  | part c L =>
    simp only [Ord.has] at h
    by_cases hb : 0 ≤ b ∧ b < 64
    · exact hb
    · rw [lkI_out hb] at h; cases h
theorem caF_nat {S : Ca} {vs : Nat → Value} {b : Nat} (h : b < 64) : caF S vs (b : Nat) = (S.m b).map (fun _ => vs b) := by
  unfold caF; rw [if_pos (by omega)]; simp
section
variable {w0 : World} {L : List HP} {k a p mb : Nat} {c : Cfg} {tier : Int} {S : Ca} {F : List HP} {X : World → Prop}
theorem Ent.ca (h : ∀ (cv : Value) (vs : Nat → Value), Ent w0 (pt k 157 (caL a mb c cv tier S.o) :: ordH w0 a p S.o :: mpI mb (caF S vs) :: allH 64 (fun i => roO w0 (vs i) (S.m i)) :: Gd.ro w0 cv 4 c.hints.length (hintsV c.hints) :: F) X) : Ent w0 (caH w0 k a p mb c tier S :: F) X := by
  unfold caH
  exact Ent.ex fun x => Ent.star (h x.1 x.2)
theorem Imp.ca {cv : Value} {vs : Nat → Value} {F' : List HP} (h : Imp F (pt k 157 (caL a mb c cv tier S.o) :: ordH w0 a p S.o :: mpI mb (caF S vs) :: allH 64 (fun i => roO w0 (vs i) (S.m i)) :: ro w0 cv 4 c.hints.length (hintsV c.hints) :: F')) : Imp F (caH w0 k a p mb c tier S :: F') := by
  unfold caH
  exact Imp.exI (cv, vs) (Imp.starI h)
theorem ca_has (b : Int) : Spec w0 156 [P0 k, .int .i64 b] [caH w0 k a p mb c tier S] (fun _ : Unit => .bool (S.o.has b)) (fun _ => [caH w0 k a p mb c tier S]) := by
  refine spec_go (fun R w => H156) fun F => ?_
  show Ent w0 (caH w0 k a p mb c tier S :: F) _
  unfold F156
  refine Ent.ca fun cv vs => ?_
  (repeat (first | refine ent_q (run_nil _) ?_ | refine ent_q (run_field0 _) ?_ | refine ent_gT ?_ | refine ent_q (run_nepS _) ?_))
  refine ent_q (run_load (v := ordV a S.o) (cell_own 0 rfl rfl)) ?_
  refine Ent.at 1 rfl (ent_ordHas ?_)
  cases S.o.has b <;> ((repeat refine ent_pT ?_); exact ent_ret () rfl (Imp.ca (by (repeat (first | refine Imp.pick 0 rfl ?_ | refine Imp.pick 1 rfl ?_)); exact Imp.refl _)))
theorem ca_there (b : Int) : Spec w0 193 [P0 k, .int .i64 b] [caH w0 k a p mb c tier S] (fun _ : Unit => .bool (decide (Ca.there c b))) (fun _ => [caH w0 k a p mb c tier S]) := by
  refine spec_go (fun R w => H193) fun F => ?_
  show Ent w0 (caH w0 k a p mb c tier S :: F) _
  have hth : Ca.there c b ↔ 0 ≤ b ∧ b < c.blocks := Iff.rfl
  unfold F193
  refine Ent.ca fun cv vs => ?_
  (repeat (first | refine ent_gT ?_ | refine ent_q (run_nepS _) ?_ | refine ent_j ?_))
  refine ent_qb (run_ge _ _) (fun h1 => ?_) (fun h1 => ?_)
  · (repeat (first | refine ent_q (run_nil _) ?_ | refine ent_q (run_fieldZ _ _) ?_ | refine ent_q (run_field0 _) ?_ | refine ent_gT ?_ | refine ent_pT ?_))
    refine ent_q (run_load (v := .int .i64 c.blocks) (cell_own 0 rfl rfl)) ?_
    refine ent_qb (run_lt _ _) (fun h2 => ?_) (fun h2 => ?_)
    · (repeat refine ent_pT ?_)
      exact ent_ret () (by rw [decide_eq_true (hth.2 ⟨h1, h2⟩)]) (Imp.ca (by (repeat refine Imp.pick 0 rfl ?_); exact Imp.refl _))
    · (repeat refine ent_pT ?_)
      exact ent_ret () (by rw [decide_eq_false (fun h => h2 (hth.1 h).2)]) (Imp.ca (by (repeat refine Imp.pick 0 rfl ?_); exact Imp.refl _))
  · (repeat (first | refine ent_gF ?_ | refine ent_pT ?_ | refine ent_pF ?_))
    exact ent_ret () (by rw [decide_eq_false (fun h => h1 (hth.1 h).1)]) (Imp.ca (by (repeat refine Imp.pick 0 rfl ?_); exact Imp.refl _))
theorem ta_yes {x a : TypeId} [h : NoIfc a] (v : Value) : Run w0 L (typeAssert (.iface a v) x a true) (.tuple #[v, .bool true]) := fun w _ => by
  have h := h.h
  unfold noIfc at h
  unfold typeAssert
  cases hu : P.underlying a with
  | none => rw [hu] at h; cases h
  | some d => rw [hu] at h; cases d <;> first | (cases h; done) | simp [run_underlying hu]
theorem ca_takes (b level : Int) (hp : c.place = 2 → ∃ pc M, S.o = .part pc M ∧ pc.Ok) (q : Bool) (hq : q = true ↔ Ca.takes c tier S b level) :
    Spec w0 157 [P0 k, .int .i64 b, .int .i64 level] [caH w0 k a p mb c tier S] (fun _ : Unit => .bool q) (fun _ => [caH w0 k a p mb c tier S]) := by
  refine spec_go (fun R w => H157) fun F => ?_
  show Ent w0 (caH w0 k a p mb c tier S :: F) _
  have hT : ∀ r : Bool, (r = true ↔ Ca.takes c tier S b level) → r = q := fun r hr => by
    cases r <;> cases q <;> simp_all
  unfold F157
  refine ent_call (ca_there b) (Imp.refl _) fun _ => ?_
  by_cases hth : Ca.there c b
  rotate_left
  · rw [decide_eq_false hth]
    (repeat (first | refine ent_ifT ?_ | refine ent_q (run_notF) ?_))
    exact ent_ret () (by rw [hT false ⟨fun h => (by cases h), fun h => absurd h.1 hth⟩]) (Imp.refl _)
  rw [decide_eq_true hth]
  refine Ent.ca fun cv vs => ?_
  (repeat (first | refine ent_q (run_nil _) ?_ | refine ent_q (run_fieldZ _ _) ?_ | refine ent_q (run_field0 _) ?_ | refine ent_ifF ?_ | refine ent_q (run_notT) ?_))
  refine ent_q (run_load (v := .int .i64 c.place) (cell_own 0 rfl rfl)) ?_
  refine ent_qb (run_eq _ _) (fun h1 => ?_) (fun h1 => ?_)
  · (repeat (first | refine ent_q (run_nil _) ?_ | refine ent_q (run_field0 _) ?_ | refine ent_ifT ?_))
    refine ent_q (run_load (v := .int .i64 tier) (cell_own 0 rfl rfl)) ?_
    refine ent_q (run_eq _ _) ?_
    refine ent_ret () ?_ (Imp.ca (by (repeat refine Imp.pick 0 rfl ?_); exact Imp.refl _))
    rw [hT (decide (level = tier)) ?_]
    rw [decide_eq_true_iff]
    exact ⟨fun h => ⟨hth, fun _ => h, fun h2 => by omega⟩, fun h => h.2.1 h1⟩
  (repeat refine ent_ifF ?_)
  refine ent_qb (run_eq _ _) (fun h2 => ?_) (fun h2 => ?_)
  · obtain ⟨pc, M, ho, hpc⟩ := hp h2
    (repeat (first | refine ent_q (run_nil _) ?_ | refine ent_q (run_field0 _) ?_ | refine ent_ifT ?_))
    refine ent_q (run_load (v := ordV a S.o) (cell_own 0 rfl rfl)) ?_
    have hT2 := hT (decide (0 < pc.part b.toNat)) (by
      rw [decide_eq_true_iff]
      exact ⟨fun h => ⟨hth, fun h3 => absurd h3 h1, fun _ => by rw [ho]; exact h⟩, fun h => by have := h.2.2 h2; rw [ho] at this; exact this⟩)
    rw [← hT2]
    obtain ⟨o, m⟩ := S
    dsimp only at ho
    subst ho
    refine ent_q (ta_yes (a := 210) (P0 a)) ?_
    (repeat (first | refine ent_gT ?_ | refine ent_q (run_ex rfl) ?_))
    refine Ent.at 1 rfl ?_
    have e : b = ((b.toNat : Nat) : Int) := by have := hth.1; omega
    have hb : Value.int .i64 b = .int .i64 ((b.toNat : Nat) : Int) := by rw [← e]
    rw [hb]
    rw [ordH_part]
    refine ent_call (pt_takes a p pc M b.toNat hpc) (Imp.refl _) fun _ => ?_
    cases decide (0 < pc.part b.toNat) <;> ((repeat refine ent_pT ?_); exact ent_ret () rfl (Imp.ca (cv := cv) (vs := vs) (by rw [ordH_part]; exact (by (repeat (first | refine Imp.pick 0 rfl ?_ | refine Imp.pick 1 rfl ?_)); exact Imp.refl _))))
  · (repeat refine ent_ifF ?_)
    exact ent_ret () (by rw [hT true ⟨fun _ => ⟨hth, fun h => absurd h h1, fun h => absurd h h2⟩, fun _ => rfl⟩]) (Imp.ca (by (repeat refine Imp.pick 0 rfl ?_); exact Imp.refl _))
theorem ent_caLook {M : List HP} {b : Nat} {vs : Nat → Value} {K : Value → World → Prop} (hb : b < 64) (i : Nat) (hi : M[i]? = some (mpI mb (caF S vs)))
    (h : ∀ dv, Ent w0 (roB w0 dv ((S.m b).getD []) :: allH 64 (fun i => roO w0 (vs i) (S.m i)) :: M) (K dv)) : Ent w0 (allH 64 (fun i => roO w0 (vs i) (S.m i)) :: M) (hV P (lookup 155 (.map (some mb)) (.int .i64 (b : Nat)) false) K) := by
  cases hm : S.m b with
  | none =>
    refine ent_q (run_lookI0 (i + 1) hi (by rw [caF_nat hb, hm]; rfl)) ?_
    have := h (.slice none 0 0)
    rw [hm] at this
    exact Ent.imp (Imp.ro0 rfl (Imp.refl _)) this
  | some d =>
    refine ent_q (run_lookI (v := vs b) (i + 1) hi (by rw [caF_nat hb, hm]; rfl)) ?_
    have := h (vs b)
    rw [hm] at this
    refine Ent.imp (Imp.allGet (fun i => Pers.roO _ _ _) hb) ?_
    rw [hm]
    exact this
theorem ca_use (n : Nat) (b : Int) (hf : S.o.Fine n) (hn : n < 4611686018427387904) (hm : ∀ i d, S.m i = some d → d.length ≤ 1099511627776) :
    Spec w0 102 [P0 k, .int .i64 b] [caH w0 k a p mb c tier S] (fun v : Value => .tuple #[v, .bool (S.use b).2.2]) (fun v => [vecB v 5 (S.use b).2.1, caH w0 k a p mb c tier (S.use b).1]) := by
  refine spec_go (fun R w => H102) fun F => ?_
  show Ent w0 (caH w0 k a p mb c tier S :: F) _
  unfold F102 Ca.use
  refine ent_call (ca_has b) (Imp.refl _) fun _ => ?_
  cases hh : S.o.has b with
  | false =>
    (repeat (first | refine ent_ifT ?_ | refine ent_q (run_notF) ?_))
    exact ent_ret (.slice none 0 0) rfl (Imp.vec0 rfl (Imp.refl _))
  | true =>
    obtain ⟨h0, h64⟩ := Ord.has_lt hh
    obtain ⟨bn, rfl⟩ := Int.eq_ofNat_of_zero_le h0
    have hbn : bn < 64 := by omega
    simp only [Int.toNat_natCast, if_true]
    refine Ent.ca fun cv vs => ?_
    (repeat (first | refine ent_q (run_nil _) ?_ | refine ent_q (run_field0 _) ?_ | refine ent_ifF ?_ | refine ent_q (run_notT) ?_))
    refine ent_q (run_load (v := ordV a S.o) (cell_own 0 rfl rfl)) ?_
    refine Ent.at 1 rfl (ent_ordUse hf hn hbn fun q => ?_)
    (repeat (first | refine ent_q (run_nil _) ?_ | refine ent_q (run_field0 _) ?_))
    refine ent_q (run_load (v := .map (some mb)) (cell_own 1 rfl rfl)) ?_
    refine Ent.imp (L' := allH 64 (fun i => roO w0 (vs i) (S.m i)) :: mpI mb (caF S vs) :: ordH w0 a p (S.o.use bn) :: pt k 157 (caL a mb c cv tier S.o) :: ro w0 cv 4 c.hints.length (hintsV c.hints) :: F) (by (repeat (first | refine Imp.pick 0 rfl ?_ | refine Imp.pick 2 rfl ?_ | refine Imp.pick 3 rfl ?_)); exact Imp.refl _) ?_
    refine ent_caLook hbn 0 rfl fun dv => ?_
    have hlen : ((S.m bn).getD []).length ≤ 1099511627776 := by
      cases hx : S.m bn with
      | none => simp
      | some d => exact hm bn d hx
    refine ent_call (clone_bytes dv _ hlen) (by (repeat refine Imp.pick 0 rfl ?_); exact Imp.refl _) fun v => ?_
    refine ent_ret v rfl (Imp.cons (Imp.ca (cv := cv) (vs := vs) ?_))
    unfold caL
    dsimp only
    rw [ordV_use]
    exact (by (repeat (first | refine Imp.pick 0 rfl ?_ | refine Imp.pick 1 rfl ?_ | refine Imp.pick 2 rfl ?_ | refine Imp.pick 3 rfl ?_)); exact Imp.refl _)
theorem caF_del {S : Ca} {vs : Nat → Value} {b : Nat} {o : Ord} (hb : b < 64) : upK (caF S vs) (b : Nat) none = caF ⟨o, upF S.m b none⟩ vs := by
  funext x
  unfold upK caF
  by_cases hx : x = (b : Nat)
  · rw [if_pos hx, hx, if_pos (by omega)]
    simp [upF_same]
  · rw [if_neg hx]
    split
    · rename_i h
      simp only [upF_ne _ _ (show x.toNat ≠ b by omega)]
    · rfl
theorem caF_put {S : Ca} {vs : Nat → Value} {b : Nat} {o : Ord} {v : Value} {d : List UInt8} (hb : b < 64) : upK (caF S vs) (b : Nat) (some v) = caF ⟨o, upF S.m b (some d)⟩ (upF vs b v) := by
  funext x
  unfold upK caF
  by_cases hx : x = (b : Nat)
  · rw [if_pos hx, hx, if_pos (by omega)]
    simp [upF_same]
  · rw [if_neg hx]
    split
    · rename_i h
      simp only [upF_ne _ _ (show x.toNat ≠ b by omega)]
    · rfl
theorem Imp.allDel {n b : Nat} {vs : Nat → Value} {m : Nat → Option (List UInt8)} {L : List HP} : Imp (allH n (fun i => roO w0 (vs i) (m i)) :: L) (allH n (fun i => roO w0 (vs i) (upF m b none i)) :: L) := by
  refine Imp.allAll fun i _ r hr => ?_
  by_cases hi : i = b
  · subst hi; rw [upF_same]; trivial
  · rw [upF_ne _ _ hi]; exact hr
theorem Imp.allPut {n b : Nat} {vs : Nat → Value} {m : Nat → Option (List UInt8)} {v : Value} {d : List UInt8} {L : List HP} : Imp (roB w0 v d :: allH n (fun i => roO w0 (vs i) (m i)) :: L) (allH n (fun i => roO w0 (upF vs b v i) (upF m b (some d) i)) :: L) := by
  have := Imp.allSet (g := fun i => roO w0 (vs i) (m i)) (g' := fun i => roO w0 (upF vs b v i) (upF m b (some d) i)) (i := b) (n := n) (fun j hj => by simp only [upF_ne _ _ hj]) (L := L)
  simp only [upF_same] at this
  exact this
theorem ca_drop (b : Int) : Spec w0 106 [P0 k, .int .i64 b] [caH w0 k a p mb c tier S]
    (fun dv : Value => .tuple #[.agg #[.int .i64 (if (S.drop b).2.2 = true then b else 0), dv], .bool (S.drop b).2.2]) (fun dv => [roB w0 dv (S.drop b).2.1, caH w0 k a p mb c tier (S.drop b).1]) := by
  refine spec_go (fun R w => H106) fun F => ?_
  show Ent w0 (caH w0 k a p mb c tier S :: F) _
  unfold F106 Ca.drop
  refine ent_alloc fun t4 => ?_
  refine ent_call (ca_has b) (by (repeat refine Imp.pick 1 rfl ?_); exact Imp.refl _) fun _ => ?_
  cases hh : S.o.has b with
  | false =>
    (repeat (first | refine ent_ifT ?_ | refine ent_q (run_notF) ?_))
    refine ent_q bd141 ?_
    refine Ent.to1 (ent_sa0 (vs := [.int .i64 0, .slice none 0 0]) rfl (by simp [Value.oneCell']) (by simp) rfl ?_)
    refine ent_r (run_loadA (vs := [.int .i64 0, .slice none 0 0]) rfl (cells_all 0 rfl)) ?_
    exact ent_ret (.slice none 0 0) rfl (Imp.ro0 rfl (by (repeat refine Imp.pick 1 rfl ?_); exact Imp.drop1))
  | true =>
    obtain ⟨h0, h64⟩ := Ord.has_lt hh
    obtain ⟨bn, rfl⟩ := Int.eq_ofNat_of_zero_le h0
    have hbn : bn < 64 := by omega
    simp only [Int.toNat_natCast, if_true]
    refine Ent.ca fun cv vs => ?_
    (repeat (first | refine ent_q (run_nil _) ?_ | refine ent_q (run_field0 _) ?_ | refine ent_ifF ?_ | refine ent_q (run_notT) ?_))
    refine ent_q (run_load (v := .map (some mb)) (cell_own 0 rfl rfl)) ?_
    refine Ent.imp (L' := allH 64 (fun i => roO w0 (vs i) (S.m i)) :: mpI mb (caF S vs) :: ordH w0 a p S.o :: pt k 157 (caL a mb c cv tier S.o) :: ro w0 cv 4 c.hints.length (hintsV c.hints) :: pt t4 141 [.int .i64 0, .slice none 0 0] :: F) (by (repeat (first | refine Imp.pick 0 rfl ?_ | refine Imp.pick 1 rfl ?_ | refine Imp.pick 2 rfl ?_ | refine Imp.pick 3 rfl ?_)); exact Imp.refl _) ?_
    refine ent_caLook hbn 0 rfl fun dv => ?_
    refine Ent.ro1 fun hdv => ?_
    refine ent_q (bd141_0_1 rfl hdv) ?_
    refine ent_alloc fun f6 => ?_
    refine ent_sa0 (vs := [.int .i64 (bn : Nat), dv]) rfl (by intro u hu; simp only [List.mem_cons, List.not_mem_nil, or_false] at hu; rcases hu with rfl | rfl; rfl; exact hdv) (by simp) rfl ?_
    (repeat (first | refine ent_q (run_nil _) ?_ | refine ent_q (run_field0 _) ?_))
    refine ent_q (run_load (v := ordV a S.o) (cell_own 5 rfl rfl)) ?_
    refine Ent.at 4 rfl (ent_ordRemove hbn fun q => ?_)
    (repeat (first | refine ent_q (run_nil _) ?_ | refine ent_q (run_field0 _) ?_))
    refine ent_q (run_load (v := .map (some mb)) (cell_own 5 rfl rfl)) ?_
    refine Ent.at 4 rfl (ent_delI ?_)
    rw [caF_del (o := S.o.remove bn) hbn]
    refine ent_q (run_loadA (vs := [.int .i64 (bn : Nat), dv]) rfl (cells_all 2 rfl)) ?_
    refine Ent.imp (L' := pt t4 141 [.int .i64 0, .slice none 0 0] :: allH 64 (fun i => roO w0 (vs i) (S.m i)) :: mpI mb (caF ⟨S.o.remove bn, upF S.m bn none⟩ vs) :: ordH w0 a p (S.o.remove bn) :: pt k 157 (caL a mb c cv tier S.o) :: ro w0 cv 4 c.hints.length (hintsV c.hints) :: roB w0 dv ((S.m bn).getD []) :: F) (by (repeat (first | refine Imp.pick 0 rfl ?_ | refine Imp.pick 1 rfl ?_ | refine Imp.pick 2 rfl ?_ | refine Imp.pick 4 rfl ?_ | refine Imp.pick 7 rfl ?_)); exact Imp.drop1) ?_
    refine ent_sa0 (vs := [.int .i64 (bn : Nat), dv]) rfl (by intro u hu; simp only [List.mem_cons, List.not_mem_nil, or_false] at hu; rcases hu with rfl | rfl; rfl; exact hdv) (by simp) rfl ?_
    refine ent_r (run_loadA (vs := [.int .i64 (bn : Nat), dv]) rfl (cells_all 0 rfl)) ?_
    refine ent_ret dv rfl ?_
    refine Imp.trans (L2 := roB w0 dv ((S.m bn).getD []) :: pt k 157 (caL a mb c cv tier S.o) :: ordH w0 a p (S.o.remove bn) :: mpI mb (caF ⟨S.o.remove bn, upF S.m bn none⟩ vs) :: allH 64 (fun i => roO w0 (vs i) (S.m i)) :: ro w0 cv 4 c.hints.length (hintsV c.hints) :: F) (by (repeat (first | refine Imp.pick 1 rfl ?_ | refine Imp.pick 2 rfl ?_ | refine Imp.pick 3 rfl ?_ | refine Imp.pick 4 rfl ?_ | refine Imp.pick 6 rfl ?_)); exact Imp.drop1) (Imp.cons ?_)
    refine Imp.ca (S := ⟨S.o.remove bn, upF S.m bn none⟩) (cv := cv) (vs := vs) ?_
    unfold caL
    dsimp only
    rw [ordV_remove]
    exact Imp.cons (Imp.cons (Imp.cons Imp.allDel))
end
end Go.Gd
