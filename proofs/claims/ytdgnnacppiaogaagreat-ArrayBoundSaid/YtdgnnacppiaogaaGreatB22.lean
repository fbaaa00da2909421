/- The contracts of package part, third part: All. Conditions: those in the theorems. The three orders as one, behind an interface value. Conditions: those in the theorems. Rules of the logic: maps whose keys are whole numbers. Conditions: none beyond those in the theorems. -/
import Derived.Test.YtdgnnacppiaogaaGreatB21
import Derived.Test.YtdgnnacppiaogaaGreatB8
import Derived.Test.YtdgnnacppiaogaaGreatB20
import Derived.MapKept
set_option linter.unusedVariables false
set_option linter.unusedSimpArgs false
namespace Go.Gd
open Go.Instr
attribute [local irreducible] loadAt storeAt fieldAt indexAt alloc box build buildSlice hNil eqG binOp Op.unary extract makeSlice makeInterface makeFunc convert hV mV pV hU hF hFV hIf hGuard hPick hJ hDraw hLoop ro Instr.index planI spaceH ptH
def rowsN (L : List (List Nat)) : Nat → List Nat
  | 0 => []
  | n + 1 => rowsN L n ++ L.getD n []
theorem rowsN_length (L : List (List Nat)) : ∀ n, (rowsN L n).length = lenN L n
  | 0 => rfl
  | n + 1 => by unfold rowsN lenN; rw [List.length_append, rowsN_length L n]
section
variable {w0 : World}
theorem pt_all (m p : Nat) (c : PtC) (L : List (List Nat)) (hc : c.Ok) (hL : L.length = c.l.length + 1) :
    Spec w0 264 [P0 m] [ptH w0 m p c L] (fun v : Value => v) (fun v => [vec v 3 1 (intsV (rowsN L c.l.length)) (rowsN L c.l.length).length, ptH w0 m p c L]) := by
  refine spec_go (fun R w => H264) fun F => ?_
  show Ent w0 (ptH w0 m p c L :: F) _
  refine Ent.part ?_
  have h8 := hc.h8
  refine Ent.spaceOkAt 1 rfl fun hsp => ?_
  unfold F264
  (repeat (first | refine ent_q (run_nil _) ?_ | refine ent_q (run_field0 _) ?_ | refine ent_ifF ?_ | refine ent_q (run_eqpS _) ?_ | refine ent_q (run_load (cell_own 0 rfl rfl)) ?_))
  refine Ent.planDup (c := c) 2 rfl ?_
  refine ent_call (ka_parts c.q c.blocks c.caps c.l c.hv c.pv h8) (by (repeat refine Imp.pick 0 rfl ?_); exact Imp.refl _) fun v => ?_
  refine ent_q (run_lenV 0 rfl) ?_
  refine ent_loop (ι := Nat × Value) (fun i => i.1 ≤ c.l.length) (fun i => [.int .i64 (i.1 : Nat), i.2]) (fun i => vec i.2 3 1 (intsV (rowsN L i.1)) (rowsN L i.1).length :: pt m 263 [P0 p, P0 c.q, .int .i64 c.tier] :: spaceH p L :: c.plan w0 :: F) (fun i => c.l.length - i.1)
    (0, .slice none 0 0) (Nat.zero_le _) rfl (show Imp _ (vec (.slice none 0 0) 3 1 [] 0 :: _) from Imp.vec0 (a := none) rfl (by (repeat refine Imp.pick 1 rfl ?_); exact Imp.drop1)) ?_
  rintro ⟨i, v⟩ hi g next hnext
  dsimp only at hi hnext ⊢
  show Ent w0 _ (hV P (binOp .lss 3 (.int .i64 (i : Nat)) (.int .i64 (c.l.length : Nat))) _)
  refine ent_qb (run_lt _ _) (fun h => ?_) (fun h => ?_)
  · refine ent_ifT ?_
    (repeat (first | refine ent_q (run_nil _) ?_ | refine ent_q (run_fieldZ _ _) ?_ | refine ent_q (run_load (cell_own 1 rfl rfl)) ?_))
    show Ent w0 _ (hF P 273 #[P0 p, .int .i64 (i : Nat)] _)
    refine ent_call (sp_all p L i _ (lkAt_some (by omega))) (by (repeat refine Imp.pick 2 rfl ?_); exact Imp.refl _) fun x => ?_
    have h1 : lenN L i ≤ i * 64 := lenN_le hsp i
    have h2 : (L.getD i []).length ≤ 64 := hsp.len _ _ (lkAt_some (by omega))
    have h3 := rowsN_length L i
    refine Ent.imp (L' := vec x 3 1 (intsV (L.getD i [])) (L.getD i []).length :: vec v 3 1 (intsV (rowsN L i)) (rowsN L i).length :: pt m 263 [P0 p, P0 c.q, .int .i64 c.tier] :: spaceH p L :: c.plan w0 :: F) (by (repeat (first | refine Imp.pick 0 rfl ?_ | refine Imp.pick 1 rfl ?_)); exact Imp.refl _) ?_
    refine ent_appv (zs := [.int .i64 0]) rfl (intsV_one _) (by omega) (by omega) fun v' => ?_
    refine ent_q (run_add64 (by omega)) ?_
    have := hnext (i + 1, v') (by dsimp only; omega) (by dsimp only; omega)
    dsimp only at this
    rw [show rowsN L (i + 1) = rowsN L i ++ L.getD i [] from rfl, intsV_append, List.length_append] at this
    exact this
  · have : i = c.l.length := by omega
    subst this
    refine ent_ifF ?_
    exact ent_ret v rfl (Imp.cons (Imp.part (by (repeat refine Imp.pick 0 rfl ?_); exact Imp.refl _)))
end
end Go.Gd
namespace Go.Gd
open Go.Instr
attribute [local irreducible] loadAt storeAt fieldAt indexAt alloc box build buildSlice hNil eqG binOp Op.unary extract makeSlice makeInterface makeFunc convert hV mV pV hU hF hFV hI hIf hGuard hPick hJ hDraw hLoop ro Instr.index planI spaceH ptH mqH lruH
inductive Ord where
  | lru (cap : Nat) (l : List Nat)
  | mq (c : MqC) (s : MqS)
  | part (c : PtC) (L : List (List Nat))
def ordH (w0 : World) (a p : Nat) : Ord → HP
  | .lru cap l => lruH a p cap l
  | .mq c s => mqH a p c s
  | .part c L => ptH w0 a p c L
def ordV (a : Nat) : Ord → Value
  | .lru _ _ => .iface 218 (P0 a)
  | .mq _ _ => .iface 213 (P0 a)
  | .part _ _ => .iface 210 (P0 a)
def Ord.Fine (k : Nat) : Ord → Prop
  | .lru cap l => 1 ≤ cap ∧ cap ≤ 16 ∧ (∀ x ∈ l, x < 64)
  | .mq c s => c.Right ∧ s.L.length = c.q + 1 ∧ s.now ≤ k ∧ (∀ b, s.oft b ≤ k)
  | .part c L => c.Ok ∧ L.length = c.l.length + 1
def Ord.has : Ord → Int → Bool
  | .lru _ l, b => decide ((0 ≤ b ∧ b < 64) ∧ b.toNat ∈ l)
  | .mq c s, b => MqS.hasI c s b
  | .part _ L, b => (lkI L b).isSome
def Ord.use : Ord → Nat → Ord
  | .lru cap l, b => .lru cap (if b ∈ l then b :: l.filter (· != b) else l)
  | .mq c s, b => .mq c (MqS.use c s b)
  | .part c L, b => .part c (ptUse L b)
def Ord.add : Ord → Nat → Ord × Option Nat
  | .lru cap l, b => (.lru cap (lruAdd cap l b).1, (lruAdd cap l b).2)
  | .mq c s, b => (.mq c (MqS.add c s b).1, (MqS.add c s b).2)
  | .part c L, b => (.part c (ptAdd c L b).1, (ptAdd c L b).2)
def Ord.remove : Ord → Nat → Ord
  | .lru cap l, b => .lru cap (l.filter (· != b))
  | .mq c s, b => .mq c (if MqS.has c s b then { s with L := lkOut s.L b } else s)
  | .part c L, b => .part c (lkOut L b)
def Ord.all : Ord → List Nat
  | .lru _ l => l
  | .mq c s => allN s.L c.q
  | .part c L => rowsN L c.l.length
def Ord.takes : Ord → Nat → Prop
  | .part c _, b => 0 < c.part b
  | _, _ => True
theorem ordV_use (a : Nat) (o : Ord) (b : Nat) : ordV a (o.use b) = ordV a o := by cases o <;> rfl
theorem ordV_add (a : Nat) (o : Ord) (b : Nat) : ordV a (o.add b).1 = ordV a o := by cases o <;> rfl
theorem ordV_remove (a : Nat) (o : Ord) (b : Nat) : ordV a (o.remove b) = ordV a o := by cases o <;> rfl
theorem ordV_one (a : Nat) (o : Ord) : (ordV a o).oneCell' = true := by cases o <;> rfl
theorem Ord.Fine.room {k : Nat} (hk : k < 4611686018427387904) {c : MqC} {s : MqS} (h : (Ord.mq c s).Fine k) : MqRoom c s := by
  obtain ⟨h1, h2, h3, h4⟩ := h
  obtain ⟨g1, g2, g3, g4, g5, g6, g7⟩ := h1
  exact ⟨⟨h2, g3, by omega, by omega, fun b => by have := h4 b; omega⟩, by omega, fun b => by have := h4 b; omega⟩
theorem ordH_part {w0 : World} {a p : Nat} {c : PtC} {M : List (List Nat)} : ordH w0 a p (.part c M) = ptH w0 a p c M := rfl
section
variable {w0 : World} {L : List HP} {a p k : Nat} {o : Ord}
theorem ent_ordHas {b : Int} {K : Value → World → Prop} (h : Ent w0 (ordH w0 a p o :: L) (K (.bool (o.has b)))) : Ent w0 (ordH w0 a p o :: L) (hI P (ordV a o) "Has" #[.int .i64 b] K) := by
  cases o with
  | lru cap l => exact ent_inv (xs := [P0 a, .int .i64 b]) rfl (lru_has a p cap l b) (Imp.refl _) fun _ => h
  | mq c s => exact ent_inv (xs := [P0 a, .int .i64 b]) rfl (mq_has a p c s b) (Imp.refl _) fun _ => h
  | part c M => exact ent_inv (xs := [P0 a, .int .i64 b]) rfl (pt_has a p c M b) (Imp.refl _) fun _ => h
theorem ent_ordUse {b : Nat} {K : Value → World → Prop} (hf : o.Fine k) (hk : k < 4611686018427387904) (hb : b < 64) (h : ∀ q, Ent w0 (ordH w0 a p (o.use b) :: L) (K (.bool q))) : Ent w0 (ordH w0 a p o :: L) (hI P (ordV a o) "Use" #[.int .i64 (b : Nat)] K) := by
  cases o with
  | lru cap l => exact ent_inv (xs := [P0 a, .int .i64 (b : Nat)]) rfl (lru_use a p cap l b hb) (Imp.refl _) fun _ => h _
  | mq c s => exact ent_inv (xs := [P0 a, .int .i64 (b : Nat)]) rfl (mq_use a p c s b (hf.room hk) hb) (Imp.refl _) fun _ => h _
  | part c M => exact ent_inv (xs := [P0 a, .int .i64 (b : Nat)]) rfl (pt_use a p c M b hb) (Imp.refl _) fun _ => h _
theorem ent_ordAdd {b : Nat} {K : Value → World → Prop} (hf : o.Fine k) (hk : k < 4611686018427387904) (hb : b < 64) (ht : o.takes b) (h : Ent w0 (ordH w0 a p (o.add b).1 :: L) (K (gone3 (o.add b).2 0))) : Ent w0 (ordH w0 a p o :: L) (hI P (ordV a o) "Add" #[.int .i64 (b : Nat)] K) := by
  cases o with
  | lru cap l => exact ent_inv (xs := [P0 a, .int .i64 (b : Nat)]) rfl (lru_add a p cap l b hb hf.2.2) (Imp.refl _) fun _ => h
  | mq c s => exact ent_inv (xs := [P0 a, .int .i64 (b : Nat)]) rfl (mq_add a p c s b (hf.room hk) hb hf.1.1) (Imp.refl _) fun _ => h
  | part c M => exact ent_inv (xs := [P0 a, .int .i64 (b : Nat)]) rfl (pt_add a p c M b hf.1 hb hf.2 ht) (Imp.refl _) fun _ => h
theorem ent_ordRemove {b : Nat} {K : Value → World → Prop} (hb : b < 64) (h : ∀ q, Ent w0 (ordH w0 a p (o.remove b) :: L) (K (.bool q))) : Ent w0 (ordH w0 a p o :: L) (hI P (ordV a o) "Remove" #[.int .i64 (b : Nat)] K) := by
  cases o with
  | lru cap l => exact ent_inv (xs := [P0 a, .int .i64 (b : Nat)]) rfl (lru_remove a p cap l b hb) (Imp.refl _) fun _ => h _
  | mq c s => exact ent_inv (xs := [P0 a, .int .i64 (b : Nat)]) rfl (mq_remove a p c s b hb) (Imp.refl _) fun _ => h _
  | part c M => exact ent_inv (xs := [P0 a, .int .i64 (b : Nat)]) rfl (pt_remove a p c M b hb) (Imp.refl _) fun _ => h _
theorem ent_ordAll {K : Value → World → Prop} (hf : o.Fine k) (hk : k < 4611686018427387904) (h : ∀ v, Ent w0 (vec v 3 1 (intsV o.all) o.all.length :: ordH w0 a p o :: L) (K v)) : Ent w0 (ordH w0 a p o :: L) (hI P (ordV a o) "All" #[] K) := by
  cases o with
  | lru cap l => exact ent_inv (xs := [P0 a]) rfl (lru_all a p cap l) (Imp.refl _) fun v => h v
  | mq c s =>
    refine ent_inv (xs := [P0 a]) rfl (mq_all a p c s (hf.room hk).toMqOk) (Imp.refl _) fun v => ?_
    have := h v
    rw [show (Ord.mq c s).all = allN s.L c.q from rfl, allN_length] at this
    exact this
  | part c M => exact ent_inv (xs := [P0 a]) rfl (pt_all a p c M hf.1 hf.2) (Imp.refl _) fun v => h v
end
end Go.Gd
namespace Go.Gd
open Go.Instr
def meV (x : Int × Value × Nat) : MapEntry := { key := .int .i64 x.1, val := x.2.1, born := x.2.2 }
def fdI (k : Int) : List (Int × Value × Nat) → Nat → Option (Nat × Value)
  | [], _ => none
  | x :: t, i => if k = x.1 then some (i, x.2.1) else fdI k t (i + 1)
theorem findNow_I (k : Int) : ∀ (l : List (Int × Value × Nat)) (i : Nat), findNow (.int .i64) (.int .i64 k) (l.map meV) i = some (fdI k l i)
  | [], _ => rfl
  | x :: t, i => by
    simp only [List.map_cons, findNow, meV, sameNow, if_true, fdI]
    by_cases h : k = x.1
    · simp [h]
    · have : (k == x.1) = false := by simp [h]
      rw [this, if_neg h]
      exact findNow_I k t (i + 1)
theorem fdI_some {k : Int} {v : Value} : ∀ {l : List (Int × Value × Nat)} {i j : Nat}, fdI k l i = some (j, v) → i ≤ j ∧ ∃ n, l[j - i]? = some (k, v, n)
  | [], _, _, h => by simp [fdI] at h
  | x :: t, i, j, h => by
    unfold fdI at h
    split at h
    · rename_i hk
      simp only [Option.some.injEq, Prod.mk.injEq] at h
      obtain ⟨rfl, rfl⟩ := h
      exact ⟨Nat.le_refl _, x.2.2, by rw [Nat.sub_self]; simp [hk]⟩
    · obtain ⟨h1, n, h2⟩ := fdI_some h
      exact ⟨by omega, n, by rw [show j - i = (j - (i + 1)) + 1 by omega]; simpa using h2⟩
theorem fdI_none {k : Int} : ∀ {l : List (Int × Value × Nat)} {i : Nat}, fdI k l i = none ↔ k ∉ l.map (·.1)
  | [], _ => by simp [fdI]
  | x :: t, i => by
    unfold fdI
    by_cases h : k = x.1
    · simp [h]
    · rw [if_neg h, fdI_none]; simp [h]
def gtI (l : List (Int × Value × Nat)) (k : Int) : Option Value := (fdI k l 0).map (·.2)
theorem fdI_shift (k : Int) : ∀ (l : List (Int × Value × Nat)) (i : Nat), (fdI k l i).map (·.2) = gtI l k
  | [], _ => rfl
  | x :: t, i => by
    unfold gtI fdI
    by_cases h : k = x.1
    · simp [h]
    · rw [if_neg h, if_neg h, fdI_shift k t (i + 1), fdI_shift k t (0 + 1)]
theorem gtI_cons (x : Int × Value × Nat) (t : List (Int × Value × Nat)) (k : Int) : gtI (x :: t) k = if k = x.1 then some x.2.1 else gtI t k := by
  conv => lhs; unfold gtI fdI
  by_cases h : k = x.1
  · simp [h]
  · rw [if_neg h, if_neg h, fdI_shift]
theorem gtI_none {l : List (Int × Value × Nat)} {k : Int} (h : k ∉ l.map (·.1)) : gtI l k = none := by unfold gtI; rw [fdI_none.2 h]; rfl
theorem gtI_app (l m : List (Int × Value × Nat)) (k : Int) : gtI (l ++ m) k = match gtI l k with | some v => some v | none => gtI m k := by
  induction l with
  | nil => rfl
  | cons x t ih =>
    rw [List.cons_append, gtI_cons, gtI_cons]
    by_cases h : k = x.1
    · simp [h]
    · rw [if_neg h, if_neg h, ih]
theorem gtI_set {l : List (Int × Value × Nat)} {i : Nat} {k : Int} {u v : Value} {n : Nat} (hn : (l.map (·.1)).Nodup) (h : l[i]? = some (k, u, n)) (k' : Int) :
    gtI (l.set i (k, v, n)) k' = if k' = k then some v else gtI l k' := by
  induction l generalizing i with
  | nil => simp at h
  | cons x t ih =>
    rw [List.map_cons, List.nodup_cons] at hn
    cases i with
    | zero =>
      simp only [List.getElem?_cons_zero, Option.some.injEq] at h
      subst h
      rw [List.set_cons_zero, gtI_cons, gtI_cons]
      by_cases hk : k' = k <;> simp [hk]
    | succ i =>
      rw [List.set_cons_succ, gtI_cons, gtI_cons, ih hn.2 (by simpa using h)]
      have hx : x.1 ≠ k := fun e => hn.1 (by
        rw [e]
        exact List.mem_map.2 ⟨_, List.mem_of_getElem? (by simpa using h), rfl⟩)
      by_cases hk : k' = x.1
      · rw [if_pos hk, if_neg (by rw [hk]; exact hx), if_pos hk]
      · rw [if_neg hk, if_neg hk]
theorem gtI_erase {l : List (Int × Value × Nat)} {i : Nat} {k : Int} {u : Value} {n : Nat} (hn : (l.map (·.1)).Nodup) (h : l[i]? = some (k, u, n)) (k' : Int) :
    gtI (l.eraseIdx i) k' = if k' = k then none else gtI l k' := by
  induction l generalizing i with
  | nil => simp at h
  | cons x t ih =>
    rw [List.map_cons, List.nodup_cons] at hn
    cases i with
    | zero =>
      simp only [List.getElem?_cons_zero, Option.some.injEq] at h
      subst h
      rw [List.eraseIdx_cons_zero, gtI_cons]
      by_cases hk : k' = k
      · rw [if_pos hk, gtI_none (by rw [hk]; exact hn.1)]
      · rw [if_neg hk, if_neg hk]
    | succ i =>
      rw [List.eraseIdx_cons_succ, gtI_cons, gtI_cons, ih hn.2 (by simpa using h)]
      have hx : x.1 ≠ k := fun e => hn.1 (by
        rw [e]
        exact List.mem_map.2 ⟨_, List.mem_of_getElem? (by simpa using h), rfl⟩)
      by_cases hk : k' = x.1
      · rw [if_pos hk, if_neg (by rw [hk]; exact hx), if_pos hk]
      · rw [if_neg hk, if_neg hk]
def mpI (b : Nat) (f : Int → Option Value) : HP := exH fun (x : List (Int × Value × Nat) × Nat) => star [blk b (.map (x.1.map meV).toArray x.2), pureH ((x.1.map (·.1)).Nodup ∧ ∀ k, gtI x.1 k = f k)]
def upK (f : Int → Option Value) (k : Int) (v : Option Value) : Int → Option Value := fun k' => if k' = k then v else f k'
theorem mapT_und {t k e : TypeId} [h : MapT t k e] : P.underlying t = some (.map k e) := by
  have h := h.h
  unfold mapT at h
  cases hu : P.underlying t with
  | none => rw [hu] at h; cases h
  | some d =>
    rw [hu] at h
    cases d <;> simp only [reduceCtorEq] at h
    simp only [Option.some.injEq, Prod.mk.injEq] at h
    rw [h.1, h.2]
theorem getP_run {P : Program} {w : World} {r : Nat} {es : Array MapEntry} {c : Nat} (h : w.heap[r]? = some (.map es c)) : (getObj r).run P w = .ok (.map es c) w := MapKept.run_getObj_map h
theorem setP_run {P : Program} {w : World} {r : Nat} {es : Array MapEntry} {c : Nat} (o' : Obj) (h : w.heap[r]? = some (.map es c)) : (setObj r o').run P w = .ok () { w with heap := w.heap.setIfInBounds r o' } := MapKept.run_setObj_map o' h
theorem eraseIdx_map' {α β : Type} (f : α → β) : ∀ (l : List α) (i : Nat), (l.eraseIdx i).map f = (l.map f).eraseIdx i
  | [], _ => rfl
  | _ :: _, 0 => rfl
  | x :: l, i + 1 => by simp only [List.eraseIdx_cons_succ, List.map_cons, eraseIdx_map' f l i]
theorem key_check {kt : TypeId} [IntT kt .i64] (b : Bool) (k : Int) (w : World) : (checkKey b 10000 kt (.int .i64 k)).run P w = .ok () w := by
  unfold checkKey
  simp only [Sem.run_bind, run_underlying (intT_und (t := kt) (k := .i64)), Result.andThen_ok, Sem.run_pure]
theorem key_find {kt : TypeId} [IntT kt .i64] (k : Int) (l : List (Int × Value × Nat)) (w : World) : (findKey kt (.int .i64 k) (l.map meV)).run P w = .ok (fdI k l 0) w := by
  unfold findKey
  simp only [Sem.run_bind, run_underlying (intT_und (t := kt) (k := .i64)), Result.andThen_ok, findNow_I, Sem.run_pure]
theorem key_stays (k : Int) (w : World) : (keyThatStays (.int .i64 k) (.int .i64 k)).run P w = .ok (.int .i64 k) w := by
  simp [keyThatStays, sameBits]
section
variable {w0 : World} {L L' : List HP} {X : World → Prop}
theorem Ent.mp {b : Nat} {f : Int → Option Value} (h : ∀ (l : List (Int × Value × Nat)) (c : Nat), (l.map (·.1)).Nodup → (∀ k, gtI l k = f k) → Ent w0 (blk b (.map (l.map meV).toArray c) :: L) X) : Ent w0 (mpI b f :: L) X := by
  unfold mpI
  refine Ent.ex fun x => Ent.star ?_
  refine Ent.at 1 rfl (Ent.pure fun ⟨h1, h2⟩ => h x.1 x.2 h1 h2)
theorem Imp.mp {b : Nat} {f : Int → Option Value} (l : List (Int × Value × Nat)) (c : Nat) (h1 : (l.map (·.1)).Nodup) (h2 : ∀ k, gtI l k = f k) (h : Imp L (blk b (.map (l.map meV).toArray c) :: L')) : Imp L (mpI b f :: L') := by
  unfold mpI
  exact Imp.exI (l, c) (Imp.starI (h.trans (Imp.cons (Imp.pureI ⟨h1, h2⟩ (Imp.refl _)))))
theorem ent_makeMap {t : TypeId} {K : Value → World → Prop} (h : ∀ b, Ent w0 (mpI b (fun _ => none) :: L) (K (.map (some b)))) : Ent w0 L (hV P (makeMap t none) K) := by
  intro w hs
  refine ⟨.map (some w.heap.size), { w with heap := w.heap.push (.map #[] 0) }, by simp [makeMap], h _ _ ?_⟩
  have := hs.new (o := .map #[] 0) (w' := { w with heap := w.heap.push (.map #[] 0) }) rfl rfl rfl rfl
  exact (Imp.mp [] 0 List.nodup_nil (fun _ => rfl) (Imp.refl _)).sat this
theorem ent_makeMap0 {t : TypeId} {K : Value → World → Prop} (h : ∀ b, Ent w0 (blk b (.map #[] 0) :: L) (K (.map (some b)))) : Ent w0 L (hV P (makeMap t none) K) := by
  intro w hs
  exact ⟨.map (some w.heap.size), { w with heap := w.heap.push (.map #[] 0) }, by simp [makeMap], h _ _ (hs.new rfl rfl rfl rfl)⟩
theorem Sat.mp {b : Nat} {f : Int → Option Value} {w : World} (i : Nat) (hi : L[i]? = some (mpI b f)) (hs : Sat w0 L w) : ∃ l c, w.heap[b]? = some (.map (l.map meV).toArray c) ∧ (l.map (·.1)).Nodup ∧ ∀ k, gtI l k = f k := by
  have := hs.perm (pick_perm hi)
  unfold mpI at this
  obtain ⟨x, hx⟩ := this.exE
  have h2 := hx.starE
  have h3 : Sat w0 (blk b (.map (x.1.map meV).toArray x.2) :: pureH ((x.1.map (·.1)).Nodup ∧ ∀ k, gtI x.1 k = f k) :: L.eraseIdx i) w := h2
  exact ⟨x.1, x.2, h3.mem0.2, h3.tail.pureE.1.1, h3.tail.pureE.1.2⟩
theorem run_lookI {t kt e : TypeId} [MapT t kt e] [IntT kt .i64] {b : Nat} {f : Int → Option Value} {k : Int} {v : Value} (i : Nat) (hi : L[i]? = some (mpI b f)) (hv : f k = some v) :
    Run w0 L (lookup t (.map (some b)) (.int .i64 k) false) v := fun w hs => by
  obtain ⟨l, c, h1, h2, h3⟩ := hs.mp i hi
  have h4 := h3 k
  rw [hv] at h4
  unfold gtI at h4
  cases hf : fdI k l 0 with
  | none => rw [hf] at h4; cases h4
  | some p =>
    rw [hf] at h4
    simp only [Option.map_some, Option.some.injEq] at h4
    subst h4
    unfold lookup
    simp only [Sem.run_bind, run_underlying (mapT_und (t := t) (k := kt) (e := e)), Result.andThen_ok, getP_run h1, Sem.run_pure, key_check, List.toList_toArray, key_find, hf]
    simp
theorem run_lookI0 {t kt e : TypeId} [MapT t kt e] [IntT kt .i64] {z : Value} [hz : ZeV e z] {b : Nat} {f : Int → Option Value} {k : Int} (i : Nat) (hi : L[i]? = some (mpI b f)) (hv : f k = none) :
    Run w0 L (lookup t (.map (some b)) (.int .i64 k) false) z := fun w hs => by
  obtain ⟨l, c, h1, h2, h3⟩ := hs.mp i hi
  have h4 := h3 k
  rw [hv] at h4
  have hzr : (zeroValue e).run P w = .ok z w := by
    have := hz.h
    unfold zeroV at this
    cases hi : P.info? e with
    | none => rw [hi] at this; cases this
    | some x => rw [hi] at this; simp only [Option.bind_some] at this; simp [zeroValue, typeInfo, hi, this]
  unfold gtI at h4
  cases hf : fdI k l 0 with
  | some p => rw [hf] at h4; cases h4
  | none =>
    unfold lookup
    simp only [Sem.run_bind, run_underlying (mapT_und (t := t) (k := kt) (e := e)), Result.andThen_ok, getP_run h1, Sem.run_pure, key_check, List.toList_toArray, key_find, hf, hzr]
    simp
theorem ent_setI {t kt e : TypeId} [MapT t kt e] [IntT kt .i64] {b : Nat} {f : Int → Option Value} {k : Int} {v : Value} {K : World → Prop} (h : Ent w0 (mpI b (upK f k (some v)) :: L) K) :
    Ent w0 (mpI b f :: L) (hU P (mapUpdate t (.map (some b)) (.int .i64 k) v) K) := by
  refine Ent.mp fun l c hnd hl w hs => ?_
  have hm := hs.mem0.2
  have hfr : ∀ o, ∃ w', (setObj b o).run P w = .ok () w' ∧ Sat w0 (blk b o :: L) w' := fun o => by
    refine ⟨{ w with heap := w.heap.setIfInBounds b o }, setP_run o hm, ?_⟩
    have hlt : b < w.heap.size := by
      rcases Nat.lt_or_ge b w.heap.size with h1 | h1
      · exact h1
      · rw [Array.getElem?_eq_none h1] at hm; cases hm
    refine hs.put0 (fun n => ?_) (by simp) rfl rfl rfl
    rw [Array.getElem?_setIfInBounds]
    by_cases hn : b = n
    · subst hn; simp [hlt]
    · rw [if_neg hn, if_neg (Ne.symm hn)]
  cases hf : fdI k l 0 with
  | none =>
    obtain ⟨w', e1, e2⟩ := hfr (.map ((l ++ [(k, v, c)]).map meV).toArray (c + 1))
    refine ⟨w', ?_, h w' ((Imp.mp (l ++ [(k, v, c)]) (c + 1) ?_ (fun k' => ?_) (Imp.refl _)).sat e2)⟩
    · unfold mapUpdate
      simp only [Sem.run_bind, run_underlying (mapT_und (t := t) (k := kt) (e := e)), Result.andThen_ok, getP_run hm, key_check, List.toList_toArray, key_find, hf]
      have : (List.map meV l).toArray.push { key := Value.int .i64 k, val := v, born := c } = ((l ++ [(k, v, c)]).map meV).toArray := by
        apply Array.ext'; simp [meV]
      rw [this, e1]
    · rw [List.map_append]
      refine List.nodup_append.2 ⟨hnd, by simp, ?_⟩
      intro a ha b' hb'
      simp only [List.map_cons, List.map_nil, List.mem_singleton] at hb'
      subst hb'
      exact fun e => (fdI_none.1 hf) (e ▸ ha)
    · rw [gtI_app, hl]
      unfold upK
      have hk : f k = none := by rw [← hl]; unfold gtI; rw [hf]; rfl
      by_cases h1 : k' = k
      · subst h1; rw [hk, if_pos rfl]; simp [gtI_cons]
      · rw [if_neg h1]
        cases hfk : f k' with
        | some x => rfl
        | none => simp only [gtI_cons, if_neg h1]; rfl
  | some p =>
    obtain ⟨i, u⟩ := p
    obtain ⟨_, n, hn⟩ := fdI_some hf
    rw [Nat.sub_zero] at hn
    obtain ⟨w', e1, e2⟩ := hfr (.map ((l.set i (k, v, n)).map meV).toArray c)
    refine ⟨w', ?_, h w' ((Imp.mp (l.set i (k, v, n)) c ?_ (fun k' => ?_) (Imp.refl _)).sat e2)⟩
    · have hkey : (((List.map meV l).toArray[i]?).map (·.key)).getD (Value.int .i64 k) = .int .i64 k := by simp [hn, meV]
      unfold mapUpdate
      simp only [Sem.run_bind, run_underlying (mapT_und (t := t) (k := kt) (e := e)), Result.andThen_ok, getP_run hm, key_check, List.toList_toArray, key_find, hf, hkey, key_stays]
      have : (List.map meV l).toArray.modify i (fun e => { e with key := Value.int .i64 k, val := v }) = ((l.set i (k, v, n)).map meV).toArray := by
        apply Array.ext'
        apply List.ext_getElem?
        intro j
        simp only [Array.toList_modify, List.toList_toArray, List.getElem?_modify, List.getElem?_map, List.getElem?_set]
        by_cases hj : i = j
        · subst hj
          have hlt : i < l.length := (List.getElem?_eq_some_iff.1 hn).1
          rw [hn]; simp [meV, hlt]
        · simp [hj]
      rw [this, e1]
    · have : (l.set i (k, v, n)).map (·.1) = l.map (·.1) := by
        apply List.ext_getElem?
        intro j
        simp only [List.getElem?_map, List.getElem?_set]
        by_cases hj : i = j
        · subst hj
          have hlt : i < l.length := (List.getElem?_eq_some_iff.1 hn).1
          rw [hn]; simp [hlt]
        · simp [hj]
      rw [this]; exact hnd
    · rw [gtI_set hnd hn, hl]; rfl
theorem ent_delI {t kt e ty : TypeId} [MapT t kt e] [IntT kt .i64] {b : Nat} {f : Int → Option Value} {k : Int} {K : Value → World → Prop} (h : Ent w0 (mpI b (upK f k none) :: L) (K (.tuple #[]))) :
    Ent w0 (mpI b f :: L) (hV P (Builtin.delete_ #[t, kt] ty #[.map (some b), .int .i64 k]) K) := by
  refine Ent.mp fun l c hnd hl w hs => ?_
  have hm := hs.mem0.2
  have hfr : ∀ o, ∃ w', (setObj b o).run P w = .ok () w' ∧ Sat w0 (blk b o :: L) w' := fun o => by
    refine ⟨{ w with heap := w.heap.setIfInBounds b o }, setP_run o hm, ?_⟩
    have hlt : b < w.heap.size := by
      rcases Nat.lt_or_ge b w.heap.size with h1 | h1
      · exact h1
      · rw [Array.getElem?_eq_none h1] at hm; cases hm
    refine hs.put0 (fun n => ?_) (by simp) rfl rfl rfl
    rw [Array.getElem?_setIfInBounds]
    by_cases hn : b = n
    · subst hn; simp [hlt]
    · rw [if_neg hn, if_neg (Ne.symm hn)]
  cases hf : fdI k l 0 with
  | none =>
    obtain ⟨w', e1, e2⟩ := hfr (.map (l.map meV).toArray c)
    refine ⟨.tuple #[], w', ?_, h w' ((Imp.mp l c hnd (fun k' => ?_) (Imp.refl _)).sat e2)⟩
    · unfold Builtin.delete_
      simp [run_underlying (mapT_und (t := t) (k := kt) (e := e)), getP_run hm, key_check, key_find, hf, e1]
    · rw [hl]; unfold upK
      have hk : f k = none := by rw [← hl]; unfold gtI; rw [hf]; rfl
      by_cases h1 : k' = k
      · rw [if_pos h1, h1, hk]
      · rw [if_neg h1]
  | some p =>
    obtain ⟨i, u⟩ := p
    obtain ⟨_, n, hn⟩ := fdI_some hf
    rw [Nat.sub_zero] at hn
    obtain ⟨w', e1, e2⟩ := hfr (.map ((l.eraseIdx i).map meV).toArray c)
    refine ⟨.tuple #[], w', ?_, h w' ((Imp.mp (l.eraseIdx i) c ?_ (fun k' => ?_) (Imp.refl _)).sat e2)⟩
    · unfold Builtin.delete_
      have : (List.map meV l).toArray.eraseIdxIfInBounds i = ((l.eraseIdx i).map meV).toArray := by
        apply Array.ext'
        rw [Array.toList_eraseIdxIfInBounds]
        simp [eraseIdx_map']
      rw [← this] at e1
      simp only [List.getElem?_toArray, List.getElem?_cons_zero, List.getElem?_cons_succ, Sem.run_bind, run_underlying (mapT_und (t := t) (k := kt) (e := e)), getP_run hm, key_check, key_find, hf, Result.andThen_ok, e1, List.toList_toArray, Sem.run_pure]
    · rw [eraseIdx_map']
      exact hnd.sublist (List.eraseIdx_sublist _ _)
    · rw [gtI_erase hnd hn, hl]; rfl
end
end Go.Gd
