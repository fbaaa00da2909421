/- The statements own small functions: the example, what is too long; when messages are the same. Conditions: those in the theorems. The plain law of orders: who is there behind each operation. Conditions: those in the theorems. The plain law of orders: who is there behind Add. Conditions: those in the theorems. The plain law of an array, second part: the invariant through all that is heard. Conditions: those in the theorems. The plain law of orders: lists stay apart. Conditions: those in the theorems. -/
import Derived.Test.YtdgnnacppiaogaaGreatB37
import Derived.Test.YtdgnnacppiaogaaGreatB34
set_option linter.unusedVariables false
set_option linter.unusedSimpArgs false
namespace Go.Gd
open Go.Instr
attribute [local irreducible] loadAt storeAt fieldAt indexAt alloc box build buildSlice hNil eqG binOp Op.unary extract makeSlice makeInterface makeFunc convert hV mV pV hU hF hFV hI hIf hGuard hPick hJ hDraw hLoop ro Instr.index dkH arH outH
theorem und4 : P.underlying 4 = some .bool := by unfold P; kernel_rfl
theorem msg_ext {m m' : Msg} (h1 : m.kind = m'.kind) (h2 : msgN m = msgN m') (h3 : m.grant = m'.grant) (h4 : m.data = m'.data) : m = m' := by
  obtain ⟨a1, a2, a3, a4, a5, a6, a7, a8, a9, a10, a11⟩ := m
  obtain ⟨b1, b2, b3, b4, b5, b6, b7, b8, b9, b10, b11⟩ := m'
  simp only [msgN, List.cons.injEq, and_true] at h1 h2 h3 h4
  obtain ⟨e1, e2, e3, e4, e5, e6, e7, e8⟩ := h2
  subst h1; subst h3; subst h4; subst e1; subst e2; subst e3; subst e4; subst e5; subst e6; subst e7; subst e8
  rfl
structure ActS where
  fuse : Int
  m : Msg
def actL (x : ActS × Value) : List Value := .int .i64 x.1.fuse :: msgL x.1.m x.2
def actsV (xs : List (ActS × Value)) : List Value := xs.flatMap actL
theorem actL_len (x : ActS × Value) : (actL x).length = 12 := rfl
theorem actsV_len (xs : List (ActS × Value)) : (actsV xs).length = xs.length * 12 := by
  unfold actsV
  induction xs with
  | nil => rfl
  | cons h l ih => simp only [List.flatMap_cons, List.length_append, actL_len, ih, List.length_cons]; omega
theorem actsV_get : ∀ {xs : List (ActS × Value)} {i : Nat} {x : ActS × Value}, xs[i]? = some x → ∀ j v, (actL x)[j]? = some v → (actsV xs)[i * 12 + j]? = some v
  | [], i, h, hi, j, v, hj => by simp at hi
  | x :: l, 0, h, hi, j, v, hj => by
    simp only [List.getElem?_cons_zero, Option.some.injEq] at hi
    subst hi
    have : j < (actL x).length := (List.getElem?_eq_some_iff.1 hj).1
    unfold actsV
    rw [List.flatMap_cons, List.getElem?_append_left (by omega), Nat.zero_mul, Nat.zero_add]; exact hj
  | x :: l, i + 1, h, hi, j, v, hj => by
    have := actsV_get (xs := l) (i := i) (x := h) (by simpa using hi) j v hj
    unfold actsV at *
    rw [List.flatMap_cons, List.getElem?_append_right (by rw [actL_len]; omega), actL_len, show (i + 1) * 12 + j - 12 = i * 12 + j by omega]; exact this
theorem msgsV_get : ∀ {xs : List (Msg × Value)} {i : Nat} {x : Msg × Value}, xs[i]? = some x → ∀ j v, (msgL x.1 x.2)[j]? = some v → (msgsV xs)[i * 11 + j]? = some v
  | [], i, h, hi, j, v, hj => by simp at hi
  | x :: l, 0, h, hi, j, v, hj => by
    simp only [List.getElem?_cons_zero, Option.some.injEq] at hi
    subst hi
    have : j < (msgL x.1 x.2).length := (List.getElem?_eq_some_iff.1 hj).1
    unfold msgsV
    rw [List.flatMap_cons, List.getElem?_append_left (by omega), Nat.zero_mul, Nat.zero_add]; exact hj
  | x :: l, i + 1, h, hi, j, v, hj => by
    have := msgsV_get (xs := l) (i := i) (x := h) (by simpa using hi) j v hj
    unfold msgsV at *
    rw [List.flatMap_cons, List.getElem?_append_right (by simp [msgL]; omega)]
    have e : (i + 1) * 11 + j - (msgL x.1 x.2).length = i * 11 + j := by show (i + 1) * 11 + j - 11 = _; omega
    rw [e]; exact this
def adatH (w0 : World) : List (ActS × Value) → HP
  | [] => pureH True
  | x :: t => star [roB w0 x.2 x.1.m.data, adatH w0 t]
theorem Pers.adat (w0 : World) : ∀ xs, Pers (adatH w0 xs)
  | [] => Pers.pure _
  | _ :: t => Pers.star2 (Pers.ro _ _ _ _ _) (Pers.adat w0 t)
theorem Imp.adatGet {w0 : World} : ∀ {xs : List (ActS × Value)} {i : Nat} {x : ActS × Value}, xs[i]? = some x → ∀ {L : List HP}, Imp (adatH w0 xs :: L) (roB w0 x.2 x.1.m.data :: adatH w0 xs :: L)
  | [], i, x, h, L => by simp at h
  | y :: t, 0, x, h, L => by
    simp only [List.getElem?_cons_zero, Option.some.injEq] at h
    subst h
    refine Imp.starE ?_
    show Imp (roB w0 y.2 y.1.m.data :: adatH w0 t :: L) _
    exact (Imp.dup1 (Pers.ro _ _ _ _ _)).trans (Imp.cons (Imp.starI (M := [roB w0 y.2 y.1.m.data, adatH w0 t]) (Imp.refl _)))
  | y :: t, i + 1, x, h, L => by
    refine Imp.starE ?_
    show Imp (roB w0 y.2 y.1.m.data :: adatH w0 t :: L) _
    refine (Imp.cons (Imp.adatGet (xs := t) (i := i) (x := x) (by simpa using h))).trans ?_
    exact (Imp.perm (List.Perm.swap _ _ _)).trans (Imp.cons (Imp.starI (M := [roB w0 y.2 y.1.m.data, adatH w0 t]) (Imp.refl _)))
theorem Imp.datGet {w0 : World} : ∀ {xs : List (Msg × Value)} {i : Nat} {x : Msg × Value}, xs[i]? = some x → ∀ {L : List HP}, Imp (datH w0 xs :: L) (roB w0 x.2 x.1.data :: datH w0 xs :: L)
  | [], i, x, h, L => by simp at h
  | y :: t, 0, x, h, L => by
    simp only [List.getElem?_cons_zero, Option.some.injEq] at h
    subst h
    refine Imp.starE ?_
    show Imp (roB w0 y.2 y.1.data :: datH w0 t :: L) _
    exact (Imp.dup1 (Pers.ro _ _ _ _ _)).trans (Imp.cons (Imp.starI (M := [roB w0 y.2 y.1.data, datH w0 t]) (Imp.refl _)))
  | y :: t, i + 1, x, h, L => by
    refine Imp.starE ?_
    show Imp (roB w0 y.2 y.1.data :: datH w0 t :: L) _
    refine (Imp.cons (Imp.datGet (xs := t) (i := i) (x := x) (by simpa using h))).trans ?_
    exact (Imp.perm (List.Perm.swap _ _ _)).trans (Imp.cons (Imp.starI (M := [roB w0 y.2 y.1.data, datH w0 t]) (Imp.refl _)))
def longP (c : Cfg) (xs : List (ActS × Value)) : Prop := 20 < c.hints.length ∨ 100 < xs.length ∨ ∃ x ∈ xs, 100 < x.1.m.data.length
section
variable {w0 : World} {L : List HP}
theorem run_eqB {lit : Bool} (a b : Bool) : Run w0 L (eqG lit .eql 4 (.bool a) (.bool b)) (.bool (a == b)) := fun w _ => by
  have e : (Op.equalIn (9999 + 1) 4 (.bool a) (.bool b)).run P w = .ok (a == b) w := by
    unfold Op.equalIn; simp only [Sem.run_bind, run_underlying und4, Result.andThen_ok]; rfl
  simp only [eqG, eqGd, binOp, Op.equal, Op.maxDepth, Sem.run_bind, Sem.run_pure, Result.andThen_ok]
  rw [show (10000 : Nat) = 9999 + 1 from rfl, e]; rfl
theorem RdS.cellA {a : Option Addr} {n cap : Nat} {xs : List (ActS × Value)} (h : RdS w0 L (.slice a n cap) 12 n (actsV xs)) {i : Nat} {x : ActS × Value} (hx : xs[i]? = some x) :
    ∃ b o, a = some ⟨b, o, none⟩ ∧ ∀ j u, (actL x)[j]? = some u → Cell w0 L ⟨b, o + i * 12 + j, none⟩ u := by
  obtain ⟨a', c', e1, e2, e3⟩ := h
  cases e1
  rcases e3 with e3 | ⟨b, o, rfl, hc⟩
  · have := congrArg List.length e3
    rw [actsV_len] at this
    have := (List.getElem?_eq_some_iff.1 hx).1
    simp at *; omega
  · exact ⟨b, o, rfl, fun j u hj => by rw [Nat.add_assoc]; exact hc _ _ (actsV_get hx j u hj)⟩
theorem rf_sameMsg (m m' : Msg) (mv mv' : Value) (q : Bool) (hq : q = true ↔ m = m') (h1 : m.data.length ≤ 1099511627776) (h2 : m'.data.length ≤ 1099511627776) :
    Spec w0 45 [.agg (msgL m mv).toArray, .agg (msgL m' mv').toArray] [roB w0 mv m.data, roB w0 mv' m'.data] (fun _ : Unit => .bool q) (fun _ => []) := by
  refine spec_go (fun R w => H45) fun F => ?_
  show Ent w0 (roB w0 mv m.data :: roB w0 mv' m'.data :: F) _
  have hno : m ≠ m' → q = false := fun h => by cases q with | false => rfl | true => exact absurd (hq.1 rfl) h
  unfold F45
  refine ent_box fun a => ?_
  rw [agg_cells, List.toList_toArray]
  refine ent_box fun b => ?_
  rw [agg_cells, List.toList_toArray]
  refine ent_q (run_loadA (vs := msgL m mv) rfl (cells_all 1 rfl)) ?_
  refine ent_call (rf_numbers m mv) (Imp.refl _) fun v1 => ?_
  refine ent_q (run_loadA (vs := msgL m' mv') rfl (cells_all 1 rfl)) ?_
  refine ent_call (rf_numbers m' mv') (Imp.refl _) fun v2 => ?_
  refine Ent.imp (L' := pt a 37 (msgL m mv) :: pt b 37 (msgL m' mv') :: ro w0 v1 1 8 (inV (msgN m)) :: ro w0 v2 1 8 (inV (msgN m')) :: roB w0 mv m.data :: roB w0 mv' m'.data :: F) (by (repeat (first | refine Imp.pick 0 rfl ?_ | refine Imp.pick 1 rfl ?_ | refine Imp.pick 2 rfl ?_ | refine Imp.pick 3 rfl ?_)); exact Imp.refl _) ?_
  (repeat refine ent_q (run_fieldZ _ _) ?_)
  refine ent_q (run_load (v := .int .i64 m.kind) (cell_own 0 rfl rfl)) ?_
  (repeat refine ent_q (run_fieldZ _ _) ?_)
  refine ent_q (run_load (v := .int .i64 m'.kind) (cell_own 1 rfl rfl)) ?_
  refine ent_qb (run_eq _ _) (fun c1 => ?_) (fun c1 => ?_)
  rotate_left
  · (repeat (first | refine ent_gF ?_ | refine ent_pF ?_ | refine ent_j ?_))
    exact ent_ret () (by rw [hno (fun e => c1 (by rw [e]))]) (by exact Imp.trans Imp.drop1 (Imp.trans Imp.drop1 (Imp.trans Imp.drop1 (Imp.trans Imp.drop1 (Imp.trans Imp.drop1 (Imp.drop1))))))
  (repeat (first | refine ent_gT ?_ | refine ent_j ?_))
  refine ent_call (rf_sameInts v1 v2 (msgN m) (msgN m') (by show 8 ≤ _; omega) (by show 8 ≤ _; omega)) (by (repeat refine Imp.pick 2 rfl ?_); exact Imp.refl _) fun _ => ?_
  by_cases c2 : msgN m = msgN m'
  rotate_left
  · rw [decide_eq_false c2]
    (repeat (first | refine ent_gF ?_ | refine ent_pT ?_ | refine ent_pF ?_ | refine ent_j ?_))
    exact ent_ret () (by rw [hno (fun e => c2 (by rw [e]))]) (by exact Imp.trans Imp.drop1 (Imp.trans Imp.drop1 (Imp.trans Imp.drop1 (Imp.drop1))))
  rw [decide_eq_true c2]
  (repeat (first | refine ent_q (run_field0 _) ?_ | refine ent_gT ?_ | refine ent_pT ?_ | refine ent_j ?_))
  refine ent_q (run_load (v := .bool m.grant) (cell_own 0 rfl rfl)) ?_
  (repeat refine ent_q (run_field0 _) ?_)
  refine ent_q (run_load (v := .bool m'.grant) (cell_own 1 rfl rfl)) ?_
  refine ent_q (run_eqB _ _) ?_
  by_cases c3 : m.grant = m'.grant
  rotate_left
  · rw [beq_eq_false_iff_ne.2 c3]
    (repeat (first | refine ent_gF ?_ | refine ent_pT ?_ | refine ent_pF ?_))
    exact ent_ret () (by rw [hno (fun e => c3 (by rw [e]))]) (by exact Imp.trans Imp.drop1 (Imp.trans Imp.drop1 (Imp.trans Imp.drop1 (Imp.drop1))))
  rw [beq_iff_eq.2 c3]
  (repeat (first | refine ent_q (run_field0 _) ?_ | refine ent_gT ?_ | refine ent_pT ?_))
  refine ent_q (run_load (v := mv) (cell_own 0 rfl rfl)) ?_
  (repeat refine ent_q (run_field0 _) ?_)
  refine ent_q (run_load (v := mv') (cell_own 1 rfl rfl)) ?_
  refine ent_call (rf_same mv mv' m.data m'.data h1 h2) (by (repeat refine Imp.pick 2 rfl ?_); exact Imp.refl _) fun _ => ?_
  by_cases c4 : m.data = m'.data
  rotate_left
  · rw [decide_eq_false c4]
    (repeat refine ent_pT ?_)
    exact ent_ret () (by rw [hno (fun e => c4 (by rw [e]))]) (by exact Imp.trans Imp.drop1 (Imp.drop1))
  rw [decide_eq_true c4]
  (repeat refine ent_pT ?_)
  exact ent_ret () (by rw [hq.2 (msg_ext c1 c2 c3 c4)]) (by exact Imp.trans Imp.drop1 (Imp.drop1))
theorem rf_long (c : Cfg) (lv : Value) (xs : List (ActS × Value)) (q : Bool) (hq : q = true ↔ longP c xs) :
    Spec w0 11 [cfgV c, lv] [ro w0 c.hv 4 c.hints.length (hintsV c.hints), ro w0 lv 12 xs.length (actsV xs), adatH w0 xs] (fun _ : Unit => .bool q) (fun _ => []) := by
  refine spec_go (fun R w => H11) fun F => ?_
  show Ent w0 (ro w0 c.hv 4 c.hints.length (hintsV c.hints) :: ro w0 lv 12 xs.length (actsV xs) :: adatH w0 xs :: F) _
  have yes : longP c xs → q = true := hq.2
  unfold F11
  refine ent_box fun cb => ?_
  rw [agg_cells, List.toList_toArray]
  (repeat refine ent_q (run_field0 _) ?_)
  refine ent_q (run_load (v := c.hv) (cell_own 0 rfl rfl)) ?_
  refine ent_q (run_lenR 1 rfl) ?_
  refine ent_qb (run_gt _ _) (fun c1 => ?_) (fun c1 => ?_)
  · (repeat (first | refine ent_ifT ?_ | refine ent_gF' ?_ | refine ent_pT ?_ | refine ent_j ?_))
    exact ent_ret () (by rw [yes (.inl (by omega))]) (by exact Imp.trans Imp.drop1 (Imp.trans Imp.drop1 (Imp.trans Imp.drop1 (Imp.drop1))))
  (repeat (first | refine ent_gT ?_ | refine ent_j ?_))
  refine ent_q (run_lenR 2 rfl) ?_
  refine ent_qb (run_gt _ _) (fun c2 => ?_) (fun c2 => ?_)
  · (repeat (first | refine ent_ifT ?_ | refine ent_pF ?_))
    exact ent_ret () (by rw [yes (.inr (.inl (by omega)))]) (by exact Imp.trans Imp.drop1 (Imp.trans Imp.drop1 (Imp.trans Imp.drop1 (Imp.drop1))))
  (repeat (first | refine ent_ifF ?_ | refine ent_pF ?_))
  refine ent_q (run_lenR 2 rfl) ?_
  refine Ent.at 2 rfl (Ent.ro fun aa ca Ra hav hal hard => ?_)
  subst hav
  refine ent_loop (ι := Nat) (fun i => i ≤ xs.length ∧ ∀ x ∈ xs.take i, x.1.m.data.length ≤ 100) (fun i => [.int .i64 (i : Nat), .bool false]) (fun i => adatH w0 xs :: Ra :: F) (fun i => xs.length - i) 0 ⟨by simp, by simp⟩ rfl (by (repeat (first | refine Imp.pick 0 rfl ?_ | refine Imp.pick 4 rfl ?_)); exact Imp.trans Imp.drop1 (Imp.trans Imp.drop1 (Imp.drop1))) ?_
  rintro i ⟨hi, hti⟩ g next hnext
  show Ent w0 _ (hV P (binOp .lss 3 (.int .i64 (i : Nat)) (.int .i64 (xs.length : Nat))) _)
  refine ent_qb (run_lt _ _) (fun h => ?_) (fun h => ?_)
  · refine ent_ifT ?_
    have hia : i < xs.length := by omega
    have ga : xs[i]? = some xs[i] := List.getElem?_eq_getElem hia
    have hgen : xs.take (i + 1) = xs.take i ++ [xs[i]] := List.take_succ_eq_append_getElem hia
    generalize xs[i] = x at *
    refine Ent.imp (Imp.adatGet ga) ?_
    obtain ⟨b1, o1, rfl, hc1⟩ := RdS.cellA (hard (roB w0 x.2 x.1.m.data :: adatH w0 xs :: Ra :: F) 2 rfl) ga
    refine ent_q (run_indexS i rfl hia) ?_
    refine ent_q (run_field _ _) ?_
    refine ent_q (run_field _ _) ?_
    refine ent_q (run_load (hc1 11 x.2 rfl)) ?_
    refine ent_q (run_lenR 0 rfl) ?_
    refine ent_qb (run_gt _ _) (fun hx => ?_) (fun hx => ?_)
    · (repeat refine ent_ifT ?_)
      exact ent_ret () (by rw [yes (.inr (.inr ⟨x, List.mem_of_getElem? ga, by omega⟩))]) (by exact Imp.trans Imp.drop1 (Imp.trans Imp.drop1 (Imp.drop1)))
    · (repeat refine ent_ifF ?_)
      refine ent_q (run_add64 (by omega)) ?_
      refine Ent.imp Imp.drop1 (hnext (i + 1) ⟨by omega, ?_⟩ (by omega))
      rw [hgen]
      intro y hy
      rcases List.mem_append.1 hy with hy | hy
      · exact hti y hy
      · rw [List.mem_singleton] at hy; subst hy; omega
  · refine ent_ifF ?_
    have hia : i = xs.length := by omega
    rw [hia, List.take_length] at hti
    have : q = false := by
      cases q with
      | false => rfl
      | true =>
        rcases hq.1 rfl with h | h | ⟨x, hx, h⟩
        · omega
        · omega
        · have := hti x hx; omega
    exact ent_ret () (by rw [this]) (by exact Imp.trans Imp.drop1 (Imp.drop1))
end
end Go.Gd
namespace Go.Gd
def hasQ (L : List (List Nat)) (q x : Nat) : Prop := ∃ k, k < q ∧ x ∈ L.getD k []
theorem getD_lt {L : List (List Nat)} {k x : Nat} (h : x ∈ L.getD k []) : k < L.length := by
  rcases Nat.lt_or_ge k L.length with h1 | h1
  · exact h1
  · rw [List.getD_eq_getElem?_getD, List.getElem?_eq_none h1] at h; simp at h
theorem lkOf_iff {L : List (List Nat)} {q x : Nat} : (∃ k, lkOf L x = some k ∧ k < q) ↔ hasQ L q x := by
  constructor
  · rintro ⟨k, h1, h2⟩
    obtain ⟨l, hl, hx⟩ := lkOf_some h1
    exact ⟨k, h2, by rw [List.getD_eq_getElem?_getD, hl]; exact hx⟩
  · rintro ⟨j, hj, hx⟩
    have hjl := getD_lt hx
    have hxl : x ∈ L[j] := by rw [List.getD_eq_getElem?_getD, List.getElem?_eq_getElem hjl] at hx; exact hx
    cases ho : lkOf L x with
    | none => exact absurd hxl (lkOf_none ho _ (List.getElem_mem _))
    | some k =>
      refine ⟨k, rfl, ?_⟩
      obtain ⟨hk, h1, h2⟩ := List.findIdx?_eq_some_iff_getElem.1 ho
      rcases Nat.lt_or_ge j k with h3 | h3
      · have := h2 j h3
        simp [hxl] at this
      · omega
theorem mem_lkOut {L : List (List Nat)} {b k x : Nat} : x ∈ (lkOut L b).getD k [] ↔ x ∈ L.getD k [] ∧ x ≠ b := by
  unfold lkOut
  rw [List.getD_eq_getElem?_getD, List.getD_eq_getElem?_getD, List.getElem?_map]
  cases L[k]? with
  | none => simp
  | some l => simp
theorem mem_lkPush {L : List (List Nat)} {j b k x : Nat} : x ∈ (lkPush L j b).getD k [] ↔ (k = j ∧ j < L.length ∧ x = b) ∨ x ∈ L.getD k [] := by
  unfold lkPush
  rw [List.getD_eq_getElem?_getD, List.getD_eq_getElem?_getD, List.getElem?_modify]
  by_cases h : j = k
  · subst h
    rcases Nat.lt_or_ge j L.length with h1 | h1
    · rw [List.getElem?_eq_getElem h1]; simp [h1]
    · rw [List.getElem?_eq_none h1]; simp; omega
  · have e : ((fun a => if j = k then b :: a else a) <$> L[k]?) = L[k]? := by
      cases L[k]? with
      | none => rfl
      | some l => simp [h]
    rw [e]
    simp [Ne.symm h]
theorem hasQ_out {L : List (List Nat)} {q b x : Nat} : hasQ (lkOut L b) q x ↔ hasQ L q x ∧ x ≠ b := by
  unfold hasQ
  constructor
  · rintro ⟨k, h1, h2⟩
    rw [mem_lkOut] at h2
    exact ⟨⟨k, h1, h2.1⟩, h2.2⟩
  · rintro ⟨⟨k, h1, h2⟩, h3⟩
    exact ⟨k, h1, mem_lkOut.2 ⟨h2, h3⟩⟩
theorem hasQ_push {L : List (List Nat)} {q j b x : Nat} : hasQ (lkPush L j b) q x ↔ (x = b ∧ j < q ∧ j < L.length) ∨ hasQ L q x := by
  unfold hasQ
  constructor
  · rintro ⟨k, h1, h2⟩
    rcases mem_lkPush.1 h2 with ⟨rfl, h3, h4⟩ | h3
    · exact .inl ⟨h4, h1, h3⟩
    · exact .inr ⟨k, h1, h3⟩
  · rintro (⟨rfl, h1, h2⟩ | ⟨k, h1, h2⟩)
    · exact ⟨j, h1, mem_lkPush.2 (.inl ⟨rfl, h2, rfl⟩)⟩
    · exact ⟨k, h1, mem_lkPush.2 (.inr h2)⟩
theorem hasQ_move {L : List (List Nat)} {q j b x : Nat} : hasQ (lkPush (lkOut L b) j b) q x ↔ (x = b ∧ j < q ∧ j < L.length) ∨ (hasQ L q x ∧ x ≠ b) := by
  rw [hasQ_push, hasQ_out, lkOut_length]
theorem has_iff {c : MqC} {s : MqS} {x : Nat} : MqS.has c s x = true ↔ hasQ s.L c.q x := by
  rw [← lkOf_iff]
  unfold MqS.has
  cases lkOf s.L x with
  | none => simp
  | some k => simp
theorem hasI_iff {c : MqC} {s : MqS} {x : Nat} (hx : x < 64) : MqS.hasI c s (x : Nat) = true ↔ hasQ s.L c.q x := by
  rw [← has_iff]
  unfold MqS.hasI MqS.has
  rw [lkI_nat hx]
theorem age1_has {c : MqC} {s : MqS} {n x : Nat} (hn : 1 ≤ n ∧ n < c.q) (hl : c.q ≤ s.L.length) : hasQ (MqS.age1 c s n).L c.q x ↔ hasQ s.L c.q x := by
  unfold MqS.age1
  split
  · rename_i b hb
    split
    · show hasQ (lkPush (lkOut s.L b) (n - 1) b) c.q x ↔ _
      have hbq : hasQ s.L c.q b := ⟨n, hn.2, lkLast_mem hb⟩
      rw [hasQ_move]
      constructor
      · rintro (⟨rfl, _⟩ | h)
        · exact hbq
        · exact h.1
      · intro h
        by_cases hx : x = b
        · exact .inl ⟨hx, by omega, by omega⟩
        · exact .inr ⟨h, hx⟩
    · exact Iff.rfl
  · exact Iff.rfl
theorem ageN_has {c : MqC} {s : MqS} {x : Nat} (hl : c.q ≤ s.L.length) : ∀ {n : Nat}, n < c.q → (hasQ (MqS.ageN c s n).L c.q x ↔ hasQ s.L c.q x)
  | 0, _ => Iff.rfl
  | n + 1, hn => by
    have ih := ageN_has (x := x) hl (n := n) (by omega)
    have hl' : c.q ≤ (MqS.ageN c s n).L.length := by rw [(ageN_same c s n).2.2]; exact hl
    exact (age1_has ⟨by omega, hn⟩ hl').trans ih
theorem age_has {c : MqC} {s : MqS} {x : Nat} (hq : 1 ≤ c.q) (hl : c.q ≤ s.L.length) : hasQ (MqS.age c s).L c.q x ↔ hasQ s.L c.q x := ageN_has hl (by omega)
theorem place_has {c : MqC} {s : MqS} {b x : Nat} (hq : 1 ≤ c.q) (hl : c.q ≤ s.L.length) : hasQ (MqS.place c s b).L c.q x ↔ x = b ∨ hasQ s.L c.q x := by
  show hasQ (lkPush (lkOut s.L b) (min (Lib.bitLen (s.oft b) - 1) (c.q - 1)) b) c.q x ↔ _
  rw [hasQ_move]
  constructor
  · rintro (⟨h, _⟩ | h)
    · exact .inl h
    · exact .inr h.1
  · intro h
    by_cases hx : x = b
    · exact .inl ⟨hx, by omega, by omega⟩
    · exact .inr ⟨h.resolve_left hx, hx⟩
theorem lenN_zero {L : List (List Nat)} : ∀ {n : Nat}, (∀ k, k < n → (L.getD k []).isEmpty = true) → lenN L n = 0
  | 0, _ => rfl
  | n + 1, h => by
    unfold lenN
    rw [lenN_zero fun k hk => h k (by omega)]
    have := h n (by omega)
    simp at this
    simp [this]
theorem evict_has {q gh : Nat} {L : List (List Nat)} (hl : L.length = q + 1) (hne : ∃ k, k < q ∧ (L.getD k []).isEmpty = false) (hok : LkOk L) {x : Nat} :
    hasQ L q (lkEvict q gh L).2 ∧ (hasQ (lkEvict q gh L).1 q x ↔ hasQ L q x ∧ x ≠ (lkEvict q gh L).2) := by
  obtain ⟨k0, hk0, hk1⟩ := hne
  obtain ⟨hf1, hf2⟩ := fstN_spec (L := L) (q := q) q 0 (by omega) ⟨k0, by omega, hk0, hk1⟩
  obtain ⟨b, hb, hbm⟩ := lkLast_some hf2
  have hbq : hasQ L q b := ⟨_, hf1, hbm⟩
  unfold lkEvict
  rw [hb]
  dsimp only
  have h1 : hasQ (lkPush (lkOut L b) q b) q x ↔ hasQ L q x ∧ x ≠ b := by
    rw [hasQ_move]
    constructor
    · rintro (⟨_, h, _⟩ | h)
      · omega
      · exact h
    · exact fun h => .inr h
  split
  · split
    · exact ⟨hbq, h1⟩
    · rename_i o ho
      refine ⟨hbq, ?_⟩
      rw [hasQ_out, h1]
      constructor
      · exact fun h => h.1
      · intro h
        refine ⟨h, fun e => ?_⟩
        subst e
        have hm := lkLast_mem ho
        rcases mem_lkPush.1 hm with ⟨_, _, h3⟩ | h3
        · exact h.2 h3
        · have h4 := (mem_lkOut.1 h3).1
          obtain ⟨k, hk, hx⟩ := h.1
          have hql := getD_lt h4
          have hkl := getD_lt hx
          have := hok.apart k q _ _ x (lkAt_some hkl) (lkAt_some hql) hx h4
          omega
  · exact ⟨hbq, h1⟩
theorem Ord.use_has {k : Nat} {o : Ord} (hf : o.Fine k) {b : Nat} (hb : b < 64) (hh : o.has (b : Nat) = true) {x : Nat} (hx : x < 64) : (o.use b).has (x : Nat) = true ↔ o.has (x : Nat) = true := by
  cases o with
  | lru cap l =>
    simp only [Ord.has, Ord.use, decide_eq_true_eq, Int.toNat_natCast] at hh ⊢
    rw [if_pos hh.2]
    constructor
    · rintro ⟨h1, h2⟩
      refine ⟨h1, ?_⟩
      rcases List.mem_cons.1 h2 with rfl | h2
      · exact hh.2
      · exact (List.mem_filter.1 h2).1
    · rintro ⟨h1, h2⟩
      refine ⟨h1, ?_⟩
      by_cases hxb : x = b
      · rw [hxb]; exact List.mem_cons_self
      · exact List.mem_cons_of_mem _ (List.mem_filter.2 ⟨h2, by simpa using hxb⟩)
  | mq c s =>
    obtain ⟨h1, h2, _, _⟩ := hf
    have hq := h1.2.2.1
    simp only [Ord.has, Ord.use] at hh ⊢
    rw [hasI_iff hb] at hh
    rw [hasI_iff hx, hasI_iff hx]
    unfold MqS.use
    rw [if_pos (has_iff.2 hh), age_has hq (by rw [(place_same _ _ _).2.2]; show c.q ≤ s.L.length; omega), place_has hq (by show c.q ≤ s.L.length; omega)]
    show x = b ∨ hasQ s.L c.q x ↔ _
    constructor
    · rintro (rfl | h)
      · exact hh
      · exact h
    · exact fun h => .inr h
  | part c L =>
    simp only [Ord.has, Ord.use] at hh ⊢
    rw [lkI_nat hb] at hh
    rw [lkI_nat hx, lkI_nat hx]
    obtain ⟨r, hr⟩ := Option.isSome_iff_exists.1 hh
    unfold ptUse
    rw [hr]
    dsimp only
    obtain ⟨l, hl, hbl⟩ := lkOf_some hr
    have hrl : r < L.length := (List.getElem?_eq_some_iff.1 hl).1
    have key : ∀ M : List (List Nat), (lkOf M x).isSome = true ↔ hasQ M M.length x := by
      intro M
      rw [← lkOf_iff]
      constructor
      · intro h
        obtain ⟨k, hk⟩ := Option.isSome_iff_exists.1 h
        obtain ⟨l, hl, _⟩ := lkOf_some hk
        exact ⟨k, hk, (List.getElem?_eq_some_iff.1 hl).1⟩
      · rintro ⟨k, hk, _⟩; rw [hk]; rfl
    rw [key, key, lkPush_length, lkOut_length, hasQ_move]
    constructor
    · rintro (⟨rfl, _⟩ | h)
      · exact ⟨r, hrl, by rw [List.getD_eq_getElem?_getD, hl]; exact hbl⟩
      · exact h.1
    · intro h
      by_cases hxb : x = b
      · exact .inl ⟨hxb, hrl, hrl⟩
      · exact .inr ⟨h, hxb⟩
theorem Ord.remove_has {o : Ord} {b : Nat} {x : Nat} (hx : x < 64) (hb : b < 64) : (o.remove b).has (x : Nat) = true ↔ o.has (x : Nat) = true ∧ x ≠ b := by
  cases o with
  | lru cap l =>
    simp only [Ord.has, Ord.remove, decide_eq_true_eq, Int.toNat_natCast, List.mem_filter]
    constructor
    · rintro ⟨h1, h2, h3⟩; exact ⟨⟨h1, h2⟩, by simpa using h3⟩
    · rintro ⟨⟨h1, h2⟩, h3⟩; exact ⟨h1, h2, by simpa using h3⟩
  | mq c s =>
    simp only [Ord.has, Ord.remove]
    rw [hasI_iff hx, hasI_iff hx]
    split
    · exact hasQ_out
    · rename_i h
      constructor
      · intro h2
        exact ⟨h2, fun e => h (has_iff.2 (e ▸ h2))⟩
      · exact fun h => h.1
  | part c L =>
    simp only [Ord.has, Ord.remove]
    rw [lkI_nat hx, lkI_nat hx]
    have key : ∀ M : List (List Nat), (lkOf M x).isSome = true ↔ hasQ M M.length x := by
      intro M
      rw [← lkOf_iff]
      constructor
      · intro h
        obtain ⟨k, hk⟩ := Option.isSome_iff_exists.1 h
        obtain ⟨l, hl, _⟩ := lkOf_some hk
        exact ⟨k, hk, (List.getElem?_eq_some_iff.1 hl).1⟩
      · rintro ⟨k, hk, _⟩; rw [hk]; rfl
    rw [key, key, lkOut_length, hasQ_out]
end Go.Gd
namespace Go.Gd
theorem isSome_has {M : List (List Nat)} {x : Nat} : (lkOf M x).isSome = true ↔ hasQ M M.length x := by
  rw [← lkOf_iff]
  constructor
  · intro h
    obtain ⟨k, hk⟩ := Option.isSome_iff_exists.1 h
    obtain ⟨l, hl, _⟩ := lkOf_some hk
    exact ⟨k, hk, (List.getElem?_eq_some_iff.1 hl).1⟩
  · rintro ⟨k, hk, _⟩; rw [hk]; rfl
theorem make_has {c : MqC} {s : MqS} (hc : 1 ≤ c.cap) (hl : s.L.length = c.q + 1) (hok : LkOk s.L) {x : Nat} :
    (hasQ (MqS.make c s).1.L c.q x ↔ hasQ s.L c.q x ∧ (MqS.make c s).2 ≠ some x) ∧ (∀ v, (MqS.make c s).2 = some v → hasQ s.L c.q v) ∧ (MqS.make c s).1.L.length = s.L.length := by
  unfold MqS.make
  split
  · rename_i hcap
    obtain ⟨h1, h2⟩ := evict_has (q := c.q) (gh := c.gh) hl (lenN_pos (by omega)) hok (x := x)
    refine ⟨?_, fun v hv => by simp only [Option.some.injEq] at hv; rw [← hv]; exact h1, lkEvict_length _ _ _⟩
    show hasQ (lkEvict c.q c.gh s.L).1 c.q x ↔ _
    rw [h2]
    simp only [ne_eq, Option.some.injEq]
    exact ⟨fun h => ⟨h.1, fun e => h.2 e.symm⟩, fun h => ⟨h.1, fun e => h.2 e.symm⟩⟩
  · exact ⟨by simp, fun v hv => by simp at hv, rfl⟩
theorem Ord.add_has {k : Nat} {o : Ord} (hf : o.Fine k) (hlk : o.Lk) {b : Nat} (hb : b < 64) (ht : o.takes b) :
    (∀ x, x < 64 → ((o.add b).1.has (x : Nat) = true ↔ x = b ∨ (o.has (x : Nat) = true ∧ (o.add b).2 ≠ some x))) ∧ (∀ v, (o.add b).2 = some v → o.has (v : Nat) = true ∧ v ≠ b ∧ v < 64) ∧ (o.has (b : Nat) = true → (o.add b).2 = none) := by
  cases o with
  | lru cap l =>
    have hcap := hf.1
    have hlt := hf.2.2
    simp only [Ord.has, Ord.add, decide_eq_true_eq, Int.toNat_natCast]
    unfold lruAdd
    by_cases hm : b ∈ l
    · rw [if_pos hm]
      refine ⟨fun x hx => ?_, fun v hv => by simp at hv, fun _ => rfl⟩
      simp only [List.mem_cons, List.mem_filter, ne_eq, reduceCtorEq, not_false_eq_true, and_true]
      constructor
      · rintro ⟨h1, rfl | h2⟩
        · exact .inl rfl
        · exact .inr ⟨h1, h2.1⟩
      · rintro (rfl | h)
        · exact ⟨by omega, .inl rfl⟩
        · by_cases hxb : x = b
          · exact ⟨h.1, .inl hxb⟩
          · exact ⟨h.1, .inr ⟨h.2, by simpa using hxb⟩⟩
    · rw [if_neg hm]
      by_cases hroom : l.length + 1 ≤ cap
      · rw [if_pos hroom]
        refine ⟨fun x hx => ?_, fun v hv => by simp at hv, fun _ => rfl⟩
        simp only [List.mem_cons, ne_eq, reduceCtorEq, not_false_eq_true, and_true]
        constructor
        · rintro ⟨h1, rfl | h2⟩
          · exact .inl rfl
          · exact .inr ⟨h1, h2⟩
        · rintro (rfl | h)
          · exact ⟨by omega, .inl rfl⟩
          · exact ⟨h.1, .inr h.2⟩
      · rw [if_neg hroom]
        have hne : l ≠ [] := by intro e; subst e; simp at hroom; omega
        have hlast : (b :: l).getLast (by simp) = l.getLast hne := List.getLast_cons hne
        have hvm : l.getLast hne ∈ l := List.getLast_mem hne
        rw [hlast]
        generalize l.getLast hne = v at *
        have hvb : v ≠ b := fun e => hm (e ▸ hvm)
        refine ⟨fun x hx => ?_, fun u hu => ?_, fun h => absurd h.2 hm⟩
        · simp only [List.mem_filter, List.mem_cons, ne_eq, Option.some.injEq]
          constructor
          · rintro ⟨h1, h2, h3⟩
            have hxv : ¬ x = v := by simpa using h3
            rcases h2 with rfl | h2
            · exact .inl rfl
            · exact .inr ⟨⟨h1, h2⟩, fun e => hxv e.symm⟩
          · rintro (rfl | ⟨⟨h1, h2⟩, h3⟩)
            · exact ⟨by omega, .inl rfl, by simpa using fun e => hvb e.symm⟩
            · exact ⟨h1, .inr h2, by simpa using fun e => h3 e.symm⟩
        · simp only [Option.some.injEq] at hu
          subst hu
          have := hlt v hvm
          exact ⟨⟨by omega, hvm⟩, hvb, this⟩
  | mq c s =>
    obtain ⟨h1, h2, _, _⟩ := hf
    have hq := h1.2.2.1
    have hcap := h1.1
    simp only [Ord.has, Ord.add]
    unfold MqS.add
    by_cases hm : MqS.has c s b = true
    · rw [if_pos hm]
      refine ⟨fun x hx => ?_, fun v hv => by simp at hv, fun _ => rfl⟩
      have := Ord.use_has (k := k) (o := .mq c s) ⟨h1, h2, by assumption, by assumption⟩ hb (by show MqS.hasI c s (b : Nat) = true; rw [hasI_iff hb, ← has_iff]; exact hm) hx
      simp only [Ord.has, Ord.use] at this
      rw [this]
      simp only [ne_eq, reduceCtorEq, not_false_eq_true, and_true]
      constructor
      · exact fun h => .inr h
      · rintro (rfl | h)
        · rw [hasI_iff hb, ← has_iff]; exact hm
        · exact h
    · rw [if_neg hm]
      have hnb : ¬ hasQ s.L c.q b := fun h => hm (has_iff.2 h)
      have mk : ∀ x, _ := fun x => make_has (c := c) (s := s.tick) hcap h2 hlk (x := x)
      have hbl : ((MqS.make c s.tick).1.begins b).L = (MqS.make c s.tick).1.L := by unfold MqS.begins; split <;> rfl
      refine ⟨fun x hx => ?_, fun v hv => ?_, fun h => absurd ((hasI_iff hb).1 h) hnb⟩
      · rw [hasI_iff hx, hasI_iff hx]
        have hlen : c.q ≤ (((MqS.make c s.tick).1.begins b).more b).L.length := by
          show c.q ≤ ((MqS.make c s.tick).1.begins b).L.length
          rw [hbl, (mk x).2.2]; show c.q ≤ s.L.length; omega
        rw [age_has hq (by rw [(place_same _ _ _).2.2]; exact hlen), place_has hq hlen]
        show x = b ∨ hasQ ((MqS.make c s.tick).1.begins b).L c.q x ↔ _
        rw [hbl, (mk x).1]
        exact Iff.rfl
      · have hv' := (mk v).2.1 v hv
        have hvq : hasQ s.L c.q v := hv'
        have hvq2 := hvq
        obtain ⟨j, hj, hjv⟩ := hvq2
        have hv64 := lk_mem_lt hlk hjv
        exact ⟨(hasI_iff hv64).2 hvq, fun e => hnb (e ▸ hvq), hv64⟩
  | part c L =>
    obtain ⟨_, hL⟩ := hf
    have htk : 0 < c.part b := ht
    simp only [Ord.has, Ord.add]
    cases ho : lkOf L b with
    | some r =>
      have he : ptAdd c L b = (ptUse L b, none) := by unfold ptAdd; rw [ho]
      rw [he]
      refine ⟨fun x hx => ?_, fun v hv => by simp at hv, fun _ => rfl⟩
      have := Ord.use_has (k := k) (o := .part c L) ⟨by assumption, hL⟩ hb (by show (lkI L (b : Nat)).isSome = true; rw [lkI_nat hb, ho]; rfl) hx
      simp only [Ord.has, Ord.use] at this
      rw [this]
      simp only [ne_eq, reduceCtorEq, not_false_eq_true, and_true]
      constructor
      · exact fun h => .inr h
      · rintro (rfl | h)
        · rw [lkI_nat hb, ho]; rfl
        · exact h
    | none =>
      have hnb : ¬ hasQ L L.length b := fun h => by
        have := isSome_has.2 h
        rw [ho] at this; cases this
      obtain ⟨r, hr⟩ : ∃ r, rangeF c.l b = some r := by
        unfold PtC.part partF at htk
        cases hx : rangeF c.l b with
        | none => rw [hx] at htk; simp at htk
        | some r => exact ⟨r, rfl⟩
      have hrl := rangeF_lt hr
      have he : ptAdd c L b = if c.part b ≤ (L.getD r []).length then (lkPush (lkOut (lkOut L (ptGoes c L r b)) b) r b, some (ptGoes c L r b)) else (lkPush (lkOut L b) r b, none) := by
        unfold ptAdd; rw [ho]; simp only; rw [hr]
      rw [he]
      by_cases hfull : c.part b ≤ (L.getD r []).length
      · rw [if_pos hfull]
        have hgm := ptGoes_mem (c := c) (b := b) (show L.getD r [] ≠ [] by intro e; rw [e] at hfull; simp at hfull; omega)
        generalize ptGoes c L r b = v at *
        have hvq : hasQ L L.length v := ⟨r, by omega, hgm⟩
        have hv64 := lk_mem_lt hlk hgm
        have hvb : v ≠ b := fun e => hnb (e ▸ hvq)
        refine ⟨fun x hx => ?_, fun u hu => ?_, fun h => ?_⟩
        · rw [lkI_nat hx, lkI_nat hx, isSome_has, isSome_has, lkPush_length, lkOut_length, lkOut_length, hasQ_move, hasQ_out, lkOut_length]
          simp only [ne_eq, Option.some.injEq]
          constructor
          · rintro (⟨h, _⟩ | h)
            · exact .inl h
            · exact .inr ⟨h.1.1, fun e => h.1.2 e.symm⟩
          · intro h
            by_cases hxb : x = b
            · exact .inl ⟨hxb, by omega, by omega⟩
            · have := h.resolve_left hxb
              exact .inr ⟨⟨this.1, fun e => this.2 e.symm⟩, hxb⟩
        · simp only [Option.some.injEq] at hu
          subst hu
          exact ⟨by rw [lkI_nat hv64]; exact isSome_has.2 hvq, hvb, hv64⟩
        · rw [lkI_nat hb, ho] at h; cases h
      · rw [if_neg hfull]
        refine ⟨fun x hx => ?_, fun u hu => by simp at hu, fun _ => rfl⟩
        rw [lkI_nat hx, lkI_nat hx, isSome_has, isSome_has, lkPush_length, lkOut_length, hasQ_move]
        simp only [ne_eq, reduceCtorEq, not_false_eq_true, and_true]
        constructor
        · rintro (⟨h, _⟩ | h)
          · exact .inl h
          · exact .inr h.1
        · intro h
          by_cases hxb : x = b
          · exact .inl ⟨hxb, by omega, by omega⟩
          · exact .inr ⟨h.resolve_left hxb, hxb⟩
end Go.Gd
namespace Go.Gd
structure InvX (c : Cfg) (D : Dk) (S : Ca) (x0 : Option Nat) : Prop where
  i1 : ∀ b d, S.m b = some d → b < (shOf c).blocks ∧ (x0 ≠ some b → d = ((shOf c).blk D b).2)
  i2 : ∀ b, b < 64 → (S.o.has (b : Nat) = true ↔ S.m b ≠ none)
abbrev Inv (c : Cfg) (D : Dk) (S : Ca) : Prop := InvX c D S none
theorem shOf_blocks {c : Cfg} (h : cfgRight c = true) : ((shOf c).blocks : Int) = c.blocks ∧ (shOf c).blocks ≤ 32 ∧ ((shOf c).size : Int) = c.size := by
  obtain ⟨h1, h2, h3, h4, h5, h6, h7, h8, h9, h10, h11, h12, h13⟩ := (cfg_facts h).1
  unfold shOf
  dsimp only
  omega
section
variable {c : Cfg} {k : Nat} {S : Ca} {D : Dk} {x0 : Option Nat}
theorem put_yes {tier b level : Int} {d : List UInt8} (h1 : Ca.there c b) (h2 : (d.length : Int) = c.size) (h3 : Ca.takes c tier S b level) : S.put c tier b d level = ((S.add b.toNat d).1, (S.add b.toNat d).2, 0) := by
  unfold Ca.put
  rw [if_neg (by simpa using h1), if_neg (by simpa using h2), if_neg (by simpa using h3)]
theorem put_no {tier b level : Int} {d : List UInt8} (h : ¬ (Ca.there c b ∧ (d.length : Int) = c.size ∧ Ca.takes c tier S b level)) : (S.put c tier b d level).1 = S ∧ (S.put c tier b d level).2.1 = none := by
  classical
  unfold Ca.put
  by_cases h1 : Ca.there c b
  · rw [if_neg (by simpa using h1)]
    by_cases h2 : (d.length : Int) = c.size
    · rw [if_neg (by simpa using h2)]
      by_cases h3 : Ca.takes c tier S b level
      · exact absurd ⟨h1, h2, h3⟩ h
      · rw [if_pos h3]; exact ⟨rfl, rfl⟩
    · rw [if_pos h2]; exact ⟨rfl, rfl⟩
  · rw [if_pos h1]; exact ⟨rfl, rfl⟩
theorem takes_ord (hS : CaOk c k S) {tier b level : Int} (h : Ca.takes c tier S b level) : S.o.takes b.toNat := by
  by_cases hp : c.place = 2
  · exact h.2.2 hp
  · exact hS.takes hp _
end
theorem keep_S (c : Cfg) (A : Ar) (b level : Int) (d : List UInt8) :
    ((c.mode ≠ 2 ∨ level = 3 ∧ Ca.takes c 3 A.S b level) ∧ (Ar.keep c A b level d).1.S = (A.S.put c 3 b d level).1) ∨ (¬ (c.mode ≠ 2 ∨ level = 3 ∧ Ca.takes c 3 A.S b level) ∧ (Ar.keep c A b level d).1.S = (A.S.drop b).1) := by
  classical
  unfold Ar.keep
  by_cases h : c.mode ≠ 2 ∨ level = 3 ∧ Ca.takes c 3 A.S b level
  · rw [if_pos h]; exact .inl ⟨h, rfl⟩
  · rw [if_neg h]; exact .inr ⟨h, rfl⟩
theorem read_facts {s : Shp} {D : Dk} {b : Int} (h : (s.read D b).2.2 = 0) : 0 ≤ b ∧ b < s.blocks ∧ (s.read D b).1 = (s.blk D b.toNat).2 ∧ (s.read D b).2.1 = (s.blk D b.toNat).1 := by
  unfold Shp.read at h ⊢
  split
  · rename_i hb; exact ⟨hb.1, hb.2, rfl, rfl⟩
  · rename_i hb; rw [if_neg hb] at h; cases h
theorem keep_ok {c : Cfg} {k : Nat} {A : Ar} (h : CaOk c k A.S) (hk : k + 1 < 4611686018427387904) (b level : Int) {d : List UInt8} (hd : d.length ≤ 64) : CaOk c (k + 1) (Ar.keep c A b level d).1.S := by
  rcases keep_S c A b level d with ⟨_, e⟩ | ⟨_, e⟩
  · rw [e]; exact h.put hk 3 b hd level
  · rw [e]; exact (h.drop b).mono (Nat.le_succ _) hk
theorem use_len {c : Cfg} {k : Nat} {S : Ca} (h : CaOk c k S) (b : Int) : (S.use b).2.1.length ≤ 64 := by
  unfold Ca.use
  split
  · cases hx : S.m b.toNat with
    | none => simp
    | some d => exact h.size _ d hx
  · simp
theorem hear_ok {c : Cfg} {n k : Nat} {A : Ar} (hok : ArOk c n k A) (hk : k + 2 < 4611686018427387904) (m : Msg) : ArOk c n (k + 2) (A.hear c m).1 := by
  have hS := hok.S
  have hS2 : CaOk c (k + 2) A.S := hS.mono (by omega) hk
  have hr := hok.reads
  have hsh := shOf_ok hS.right
  unfold Ar.hear
  split
  · exact ⟨hS2, hok.need, hok.D, (by show A.reads ≤ _; omega)⟩
  · rename_i hright
    have hright : m.right = true := by
      cases hx : m.right with
      | true => rfl
      | false => exact absurd (.inr hx) hright
    have hdl : m.data.length ≤ 64 := (right_bounds hright).2.2.2.2.2.2.2
    split
    · unfold Ar.read
      split
      · split
        · have hkr := keep_reads c { A with S := (A.S.use m.block).1 } m.block m.level (A.S.use m.block).2.1
          exact ⟨keep_ok (A := { A with S := (A.S.use m.block).1 }) (hS.use (by omega) m.block) (by omega) _ _ (use_len hS _), hok.need, by rw [hkr.1]; exact hok.D, by rw [hkr.2.2]; show A.reads ≤ _; omega⟩
        · exact ⟨(hS.use (by omega) m.block).mono (by omega) hk, hok.need, hok.D, by show A.reads ≤ _; omega⟩
      · split
        · exact ⟨hS2, hok.need, hok.D, (by show A.reads ≤ _; omega)⟩
        · have hkr := keep_reads c { A with reads := A.reads + 1 } m.block m.level ((shOf c).read A.D m.block).1
          have hrl := read_len hsh A.D m.block
          exact ⟨(keep_ok (A := { A with reads := A.reads + 1 }) hS (by omega) _ _ (by omega)).mono (by omega) hk, hok.need, by rw [hkr.1]; exact hok.D, by rw [hkr.2.2]; show A.reads + 1 ≤ _; omega⟩
    · split
      · have hDw := Shp.write_ok hsh (msgW m) hok.D
        unfold Ar.write
        dsimp only
        split
        · split
          · have hkr := keep_reads c { A with D := ((shOf c).write (msgW m) A.D).2.2 } m.block m.level m.data
            exact ⟨(keep_ok (A := { A with D := ((shOf c).write (msgW m) A.D).2.2 }) hS (by omega) _ _ hdl).mono (by omega) hk, hok.need, by rw [hkr.1]; exact hDw, by rw [hkr.2.2]; show A.reads ≤ _; omega⟩
          · exact ⟨hS2, hok.need, hDw, by show A.reads ≤ _; omega⟩
        · split
          · exact ⟨hS2, hok.need, hDw, by show A.reads ≤ _; omega⟩
          · split
            · exact ⟨hS2, hok.need, hDw, by show A.reads ≤ _; omega⟩
            · exact ⟨hS2, hok.need, hDw, by show A.reads ≤ _; omega⟩
      · split
        · unfold Ar.demote
          split
          · exact ⟨(hS.put (by omega) 3 m.block hdl m.level).mono (by omega) hk, hok.need, hok.D, by show A.reads ≤ _; omega⟩
          · exact ⟨hS2, hok.need, hok.D, (by show A.reads ≤ _; omega)⟩
        · split
          · exact ⟨(hS.drop m.block).mono (by omega) hk, hok.need, hok.D, by show A.reads ≤ _; omega⟩
          · exact ⟨hS2, hok.need, hok.D, (by show A.reads ≤ _; omega)⟩
theorem CaOk.new {c : Cfg} (hr : cfgRight c = true) {tier : Nat} (ht : 1 ≤ tier ∧ tier ≤ 3) (x : CaN) : CaOk c 0 (Ca.new c tier x) := by
  obtain ⟨hP, h8, hh, _⟩ := cfg_facts hr
  refine ⟨hr, ordNew_fine hr ht x, by decide, fun i d h => (by cases h), fun hp => ?_, fun hp => ?_⟩
  · show ∃ pc, (Ord.new c tier x).isPart = some pc ∧ pc.Ok
    unfold Ord.new
    rw [if_pos hp]
    exact ⟨_, rfl, ⟨h8, hh, by show 1 ≤ tier ∧ tier ≤ 3; exact ht⟩⟩
  · show (Ord.new c tier x).isPart = none
    unfold Ord.new
    rw [if_neg hp]
    split <;> rfl
theorem new_hasNot (c : Cfg) (tier : Nat) (x : CaN) (b : Nat) : (Ord.new c tier x).has (b : Nat) = false := by
  have hno : ∀ n, lkOf (lkNew n) b = none := by
    intro n
    cases h : lkOf (lkNew n) b with
    | none => rfl
    | some k =>
      obtain ⟨l, hl, hb⟩ := lkOf_some h
      unfold lkNew at hl
      rw [List.getElem?_replicate] at hl
      split at hl
      · simp only [Option.some.injEq] at hl; subst hl; simp at hb
      · cases hl
  unfold Ord.new
  split
  · simp only [Ord.has, lkI]
    split
    · rw [show ((b : Nat) : Int).toNat = b from rfl, hno]; rfl
    · rfl
  · split
    · simp only [Ord.has, MqS.hasI, MqS.new, lkI]
      split
      · rename_i h; split at h
        · rw [show ((b : Nat) : Int).toNat = b from rfl, hno] at h; cases h
        · cases h
      · rfl
    · simp [Ord.has]
end Go.Gd
namespace Go.Gd
theorem nodup_len : ∀ {n : Nat} {l : List Nat}, l.Nodup → (∀ x ∈ l, x < n) → l.length ≤ n
  | 0, l, _, hl => by
    cases l with
    | nil => simp
    | cons x t => exact absurd (hl x List.mem_cons_self) (by omega)
  | n + 1, l, h, hl => by
    by_cases hn : n ∈ l
    · have h1 := nodup_len (n := n) (l := l.erase n) (h.erase n) (fun x hx => by
        have hx2 := (List.Nodup.mem_erase_iff h).1 hx
        have := hl x hx2.2
        have := hx2.1
        omega)
      rw [List.length_erase_of_mem hn] at h1
      omega
    · have := nodup_len (n := n) h (fun x hx => by
        have := hl x hx
        have : x ≠ n := fun e => hn (e ▸ hx)
        omega)
      omega
theorem move_get {L : List (List Nat)} {k b j : Nat} {l' : List Nat} (h : (lkPush (lkOut L b) k b)[j]? = some l') : ∃ l, L[j]? = some l ∧ ((j = k ∧ l' = b :: l.filter (· != b)) ∨ (j ≠ k ∧ l' = l.filter (· != b))) := by
  unfold lkPush lkOut at h
  rw [List.getElem?_modify, List.getElem?_map] at h
  cases hl : L[j]? with
  | none => rw [hl] at h; simp at h
  | some l =>
    rw [hl] at h
    refine ⟨l, rfl, ?_⟩
    by_cases hj : k = j
    · simp only [hj, if_true, Option.map_some, Option.map_eq_map, Option.some.injEq] at h
      exact .inl ⟨hj.symm, h.symm⟩
    · simp only [hj, if_false, Option.map_some, Option.map_eq_map, Option.some.injEq] at h
      exact .inr ⟨fun e => hj e.symm, h.symm⟩
theorem LkOk.move {L : List (List Nat)} (h : LkOk L) {b k : Nat} (hb : b < 64) : LkOk (lkPush (lkOut L b) k b) := by
  have hnd : ∀ (j : Nat) (l : List Nat), (lkPush (lkOut L b) k b)[j]? = some l → l.Nodup := by
    intro j l' hl
    obtain ⟨l, h1, ⟨_, rfl⟩ | ⟨_, rfl⟩⟩ := move_get hl
    · exact List.nodup_cons.2 ⟨by simp, (h.nodup j l h1).filter _⟩
    · exact (h.nodup j l h1).filter _
  have hlt : ∀ (j : Nat) (l : List Nat) (x : Nat), (lkPush (lkOut L b) k b)[j]? = some l → x ∈ l → x < 64 := by
    intro j l' x hl hx
    obtain ⟨l, h1, ⟨_, rfl⟩ | ⟨_, rfl⟩⟩ := move_get hl
    · rcases List.mem_cons.1 hx with rfl | hx
      · exact hb
      · exact h.lt j l x h1 (List.mem_filter.1 hx).1
    · exact h.lt j l x h1 (List.mem_filter.1 hx).1
  refine ⟨hnd, ?_, hlt, by rw [lkPush_length, lkOut_length]; exact h.many, fun j l hl => nodup_len (hnd j l hl) (fun x hx => hlt j l x hl hx)⟩
  intro j j' l1 l2 x h1 h2 hx1 hx2
  obtain ⟨m1, g1, c1⟩ := move_get h1
  obtain ⟨m2, g2, c2⟩ := move_get h2
  rcases c1 with ⟨e1, rfl⟩ | ⟨e1, rfl⟩ <;> rcases c2 with ⟨e2, rfl⟩ | ⟨e2, rfl⟩
  · omega
  · rcases List.mem_cons.1 hx1 with rfl | hx1
    · simp at hx2
    · exact h.apart j j' m1 m2 x g1 g2 (List.mem_filter.1 hx1).1 (List.mem_filter.1 hx2).1
  · rcases List.mem_cons.1 hx2 with rfl | hx2
    · simp at hx1
    · exact h.apart j j' m1 m2 x g1 g2 (List.mem_filter.1 hx1).1 (List.mem_filter.1 hx2).1
  · exact h.apart j j' m1 m2 x g1 g2 (List.mem_filter.1 hx1).1 (List.mem_filter.1 hx2).1
theorem age1_lk {c : MqC} {s : MqS} {n : Nat} (h : LkOk s.L) : LkOk (MqS.age1 c s n).L := by
  unfold MqS.age1
  split
  · rename_i b hb
    split
    · exact h.move (lk_mem_lt h (lkLast_mem hb))
    · exact h
  · exact h
theorem ageN_lk {c : MqC} {s : MqS} (h : LkOk s.L) : ∀ n, LkOk (MqS.ageN c s n).L
  | 0 => h
  | n + 1 => age1_lk (ageN_lk h n)
theorem Ord.use_lk {o : Ord} (h : o.Lk) {b : Nat} (hb : b < 64) : (o.use b).Lk := by
  cases o with
  | lru cap l =>
    show LkOk [if b ∈ l then b :: l.filter (· != b) else l]
    split
    · have := LkOk.move (L := [l]) h (b := b) (k := 0) hb
      exact this
    · exact h
  | mq c s =>
    show LkOk (MqS.use c s b).L
    unfold MqS.use
    split
    · exact ageN_lk (s := MqS.place c (s.tick.more b) b) (LkOk.move (L := s.L) h hb) _
    · exact h
  | part c L =>
    show LkOk (ptUse L b)
    unfold ptUse
    split
    · exact h.move hb
    · exact h
end Go.Gd
