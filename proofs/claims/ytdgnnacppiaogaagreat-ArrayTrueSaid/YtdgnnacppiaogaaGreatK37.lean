/- The statements own small functions: the example, what is too long; when messages are the same. Conditions: those in the theorems. The plain law of orders: who is there behind each operation. Conditions: those in the theorems. The plain law of orders: who is there behind Add. Conditions: those in the theorems. The plain law of an array: what the cache has is what the store has. Conditions: those in the theorems. -/
import Derived.Test.YtdgnnacppiaogaaGreatK36
import Derived.Test.YtdgnnacppiaogaaGreatK33
set_option linter.unusedVariables false
set_option linter.unusedSimpArgs false
namespace Go.Gd
open Go.Instr
attribute [local irreducible] loadAt storeAt fieldAt indexAt alloc box build buildSlice hNil eqG binOp Op.unary extract makeSlice makeInterface makeFunc convert hV mV pV hU hF hFV hI hIf hGuard hPick hJ hDraw hLoop ro Instr.index dkH arH outH
theorem und4 : P.underlying 4 = some .bool := by unfold P; kernel_rfl
theorem msg_ext {m m' : Msg} (h1 : m.kind = m'.kind) (h2 : msgN m = msgN m') (h3 : m.grant = m'.grant) (h4 : m.data = m'.data) : m = m' := by
  obtain ⟨a1, a2, a3, a4, a5, a6, a7, a8, a9, a10, a11⟩ := m
  obtain ⟨b1, b2, b3, b4, b5, b6, b7, b8, b9, b10, b11⟩ := m'
  simp only [msgN, List.cons.injEq, and_true] at h1 h2 h3 h4
  obtain ⟨e1, e2, e3, e4, e5, e6, e7, e8⟩ := h2
  subst h1; subst h3; subst h4; subst e1; subst e2; subst e3; subst e4; subst e5; subst e6; subst e7; subst e8
  rfl
structure ActS where
  fuse : Int
  m : Msg
def actL (x : ActS × Value) : List Value := .int .i64 x.1.fuse :: msgL x.1.m x.2
def actsV (xs : List (ActS × Value)) : List Value := xs.flatMap actL
theorem actL_len (x : ActS × Value) : (actL x).length = 12 := rfl
theorem actsV_len (xs : List (ActS × Value)) : (actsV xs).length = xs.length * 12 := by
  unfold actsV
  induction xs with
  | nil => rfl
  | cons h l ih => simp only [List.flatMap_cons, List.length_append, actL_len, ih, List.length_cons]; omega
theorem actsV_get : ∀ {xs : List (ActS × Value)} {i : Nat} {x : ActS × Value}, xs[i]? = some x → ∀ j v, (actL x)[j]? = some v → (actsV xs)[i * 12 + j]? = some v
  | [], i, h, hi, j, v, hj => by simp at hi
  | x :: l, 0, h, hi, j, v, hj => by
    simp only [List.getElem?_cons_zero, Option.some.injEq] at hi
    subst hi
    have : j < (actL x).length := (List.getElem?_eq_some_iff.1 hj).1
    unfold actsV
    rw [List.flatMap_cons, List.getElem?_append_left (by omega), Nat.zero_mul, Nat.zero_add]; exact hj
  | x :: l, i + 1, h, hi, j, v, hj => by
    have := actsV_get (xs := l) (i := i) (x := h) (by simpa using hi) j v hj
    unfold actsV at *
    rw [List.flatMap_cons, List.getElem?_append_right (by rw [actL_len]; omega), actL_len, show (i + 1) * 12 + j - 12 = i * 12 + j by omega]; exact this
theorem msgsV_get : ∀ {xs : List (Msg × Value)} {i : Nat} {x : Msg × Value}, xs[i]? = some x → ∀ j v, (msgL x.1 x.2)[j]? = some v → (msgsV xs)[i * 11 + j]? = some v
  | [], i, h, hi, j, v, hj => by simp at hi
  | x :: l, 0, h, hi, j, v, hj => by
    simp only [List.getElem?_cons_zero, Option.some.injEq] at hi
    subst hi
    have : j < (msgL x.1 x.2).length := (List.getElem?_eq_some_iff.1 hj).1
    unfold msgsV
    rw [List.flatMap_cons, List.getElem?_append_left (by omega), Nat.zero_mul, Nat.zero_add]; exact hj
  | x :: l, i + 1, h, hi, j, v, hj => by
    have := msgsV_get (xs := l) (i := i) (x := h) (by simpa using hi) j v hj
    unfold msgsV at *
    rw [List.flatMap_cons, List.getElem?_append_right (by simp [msgL]; omega)]
    have e : (i + 1) * 11 + j - (msgL x.1 x.2).length = i * 11 + j := by show (i + 1) * 11 + j - 11 = _; omega
    rw [e]; exact this
def adatH (w0 : World) : List (ActS × Value) → HP
  | [] => pureH True
  | x :: t => star [roB w0 x.2 x.1.m.data, adatH w0 t]
theorem Pers.adat (w0 : World) : ∀ xs, Pers (adatH w0 xs)
  | [] => Pers.pure _
  | _ :: t => Pers.star2 (Pers.ro _ _ _ _ _) (Pers.adat w0 t)
theorem Imp.adatGet {w0 : World} : ∀ {xs : List (ActS × Value)} {i : Nat} {x : ActS × Value}, xs[i]? = some x → ∀ {L : List HP}, Imp (adatH w0 xs :: L) (roB w0 x.2 x.1.m.data :: adatH w0 xs :: L)
  | [], i, x, h, L => by simp at h
  | y :: t, 0, x, h, L => by
    simp only [List.getElem?_cons_zero, Option.some.injEq] at h
    subst h
    refine Imp.starE ?_
    show Imp (roB w0 y.2 y.1.m.data :: adatH w0 t :: L) _
    exact (Imp.dup1 (Pers.ro _ _ _ _ _)).trans (Imp.cons (Imp.starI (M := [roB w0 y.2 y.1.m.data, adatH w0 t]) (Imp.refl _)))
  | y :: t, i + 1, x, h, L => by
    refine Imp.starE ?_
    show Imp (roB w0 y.2 y.1.m.data :: adatH w0 t :: L) _
    refine (Imp.cons (Imp.adatGet (xs := t) (i := i) (x := x) (by simpa using h))).trans ?_
    exact (Imp.perm (List.Perm.swap _ _ _)).trans (Imp.cons (Imp.starI (M := [roB w0 y.2 y.1.m.data, adatH w0 t]) (Imp.refl _)))
theorem Imp.datGet {w0 : World} : ∀ {xs : List (Msg × Value)} {i : Nat} {x : Msg × Value}, xs[i]? = some x → ∀ {L : List HP}, Imp (datH w0 xs :: L) (roB w0 x.2 x.1.data :: datH w0 xs :: L)
  | [], i, x, h, L => by simp at h
  | y :: t, 0, x, h, L => by
    simp only [List.getElem?_cons_zero, Option.some.injEq] at h
    subst h
    refine Imp.starE ?_
    show Imp (roB w0 y.2 y.1.data :: datH w0 t :: L) _
    exact (Imp.dup1 (Pers.ro _ _ _ _ _)).trans (Imp.cons (Imp.starI (M := [roB w0 y.2 y.1.data, datH w0 t]) (Imp.refl _)))
  | y :: t, i + 1, x, h, L => by
    refine Imp.starE ?_
    show Imp (roB w0 y.2 y.1.data :: datH w0 t :: L) _
    refine (Imp.cons (Imp.datGet (xs := t) (i := i) (x := x) (by simpa using h))).trans ?_
    exact (Imp.perm (List.Perm.swap _ _ _)).trans (Imp.cons (Imp.starI (M := [roB w0 y.2 y.1.data, datH w0 t]) (Imp.refl _)))
def longP (c : Cfg) (xs : List (ActS × Value)) : Prop := 20 < c.hints.length ∨ 100 < xs.length ∨ ∃ x ∈ xs, 100 < x.1.m.data.length
section
variable {w0 : World} {L : List HP}
theorem run_eqB {lit : Bool} (a b : Bool) : Run w0 L (eqG lit .eql 4 (.bool a) (.bool b)) (.bool (a == b)) := fun w _ => by
  have e : (Op.equalIn (9999 + 1) 4 (.bool a) (.bool b)).run P w = .ok (a == b) w := by
    unfold Op.equalIn; simp only [Sem.run_bind, run_underlying und4, Result.andThen_ok]; rfl
  simp only [eqG, eqGd, binOp, Op.equal, Op.maxDepth, Sem.run_bind, Sem.run_pure, Result.andThen_ok]
  rw [show (10000 : Nat) = 9999 + 1 from rfl, e]; rfl
theorem RdS.cellA {a : Option Addr} {n cap : Nat} {xs : List (ActS × Value)} (h : RdS w0 L (.slice a n cap) 12 n (actsV xs)) {i : Nat} {x : ActS × Value} (hx : xs[i]? = some x) :
    ∃ b o, a = some ⟨b, o, none⟩ ∧ ∀ j u, (actL x)[j]? = some u → Cell w0 L ⟨b, o + i * 12 + j, none⟩ u := by
  obtain ⟨a', c', e1, e2, e3⟩ := h
  cases e1
  rcases e3 with e3 | ⟨b, o, rfl, hc⟩
  · have := congrArg List.length e3
    rw [actsV_len] at this
    have := (List.getElem?_eq_some_iff.1 hx).1
    simp at *; omega
  · exact ⟨b, o, rfl, fun j u hj => by rw [Nat.add_assoc]; exact hc _ _ (actsV_get hx j u hj)⟩
theorem rf_sameMsg (m m' : Msg) (mv mv' : Value) (q : Bool) (hq : q = true ↔ m = m') (h1 : m.data.length ≤ 1099511627776) (h2 : m'.data.length ≤ 1099511627776) :
    Spec w0 45 [.agg (msgL m mv).toArray, .agg (msgL m' mv').toArray] [roB w0 mv m.data, roB w0 mv' m'.data] (fun _ : Unit => .bool q) (fun _ => []) := by
  refine spec_go (fun R w => H45) fun F => ?_
  show Ent w0 (roB w0 mv m.data :: roB w0 mv' m'.data :: F) _
  have hno : m ≠ m' → q = false := fun h => by cases q with | false => rfl | true => exact absurd (hq.1 rfl) h
  unfold F45
  refine ent_box fun a => ?_
  rw [agg_cells, List.toList_toArray]
  refine ent_box fun b => ?_
  rw [agg_cells, List.toList_toArray]
  refine ent_q (run_loadA (vs := msgL m mv) rfl (cells_all 1 rfl)) ?_
  refine ent_call (rf_numbers m mv) (Imp.refl _) fun v1 => ?_
  refine ent_q (run_loadA (vs := msgL m' mv') rfl (cells_all 1 rfl)) ?_
  refine ent_call (rf_numbers m' mv') (Imp.refl _) fun v2 => ?_
  refine Ent.imp (L' := pt a 37 (msgL m mv) :: pt b 37 (msgL m' mv') :: ro w0 v1 1 8 (inV (msgN m)) :: ro w0 v2 1 8 (inV (msgN m')) :: roB w0 mv m.data :: roB w0 mv' m'.data :: F) (by (repeat (first | refine Imp.pick 0 rfl ?_ | refine Imp.pick 1 rfl ?_ | refine Imp.pick 2 rfl ?_ | refine Imp.pick 3 rfl ?_)); exact Imp.refl _) ?_
  (repeat refine ent_q (run_fieldZ _ _) ?_)
  refine ent_q (run_load (v := .int .i64 m.kind) (cell_own 0 rfl rfl)) ?_
  (repeat refine ent_q (run_fieldZ _ _) ?_)
  refine ent_q (run_load (v := .int .i64 m'.kind) (cell_own 1 rfl rfl)) ?_
  refine ent_qb (run_eq _ _) (fun c1 => ?_) (fun c1 => ?_)
  rotate_left
  · (repeat (first | refine ent_gF ?_ | refine ent_pF ?_ | refine ent_j ?_))
    exact ent_ret () (by rw [hno (fun e => c1 (by rw [e]))]) (by exact Imp.trans Imp.drop1 (Imp.trans Imp.drop1 (Imp.trans Imp.drop1 (Imp.trans Imp.drop1 (Imp.trans Imp.drop1 (Imp.drop1))))))
  (repeat (first | refine ent_gT ?_ | refine ent_j ?_))
  refine ent_call (rf_sameInts v1 v2 (msgN m) (msgN m') (by show 8 ≤ _; omega) (by show 8 ≤ _; omega)) (by (repeat refine Imp.pick 2 rfl ?_); exact Imp.refl _) fun _ => ?_
  by_cases c2 : msgN m = msgN m'
  rotate_left
  · rw [decide_eq_false c2]
    (repeat (first | refine ent_gF ?_ | refine ent_pT ?_ | refine ent_pF ?_ | refine ent_j ?_))
    exact ent_ret () (by rw [hno (fun e => c2 (by rw [e]))]) (by exact Imp.trans Imp.drop1 (Imp.trans Imp.drop1 (Imp.trans Imp.drop1 (Imp.drop1))))
  rw [decide_eq_true c2]
  (repeat (first | refine ent_q (run_field0 _) ?_ | refine ent_gT ?_ | refine ent_pT ?_ | refine ent_j ?_))
  refine ent_q (run_load (v := .bool m.grant) (cell_own 0 rfl rfl)) ?_
  (repeat refine ent_q (run_field0 _) ?_)
  refine ent_q (run_load (v := .bool m'.grant) (cell_own 1 rfl rfl)) ?_
  refine ent_q (run_eqB _ _) ?_
  by_cases c3 : m.grant = m'.grant
  rotate_left
  · rw [beq_eq_false_iff_ne.2 c3]
    (repeat (first | refine ent_gF ?_ | refine ent_pT ?_ | refine ent_pF ?_))
    exact ent_ret () (by rw [hno (fun e => c3 (by rw [e]))]) (by exact Imp.trans Imp.drop1 (Imp.trans Imp.drop1 (Imp.trans Imp.drop1 (Imp.drop1))))
  rw [beq_iff_eq.2 c3]
  (repeat (first | refine ent_q (run_field0 _) ?_ | refine ent_gT ?_ | refine ent_pT ?_))
  refine ent_q (run_load (v := mv) (cell_own 0 rfl rfl)) ?_
  (repeat refine ent_q (run_field0 _) ?_)
  refine ent_q (run_load (v := mv') (cell_own 1 rfl rfl)) ?_
  refine ent_call (rf_same mv mv' m.data m'.data h1 h2) (by (repeat refine Imp.pick 2 rfl ?_); exact Imp.refl _) fun _ => ?_
  by_cases c4 : m.data = m'.data
  rotate_left
  · rw [decide_eq_false c4]
    (repeat refine ent_pT ?_)
    exact ent_ret () (by rw [hno (fun e => c4 (by rw [e]))]) (by exact Imp.trans Imp.drop1 (Imp.drop1))
  rw [decide_eq_true c4]
  (repeat refine ent_pT ?_)
  exact ent_ret () (by rw [hq.2 (msg_ext c1 c2 c3 c4)]) (by exact Imp.trans Imp.drop1 (Imp.drop1))
theorem rf_long (c : Cfg) (lv : Value) (xs : List (ActS × Value)) (q : Bool) (hq : q = true ↔ longP c xs) :
    Spec w0 11 [cfgV c, lv] [ro w0 c.hv 4 c.hints.length (hintsV c.hints), ro w0 lv 12 xs.length (actsV xs), adatH w0 xs] (fun _ : Unit => .bool q) (fun _ => []) := by
  refine spec_go (fun R w => H11) fun F => ?_
  show Ent w0 (ro w0 c.hv 4 c.hints.length (hintsV c.hints) :: ro w0 lv 12 xs.length (actsV xs) :: adatH w0 xs :: F) _
  have yes : longP c xs → q = true := hq.2
  unfold F11
  refine ent_box fun cb => ?_
  rw [agg_cells, List.toList_toArray]
  (repeat refine ent_q (run_field0 _) ?_)
  refine ent_q (run_load (v := c.hv) (cell_own 0 rfl rfl)) ?_
  refine ent_q (run_lenR 1 rfl) ?_
  refine ent_qb (run_gt _ _) (fun c1 => ?_) (fun c1 => ?_)
  · (repeat (first | refine ent_ifT ?_ | refine ent_gF' ?_ | refine ent_pT ?_ | refine ent_j ?_))
    exact ent_ret () (by rw [yes (.inl (by omega))]) (by exact Imp.trans Imp.drop1 (Imp.trans Imp.drop1 (Imp.trans Imp.drop1 (Imp.drop1))))
  (repeat (first | refine ent_gT ?_ | refine ent_j ?_))
  refine ent_q (run_lenR 2 rfl) ?_
  refine ent_qb (run_gt _ _) (fun c2 => ?_) (fun c2 => ?_)
  · (repeat (first | refine ent_ifT ?_ | refine ent_pF ?_))
    exact ent_ret () (by rw [yes (.inr (.inl (by omega)))]) (by exact Imp.trans Imp.drop1 (Imp.trans Imp.drop1 (Imp.trans Imp.drop1 (Imp.drop1))))
  (repeat (first | refine ent_ifF ?_ | refine ent_pF ?_))
  refine ent_q (run_lenR 2 rfl) ?_
  refine Ent.at 2 rfl (Ent.ro fun aa ca Ra hav hal hard => ?_)
  subst hav
  refine ent_loop (ι := Nat) (fun i => i ≤ xs.length ∧ ∀ x ∈ xs.take i, x.1.m.data.length ≤ 100) (fun i => [.int .i64 (i : Nat), .bool false]) (fun i => adatH w0 xs :: Ra :: F) (fun i => xs.length - i) 0 ⟨by simp, by simp⟩ rfl (by (repeat (first | refine Imp.pick 0 rfl ?_ | refine Imp.pick 4 rfl ?_)); exact Imp.trans Imp.drop1 (Imp.trans Imp.drop1 (Imp.drop1))) ?_
  rintro i ⟨hi, hti⟩ g next hnext
  show Ent w0 _ (hV P (binOp .lss 3 (.int .i64 (i : Nat)) (.int .i64 (xs.length : Nat))) _)
  refine ent_qb (run_lt _ _) (fun h => ?_) (fun h => ?_)
  · refine ent_ifT ?_
    have hia : i < xs.length := by omega
    have ga : xs[i]? = some xs[i] := List.getElem?_eq_getElem hia
    have hgen : xs.take (i + 1) = xs.take i ++ [xs[i]] := List.take_succ_eq_append_getElem hia
    generalize xs[i] = x at *
    refine Ent.imp (Imp.adatGet ga) ?_
    obtain ⟨b1, o1, rfl, hc1⟩ := RdS.cellA (hard (roB w0 x.2 x.1.m.data :: adatH w0 xs :: Ra :: F) 2 rfl) ga
    refine ent_q (run_indexS i rfl hia) ?_
    refine ent_q (run_field _ _) ?_
    refine ent_q (run_field _ _) ?_
    refine ent_q (run_load (hc1 11 x.2 rfl)) ?_
    refine ent_q (run_lenR 0 rfl) ?_
    refine ent_qb (run_gt _ _) (fun hx => ?_) (fun hx => ?_)
    · (repeat refine ent_ifT ?_)
      exact ent_ret () (by rw [yes (.inr (.inr ⟨x, List.mem_of_getElem? ga, by omega⟩))]) (by exact Imp.trans Imp.drop1 (Imp.trans Imp.drop1 (Imp.drop1)))
    · (repeat refine ent_ifF ?_)
      refine ent_q (run_add64 (by omega)) ?_
      refine Ent.imp Imp.drop1 (hnext (i + 1) ⟨by omega, ?_⟩ (by omega))
      rw [hgen]
      intro y hy
      rcases List.mem_append.1 hy with hy | hy
      · exact hti y hy
      · rw [List.mem_singleton] at hy; subst hy; omega
  · refine ent_ifF ?_
    have hia : i = xs.length := by omega
    rw [hia, List.take_length] at hti
    have : q = false := by
      cases q with
      | false => rfl
      | true =>
        rcases hq.1 rfl with h | h | ⟨x, hx, h⟩
        · omega
        · omega
        · have := hti x hx; omega
    exact ent_ret () (by rw [this]) (by exact Imp.trans Imp.drop1 (Imp.drop1))
end
end Go.Gd
namespace Go.Gd
def hasQ (L : List (List Nat)) (q x : Nat) : Prop := ∃ k, k < q ∧ x ∈ L.getD k []
theorem getD_lt {L : List (List Nat)} {k x : Nat} (h : x ∈ L.getD k []) : k < L.length := by
  rcases Nat.lt_or_ge k L.length with h1 | h1
  · exact h1
  · rw [List.getD_eq_getElem?_getD, List.getElem?_eq_none h1] at h; simp at h
theorem lkOf_iff {L : List (List Nat)} {q x : Nat} : (∃ k, lkOf L x = some k ∧ k < q) ↔ hasQ L q x := by
  constructor
  · rintro ⟨k, h1, h2⟩
    obtain ⟨l, hl, hx⟩ := lkOf_some h1
    exact ⟨k, h2, by rw [List.getD_eq_getElem?_getD, hl]; exact hx⟩
  · rintro ⟨j, hj, hx⟩
    have hjl := getD_lt hx
    have hxl : x ∈ L[j] := by rw [List.getD_eq_getElem?_getD, List.getElem?_eq_getElem hjl] at hx; exact hx
    cases ho : lkOf L x with
    | none => exact absurd hxl (lkOf_none ho _ (List.getElem_mem _))
    | some k =>
      refine ⟨k, rfl, ?_⟩
      obtain ⟨hk, h1, h2⟩ := List.findIdx?_eq_some_iff_getElem.1 ho
      rcases Nat.lt_or_ge j k with h3 | h3
      · have := h2 j h3
        simp [hxl] at this
      · omega
theorem mem_lkOut {L : List (List Nat)} {b k x : Nat} : x ∈ (lkOut L b).getD k [] ↔ x ∈ L.getD k [] ∧ x ≠ b := by
  unfold lkOut
  rw [List.getD_eq_getElem?_getD, List.getD_eq_getElem?_getD, List.getElem?_map]
  cases L[k]? with
  | none => simp
  | some l => simp
theorem mem_lkPush {L : List (List Nat)} {j b k x : Nat} : x ∈ (lkPush L j b).getD k [] ↔ (k = j ∧ j < L.length ∧ x = b) ∨ x ∈ L.getD k [] := by
  unfold lkPush
  rw [List.getD_eq_getElem?_getD, List.getD_eq_getElem?_getD, List.getElem?_modify]
  by_cases h : j = k
  · subst h
    rcases Nat.lt_or_ge j L.length with h1 | h1
    · rw [List.getElem?_eq_getElem h1]; simp [h1]
    · rw [List.getElem?_eq_none h1]; simp; omega
  · have e : ((fun a => if j = k then b :: a else a) <$> L[k]?) = L[k]? := by
      cases L[k]? with
      | none => rfl
      | some l => simp [h]
    rw [e]
    simp [Ne.symm h]
theorem hasQ_out {L : List (List Nat)} {q b x : Nat} : hasQ (lkOut L b) q x ↔ hasQ L q x ∧ x ≠ b := by
  unfold hasQ
  constructor
  · rintro ⟨k, h1, h2⟩
    rw [mem_lkOut] at h2
    exact ⟨⟨k, h1, h2.1⟩, h2.2⟩
  · rintro ⟨⟨k, h1, h2⟩, h3⟩
    exact ⟨k, h1, mem_lkOut.2 ⟨h2, h3⟩⟩
theorem hasQ_push {L : List (List Nat)} {q j b x : Nat} : hasQ (lkPush L j b) q x ↔ (x = b ∧ j < q ∧ j < L.length) ∨ hasQ L q x := by
  unfold hasQ
  constructor
  · rintro ⟨k, h1, h2⟩
    rcases mem_lkPush.1 h2 with ⟨rfl, h3, h4⟩ | h3
    · exact .inl ⟨h4, h1, h3⟩
    · exact .inr ⟨k, h1, h3⟩
  · rintro (⟨rfl, h1, h2⟩ | ⟨k, h1, h2⟩)
    · exact ⟨j, h1, mem_lkPush.2 (.inl ⟨rfl, h2, rfl⟩)⟩
    · exact ⟨k, h1, mem_lkPush.2 (.inr h2)⟩
theorem hasQ_move {L : List (List Nat)} {q j b x : Nat} : hasQ (lkPush (lkOut L b) j b) q x ↔ (x = b ∧ j < q ∧ j < L.length) ∨ (hasQ L q x ∧ x ≠ b) := by
  rw [hasQ_push, hasQ_out, lkOut_length]
theorem has_iff {c : MqC} {s : MqS} {x : Nat} : MqS.has c s x = true ↔ hasQ s.L c.q x := by
  rw [← lkOf_iff]
  unfold MqS.has
  cases lkOf s.L x with
  | none => simp
  | some k => simp
theorem hasI_iff {c : MqC} {s : MqS} {x : Nat} (hx : x < 64) : MqS.hasI c s (x : Nat) = true ↔ hasQ s.L c.q x := by
  rw [← has_iff]
  unfold MqS.hasI MqS.has
  rw [lkI_nat hx]
theorem age1_has {c : MqC} {s : MqS} {n x : Nat} (hn : 1 ≤ n ∧ n < c.q) (hl : c.q ≤ s.L.length) : hasQ (MqS.age1 c s n).L c.q x ↔ hasQ s.L c.q x := by
  unfold MqS.age1
  split
  · rename_i b hb
    split
    · show hasQ (lkPush (lkOut s.L b) (n - 1) b) c.q x ↔ _
      have hbq : hasQ s.L c.q b := ⟨n, hn.2, lkLast_mem hb⟩
      rw [hasQ_move]
      constructor
      · rintro (⟨rfl, _⟩ | h)
        · exact hbq
        · exact h.1
      · intro h
        by_cases hx : x = b
        · exact .inl ⟨hx, by omega, by omega⟩
        · exact .inr ⟨h, hx⟩
    · exact Iff.rfl
  · exact Iff.rfl
theorem ageN_has {c : MqC} {s : MqS} {x : Nat} (hl : c.q ≤ s.L.length) : ∀ {n : Nat}, n < c.q → (hasQ (MqS.ageN c s n).L c.q x ↔ hasQ s.L c.q x)
  | 0, _ => Iff.rfl
  | n + 1, hn => by
    have ih := ageN_has (x := x) hl (n := n) (by omega)
    have hl' : c.q ≤ (MqS.ageN c s n).L.length := by rw [(ageN_same c s n).2.2]; exact hl
    exact (age1_has ⟨by omega, hn⟩ hl').trans ih
theorem age_has {c : MqC} {s : MqS} {x : Nat} (hq : 1 ≤ c.q) (hl : c.q ≤ s.L.length) : hasQ (MqS.age c s).L c.q x ↔ hasQ s.L c.q x := ageN_has hl (by omega)
theorem place_has {c : MqC} {s : MqS} {b x : Nat} (hq : 1 ≤ c.q) (hl : c.q ≤ s.L.length) : hasQ (MqS.place c s b).L c.q x ↔ x = b ∨ hasQ s.L c.q x := by
  show hasQ (lkPush (lkOut s.L b) (min (Lib.bitLen (s.oft b) - 1) (c.q - 1)) b) c.q x ↔ _
  rw [hasQ_move]
  constructor
  · rintro (⟨h, _⟩ | h)
    · exact .inl h
    · exact .inr h.1
  · intro h
    by_cases hx : x = b
    · exact .inl ⟨hx, by omega, by omega⟩
    · exact .inr ⟨h.resolve_left hx, hx⟩
theorem evict_has {q gh : Nat} {L : List (List Nat)} (hl : L.length = q + 1) (hne : ∃ k, k < q ∧ (L.getD k []).isEmpty = false) (hok : LkOk L) {x : Nat} :
    hasQ L q (lkEvict q gh L).2 ∧ (hasQ (lkEvict q gh L).1 q x ↔ hasQ L q x ∧ x ≠ (lkEvict q gh L).2) := by
  obtain ⟨k0, hk0, hk1⟩ := hne
  obtain ⟨hf1, hf2⟩ := fstN_spec (L := L) (q := q) q 0 (by omega) ⟨k0, by omega, hk0, hk1⟩
  obtain ⟨b, hb, hbm⟩ := lkLast_some hf2
  have hbq : hasQ L q b := ⟨_, hf1, hbm⟩
  unfold lkEvict
  rw [hb]
  dsimp only
  have h1 : hasQ (lkPush (lkOut L b) q b) q x ↔ hasQ L q x ∧ x ≠ b := by
    rw [hasQ_move]
    constructor
    · rintro (⟨_, h, _⟩ | h)
      · omega
      · exact h
    · exact fun h => .inr h
  split
  · split
    · exact ⟨hbq, h1⟩
    · rename_i o ho
      refine ⟨hbq, ?_⟩
      rw [hasQ_out, h1]
      constructor
      · exact fun h => h.1
      · intro h
        refine ⟨h, fun e => ?_⟩
        subst e
        have hm := lkLast_mem ho
        rcases mem_lkPush.1 hm with ⟨_, _, h3⟩ | h3
        · exact h.2 h3
        · have h4 := (mem_lkOut.1 h3).1
          obtain ⟨k, hk, hx⟩ := h.1
          have hql := getD_lt h4
          have hkl := getD_lt hx
          have := hok.apart k q _ _ x (lkAt_some hkl) (lkAt_some hql) hx h4
          omega
  · exact ⟨hbq, h1⟩
theorem Ord.use_has {k : Nat} {o : Ord} (hf : o.Fine k) {b : Nat} (hb : b < 64) (hh : o.has (b : Nat) = true) {x : Nat} (hx : x < 64) : (o.use b).has (x : Nat) = true ↔ o.has (x : Nat) = true := by
  cases o with
  | lru cap l =>
    simp only [Ord.has, Ord.use, decide_eq_true_eq, Int.toNat_natCast] at hh ⊢
    rw [if_pos hh.2]
    constructor
    · rintro ⟨h1, h2⟩
      refine ⟨h1, ?_⟩
      rcases List.mem_cons.1 h2 with rfl | h2
      · exact hh.2
      · exact (List.mem_filter.1 h2).1
    · rintro ⟨h1, h2⟩
      refine ⟨h1, ?_⟩
      by_cases hxb : x = b
      · rw [hxb]; exact List.mem_cons_self
      · exact List.mem_cons_of_mem _ (List.mem_filter.2 ⟨h2, by simpa using hxb⟩)
  | mq c s =>
    obtain ⟨h1, h2, _, _⟩ := hf
    have hq := h1.2.2.1
    simp only [Ord.has, Ord.use] at hh ⊢
    rw [hasI_iff hb] at hh
    rw [hasI_iff hx, hasI_iff hx]
    unfold MqS.use
    rw [if_pos (has_iff.2 hh), age_has hq (by rw [(place_same _ _ _).2.2]; show c.q ≤ s.L.length; omega), place_has hq (by show c.q ≤ s.L.length; omega)]
    show x = b ∨ hasQ s.L c.q x ↔ _
    constructor
    · rintro (rfl | h)
      · exact hh
      · exact h
    · exact fun h => .inr h
  | part c L =>
    simp only [Ord.has, Ord.use] at hh ⊢
    rw [lkI_nat hb] at hh
    rw [lkI_nat hx, lkI_nat hx]
    obtain ⟨r, hr⟩ := Option.isSome_iff_exists.1 hh
    unfold ptUse
    rw [hr]
    dsimp only
    obtain ⟨l, hl, hbl⟩ := lkOf_some hr
    have hrl : r < L.length := (List.getElem?_eq_some_iff.1 hl).1
    have key : ∀ M : List (List Nat), (lkOf M x).isSome = true ↔ hasQ M M.length x := by
      intro M
      rw [← lkOf_iff]
      constructor
      · intro h
        obtain ⟨k, hk⟩ := Option.isSome_iff_exists.1 h
        obtain ⟨l, hl, _⟩ := lkOf_some hk
        exact ⟨k, hk, (List.getElem?_eq_some_iff.1 hl).1⟩
      · rintro ⟨k, hk, _⟩; rw [hk]; rfl
    rw [key, key, lkPush_length, lkOut_length, hasQ_move]
    constructor
    · rintro (⟨rfl, _⟩ | h)
      · exact ⟨r, hrl, by rw [List.getD_eq_getElem?_getD, hl]; exact hbl⟩
      · exact h.1
    · intro h
      by_cases hxb : x = b
      · exact .inl ⟨hxb, hrl, hrl⟩
      · exact .inr ⟨h, hxb⟩
theorem Ord.remove_has {o : Ord} {b : Nat} {x : Nat} (hx : x < 64) (hb : b < 64) : (o.remove b).has (x : Nat) = true ↔ o.has (x : Nat) = true ∧ x ≠ b := by
  cases o with
  | lru cap l =>
    simp only [Ord.has, Ord.remove, decide_eq_true_eq, Int.toNat_natCast, List.mem_filter]
    constructor
    · rintro ⟨h1, h2, h3⟩; exact ⟨⟨h1, h2⟩, by simpa using h3⟩
    · rintro ⟨⟨h1, h2⟩, h3⟩; exact ⟨h1, h2, by simpa using h3⟩
  | mq c s =>
    simp only [Ord.has, Ord.remove]
    rw [hasI_iff hx, hasI_iff hx]
    split
    · exact hasQ_out
    · rename_i h
      constructor
      · intro h2
        exact ⟨h2, fun e => h (has_iff.2 (e ▸ h2))⟩
      · exact fun h => h.1
  | part c L =>
    simp only [Ord.has, Ord.remove]
    rw [lkI_nat hx, lkI_nat hx]
    have key : ∀ M : List (List Nat), (lkOf M x).isSome = true ↔ hasQ M M.length x := by
      intro M
      rw [← lkOf_iff]
      constructor
      · intro h
        obtain ⟨k, hk⟩ := Option.isSome_iff_exists.1 h
        obtain ⟨l, hl, _⟩ := lkOf_some hk
        exact ⟨k, hk, (List.getElem?_eq_some_iff.1 hl).1⟩
      · rintro ⟨k, hk, _⟩; rw [hk]; rfl
    rw [key, key, lkOut_length, hasQ_out]
end Go.Gd
namespace Go.Gd
theorem isSome_has {M : List (List Nat)} {x : Nat} : (lkOf M x).isSome = true ↔ hasQ M M.length x := by
  rw [← lkOf_iff]
  constructor
  · intro h
    obtain ⟨k, hk⟩ := Option.isSome_iff_exists.1 h
    obtain ⟨l, hl, _⟩ := lkOf_some hk
    exact ⟨k, hk, (List.getElem?_eq_some_iff.1 hl).1⟩
  · rintro ⟨k, hk, _⟩; rw [hk]; rfl
theorem make_has {c : MqC} {s : MqS} (hc : 1 ≤ c.cap) (hl : s.L.length = c.q + 1) (hok : LkOk s.L) {x : Nat} :
    (hasQ (MqS.make c s).1.L c.q x ↔ hasQ s.L c.q x ∧ (MqS.make c s).2 ≠ some x) ∧ (∀ v, (MqS.make c s).2 = some v → hasQ s.L c.q v) ∧ (MqS.make c s).1.L.length = s.L.length := by
  unfold MqS.make
  split
  · rename_i hcap
    obtain ⟨h1, h2⟩ := evict_has (q := c.q) (gh := c.gh) hl (lenN_pos (by omega)) hok (x := x)
    refine ⟨?_, fun v hv => by simp only [Option.some.injEq] at hv; rw [← hv]; exact h1, lkEvict_length _ _ _⟩
    show hasQ (lkEvict c.q c.gh s.L).1 c.q x ↔ _
    rw [h2]
    simp only [ne_eq, Option.some.injEq]
    exact ⟨fun h => ⟨h.1, fun e => h.2 e.symm⟩, fun h => ⟨h.1, fun e => h.2 e.symm⟩⟩
  · exact ⟨by simp, fun v hv => by simp at hv, rfl⟩
theorem Ord.add_has {k : Nat} {o : Ord} (hf : o.Fine k) (hlk : o.Lk) {b : Nat} (hb : b < 64) (ht : o.takes b) :
    (∀ x, x < 64 → ((o.add b).1.has (x : Nat) = true ↔ x = b ∨ (o.has (x : Nat) = true ∧ (o.add b).2 ≠ some x))) ∧ (∀ v, (o.add b).2 = some v → o.has (v : Nat) = true ∧ v ≠ b ∧ v < 64) ∧ (o.has (b : Nat) = true → (o.add b).2 = none) := by
  cases o with
  | lru cap l =>
    have hcap := hf.1
    have hlt := hf.2.2
    simp only [Ord.has, Ord.add, decide_eq_true_eq, Int.toNat_natCast]
    unfold lruAdd
    by_cases hm : b ∈ l
    · rw [if_pos hm]
      refine ⟨fun x hx => ?_, fun v hv => by simp at hv, fun _ => rfl⟩
      simp only [List.mem_cons, List.mem_filter, ne_eq, reduceCtorEq, not_false_eq_true, and_true]
      constructor
      · rintro ⟨h1, rfl | h2⟩
        · exact .inl rfl
        · exact .inr ⟨h1, h2.1⟩
      · rintro (rfl | h)
        · exact ⟨by omega, .inl rfl⟩
        · by_cases hxb : x = b
          · exact ⟨h.1, .inl hxb⟩
          · exact ⟨h.1, .inr ⟨h.2, by simpa using hxb⟩⟩
    · rw [if_neg hm]
      by_cases hroom : l.length + 1 ≤ cap
      · rw [if_pos hroom]
        refine ⟨fun x hx => ?_, fun v hv => by simp at hv, fun _ => rfl⟩
        simp only [List.mem_cons, ne_eq, reduceCtorEq, not_false_eq_true, and_true]
        constructor
        · rintro ⟨h1, rfl | h2⟩
          · exact .inl rfl
          · exact .inr ⟨h1, h2⟩
        · rintro (rfl | h)
          · exact ⟨by omega, .inl rfl⟩
          · exact ⟨h.1, .inr h.2⟩
      · rw [if_neg hroom]
        have hne : l ≠ [] := by intro e; subst e; simp at hroom; omega
        have hlast : (b :: l).getLast (by simp) = l.getLast hne := List.getLast_cons hne
        have hvm : l.getLast hne ∈ l := List.getLast_mem hne
        rw [hlast]
        generalize l.getLast hne = v at *
        have hvb : v ≠ b := fun e => hm (e ▸ hvm)
        refine ⟨fun x hx => ?_, fun u hu => ?_, fun h => absurd h.2 hm⟩
        · simp only [List.mem_filter, List.mem_cons, ne_eq, Option.some.injEq]
          constructor
          · rintro ⟨h1, h2, h3⟩
            have hxv : ¬ x = v := by simpa using h3
            rcases h2 with rfl | h2
            · exact .inl rfl
            · exact .inr ⟨⟨h1, h2⟩, fun e => hxv e.symm⟩
          · rintro (rfl | ⟨⟨h1, h2⟩, h3⟩)
            · exact ⟨by omega, .inl rfl, by simpa using fun e => hvb e.symm⟩
            · exact ⟨h1, .inr h2, by simpa using fun e => h3 e.symm⟩
        · simp only [Option.some.injEq] at hu
          subst hu
          have := hlt v hvm
          exact ⟨⟨by omega, hvm⟩, hvb, this⟩
  | mq c s =>
    obtain ⟨h1, h2, _, _⟩ := hf
    have hq := h1.2.2.1
    have hcap := h1.1
    simp only [Ord.has, Ord.add]
    unfold MqS.add
    by_cases hm : MqS.has c s b = true
    · rw [if_pos hm]
      refine ⟨fun x hx => ?_, fun v hv => by simp at hv, fun _ => rfl⟩
      have := Ord.use_has (k := k) (o := .mq c s) ⟨h1, h2, by assumption, by assumption⟩ hb (by show MqS.hasI c s (b : Nat) = true; rw [hasI_iff hb, ← has_iff]; exact hm) hx
      simp only [Ord.has, Ord.use] at this
      rw [this]
      simp only [ne_eq, reduceCtorEq, not_false_eq_true, and_true]
      constructor
      · exact fun h => .inr h
      · rintro (rfl | h)
        · rw [hasI_iff hb, ← has_iff]; exact hm
        · exact h
    · rw [if_neg hm]
      have hnb : ¬ hasQ s.L c.q b := fun h => hm (has_iff.2 h)
      have mk : ∀ x, _ := fun x => make_has (c := c) (s := s.tick) hcap h2 hlk (x := x)
      have hbl : ((MqS.make c s.tick).1.begins b).L = (MqS.make c s.tick).1.L := by unfold MqS.begins; split <;> rfl
      refine ⟨fun x hx => ?_, fun v hv => ?_, fun h => absurd ((hasI_iff hb).1 h) hnb⟩
      · rw [hasI_iff hx, hasI_iff hx]
        have hlen : c.q ≤ (((MqS.make c s.tick).1.begins b).more b).L.length := by
          show c.q ≤ ((MqS.make c s.tick).1.begins b).L.length
          rw [hbl, (mk x).2.2]; show c.q ≤ s.L.length; omega
        rw [age_has hq (by rw [(place_same _ _ _).2.2]; exact hlen), place_has hq hlen]
        show x = b ∨ hasQ ((MqS.make c s.tick).1.begins b).L c.q x ↔ _
        rw [hbl, (mk x).1]
        exact Iff.rfl
      · have hv' := (mk v).2.1 v hv
        have hvq : hasQ s.L c.q v := hv'
        have hvq2 := hvq
        obtain ⟨j, hj, hjv⟩ := hvq2
        have hv64 := lk_mem_lt hlk hjv
        exact ⟨(hasI_iff hv64).2 hvq, fun e => hnb (e ▸ hvq), hv64⟩
  | part c L =>
    obtain ⟨_, hL⟩ := hf
    have htk : 0 < c.part b := ht
    simp only [Ord.has, Ord.add]
    cases ho : lkOf L b with
    | some r =>
      have he : ptAdd c L b = (ptUse L b, none) := by unfold ptAdd; rw [ho]
      rw [he]
      refine ⟨fun x hx => ?_, fun v hv => by simp at hv, fun _ => rfl⟩
      have := Ord.use_has (k := k) (o := .part c L) ⟨by assumption, hL⟩ hb (by show (lkI L (b : Nat)).isSome = true; rw [lkI_nat hb, ho]; rfl) hx
      simp only [Ord.has, Ord.use] at this
      rw [this]
      simp only [ne_eq, reduceCtorEq, not_false_eq_true, and_true]
      constructor
      · exact fun h => .inr h
      · rintro (rfl | h)
        · rw [lkI_nat hb, ho]; rfl
        · exact h
    | none =>
      have hnb : ¬ hasQ L L.length b := fun h => by
        have := isSome_has.2 h
        rw [ho] at this; cases this
      obtain ⟨r, hr⟩ : ∃ r, rangeF c.l b = some r := by
        unfold PtC.part partF at htk
        cases hx : rangeF c.l b with
        | none => rw [hx] at htk; simp at htk
        | some r => exact ⟨r, rfl⟩
      have hrl := rangeF_lt hr
      have he : ptAdd c L b = if c.part b ≤ (L.getD r []).length then (lkPush (lkOut (lkOut L (ptGoes c L r b)) b) r b, some (ptGoes c L r b)) else (lkPush (lkOut L b) r b, none) := by
        unfold ptAdd; rw [ho]; simp only; rw [hr]
      rw [he]
      by_cases hfull : c.part b ≤ (L.getD r []).length
      · rw [if_pos hfull]
        have hgm := ptGoes_mem (c := c) (b := b) (show L.getD r [] ≠ [] by intro e; rw [e] at hfull; simp at hfull; omega)
        generalize ptGoes c L r b = v at *
        have hvq : hasQ L L.length v := ⟨r, by omega, hgm⟩
        have hv64 := lk_mem_lt hlk hgm
        have hvb : v ≠ b := fun e => hnb (e ▸ hvq)
        refine ⟨fun x hx => ?_, fun u hu => ?_, fun h => ?_⟩
        · rw [lkI_nat hx, lkI_nat hx, isSome_has, isSome_has, lkPush_length, lkOut_length, lkOut_length, hasQ_move, hasQ_out, lkOut_length]
          simp only [ne_eq, Option.some.injEq]
          constructor
          · rintro (⟨h, _⟩ | h)
            · exact .inl h
            · exact .inr ⟨h.1.1, fun e => h.1.2 e.symm⟩
          · intro h
            by_cases hxb : x = b
            · exact .inl ⟨hxb, by omega, by omega⟩
            · have := h.resolve_left hxb
              exact .inr ⟨⟨this.1, fun e => this.2 e.symm⟩, hxb⟩
        · simp only [Option.some.injEq] at hu
          subst hu
          exact ⟨by rw [lkI_nat hv64]; exact isSome_has.2 hvq, hvb, hv64⟩
        · rw [lkI_nat hb, ho] at h; cases h
      · rw [if_neg hfull]
        refine ⟨fun x hx => ?_, fun u hu => by simp at hu, fun _ => rfl⟩
        rw [lkI_nat hx, lkI_nat hx, isSome_has, isSome_has, lkPush_length, lkOut_length, hasQ_move]
        simp only [ne_eq, reduceCtorEq, not_false_eq_true, and_true]
        constructor
        · rintro (⟨h, _⟩ | h)
          · exact .inl h
          · exact .inr h.1
        · intro h
          by_cases hxb : x = b
          · exact .inl ⟨hxb, by omega, by omega⟩
          · exact .inr ⟨h.resolve_left hxb, hxb⟩
end Go.Gd
namespace Go.Gd
theorem dwrite_ok {D : Dk} {a : Nat} {b : List UInt8} (h : (D.write a b).1 = 0) : (D.write a b).2.l = upF D.l a b ∧ (D.write a b).2.down = false := by
  unfold Dk.write at h ⊢
  split
  · rename_i hd; rw [if_pos hd] at h; cases h
  · rename_i hd
    rw [if_neg hd] at h
    split
    · rename_i hz; rw [if_pos hz] at h; cases h
    · exact ⟨rfl, by simpa using hd⟩
theorem seq3 {a1 a2 a3 : Nat} {b1 b2 b3 : List UInt8} {D : Dk} (h : (wrSeq [(a1, b1), (a2, b2), (a3, b3)] D).1 = 0) :
    (wrSeq [(a1, b1), (a2, b2), (a3, b3)] D).2.l = upF (upF (upF D.l a1 b1) a2 b2) a3 b3 ∧ (wrSeq [(a1, b1), (a2, b2), (a3, b3)] D).2.down = false := by
  simp only [wrSeq] at h ⊢
  by_cases h1 : (D.write a1 b1).1 = 0
  · rw [if_neg (by simpa using h1)] at h ⊢
    obtain ⟨e1, d1⟩ := dwrite_ok h1
    generalize (D.write a1 b1).2 = D1 at *
    by_cases h2 : (D1.write a2 b2).1 = 0
    · rw [if_neg (by simpa using h2)] at h ⊢
      obtain ⟨e2, d2⟩ := dwrite_ok h2
      generalize (D1.write a2 b2).2 = D2 at *
      by_cases h3 : (D2.write a3 b3).1 = 0
      · rw [if_neg (by simpa using h3)] at h ⊢
        obtain ⟨e3, d3⟩ := dwrite_ok h3
        exact ⟨by rw [e3, e2, e1], d3⟩
      · rw [if_pos h3] at h; exact absurd h h3
    · rw [if_pos h2] at h; exact absurd h h2
  · rw [if_pos h1] at h; exact absurd h h1
structure Wrote (s : Shp) (w : Wr) (D D' : Dk) : Prop where
  blk : 0 ≤ w.block ∧ w.block < s.blocks
  size : w.data.length = s.size
  other : ∀ b, b < s.blocks → b ≠ w.block.toNat → s.blk D' b = s.blk D b
  same : (s.blk D' w.block.toNat).1 = (s.blk D w.block.toNat).1 → s.blk D' w.block.toNat = s.blk D w.block.toNat
  new : (s.blk D' w.block.toNat).1 ≠ (s.blk D w.block.toNat).1 → (s.blk D' w.block.toNat).2 = w.data
  up : D.down = false → D'.down = false
theorem write_law {s : Shp} (hs : s.Ok) (w : Wr) (D : Dk) (h : (s.write w D).2.1 = 0) : Wrote s w D (s.write w D).2.2 := by
  have h16 := hs.size
  unfold Shp.write at h ⊢
  split
  · rename_i c1; rw [if_pos c1] at h; cases h
  · rename_i c1
    rw [if_neg c1] at h
    have hbl : 0 ≤ w.block ∧ w.block < s.blocks := by omega
    split
    · rename_i c2; rw [if_pos c2] at h; cases h
    · rename_i c2
      rw [if_neg c2] at h
      have hlen : w.data.length = s.size := by simpa using c2
      split
      · rename_i c3; rw [if_pos c3] at h; cases h
      · rename_i c3
        rw [if_neg c3] at h
        have hf : s.fits w := by simpa using c3
        obtain ⟨hc, hk, hbo, hop⟩ := hf.small hs
        have hver := blk_ver (sh := s) D w.block.toNat
        have trivialW : ∀ D' : Dk, (∀ b, b < s.blocks → s.blk D' b = s.blk D b) → (D.down = false → D'.down = false) → Wrote s w D D' := fun D' hD' hdn =>
          ⟨hbl, hlen, fun b hb _ => hD' b hb, fun _ => hD' _ (by omega), fun hne => absurd (by rw [hD' _ (by omega)]) hne, hdn⟩
        split
        · rename_i c4; rw [if_pos c4] at h; cases h
        · rename_i c4
          rw [if_neg c4] at h
          split
          · exact trivialW D (fun _ _ => rfl) id
          · rename_i c5
            rw [if_neg c5] at h
            have hsl : ∀ b, b < s.blocks → 1 + b ≠ s.slotAt w.client.toNat w.slot.toNat := fun b hb => by unfold Shp.slotAt; omega
            split
            · rename_i c6
              rw [if_pos c6] at h
              split
              · rename_i c7; rw [if_pos c7] at h; exact absurd h c7
              · rename_i c7
                have h0 : (D.write (s.slotAt w.client.toNat w.slot.toNat) (nums [w.boot.toNat, w.op.toNat, 11])).1 = 0 := by simpa using c7
                obtain ⟨e1, d1⟩ := dwrite_ok h0
                refine trivialW _ (fun b hb => ?_) (fun _ => d1)
                show blkF s.size ((D.write _ _).2.l (1 + b)) = _
                rw [e1, upF_ne _ _ (hsl b hb)]
                rfl
            · rename_i c6
              rw [if_neg c6] at h
              split
              · rename_i c7; rw [if_pos c7] at h; exact absurd h c7
              · rename_i c7
                rw [if_neg c7] at h
                have h0 : (D.write 0 (jrnB w ((s.blk D w.block.toNat).1 + 1))).1 = 0 := by simpa using c7
                obtain ⟨e1, d1⟩ := dwrite_ok h0
                generalize hv : (s.blk D w.block.toNat).1 = ver at *
                generalize (D.write 0 (jrnB w (ver + 1))).2 = D1 at *
                have hd : (s.does w (ver + 1) D1).1 = 0 := h
                obtain ⟨e2, d2⟩ := seq3 hd
                have hsec : ∀ b, b < s.blocks → b ≠ w.block.toNat → (s.does w (ver + 1) D1).2.l (1 + b) = D.l (1 + b) := fun b hb hne => by
                  show (wrSeq _ D1).2.l (1 + b) = _
                  rw [e2, upF_ne _ _ (by omega), upF_ne _ _ (hsl b hb), upF_ne _ _ (by omega), e1, upF_ne _ _ (by omega)]
                have hown : (s.does w (ver + 1) D1).2.l (1 + w.block.toNat) = txt (nums [ver + 1]) w.data := by
                  show (wrSeq _ D1).2.l (1 + w.block.toNat) = _
                  rw [e2, upF_ne _ _ (by omega), upF_ne _ _ (hsl _ (by omega)), upF_same]
                have hblk : s.blk (s.does w (ver + 1) D1).2 w.block.toNat = (ver + 1, w.data) := by
                  show blkF s.size _ = _
                  rw [hown, ← hlen]
                  exact blkF_enc (by omega) (by omega)
                refine ⟨hbl, hlen, fun b hb hne => ?_, fun he => ?_, fun _ => ?_, fun _ => d2⟩
                · show blkF s.size _ = blkF s.size _
                  rw [hsec b hb hne]
                · rw [hblk, hv] at he; simp at he
                · rw [hblk]
theorem write_same {s : Shp} {w : Wr} {D : Dk} (h0 : (s.write w D).2.1 ≠ 0) (h8 : (s.write w D).2.1 ≠ 8) : (s.write w D).2.2 = D := by
  unfold Shp.write at h0 h8 ⊢
  split
  · rfl
  · rename_i c1
    rw [if_neg c1] at h0 h8
    split
    · rfl
    · rename_i c2
      rw [if_neg c2] at h0 h8
      split
      · rfl
      · rename_i c3
        rw [if_neg c3] at h0 h8
        split
        · rfl
        · rename_i c4
          rw [if_neg c4] at h0 h8
          split
          · rfl
          · rename_i c5
            rw [if_neg c5] at h0 h8
            split
            · rename_i c6
              rw [if_pos c6] at h0 h8
              split
              · rename_i c7
                rw [if_pos c7] at h0 h8
                rcases write_e D (s.slotAt w.client.toNat w.slot.toNat) (nums [w.boot.toNat, w.op.toNat, 11]) with h | h
                · exact absurd h h0
                · exact absurd h h8
              · rename_i c7; rw [if_neg c7] at h0; exact absurd (Classical.not_not.1 c7) h0
            · rename_i c6
              rw [if_neg c6] at h0 h8
              split
              · rename_i c7
                rw [if_pos c7] at h0 h8
                rcases write_e D 0 (jrnB w ((s.blk D w.block.toNat).1 + 1)) with h | h
                · exact absurd h h0
                · exact absurd h h8
              · rename_i c7
                rw [if_neg c7] at h0 h8
                rcases seq_e [(1 + w.block.toNat, txt (nums [(s.blk D w.block.toNat).1 + 1]) w.data), (s.slotAt w.client.toNat w.slot.toNat, nums [w.boot.toNat, w.op.toNat, 0]), (0, [])] (D.write 0 (jrnB w ((s.blk D w.block.toNat).1 + 1))).2 with h | h
                · exact absurd h h0
                · exact absurd h h8
theorem write_down {s : Shp} (w : Wr) {D : Dk} (hd : D.down = false) (h8 : (s.write w D).2.1 ≠ 8) (hs : s.Ok) : (s.write w D).2.2.down = false := by
  by_cases h0 : (s.write w D).2.1 = 0
  · exact (write_law hs w D h0).up hd
  · rw [write_same h0 h8]; exact hd
end Go.Gd
