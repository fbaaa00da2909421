/- The statements own small functions: the example, what is too long; when messages are the same. Conditions: those in the theorems. The plain law of an array: what the cache has is what the store has. Conditions: those in the theorems. The plain law of an array, second part: the invariant through all that is heard. Conditions: those in the theorems. The example of the arrays statements. Conditions: none beyond those in the theorems. The statement ArrayTrue, of the program. Conditions: those in the theorems. The statement ArrayTrue, of the program: all acts. Conditions: those in the theorems. -/
import Derived.Test.YtdgnnacppiaogaaGreatO37
import Derived.Test.YtdgnnacppiaogaaGreatO34
set_option linter.unusedVariables false
set_option linter.unusedSimpArgs false
namespace Go.Gd
open Go.Instr
attribute [local irreducible] loadAt storeAt fieldAt indexAt alloc box build buildSlice hNil eqG binOp Op.unary extract makeSlice makeInterface makeFunc convert hV mV pV hU hF hFV hI hIf hGuard hPick hJ hDraw hLoop ro Instr.index dkH arH outH
theorem und4 : P.underlying 4 = some .bool := by unfold P; kernel_rfl
theorem msg_ext {m m' : Msg} (h1 : m.kind = m'.kind) (h2 : msgN m = msgN m') (h3 : m.grant = m'.grant) (h4 : m.data = m'.data) : m = m' := by
  obtain ⟨a1, a2, a3, a4, a5, a6, a7, a8, a9, a10, a11⟩ := m
  obtain ⟨b1, b2, b3, b4, b5, b6, b7, b8, b9, b10, b11⟩ := m'
  simp only [msgN, List.cons.injEq, and_true] at h1 h2 h3 h4
  obtain ⟨e1, e2, e3, e4, e5, e6, e7, e8⟩ := h2
  subst h1; subst h3; subst h4; subst e1; subst e2; subst e3; subst e4; subst e5; subst e6; subst e7; subst e8
  rfl
structure ActS where
  fuse : Int
  m : Msg
def actL (x : ActS × Value) : List Value := .int .i64 x.1.fuse :: msgL x.1.m x.2
def actsV (xs : List (ActS × Value)) : List Value := xs.flatMap actL
theorem actL_len (x : ActS × Value) : (actL x).length = 12 := rfl
theorem actsV_len (xs : List (ActS × Value)) : (actsV xs).length = xs.length * 12 := by
  unfold actsV
  induction xs with
  | nil => rfl
  | cons h l ih => simp only [List.flatMap_cons, List.length_append, actL_len, ih, List.length_cons]; omega
theorem actsV_get : ∀ {xs : List (ActS × Value)} {i : Nat} {x : ActS × Value}, xs[i]? = some x → ∀ j v, (actL x)[j]? = some v → (actsV xs)[i * 12 + j]? = some v
  | [], i, h, hi, j, v, hj => by simp at hi
  | x :: l, 0, h, hi, j, v, hj => by
    simp only [List.getElem?_cons_zero, Option.some.injEq] at hi
    subst hi
    have : j < (actL x).length := (List.getElem?_eq_some_iff.1 hj).1
    unfold actsV
    rw [List.flatMap_cons, List.getElem?_append_left (by omega), Nat.zero_mul, Nat.zero_add]; exact hj
  | x :: l, i + 1, h, hi, j, v, hj => by
    have := actsV_get (xs := l) (i := i) (x := h) (by simpa using hi) j v hj
    unfold actsV at *
    rw [List.flatMap_cons, List.getElem?_append_right (by rw [actL_len]; omega), actL_len, show (i + 1) * 12 + j - 12 = i * 12 + j by omega]; exact this
theorem msgsV_get : ∀ {xs : List (Msg × Value)} {i : Nat} {x : Msg × Value}, xs[i]? = some x → ∀ j v, (msgL x.1 x.2)[j]? = some v → (msgsV xs)[i * 11 + j]? = some v
  | [], i, h, hi, j, v, hj => by simp at hi
  | x :: l, 0, h, hi, j, v, hj => by
    simp only [List.getElem?_cons_zero, Option.some.injEq] at hi
    subst hi
    have : j < (msgL x.1 x.2).length := (List.getElem?_eq_some_iff.1 hj).1
    unfold msgsV
    rw [List.flatMap_cons, List.getElem?_append_left (by omega), Nat.zero_mul, Nat.zero_add]; exact hj
  | x :: l, i + 1, h, hi, j, v, hj => by
    have := msgsV_get (xs := l) (i := i) (x := h) (by simpa using hi) j v hj
    unfold msgsV at *
    rw [List.flatMap_cons, List.getElem?_append_right (by simp [msgL]; omega)]
    have e : (i + 1) * 11 + j - (msgL x.1 x.2).length = i * 11 + j := by show (i + 1) * 11 + j - 11 = _; omega
    rw [e]; exact this
def adatH (w0 : World) : List (ActS × Value) → HP
  | [] => pureH True
  | x :: t => star [roB w0 x.2 x.1.m.data, adatH w0 t]
theorem Pers.adat (w0 : World) : ∀ xs, Pers (adatH w0 xs)
  | [] => Pers.pure _
  | _ :: t => Pers.star2 (Pers.ro _ _ _ _ _) (Pers.adat w0 t)
theorem Imp.adatGet {w0 : World} : ∀ {xs : List (ActS × Value)} {i : Nat} {x : ActS × Value}, xs[i]? = some x → ∀ {L : List HP}, Imp (adatH w0 xs :: L) (roB w0 x.2 x.1.m.data :: adatH w0 xs :: L)
  | [], i, x, h, L => by simp at h
  | y :: t, 0, x, h, L => by
    simp only [List.getElem?_cons_zero, Option.some.injEq] at h
    subst h
    refine Imp.starE ?_
    show Imp (roB w0 y.2 y.1.m.data :: adatH w0 t :: L) _
    exact (Imp.dup1 (Pers.ro _ _ _ _ _)).trans (Imp.cons (Imp.starI (M := [roB w0 y.2 y.1.m.data, adatH w0 t]) (Imp.refl _)))
  | y :: t, i + 1, x, h, L => by
    refine Imp.starE ?_
    show Imp (roB w0 y.2 y.1.m.data :: adatH w0 t :: L) _
    refine (Imp.cons (Imp.adatGet (xs := t) (i := i) (x := x) (by simpa using h))).trans ?_
    exact (Imp.perm (List.Perm.swap _ _ _)).trans (Imp.cons (Imp.starI (M := [roB w0 y.2 y.1.m.data, adatH w0 t]) (Imp.refl _)))
theorem Imp.datGet {w0 : World} : ∀ {xs : List (Msg × Value)} {i : Nat} {x : Msg × Value}, xs[i]? = some x → ∀ {L : List HP}, Imp (datH w0 xs :: L) (roB w0 x.2 x.1.data :: datH w0 xs :: L)
  | [], i, x, h, L => by simp at h
  | y :: t, 0, x, h, L => by
    simp only [List.getElem?_cons_zero, Option.some.injEq] at h
    subst h
    refine Imp.starE ?_
    show Imp (roB w0 y.2 y.1.data :: datH w0 t :: L) _
    exact (Imp.dup1 (Pers.ro _ _ _ _ _)).trans (Imp.cons (Imp.starI (M := [roB w0 y.2 y.1.data, datH w0 t]) (Imp.refl _)))
  | y :: t, i + 1, x, h, L => by
    refine Imp.starE ?_
    show Imp (roB w0 y.2 y.1.data :: datH w0 t :: L) _
    refine (Imp.cons (Imp.datGet (xs := t) (i := i) (x := x) (by simpa using h))).trans ?_
    exact (Imp.perm (List.Perm.swap _ _ _)).trans (Imp.cons (Imp.starI (M := [roB w0 y.2 y.1.data, datH w0 t]) (Imp.refl _)))
def longP (c : Cfg) (xs : List (ActS × Value)) : Prop := 20 < c.hints.length ∨ 100 < xs.length ∨ ∃ x ∈ xs, 100 < x.1.m.data.length
section
variable {w0 : World} {L : List HP}
theorem run_eqB {lit : Bool} (a b : Bool) : Run w0 L (eqG lit .eql 4 (.bool a) (.bool b)) (.bool (a == b)) := fun w _ => by
  have e : (Op.equalIn (9999 + 1) 4 (.bool a) (.bool b)).run P w = .ok (a == b) w := by
    unfold Op.equalIn; simp only [Sem.run_bind, run_underlying und4, Result.andThen_ok]; rfl
  simp only [eqG, eqGd, binOp, Op.equal, Op.maxDepth, Sem.run_bind, Sem.run_pure, Result.andThen_ok]
  rw [show (10000 : Nat) = 9999 + 1 from rfl, e]; rfl
theorem RdS.cellA {a : Option Addr} {n cap : Nat} {xs : List (ActS × Value)} (h : RdS w0 L (.slice a n cap) 12 n (actsV xs)) {i : Nat} {x : ActS × Value} (hx : xs[i]? = some x) :
    ∃ b o, a = some ⟨b, o, none⟩ ∧ ∀ j u, (actL x)[j]? = some u → Cell w0 L ⟨b, o + i * 12 + j, none⟩ u := by
  obtain ⟨a', c', e1, e2, e3⟩ := h
  cases e1
  rcases e3 with e3 | ⟨b, o, rfl, hc⟩
  · have := congrArg List.length e3
    rw [actsV_len] at this
    have := (List.getElem?_eq_some_iff.1 hx).1
    simp at *; omega
  · exact ⟨b, o, rfl, fun j u hj => by rw [Nat.add_assoc]; exact hc _ _ (actsV_get hx j u hj)⟩
theorem rf_sameMsg (m m' : Msg) (mv mv' : Value) (q : Bool) (hq : q = true ↔ m = m') (h1 : m.data.length ≤ 1099511627776) (h2 : m'.data.length ≤ 1099511627776) :
    Spec w0 45 [.agg (msgL m mv).toArray, .agg (msgL m' mv').toArray] [roB w0 mv m.data, roB w0 mv' m'.data] (fun _ : Unit => .bool q) (fun _ => []) := by
  refine spec_go (fun R w => H45) fun F => ?_
  show Ent w0 (roB w0 mv m.data :: roB w0 mv' m'.data :: F) _
  have hno : m ≠ m' → q = false := fun h => by cases q with | false => rfl | true => exact absurd (hq.1 rfl) h
  unfold F45
  refine ent_box fun a => ?_
  rw [agg_cells, List.toList_toArray]
  refine ent_box fun b => ?_
  rw [agg_cells, List.toList_toArray]
  refine ent_q (run_loadA (vs := msgL m mv) rfl (cells_all 1 rfl)) ?_
  refine ent_call (rf_numbers m mv) (Imp.refl _) fun v1 => ?_
  refine ent_q (run_loadA (vs := msgL m' mv') rfl (cells_all 1 rfl)) ?_
  refine ent_call (rf_numbers m' mv') (Imp.refl _) fun v2 => ?_
  refine Ent.imp (L' := pt a 37 (msgL m mv) :: pt b 37 (msgL m' mv') :: ro w0 v1 1 8 (inV (msgN m)) :: ro w0 v2 1 8 (inV (msgN m')) :: roB w0 mv m.data :: roB w0 mv' m'.data :: F) (by (repeat (first | refine Imp.pick 0 rfl ?_ | refine Imp.pick 1 rfl ?_ | refine Imp.pick 2 rfl ?_ | refine Imp.pick 3 rfl ?_)); exact Imp.refl _) ?_
  (repeat refine ent_q (run_fieldZ _ _) ?_)
  refine ent_q (run_load (v := .int .i64 m.kind) (cell_own 0 rfl rfl)) ?_
  (repeat refine ent_q (run_fieldZ _ _) ?_)
  refine ent_q (run_load (v := .int .i64 m'.kind) (cell_own 1 rfl rfl)) ?_
  refine ent_qb (run_eq _ _) (fun c1 => ?_) (fun c1 => ?_)
  rotate_left
  · (repeat (first | refine ent_gF ?_ | refine ent_pF ?_ | refine ent_j ?_))
    exact ent_ret () (by rw [hno (fun e => c1 (by rw [e]))]) (by exact Imp.trans Imp.drop1 (Imp.trans Imp.drop1 (Imp.trans Imp.drop1 (Imp.trans Imp.drop1 (Imp.trans Imp.drop1 (Imp.drop1))))))
  (repeat (first | refine ent_gT ?_ | refine ent_j ?_))
  refine ent_call (rf_sameInts v1 v2 (msgN m) (msgN m') (by show 8 ≤ _; omega) (by show 8 ≤ _; omega)) (by (repeat refine Imp.pick 2 rfl ?_); exact Imp.refl _) fun _ => ?_
  by_cases c2 : msgN m = msgN m'
  rotate_left
  · rw [decide_eq_false c2]
    (repeat (first | refine ent_gF ?_ | refine ent_pT ?_ | refine ent_pF ?_ | refine ent_j ?_))
    exact ent_ret () (by rw [hno (fun e => c2 (by rw [e]))]) (by exact Imp.trans Imp.drop1 (Imp.trans Imp.drop1 (Imp.trans Imp.drop1 (Imp.drop1))))
  rw [decide_eq_true c2]
  (repeat (first | refine ent_q (run_field0 _) ?_ | refine ent_gT ?_ | refine ent_pT ?_ | refine ent_j ?_))
  refine ent_q (run_load (v := .bool m.grant) (cell_own 0 rfl rfl)) ?_
  (repeat refine ent_q (run_field0 _) ?_)
  refine ent_q (run_load (v := .bool m'.grant) (cell_own 1 rfl rfl)) ?_
  refine ent_q (run_eqB _ _) ?_
  by_cases c3 : m.grant = m'.grant
  rotate_left
  · rw [beq_eq_false_iff_ne.2 c3]
    (repeat (first | refine ent_gF ?_ | refine ent_pT ?_ | refine ent_pF ?_))
    exact ent_ret () (by rw [hno (fun e => c3 (by rw [e]))]) (by exact Imp.trans Imp.drop1 (Imp.trans Imp.drop1 (Imp.trans Imp.drop1 (Imp.drop1))))
  rw [beq_iff_eq.2 c3]
  (repeat (first | refine ent_q (run_field0 _) ?_ | refine ent_gT ?_ | refine ent_pT ?_))
  refine ent_q (run_load (v := mv) (cell_own 0 rfl rfl)) ?_
  (repeat refine ent_q (run_field0 _) ?_)
  refine ent_q (run_load (v := mv') (cell_own 1 rfl rfl)) ?_
  refine ent_call (rf_same mv mv' m.data m'.data h1 h2) (by (repeat refine Imp.pick 2 rfl ?_); exact Imp.refl _) fun _ => ?_
  by_cases c4 : m.data = m'.data
  rotate_left
  · rw [decide_eq_false c4]
    (repeat refine ent_pT ?_)
    exact ent_ret () (by rw [hno (fun e => c4 (by rw [e]))]) (by exact Imp.trans Imp.drop1 (Imp.drop1))
  rw [decide_eq_true c4]
  (repeat refine ent_pT ?_)
  exact ent_ret () (by rw [hq.2 (msg_ext c1 c2 c3 c4)]) (by exact Imp.trans Imp.drop1 (Imp.drop1))
theorem rf_long (c : Cfg) (lv : Value) (xs : List (ActS × Value)) (q : Bool) (hq : q = true ↔ longP c xs) :
    Spec w0 11 [cfgV c, lv] [ro w0 c.hv 4 c.hints.length (hintsV c.hints), ro w0 lv 12 xs.length (actsV xs), adatH w0 xs] (fun _ : Unit => .bool q) (fun _ => []) := by
  refine spec_go (fun R w => H11) fun F => ?_
  show Ent w0 (ro w0 c.hv 4 c.hints.length (hintsV c.hints) :: ro w0 lv 12 xs.length (actsV xs) :: adatH w0 xs :: F) _
  have yes : longP c xs → q = true := hq.2
  unfold F11
  refine ent_box fun cb => ?_
  rw [agg_cells, List.toList_toArray]
  (repeat refine ent_q (run_field0 _) ?_)
  refine ent_q (run_load (v := c.hv) (cell_own 0 rfl rfl)) ?_
  refine ent_q (run_lenR 1 rfl) ?_
  refine ent_qb (run_gt _ _) (fun c1 => ?_) (fun c1 => ?_)
  · (repeat (first | refine ent_ifT ?_ | refine ent_gF' ?_ | refine ent_pT ?_ | refine ent_j ?_))
    exact ent_ret () (by rw [yes (.inl (by omega))]) (by exact Imp.trans Imp.drop1 (Imp.trans Imp.drop1 (Imp.trans Imp.drop1 (Imp.drop1))))
  (repeat (first | refine ent_gT ?_ | refine ent_j ?_))
  refine ent_q (run_lenR 2 rfl) ?_
  refine ent_qb (run_gt _ _) (fun c2 => ?_) (fun c2 => ?_)
  · (repeat (first | refine ent_ifT ?_ | refine ent_pF ?_))
    exact ent_ret () (by rw [yes (.inr (.inl (by omega)))]) (by exact Imp.trans Imp.drop1 (Imp.trans Imp.drop1 (Imp.trans Imp.drop1 (Imp.drop1))))
  (repeat (first | refine ent_ifF ?_ | refine ent_pF ?_))
  refine ent_q (run_lenR 2 rfl) ?_
  refine Ent.at 2 rfl (Ent.ro fun aa ca Ra hav hal hard => ?_)
  subst hav
  refine ent_loop (ι := Nat) (fun i => i ≤ xs.length ∧ ∀ x ∈ xs.take i, x.1.m.data.length ≤ 100) (fun i => [.int .i64 (i : Nat), .bool false]) (fun i => adatH w0 xs :: Ra :: F) (fun i => xs.length - i) 0 ⟨by simp, by simp⟩ rfl (by (repeat (first | refine Imp.pick 0 rfl ?_ | refine Imp.pick 4 rfl ?_)); exact Imp.trans Imp.drop1 (Imp.trans Imp.drop1 (Imp.drop1))) ?_
  rintro i ⟨hi, hti⟩ g next hnext
  show Ent w0 _ (hV P (binOp .lss 3 (.int .i64 (i : Nat)) (.int .i64 (xs.length : Nat))) _)
  refine ent_qb (run_lt _ _) (fun h => ?_) (fun h => ?_)
  · refine ent_ifT ?_
    have hia : i < xs.length := by omega
    have ga : xs[i]? = some xs[i] := List.getElem?_eq_getElem hia
    have hgen : xs.take (i + 1) = xs.take i ++ [xs[i]] := List.take_succ_eq_append_getElem hia
    generalize xs[i] = x at *
    refine Ent.imp (Imp.adatGet ga) ?_
    obtain ⟨b1, o1, rfl, hc1⟩ := RdS.cellA (hard (roB w0 x.2 x.1.m.data :: adatH w0 xs :: Ra :: F) 2 rfl) ga
    refine ent_q (run_indexS i rfl hia) ?_
    refine ent_q (run_field _ _) ?_
    refine ent_q (run_field _ _) ?_
    refine ent_q (run_load (hc1 11 x.2 rfl)) ?_
    refine ent_q (run_lenR 0 rfl) ?_
    refine ent_qb (run_gt _ _) (fun hx => ?_) (fun hx => ?_)
    · (repeat refine ent_ifT ?_)
      exact ent_ret () (by rw [yes (.inr (.inr ⟨x, List.mem_of_getElem? ga, by omega⟩))]) (by exact Imp.trans Imp.drop1 (Imp.trans Imp.drop1 (Imp.drop1)))
    · (repeat refine ent_ifF ?_)
      refine ent_q (run_add64 (by omega)) ?_
      refine Ent.imp Imp.drop1 (hnext (i + 1) ⟨by omega, ?_⟩ (by omega))
      rw [hgen]
      intro y hy
      rcases List.mem_append.1 hy with hy | hy
      · exact hti y hy
      · rw [List.mem_singleton] at hy; subst hy; omega
  · refine ent_ifF ?_
    have hia : i = xs.length := by omega
    rw [hia, List.take_length] at hti
    have : q = false := by
      cases q with
      | false => rfl
      | true =>
        rcases hq.1 rfl with h | h | ⟨x, hx, h⟩
        · omega
        · omega
        · have := hti x hx; omega
    exact ent_ret () (by rw [this]) (by exact Imp.trans Imp.drop1 (Imp.drop1))
end
end Go.Gd
namespace Go.Gd
theorem dwrite_ok {D : Dk} {a : Nat} {b : List UInt8} (h : (D.write a b).1 = 0) : (D.write a b).2.l = upF D.l a b ∧ (D.write a b).2.down = false := by
  unfold Dk.write at h ⊢
  split
  · rename_i hd; rw [if_pos hd] at h; cases h
  · rename_i hd
    rw [if_neg hd] at h
    split
    · rename_i hz; rw [if_pos hz] at h; cases h
    · exact ⟨rfl, by simpa using hd⟩
theorem seq3 {a1 a2 a3 : Nat} {b1 b2 b3 : List UInt8} {D : Dk} (h : (wrSeq [(a1, b1), (a2, b2), (a3, b3)] D).1 = 0) :
    (wrSeq [(a1, b1), (a2, b2), (a3, b3)] D).2.l = upF (upF (upF D.l a1 b1) a2 b2) a3 b3 ∧ (wrSeq [(a1, b1), (a2, b2), (a3, b3)] D).2.down = false := by
  simp only [wrSeq] at h ⊢
  by_cases h1 : (D.write a1 b1).1 = 0
  · rw [if_neg (by simpa using h1)] at h ⊢
    obtain ⟨e1, d1⟩ := dwrite_ok h1
    generalize (D.write a1 b1).2 = D1 at *
    by_cases h2 : (D1.write a2 b2).1 = 0
    · rw [if_neg (by simpa using h2)] at h ⊢
      obtain ⟨e2, d2⟩ := dwrite_ok h2
      generalize (D1.write a2 b2).2 = D2 at *
      by_cases h3 : (D2.write a3 b3).1 = 0
      · rw [if_neg (by simpa using h3)] at h ⊢
        obtain ⟨e3, d3⟩ := dwrite_ok h3
        exact ⟨by rw [e3, e2, e1], d3⟩
      · rw [if_pos h3] at h; exact absurd h h3
    · rw [if_pos h2] at h; exact absurd h h2
  · rw [if_pos h1] at h; exact absurd h h1
structure Wrote (s : Shp) (w : Wr) (D D' : Dk) : Prop where
  blk : 0 ≤ w.block ∧ w.block < s.blocks
  size : w.data.length = s.size
  other : ∀ b, b < s.blocks → b ≠ w.block.toNat → s.blk D' b = s.blk D b
  same : (s.blk D' w.block.toNat).1 = (s.blk D w.block.toNat).1 → s.blk D' w.block.toNat = s.blk D w.block.toNat
  new : (s.blk D' w.block.toNat).1 ≠ (s.blk D w.block.toNat).1 → (s.blk D' w.block.toNat).2 = w.data
  up : D.down = false → D'.down = false
theorem write_law {s : Shp} (hs : s.Ok) (w : Wr) (D : Dk) (h : (s.write w D).2.1 = 0) : Wrote s w D (s.write w D).2.2 := by
  have h16 := hs.size
  unfold Shp.write at h ⊢
  split
  · rename_i c1; rw [if_pos c1] at h; cases h
  · rename_i c1
    rw [if_neg c1] at h
    have hbl : 0 ≤ w.block ∧ w.block < s.blocks := by omega
    split
    · rename_i c2; rw [if_pos c2] at h; cases h
    · rename_i c2
      rw [if_neg c2] at h
      have hlen : w.data.length = s.size := by simpa using c2
      split
      · rename_i c3; rw [if_pos c3] at h; cases h
      · rename_i c3
        rw [if_neg c3] at h
        have hf : s.fits w := by simpa using c3
        obtain ⟨hc, hk, hbo, hop⟩ := hf.small hs
        have hver := blk_ver (sh := s) D w.block.toNat
        have trivialW : ∀ D' : Dk, (∀ b, b < s.blocks → s.blk D' b = s.blk D b) → (D.down = false → D'.down = false) → Wrote s w D D' := fun D' hD' hdn =>
          ⟨hbl, hlen, fun b hb _ => hD' b hb, fun _ => hD' _ (by omega), fun hne => absurd (by rw [hD' _ (by omega)]) hne, hdn⟩
        split
        · rename_i c4; rw [if_pos c4] at h; cases h
        · rename_i c4
          rw [if_neg c4] at h
          split
          · exact trivialW D (fun _ _ => rfl) id
          · rename_i c5
            rw [if_neg c5] at h
            have hsl : ∀ b, b < s.blocks → 1 + b ≠ s.slotAt w.client.toNat w.slot.toNat := fun b hb => by unfold Shp.slotAt; omega
            split
            · rename_i c6
              rw [if_pos c6] at h
              split
              · rename_i c7; rw [if_pos c7] at h; exact absurd h c7
              · rename_i c7
                have h0 : (D.write (s.slotAt w.client.toNat w.slot.toNat) (nums [w.boot.toNat, w.op.toNat, 11])).1 = 0 := by simpa using c7
                obtain ⟨e1, d1⟩ := dwrite_ok h0
                refine trivialW _ (fun b hb => ?_) (fun _ => d1)
                show blkF s.size ((D.write _ _).2.l (1 + b)) = _
                rw [e1, upF_ne _ _ (hsl b hb)]
                rfl
            · rename_i c6
              rw [if_neg c6] at h
              split
              · rename_i c7; rw [if_pos c7] at h; exact absurd h c7
              · rename_i c7
                rw [if_neg c7] at h
                have h0 : (D.write 0 (jrnB w ((s.blk D w.block.toNat).1 + 1))).1 = 0 := by simpa using c7
                obtain ⟨e1, d1⟩ := dwrite_ok h0
                generalize hv : (s.blk D w.block.toNat).1 = ver at *
                generalize (D.write 0 (jrnB w (ver + 1))).2 = D1 at *
                have hd : (s.does w (ver + 1) D1).1 = 0 := h
                obtain ⟨e2, d2⟩ := seq3 hd
                have hsec : ∀ b, b < s.blocks → b ≠ w.block.toNat → (s.does w (ver + 1) D1).2.l (1 + b) = D.l (1 + b) := fun b hb hne => by
                  show (wrSeq _ D1).2.l (1 + b) = _
                  rw [e2, upF_ne _ _ (by omega), upF_ne _ _ (hsl b hb), upF_ne _ _ (by omega), e1, upF_ne _ _ (by omega)]
                have hown : (s.does w (ver + 1) D1).2.l (1 + w.block.toNat) = txt (nums [ver + 1]) w.data := by
                  show (wrSeq _ D1).2.l (1 + w.block.toNat) = _
                  rw [e2, upF_ne _ _ (by omega), upF_ne _ _ (hsl _ (by omega)), upF_same]
                have hblk : s.blk (s.does w (ver + 1) D1).2 w.block.toNat = (ver + 1, w.data) := by
                  show blkF s.size _ = _
                  rw [hown, ← hlen]
                  exact blkF_enc (by omega) (by omega)
                refine ⟨hbl, hlen, fun b hb hne => ?_, fun he => ?_, fun _ => ?_, fun _ => d2⟩
                · show blkF s.size _ = blkF s.size _
                  rw [hsec b hb hne]
                · rw [hblk, hv] at he; simp at he
                · rw [hblk]
theorem write_same {s : Shp} {w : Wr} {D : Dk} (h0 : (s.write w D).2.1 ≠ 0) (h8 : (s.write w D).2.1 ≠ 8) : (s.write w D).2.2 = D := by
  unfold Shp.write at h0 h8 ⊢
  split
  · rfl
  · rename_i c1
    rw [if_neg c1] at h0 h8
    split
    · rfl
    · rename_i c2
      rw [if_neg c2] at h0 h8
      split
      · rfl
      · rename_i c3
        rw [if_neg c3] at h0 h8
        split
        · rfl
        · rename_i c4
          rw [if_neg c4] at h0 h8
          split
          · rfl
          · rename_i c5
            rw [if_neg c5] at h0 h8
            split
            · rename_i c6
              rw [if_pos c6] at h0 h8
              split
              · rename_i c7
                rw [if_pos c7] at h0 h8
                rcases write_e D (s.slotAt w.client.toNat w.slot.toNat) (nums [w.boot.toNat, w.op.toNat, 11]) with h | h
                · exact absurd h h0
                · exact absurd h h8
              · rename_i c7; rw [if_neg c7] at h0; exact absurd (Classical.not_not.1 c7) h0
            · rename_i c6
              rw [if_neg c6] at h0 h8
              split
              · rename_i c7
                rw [if_pos c7] at h0 h8
                rcases write_e D 0 (jrnB w ((s.blk D w.block.toNat).1 + 1)) with h | h
                · exact absurd h h0
                · exact absurd h h8
              · rename_i c7
                rw [if_neg c7] at h0 h8
                rcases seq_e [(1 + w.block.toNat, txt (nums [(s.blk D w.block.toNat).1 + 1]) w.data), (s.slotAt w.client.toNat w.slot.toNat, nums [w.boot.toNat, w.op.toNat, 0]), (0, [])] (D.write 0 (jrnB w ((s.blk D w.block.toNat).1 + 1))).2 with h | h
                · exact absurd h h0
                · exact absurd h h8
end Go.Gd
namespace Go.Gd
structure InvX (c : Cfg) (D : Dk) (S : Ca) (x0 : Option Nat) : Prop where
  i1 : ∀ b d, S.m b = some d → b < (shOf c).blocks ∧ (x0 ≠ some b → d = ((shOf c).blk D b).2)
  i2 : ∀ b, b < 64 → (S.o.has (b : Nat) = true ↔ S.m b ≠ none)
abbrev Inv (c : Cfg) (D : Dk) (S : Ca) : Prop := InvX c D S none
section
variable {c : Cfg} {k : Nat} {S : Ca} {D : Dk} {x0 : Option Nat}
end
theorem keep_S (c : Cfg) (A : Ar) (b level : Int) (d : List UInt8) :
    ((c.mode ≠ 2 ∨ level = 3 ∧ Ca.takes c 3 A.S b level) ∧ (Ar.keep c A b level d).1.S = (A.S.put c 3 b d level).1) ∨ (¬ (c.mode ≠ 2 ∨ level = 3 ∧ Ca.takes c 3 A.S b level) ∧ (Ar.keep c A b level d).1.S = (A.S.drop b).1) := by
  classical
  unfold Ar.keep
  by_cases h : c.mode ≠ 2 ∨ level = 3 ∧ Ca.takes c 3 A.S b level
  · rw [if_pos h]; exact .inl ⟨h, rfl⟩
  · rw [if_neg h]; exact .inr ⟨h, rfl⟩
theorem read_in {s : Shp} {D : Dk} {b : Int} (h : 0 ≤ b ∧ b < s.blocks) : s.read D b = ((s.blk D b.toNat).2, (s.blk D b.toNat).1, 0) := by unfold Shp.read; rw [if_pos h]
theorem keep_ok {c : Cfg} {k : Nat} {A : Ar} (h : CaOk c k A.S) (hk : k + 1 < 4611686018427387904) (b level : Int) {d : List UInt8} (hd : d.length ≤ 64) : CaOk c (k + 1) (Ar.keep c A b level d).1.S := by
  rcases keep_S c A b level d with ⟨_, e⟩ | ⟨_, e⟩
  · rw [e]; exact h.put hk 3 b hd level
  · rw [e]; exact (h.drop b).mono (Nat.le_succ _) hk
theorem use_len {c : Cfg} {k : Nat} {S : Ca} (h : CaOk c k S) (b : Int) : (S.use b).2.1.length ≤ 64 := by
  unfold Ca.use
  split
  · cases hx : S.m b.toNat with
    | none => simp
    | some d => exact h.size _ d hx
  · simp
theorem hear_ok {c : Cfg} {n k : Nat} {A : Ar} (hok : ArOk c n k A) (hk : k + 2 < 4611686018427387904) (m : Msg) : ArOk c n (k + 2) (A.hear c m).1 := by
  have hS := hok.S
  have hS2 : CaOk c (k + 2) A.S := hS.mono (by omega) hk
  have hr := hok.reads
  have hsh := shOf_ok hS.right
  unfold Ar.hear
  split
  · exact ⟨hS2, hok.need, hok.D, (by show A.reads ≤ _; omega)⟩
  · rename_i hright
    have hright : m.right = true := by
      cases hx : m.right with
      | true => rfl
      | false => exact absurd (.inr hx) hright
    have hdl : m.data.length ≤ 64 := (right_bounds hright).2.2.2.2.2.2.2
    split
    · unfold Ar.read
      split
      · split
        · have hkr := keep_reads c { A with S := (A.S.use m.block).1 } m.block m.level (A.S.use m.block).2.1
          exact ⟨keep_ok (A := { A with S := (A.S.use m.block).1 }) (hS.use (by omega) m.block) (by omega) _ _ (use_len hS _), hok.need, by rw [hkr.1]; exact hok.D, by rw [hkr.2.2]; show A.reads ≤ _; omega⟩
        · exact ⟨(hS.use (by omega) m.block).mono (by omega) hk, hok.need, hok.D, by show A.reads ≤ _; omega⟩
      · split
        · exact ⟨hS2, hok.need, hok.D, (by show A.reads ≤ _; omega)⟩
        · have hkr := keep_reads c { A with reads := A.reads + 1 } m.block m.level ((shOf c).read A.D m.block).1
          have hrl := read_len hsh A.D m.block
          exact ⟨(keep_ok (A := { A with reads := A.reads + 1 }) hS (by omega) _ _ (by omega)).mono (by omega) hk, hok.need, by rw [hkr.1]; exact hok.D, by rw [hkr.2.2]; show A.reads + 1 ≤ _; omega⟩
    · split
      · have hDw := Shp.write_ok hsh (msgW m) hok.D
        unfold Ar.write
        dsimp only
        split
        · split
          · have hkr := keep_reads c { A with D := ((shOf c).write (msgW m) A.D).2.2 } m.block m.level m.data
            exact ⟨(keep_ok (A := { A with D := ((shOf c).write (msgW m) A.D).2.2 }) hS (by omega) _ _ hdl).mono (by omega) hk, hok.need, by rw [hkr.1]; exact hDw, by rw [hkr.2.2]; show A.reads ≤ _; omega⟩
          · exact ⟨hS2, hok.need, hDw, by show A.reads ≤ _; omega⟩
        · split
          · exact ⟨hS2, hok.need, hDw, by show A.reads ≤ _; omega⟩
          · split
            · exact ⟨hS2, hok.need, hDw, by show A.reads ≤ _; omega⟩
            · exact ⟨hS2, hok.need, hDw, by show A.reads ≤ _; omega⟩
      · split
        · unfold Ar.demote
          split
          · exact ⟨(hS.put (by omega) 3 m.block hdl m.level).mono (by omega) hk, hok.need, hok.D, by show A.reads ≤ _; omega⟩
          · exact ⟨hS2, hok.need, hok.D, (by show A.reads ≤ _; omega)⟩
        · split
          · exact ⟨(hS.drop m.block).mono (by omega) hk, hok.need, hok.D, by show A.reads ≤ _; omega⟩
          · exact ⟨hS2, hok.need, hok.D, (by show A.reads ≤ _; omega)⟩
theorem CaOk.new {c : Cfg} (hr : cfgRight c = true) {tier : Nat} (ht : 1 ≤ tier ∧ tier ≤ 3) (x : CaN) : CaOk c 0 (Ca.new c tier x) := by
  obtain ⟨hP, h8, hh, _⟩ := cfg_facts hr
  refine ⟨hr, ordNew_fine hr ht x, by decide, fun i d h => (by cases h), fun hp => ?_, fun hp => ?_⟩
  · show ∃ pc, (Ord.new c tier x).isPart = some pc ∧ pc.Ok
    unfold Ord.new
    rw [if_pos hp]
    exact ⟨_, rfl, ⟨h8, hh, by show 1 ≤ tier ∧ tier ≤ 3; exact ht⟩⟩
  · show (Ord.new c tier x).isPart = none
    unfold Ord.new
    rw [if_neg hp]
    split <;> rfl
theorem new_hasNot (c : Cfg) (tier : Nat) (x : CaN) (b : Nat) : (Ord.new c tier x).has (b : Nat) = false := by
  have hno : ∀ n, lkOf (lkNew n) b = none := by
    intro n
    cases h : lkOf (lkNew n) b with
    | none => rfl
    | some k =>
      obtain ⟨l, hl, hb⟩ := lkOf_some h
      unfold lkNew at hl
      rw [List.getElem?_replicate] at hl
      split at hl
      · simp only [Option.some.injEq] at hl; subst hl; simp at hb
      · cases hl
  unfold Ord.new
  split
  · simp only [Ord.has, lkI]
    split
    · rw [show ((b : Nat) : Int).toNat = b from rfl, hno]; rfl
    · rfl
  · split
    · simp only [Ord.has, MqS.hasI, MqS.new, lkI]
      split
      · rename_i h; split at h
        · rw [show ((b : Nat) : Int).toNat = b from rfl, hno] at h; cases h
        · cases h
      · rfl
    · simp [Ord.has]
end Go.Gd
namespace Go.Gd
open Go.Instr
attribute [local irreducible] loadAt storeAt fieldAt indexAt alloc box build buildSlice hNil eqG binOp Op.unary extract makeSlice makeInterface makeFunc convert hV mV pV hU hF hFV hI hIf hGuard hPick hJ hDraw hLoop ro Instr.index dkH arH outH
def leastC : Cfg := { clients := 1, slots := 1, blocks := 4, size := 1, mode := 2, place := 0, pol := fun _ => 1, cap := fun _ => 1, queues := 1, life := 1, ghost := 0, demote := 1, hints := [], hv := .slice none 0 0 }
theorem least_right : cfgRight leastC = true := by
  rw [cfgRight_yes]
  · rfl
  · refine ⟨fun i _ => ?_, ?_⟩
    · show ((1 : Int) ≤ 1 ∧ (1 : Int) ≤ 2) ∧ (1 : Int) ≤ 1 ∧ (1 : Int) ≤ 16
      decide
    · decide
def freshD : Dk := { l := fun _ => [], fuse := -1, down := false }
theorem fresh_ok : freshD.Ok := ⟨fun _ => by show 0 ≤ 64; omega, by decide⟩
theorem jrn_nil (s : Shp) : ¬ s.jrnIs [] := by
  rintro ⟨h, _⟩
  have : (rText [] s.size (rNums [] 6 rd0).2).2.ok = false := rfl
  rw [this] at h; cases h
theorem open_fresh (s : Shp) : s.open freshD = (0, freshD) := by
  exact if_neg (jrn_nil s)
def wakeM : Msg := ⟨8, 0, 0, 0, 0, 1, 0, 0, 0, false, []⟩
theorem wake_hear (y : CaN) : ∃ A', (Ar.new leastC freshD y).hear leastC wakeM = (A', [mData 1 [0]]) ∧ A'.reads = 1 := by
  have hu : ((Ar.new leastC freshD y).S.use 1).2.2 = false := by
    unfold Ca.use
    rw [if_neg]
    have := new_hasNot leastC 3 y 1
    show ¬ (Ord.new leastC 3 y).has ((1 : Nat) : Int) = true
    rw [this]; simp
  have hD : (Ar.new leastC freshD y).D = freshD := by show ((shOf leastC).open freshD).2 = _; rw [open_fresh]
  have hr : (shOf leastC).read freshD 1 = ([0], 0, 0) := by decide
  have hread : (Ar.new leastC freshD y).read leastC wakeM = ((Ar.keep leastC { (Ar.new leastC freshD y) with reads := 1 } 1 0 [0]).1, (Ar.keep leastC { (Ar.new leastC freshD y) with reads := 1 } 1 0 [0]).2 ++ [mData 1 [0]]) := by
    unfold Ar.read
    show (if ((Ar.new leastC freshD y).S.use 1).2.2 = true then _ else _) = _
    rw [hu, if_neg (by simp), hD]
    show (if ((shOf leastC).read freshD 1).2.2 ≠ 0 then _ else (Ar.keep leastC _ 1 0 ((shOf leastC).read freshD 1).1 |>.1, _)) = _
    rw [hr, if_neg (by simp)]
    show _ = _
    rw [show (shOf leastC).read freshD wakeM.block = ([0], 0, 0) from hr]
    rfl
  have hk2 : (Ar.keep leastC { (Ar.new leastC freshD y) with reads := 1 } 1 0 [0]).2 = [] := by
    classical
    unfold Ar.keep
    rw [if_neg (by intro h; rcases h with h | h; exact h rfl; exact absurd h.1 (by decide))]
  refine ⟨(Ar.keep leastC { (Ar.new leastC freshD y) with reads := 1 } 1 0 [0]).1, ?_, ?_⟩
  · unfold Ar.hear
    rw [if_neg (by intro h; rcases h with h | h; cases h; exact absurd h (by decide)), if_pos (show wakeM.kind = 8 from rfl), hread, hk2]
    rfl
  · exact (keep_reads leastC { (Ar.new leastC freshD y) with reads := 1 } 1 0 [0]).2.2
section
variable {w0 : World} {L : List HP}
theorem rf_least : Spec w0 44 [] [] (fun _ : Unit => cfgV leastC) (fun _ => []) := by
  refine spec_go (fun R w => H44) fun F => ?_
  show Ent w0 F _
  unfold F44
  refine ent_alloc fun t0 => ?_
  refine ent_q (run_buildA (parts := [(0, .int .i64 1), (1, .int .i64 1), (2, .int .i64 1)]) (cs := [.int .i64 1, .int .i64 1, .int .i64 1]) rfl) ?_
  refine ent_q (run_buildA (parts := [(0, .int .i64 1), (1, .int .i64 1), (2, .int .i64 1)]) (cs := [.int .i64 1, .int .i64 1, .int .i64 1]) rfl) ?_
  refine ent_q (bd25_0_1_2_3_4_6_7_8_9_11 rfl rfl rfl rfl rfl rfl rfl rfl) ?_
  refine ent_sa0 (vs := cfgL leastC) rfl (cfgL_one rfl) (Nat.le_refl 17) (l' := cfgL leastC) rfl ?_
  refine ent_r (run_loadA (vs := cfgL leastC) rfl (cells_all 0 rfl)) ?_
  exact ent_ret () rfl (by exact Imp.drop1)
theorem rf_wakes : Spec w0 10 [] [] (fun _ : Unit => .bool true) (fun _ => []) := by
  refine spec_go (fun R w => H10) fun F => ?_
  show Ent w0 F _
  unfold F10
  refine ent_call rf_least (Imp.refl _) fun _ => ?_
  refine ent_call sec_new (Imp.refl _) fun d => ?_
  have hneed : (shOf leastC).need ≤ 64 := by decide
  refine Ent.imp (L' := ro w0 leastC.hv 4 leastC.hints.length (hintsV leastC.hints) :: dkH w0 d 64 freshD :: F) (Imp.ro0 rfl (Imp.refl _)) ?_
  refine ent_call (ar_new least_right d freshD hneed fresh_ok (by rw [open_fresh])) (Imp.refl _) fun z => ?_
  obtain ⟨x, y⟩ := z
  dsimp only
  show Ent w0 (arH w0 x leastC (Ar.new leastC freshD y) :: dkH w0 x.d 64 (Ar.new leastC freshD y).D :: pureH (x.d = d) :: F) _
  (repeat refine ent_q (run_ex rfl) ?_)
  refine ent_q ((run_ne _ _).F (by omega)) ?_
  (repeat refine ent_ifF ?_)
  refine ent_q (bd37_0_5 rfl rfl) ?_
  have hok : ArOk leastC 64 0 (Ar.new leastC freshD y) := ⟨CaOk.new least_right (by omega) y, hneed, by show ((shOf leastC).open freshD).2.Ok; rw [open_fresh]; exact fresh_ok, Nat.le_refl _⟩
  refine Ent.imp (Imp.ro0 (a := none) (cap := 0) (sz := 1) (w0 := w0) rfl (Imp.refl _)) ?_
  refine ent_call (ar_hear hok (by omega) wakeM (.slice none 0 0)) (by (repeat (first | refine Imp.pick 0 rfl ?_ | refine Imp.pick 1 rfl ?_)); exact Imp.refl _) fun v => ?_
  obtain ⟨A', e1, e2⟩ := wake_hear y
  rw [e1]
  dsimp only
  refine Ent.out fun xs hxs => ?_
  obtain ⟨dv, rfl⟩ : ∃ dv, xs = [(mData 1 [0], dv)] := by
    match xs, hxs with
    | [(m, dv)], h => simp only [List.map_cons, List.map_nil, List.cons.injEq, and_true] at h; subst h; exact ⟨dv, rfl⟩
    | a :: b :: t, h => simp at h
  refine Ent.vec (fun a hv hl hn => by simp at hn) fun b cap junk hv hl hc => ?_
  subst hv
  refine ent_q run_len ?_
  refine ent_q ((run_eq _ _).T (by simp)) ?_
  (repeat (first | refine ent_gT ?_ | refine ent_j ?_))
  refine ent_q (run_indexS0 0 rfl (by simp)) ?_
  have hmv : msgsV [(mData 1 [0], dv)] = msgL (mData 1 [0]) dv := by simp [msgsV]
  rw [hmv]
  refine ent_q (run_loadA (vs := msgL (mData 1 [0]) dv) rfl (cells_ownP (rest := junk) 0 rfl)) ?_
  refine ent_bs (zs := [.int .u8 0]) rfl (n := 1) (parts := [(0, .int .u8 0)]) (cs := by8 [0]) (by simp) rfl fun b8 => ?_
  refine ent_q (bd37_0_5_10 rfl rfl rfl) ?_
  refine Ent.freeze ?_
  refine Ent.imp (L' := ro w0 (.slice (some ⟨b8, 0, none⟩) 1 1) 1 1 (by8 [0]) :: roB w0 dv [0] :: arH w0 x leastC A' :: F) ?_ ?_
  · refine Imp.trans (L2 := ptI b8 5 (by8 [0] ++ []) :: datH w0 [(mData 1 [0], dv)] :: arH w0 x leastC A' :: F) ?_ ?_
    · rw [List.append_nil]; exact (by (repeat (first | refine Imp.pick 0 rfl ?_ | refine Imp.pick 1 rfl ?_)); exact Imp.trans Imp.drop1 (Imp.trans Imp.drop1 (Imp.drop1)))
    · refine Imp.trans (Imp.roI (w0 := w0) (cap := 1) (n := 1) (sz := 1) rfl (Nat.le_refl _)) (Imp.cons ?_)
      exact Imp.trans (Imp.datGet (i := 0) rfl) (by (repeat (first | refine Imp.pick 0 rfl ?_ | refine Imp.pick 1 rfl ?_)); exact Imp.drop1)
  refine ent_call (rf_sameMsg (mData 1 [0]) (mData 1 [0]) dv (.slice (some ⟨b8, 0, none⟩) 1 1) true (by simp) (by decide) (by decide)) (by (repeat (first | refine Imp.pick 0 rfl ?_ | refine Imp.pick 1 rfl ?_)); exact Imp.refl _) fun _ => ?_
  (repeat (first | refine ent_gT ?_ | refine ent_pT ?_))
  refine ent_call ar_reads (Imp.refl _) fun _ => ?_
  rw [e2]
  refine ent_q ((run_eq _ _).T rfl) ?_
  (repeat refine ent_pT ?_)
  exact ent_ret () rfl (by exact Imp.drop1)
end
end Go.Gd
set_option linter.unusedVariables false
namespace Go.Gd
open Go.Instr
attribute [local irreducible] loadAt storeAt fieldAt indexAt alloc box build buildSlice hNil eqG binOp Op.unary extract makeSlice makeInterface makeFunc convert hV mV pV hU hF hFV hI hIf hGuard hPick hJ hDraw hLoop ro Instr.index dkH arH outH caH ordH stI
theorem Ent.arLk {w0 : World} {x : ArN} {c : Cfg} {A : Ar} {L : List HP} {X : World → Prop} (h : A.S.o.Lk → Ent w0 (arH w0 x c A :: L) X) : Ent w0 (arH w0 x c A :: L) X := by
  refine Ent.ar ?_
  refine Ent.at 2 rfl (Ent.ca fun cv vs => ?_)
  refine Ent.at 1 rfl (Ent.ordOk fun hk => ?_)
  refine Ent.imp ?_ (h hk)
  refine Imp.trans (L2 := caH w0 x.k x.a x.p x.mb c 3 A.S :: pt x.ar 105 (arL x c A) :: stI x.s x.d (shOf c) :: L) (Imp.ca (cv := cv) (vs := vs) (by (repeat (first | refine Imp.pick 0 rfl ?_ | refine Imp.pick 1 rfl ?_)); exact Imp.refl _)) (Imp.ar (by (repeat (first | refine Imp.pick 0 rfl ?_ | refine Imp.pick 1 rfl ?_)); exact Imp.refl _))
theorem RdS.cellM {w0 : World} {L : List HP} {a : Option Addr} {n cap : Nat} {xs : List (Msg × Value)} (h : RdS w0 L (.slice a n cap) 11 n (msgsV xs)) {i : Nat} {x : Msg × Value} (hx : xs[i]? = some x) :
    ∃ b o, a = some ⟨b, o, none⟩ ∧ ∀ j u, (msgL x.1 x.2)[j]? = some u → Cell w0 L ⟨b, o + i * 11 + j, none⟩ u := by
  obtain ⟨a', c', e1, e2, e3⟩ := h
  cases e1
  rcases e3 with e3 | ⟨b, o, rfl, hc⟩
  · have := congrArg List.length e3
    rw [msgsV_len] at this
    have := (List.getElem?_eq_some_iff.1 hx).1
    simp at *; omega
  · exact ⟨b, o, rfl, fun j u hj => by rw [Nat.add_assoc]; exact hc _ _ (msgsV_get hx j u hj)⟩
theorem hear_len (c : Cfg) (A : Ar) (m : Msg) : (A.hear c m).2.length ≤ 2 := by
  unfold Ar.hear
  split
  · simp
  · split
    · unfold Ar.read
      split
      · split
        · have := out_len_keep c { A with S := (A.S.use m.block).1 } m.block m.level (A.S.use m.block).2.1
          simp only [List.length_append, List.length_cons, List.length_nil]; omega
        · simp
      · split
        · simp
        · have := out_len_keep c { A with reads := A.reads + 1 } m.block m.level ((shOf c).read A.D m.block).1
          simp only [List.length_append, List.length_cons, List.length_nil]; omega
    · split
      · unfold Ar.write
        dsimp only
        split
        · split
          · have := out_len_keep c { A with D := ((shOf c).write (msgW m) A.D).2.2 } m.block m.level m.data
            simp only [List.length_append, List.length_cons, List.length_nil]; omega
          · simp
        · split
          · simp
          · split <;> simp
      · split
        · simp
        · split <;> simp
section
variable {w0 : World} {L : List HP}
end
end Go.Gd
set_option linter.unusedVariables false
namespace Go.Gd
open Go.Instr
attribute [local irreducible] loadAt storeAt fieldAt indexAt alloc box build buildSlice hNil eqG binOp Op.unary extract makeSlice makeInterface makeFunc convert hV mV pV hU hF hFV hI hIf hGuard hPick hJ hDraw hLoop ro Instr.index dkH arH outH caH ordH stI
theorem new_ok {c : Cfg} (hr : cfgRight c = true) {D : Dk} (hD : D.Ok) (hn : (shOf c).need ≤ 64) (y : CaN) : ArOk c 64 0 (Ar.new c D y) :=
  ⟨CaOk.new hr (by omega) y, hn, Shp.open_ok (shOf_ok hr) hD, Nat.le_refl _⟩
theorem need64 {c : Cfg} (hr : cfgRight c = true) : (shOf c).need ≤ 64 := by
  have h := shOf_ok hr
  have h1 := h.blocks; have h2 := h.clients; have h3 := h.slots
  have h4 : (shOf c).clients * (shOf c).slots ≤ 4 * 4 := Nat.mul_le_mul h2.2 h3.2
  unfold Shp.need; omega
section
variable {w0 : World} {L : List HP}
end
end Go.Gd
