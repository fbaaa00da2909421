/- The contracts of package wide, second part: the order of fractions. Conditions: those in the theorems. The contracts of package wide, third part: Order. Conditions: those in the theorems. -/
import Derived.Test.YtdgnnacppiaogaaGreatB11
import Derived.Test.YtdgnnacppiaogaaGreatB8
import Derived.Test.YtdgnnacppiaogaaGreatB12
set_option linter.unusedVariables false
set_option linter.unusedSimpArgs false
namespace Go.Gd
open Go.Instr
attribute [local irreducible] loadAt storeAt fieldAt indexAt alloc box build buildSlice hNil eqG binOp Op.unary extract makeSlice makeInterface makeFunc convert hV mV pV hU hF hFV hIf hGuard hPick hJ hDraw hLoop ro
def fracV (f : Nat × Nat) : List Value := [.int .i64 f.1, .int .i64 f.2]
def fracsV (l : List (Nat × Nat)) : List Value := l.flatMap fracV
theorem fracsV_len (l : List (Nat × Nat)) : (fracsV l).length = l.length * 2 := by
  unfold fracsV
  induction l with
  | nil => rfl
  | cons h l ih => simp only [List.flatMap_cons, List.length_append, ih, List.length_cons]; simp [fracV]; omega
theorem fracsV_get : ∀ {l : List (Nat × Nat)} {i : Nat} {h : Nat × Nat}, l[i]? = some h → ∀ j v, (fracV h)[j]? = some v → (fracsV l)[i * 2 + j]? = some v
  | [], i, h, hi, j, v, hj => by simp at hi
  | x :: l, 0, h, hi, j, v, hj => by
    simp only [List.getElem?_cons_zero, Option.some.injEq] at hi
    subst hi
    have : j < (fracV x).length := (List.getElem?_eq_some_iff.1 hj).1
    unfold fracsV
    rw [List.flatMap_cons, List.getElem?_append_left (by omega), Nat.zero_mul, Nat.zero_add]; exact hj
  | x :: l, i + 1, h, hi, j, v, hj => by
    have := fracsV_get (l := l) (i := i) (h := h) (by simpa using hi) j v hj
    have hx : (fracV x).length = 2 := rfl
    unfold fracsV at *
    rw [List.flatMap_cons, List.getElem?_append_right (by rw [hx]; omega), hx, show (i + 1) * 2 + j - 2 = i * 2 + j by omega]; exact this
def FracsOk (l : List (Nat × Nat)) : Prop := l.length ≤ 8 ∧ ∀ f ∈ l, FracP f.1 f.2
def cmpL (l : List (Nat × Nat)) (i k : Nat) : Int := match l[k]?, l[i]? with
  | some a, some b => cmpF a.1 a.2 b.1 b.2
  | _, _ => 0
def swapN (d : List Nat) (j : Nat) : List Nat := (d.set (j + 1) (d.getD j 0)).set j (d.getD (j + 1) 0)
def sift (f : Nat → Nat → Int) (d : List Nat) : Nat → List Nat
  | 0 => d
  | j + 1 => if f (d.getD (j + 1) 0) (d.getD j 0) < 0 then sift f (swapN d j) j else d
def isortN (f : Nat → Nat → Int) (d : List Nat) : Nat → List Nat
  | 0 => d
  | i + 1 => sift f (isortN f d i) (i + 1)
def orderF (l : List (Nat × Nat)) : List Nat := isortN (cmpL l) (List.range l.length) (l.length - 1)
theorem swapN_length (d : List Nat) (j : Nat) : (swapN d j).length = d.length := by simp [swapN]
theorem getD_mem {d : List Nat} {j : Nat} (h : j < d.length) : d.getD j 0 ∈ d := by
  rw [List.getD_eq_getElem?_getD, List.getElem?_eq_getElem h]; exact List.getElem_mem h
theorem swapN_lt {d : List Nat} {j n : Nat} (hj : j + 1 < d.length) (h : ∀ x ∈ d, x < n) : ∀ x ∈ swapN d j, x < n := by
  intro x hx
  rcases List.mem_or_eq_of_mem_set hx with hx | rfl
  · rcases List.mem_or_eq_of_mem_set hx with hx | rfl
    · exact h x hx
    · exact h _ (getD_mem (by omega))
  · exact h _ (getD_mem hj)
theorem sift_ok {f : Nat → Nat → Int} {n : Nat} : ∀ (j : Nat) (d : List Nat), (j = 0 ∨ j < d.length) → (∀ x ∈ d, x < n) → (sift f d j).length = d.length ∧ ∀ x ∈ sift f d j, x < n
  | 0, d, _, h => ⟨rfl, h⟩
  | j + 1, d, hj, h => by
    unfold sift
    split
    · have := sift_ok (f := f) j (swapN d j) (.inr (by rw [swapN_length]; omega)) (swapN_lt (by omega) h)
      rw [swapN_length] at this
      exact this
    · exact ⟨rfl, h⟩
theorem isortN_ok {f : Nat → Nat → Int} {d : List Nat} {n : Nat} (h : ∀ x ∈ d, x < n) : ∀ i, i ≤ d.length - 1 → (isortN f d i).length = d.length ∧ ∀ x ∈ isortN f d i, x < n
  | 0, _ => ⟨rfl, h⟩
  | i + 1, hi => by
    obtain ⟨h1, h2⟩ := isortN_ok (f := f) h i (by omega)
    have := sift_ok (f := f) (i + 1) (isortN f d i) (.inr (by omega)) h2
    rw [h1] at this
    exact this
theorem orderF_ok (l : List (Nat × Nat)) : (orderF l).length = l.length ∧ ∀ x ∈ orderF l, x < l.length := by
  have := isortN_ok (f := cmpL l) (d := List.range l.length) (n := l.length) (fun x hx => List.mem_range.1 hx) (l.length - 1) (by simp)
  rw [List.length_range] at this
  exact this
theorem intsV_get {d : List Nat} {j : Nat} (h : j < d.length) : (intsV d)[j]? = some (.int .i64 (d.getD j 0 : Nat)) := by
  unfold intsV
  rw [List.getElem?_map, List.getElem?_eq_getElem h, List.getD_eq_getElem?_getD, List.getElem?_eq_getElem h]; rfl
theorem intsV_set {d : List Nat} {j x : Nat} : (intsV d).set j (.int .i64 (x : Nat)) = intsV (d.set j x) := by
  unfold intsV; rw [List.map_set]
section
variable {w0 : World}
theorem wi_index (v : Value) (l : List (Nat × Nat)) (hl : FracsOk l) :
    Spec w0 231 [v, .func (.func 224) #[] #[]] [ro w0 v 2 l.length (fracsV l)] (fun _ : Unit => .int .i64 (-1)) (fun _ => []) := by
  refine spec_go (fun R w => H231) fun F => ?_
  show Ent w0 (ro w0 v 2 l.length (fracsV l) :: F) _
  refine Ent.ro fun a cap R hv hln hrd => ?_
  subst hv
  obtain ⟨hl8, hok⟩ := hl
  unfold F231
  refine ent_q run_len ?_
  refine ent_loop (ι := Nat) (fun i => i ≤ l.length) (fun i => [.int .i64 (i : Nat), .int .i64 0]) (fun i => R :: F) (fun i => l.length - i) 0 (Nat.zero_le _) rfl (by (repeat refine Imp.pick 0 rfl ?_); exact Imp.drop1) ?_
  intro i hi g next hnext
  show Ent w0 _ (hV P (binOp .lss 3 (.int .i64 (i : Nat)) (.int .i64 (l.length : Nat))) _)
  refine ent_qb (run_lt _ _) (fun h => ?_) (fun h => ?_)
  · have hil : i < l.length := by omega
    obtain ⟨x, hx⟩ : ∃ x, l[i]? = some x := ⟨_, List.getElem?_eq_getElem hil⟩
    have hxp := hok x (List.mem_of_getElem? hx)
    obtain ⟨b, o, ha, hc⟩ : ∃ b o, a = some ⟨b, o, none⟩ ∧ Cells w0 (R :: F) b o (fracsV l) := by
      obtain ⟨a', cap', e1, _, e2⟩ := hrd (R :: F) 0 rfl
      cases e1
      rcases e2 with e2 | e2
      · have := fracsV_len l; rw [e2] at this; simp at this; omega
      · exact e2
    subst ha
    (repeat refine ent_ifT ?_)
    refine ent_q (run_indexS i rfl hil) ?_
    refine ent_q (run_loadA (vs := fracV x) rfl (fun j u hj => ?_)) ?_
    · rw [show o + i * 2 + j = o + (i * 2 + j) by omega]
      exact hc _ _ (fracsV_get hx j u hj)
    have h224 : Spec w0 224 [.agg (fracV x).toArray] [] (fun _ : Unit => .bool false) (fun _ => []) := by
      refine spec_go (fun R w => H224) fun F => ?_
      show Ent w0 F _
      unfold F224
      refine ent_box fun q => ?_
      refine ent_q (run_loadA (vs := fracV x) rfl (cells_all 0 rfl)) ?_
      refine ent_call (wi_right x.1 x.2) (Imp.refl _) fun _ => ?_
      rw [decide_eq_true hxp]
      (repeat refine ent_q (run_notT) ?_)
      exact ent_ret () rfl (by exact Imp.drop1)
    refine ent_callV (xs := [.agg (fracV x).toArray]) rfl h224 (Imp.refl _) fun _ => ?_
    (repeat refine ent_ifF ?_)
    refine ent_q (run_add64 (by omega)) ?_
    exact hnext (i + 1) (by omega) (by omega)
  · (repeat refine ent_ifF ?_)
    exact ent_ret () rfl (by exact Imp.drop1)
theorem wi_cmp (v : Value) (lb : Nat) (l : List (Nat × Nat)) (hl : FracsOk l) (i k : Nat) (hi : i < l.length) (hk : k < l.length) :
    Spec w0 227 [.int .i64 i, .int .i64 k, P0 lb] [pt lb 302 [v], ro w0 v 2 l.length (fracsV l)] (fun _ : Unit => .int .i64 (cmpL l i k)) (fun _ => [pt lb 302 [v], ro w0 v 2 l.length (fracsV l)]) := by
  refine spec_go (fun R w => H227) fun F => ?_
  show Ent w0 (pt lb 302 [v] :: ro w0 v 2 l.length (fracsV l) :: F) _
  obtain ⟨hl8, hok⟩ := hl
  refine Ent.at 1 rfl (Ent.ro fun a cap R hv hln hrd => ?_)
  subst hv
  show Ent w0 (R :: ro w0 (.slice a l.length cap) 2 l.length (fracsV l) :: pt lb 302 [.slice a l.length cap] :: F) _
  obtain ⟨x, hx⟩ : ∃ x, l[i]? = some x := ⟨_, List.getElem?_eq_getElem hi⟩
  obtain ⟨y, hy⟩ : ∃ y, l[k]? = some y := ⟨_, List.getElem?_eq_getElem hk⟩
  have cells : ∀ M : List HP, M[0]? = some R → ∃ b o, a = some ⟨b, o, none⟩ ∧ Cells w0 M b o (fracsV l) := fun M hM => by
    obtain ⟨a', cap', e1, _, e2⟩ := hrd M 0 hM
    cases e1
    rcases e2 with e2 | e2
    · have := fracsV_len l; rw [e2] at this; simp at this; omega
    · exact e2
  obtain ⟨b, o, ha, hc⟩ := cells (R :: [pt lb 302 [.slice a l.length cap]]) rfl
  subst ha
  unfold F227
  refine ent_draw (R :: [pt lb 302 [.slice (some ⟨b, o, none⟩) l.length cap]]) (by (repeat (first | refine Imp.pick 0 rfl ?_ | refine Imp.pick 1 rfl ?_)); exact Imp.nil) ?_
  refine ent_m (run_load (cell_own 1 rfl rfl)) ?_
  refine ent_p (fun _ => run_indexS k rfl hk) ?_
  have ld : ∀ (t : Nat) (z : Nat × Nat), l[t]? = some z → Cells w0 (R :: [pt lb 302 [.slice (some ⟨b, o, none⟩) l.length cap]]) b (o + t * 2) (fracV z) := fun t z hz j u hj => by
    rw [show o + t * 2 + j = o + (t * 2 + j) by omega]
    exact hc _ _ (fracsV_get hz j u hj)
  refine ent_m (run_loadA (vs := fracV y) rfl (ld k y hy)) ?_
  refine ent_m (run_load (cell_own 1 rfl rfl)) ?_
  refine ent_p (fun _ => run_indexS i rfl hi) ?_
  refine ent_m (run_loadA (vs := fracV x) rfl (ld i x hx)) ?_
  refine ent_call (wi_compare y.1 y.2 x.1 x.2 (hok y (List.mem_of_getElem? hy)) (hok x (List.mem_of_getElem? hx))) (Imp.refl _) fun _ => ?_
  refine ent_and (by (repeat (first | refine Imp.pick 0 rfl ?_ | refine Imp.pick 1 rfl ?_)); exact Imp.nil) ?_
  (repeat refine ent_p (fun _ => run_ex rfl) ?_)
  refine ent_ret () ?_ (by (repeat (first | refine Imp.pick 1 rfl ?_ | refine Imp.pick 2 rfl ?_)); exact Imp.drop1)
  unfold cmpL
  rw [hx, hy]
  rfl
theorem sortV_get {d : List Nat} {junk : List Value} {j : Nat} (h : j < d.length) : (intsV d ++ junk)[0 + j * 1]? = some (.int .i64 (d.getD j 0 : Nat)) := by
  rw [Nat.zero_add, Nat.mul_one, List.getElem?_append_left (by rw [intsV_len]; exact h)]; exact intsV_get h
theorem sortV_set {d : List Nat} {junk : List Value} {j x : Nat} (h : j < d.length) : (intsV d ++ junk).set (0 + j * 1) (.int .i64 (x : Nat)) = intsV (d.set j x) ++ junk := by
  rw [Nat.zero_add, Nat.mul_one, List.set_append_left _ _ (by rw [intsV_len]; exact h), intsV_set]
theorem wi_isort (fv : Value) (lb b cap : Nat) (junk : List Value) (l : List (Nat × Nat)) (d : List Nat) (hl : FracsOk l) (hd : ∀ x ∈ d, x < l.length) (hdl : d.length ≤ 8) :
    Spec w0 235 [.slice (some ⟨b, 0, none⟩) d.length cap, .int .i64 0, .int .i64 d.length, .func (.func 227) #[] #[P0 lb]] [pt b 3 (intsV d ++ junk), pt lb 302 [fv], ro w0 fv 2 l.length (fracsV l)]
      (fun _ : Unit => .tuple #[]) (fun _ => [pt b 3 (intsV (isortN (cmpL l) d (d.length - 1)) ++ junk), pt lb 302 [fv], ro w0 fv 2 l.length (fracsV l)]) := by
  refine spec_go (fun R w => H235) fun F => ?_
  show Ent w0 (pt b 3 (intsV d ++ junk) :: pt lb 302 [fv] :: ro w0 fv 2 l.length (fracsV l) :: F) _
  unfold F235
  refine ent_q (run_add64 (by omega)) ?_
  have done : ∀ k, k ≤ d.length - 1 → (isortN (cmpL l) d k).length = d.length ∧ ∀ x ∈ isortN (cmpL l) d k, x < l.length := isortN_ok hd
  refine ent_loop (ι := Nat × Value) (fun i => i.1 ≤ d.length - 1) (fun i => [.int .i64 ((i.1 : Nat) + 1), i.2])
    (fun i => pt b 3 (intsV (isortN (cmpL l) d i.1) ++ junk) :: pt lb 302 [fv] :: ro w0 fv 2 l.length (fracsV l) :: F) (fun i => d.length - 1 - i.1) (0, undef) (Nat.zero_le _) rfl (Imp.refl _) ?_
  rintro ⟨i, jv⟩ hi g next hnext
  simp only at hi hnext ⊢
  show Ent w0 _ (hV P (binOp .lss 3 (.int .i64 ((i : Nat) + 1)) (.int .i64 (d.length : Nat))) _)
  refine ent_qb (run_lt _ _) (fun h => ?_) (fun h => ?_)
  · refine ent_ifT ?_
    obtain ⟨hSl, hSx⟩ := done i hi
    refine ent_loop (ι := Nat × List Nat) (fun s => s.1 ≤ i + 1 ∧ s.2.length = d.length ∧ (∀ x ∈ s.2, x < l.length) ∧ sift (cmpL l) s.2 s.1 = isortN (cmpL l) d (i + 1)) (fun s => [.int .i64 (s.1 : Nat)])
      (fun s => pt b 3 (intsV s.2 ++ junk) :: pt lb 302 [fv] :: ro w0 fv 2 l.length (fracsV l) :: F) (fun s => s.1) (i + 1, isortN (cmpL l) d i) ⟨Nat.le_refl _, hSl, hSx, rfl⟩ rfl (Imp.refl _) ?_
    rintro ⟨j, e⟩ ⟨hj, hel, hex, hsi⟩ g2 next2 hnext2
    simp only at hj hel hex hsi hnext2 ⊢
    have out : ∀ e', e' = isortN (cmpL l) d (i + 1) → ∀ jv', Ent w0 (pt b 3 (intsV e' ++ junk) :: pt lb 302 [fv] :: ro w0 fv 2 l.length (fracsV l) :: F) (hV P (binOp .add 3 (.int .i64 ((i : Nat) + 1)) (.int .i64 1)) fun t16 => next [t16, jv']) := by
      intro e' he' jv'
      refine ent_q (run_add64 (by omega)) ?_
      have := hnext (i + 1, jv') (by simp only; omega) (by simp only; omega)
      rw [he']
      exact this
    refine ent_draw [pt b 3 (intsV e ++ junk)] (by (repeat refine Imp.pick 0 rfl ?_); exact Imp.nil) ?_
    show Ent w0 _ (pV P (binOp .gtr 3 (.int .i64 (j : Nat)) (.int .i64 0)) _)
    cases j with
    | zero =>
      refine ent_p (fun _ => (run_gt _ _).F (by omega)) ?_
      (repeat (first | refine ent_ifF ?_ | refine ent_gF ?_ | refine ent_pF ?_ | refine ent_j ?_))
      exact out e (by rw [← hsi]; rfl) _
    | succ j =>
      refine ent_p (fun _ => (run_gt _ _).T (by omega)) ?_
      (repeat (first | refine ent_gT ?_ | refine ent_j ?_))
      have hj1 : j + 1 < d.length := by omega
      refine ent_p (fun _ => run_indexS (j + 1) rfl hj1) ?_
      refine ent_m (run_load (cell_own 0 rfl (sortV_get (by omega)))) ?_
      refine ent_p (fun _ => run_sub64 (by omega)) ?_
      refine ent_p (fun _ => run_indexS j (by omega) (by omega)) ?_
      refine ent_m (run_load (cell_own 0 rfl (sortV_get (by omega)))) ?_
      have hx1 := hex _ (getD_mem (d := e) (j := j + 1) (by omega))
      have hx2 := hex _ (getD_mem (d := e) (j := j) (by omega))
      refine ent_callV (xs := [.int .i64 (e.getD (j + 1) 0 : Nat), .int .i64 (e.getD j 0 : Nat), P0 lb]) rfl (wi_cmp fv lb l hl (e.getD (j + 1) 0) (e.getD j 0) hx1 hx2) (by (repeat refine Imp.pick 1 rfl ?_); exact Imp.refl _) fun _ => ?_
      have hsw : sift (cmpL l) e (j + 1) = if cmpL l (e.getD (j + 1) 0) (e.getD j 0) < 0 then sift (cmpL l) (swapN e j) j else e := rfl
      by_cases hc : cmpL l (e.getD (j + 1) 0) (e.getD j 0) < 0
      · refine ent_p (fun _ => (run_lt _ _).T hc) ?_
        rw [if_pos hc, hsi] at hsw
        (repeat (first | refine ent_ifT ?_ | refine ent_pT ?_))
        refine ent_draw [pt b 3 (intsV e ++ junk)] (by (repeat refine Imp.pick 2 rfl ?_); exact Imp.nil) ?_
        refine ent_p (fun _ => run_sub64 (by omega)) ?_
        refine ent_p (fun _ => run_sub64 (by omega)) ?_
        refine ent_p (fun _ => run_indexS j (by omega) (by omega)) ?_
        refine ent_m (run_load (cell_own 0 rfl (sortV_get (by omega)))) ?_
        refine ent_p (fun _ => run_indexS (j + 1) rfl hj1) ?_
        refine ent_m (run_load (cell_own 0 rfl (sortV_get (by omega)))) ?_
        refine ent_p (fun _ => run_indexS (j + 1) rfl hj1) ?_
        refine Ent.at 2 rfl ?_
        refine ent_st0 rfl (by simp [intsV_len]; omega) (sortV_set (by omega)) ?_
        refine ent_p (fun _ => run_indexS j (by omega) (by omega)) ?_
        refine ent_st0 rfl (by simp [intsV_len]; omega) (sortV_set (by simp; omega)) ?_
        refine ent_q (run_sub64 (by omega)) ?_
        have := hnext2 (j, swapN e j) ⟨by omega, by rw [swapN_length]; exact hel, swapN_lt (by omega) hex, hsw.symm⟩ (by simp only; omega)
        rw [show (((j + 1 : Nat) : Int) - 1) = (j : Nat) by omega]
        exact Ent.imp (by (repeat refine Imp.pick 0 rfl ?_); exact Imp.refl _) this
      · refine ent_p (fun _ => (run_lt _ _).F hc) ?_
        rw [if_neg hc, hsi] at hsw
        (repeat (first | refine ent_ifF ?_ | refine ent_pT ?_))
        refine Ent.imp (by (repeat (first | refine Imp.pick 0 rfl ?_ | refine Imp.pick 2 rfl ?_)); exact Imp.refl _) (out e hsw.symm _)
  · (repeat refine ent_ifF ?_)
    have : i = d.length - 1 := by omega
    subst this
    exact fun w hs => ⟨(), trivial, hs⟩
end
end Go.Gd
namespace Go.Gd
open Go.Instr
attribute [local irreducible] loadAt storeAt fieldAt indexAt alloc box build buildSlice hNil eqG binOp Op.unary extract makeSlice makeInterface makeFunc convert hV mV pV hU hF hFV hIf hGuard hPick hJ hDraw hLoop ro
section
variable {w0 : World}
theorem wi_isort0 (a : Option Addr) (cap : Nat) (f : Value) : Spec w0 235 [.slice a 0 cap, .int .i64 0, .int .i64 0, f] [] (fun _ : Unit => .tuple #[]) (fun _ => []) := by
  refine spec_go (fun R w => H235) fun F => ?_
  show Ent w0 F _
  unfold F235
  refine ent_q (run_add64 (by omega)) ?_
  refine ent_loop (ι := Unit) (fun _ => True) (fun _ => [.int .i64 (0 + 1), undef]) (fun _ => F) (fun _ => 0) () trivial rfl (Imp.refl _) ?_
  intro _ _ g next hnext
  show Ent w0 _ (hV P (binOp .lss 3 (.int .i64 (0 + 1)) (.int .i64 0)) _)
  refine ent_q ((run_lt _ _).F (by omega)) ?_
  (repeat refine ent_ifF ?_)
  exact ent_ret () rfl (Imp.refl _)
theorem wi_stable {ι : Type} (v f : Value) (n : Nat) (hn : n ≤ 8) {Pre : List HP} {post : ι → List HP} (h : Spec w0 235 [v, .int .i64 0, .int .i64 n, f] Pre (fun _ => .tuple #[]) post) : Spec w0 233 [v, .int .i64 n, f] Pre (fun _ : ι => .tuple #[]) post := by
  refine spec_go (fun R w => H233) fun F => ?_
  show Ent w0 (Pre ++ F) _
  unfold F233
  refine ent_loop (ι := Unit) (fun _ => True) (fun _ => [.int .i64 20, .int .i64 0]) (fun _ => Pre ++ F) (fun _ => 0) () trivial rfl (Imp.refl _) ?_
  intro _ _ g next _
  show Ent w0 _ (hV P (binOp .leq 3 (.int .i64 20) (.int .i64 (n : Nat))) _)
  refine ent_q ((run_le _ _).F (by omega)) ?_
  (repeat refine ent_ifF ?_)
  show Ent w0 _ (hF P 235 #[v, .int .i64 0, .int .i64 n, f] _)
  refine ent_call h (Imp.refl _) fun i => ?_
  refine ent_loop (ι := Unit) (fun _ => True) (fun _ => [.int .i64 20, .int .i64 0, .int .i64 20]) (fun _ => post i ++ F) (fun _ => 0) () trivial rfl (Imp.refl _) ?_
  intro _ _ g next _
  show Ent w0 _ (hV P (binOp .lss 3 (.int .i64 20) (.int .i64 (n : Nat))) _)
  refine ent_q ((run_lt _ _).F (by omega)) ?_
  (repeat refine ent_ifF ?_)
  exact ent_ret i rfl (Imp.refl _)
theorem wi_sortf {ι : Type} (a : Option Addr) (cap : Nat) (f : Value) (n : Nat) (hn : n ≤ 8) {Pre : List HP} {post : ι → List HP} (h : Spec w0 235 [.slice a n cap, .int .i64 0, .int .i64 n, f] Pre (fun _ => .tuple #[]) post) : Spec w0 226 [.slice a n cap, f] Pre (fun _ : ι => .tuple #[]) post := by
  refine spec_go (fun R w => H226) fun F => ?_
  show Ent w0 (Pre ++ F) _
  unfold F226
  refine ent_q run_len ?_
  refine ent_call (wi_stable _ f n hn h) (Imp.refl _) fun i => ?_
  exact ent_ret i rfl (Imp.refl _)
theorem wi_contains (v : Value) (l : List (Nat × Nat)) (hl : FracsOk l) :
    Spec w0 223 [v, .func (.func 224) #[] #[]] [ro w0 v 2 l.length (fracsV l)] (fun _ : Unit => .bool false) (fun _ => []) := by
  refine spec_go (fun R w => H223) fun F => ?_
  show Ent w0 (ro w0 v 2 l.length (fracsV l) :: F) _
  unfold F223
  refine ent_call (wi_index v l hl) (Imp.refl _) fun _ => ?_
  refine ent_q ((run_ge _ _).F (by omega)) ?_
  exact ent_ret () rfl (Imp.refl _)
theorem wi_order (fv : Value) (l : List (Nat × Nat)) (hl : FracsOk l) : Spec w0 221 [fv] [ro w0 fv 2 l.length (fracsV l)] (fun v : Value => .tuple #[v, .int .i64 0]) (fun v => [vec v 3 1 (intsV (orderF l)) l.length]) := by
  refine spec_go (fun R w => H221) fun F => ?_
  show Ent w0 (ro w0 fv 2 l.length (fracsV l) :: F) _
  have h8 := hl.1
  unfold F221
  refine Ent.roDup (Ent.ro fun a cap R hv hln hrd => ?_)
  subst hv
  refine ent_box fun lb => ?_
  refine ent_q (run_load (cell_own 0 rfl rfl)) ?_
  refine ent_call (wi_contains _ l hl) (by (repeat refine Imp.pick 2 rfl ?_); exact Imp.refl _) fun _ => ?_
  (repeat (first | refine ent_ifF ?_ | refine ent_q (run_len) ?_ | refine ent_q (run_load (cell_own 0 rfl rfl)) ?_))
  refine ent_q ((run_gt _ _).F (by omega)) ?_
  (repeat (first | refine ent_ifF ?_ | refine ent_q (run_len) ?_ | refine ent_q (run_load (cell_own 0 rfl rfl)) ?_))
  refine ent_loop (ι := Nat × Value) (fun i => i.1 ≤ l.length) (fun i => [.int .i64 (i.1 : Nat), i.2])
    (fun i => vec i.2 3 1 (intsV (List.range i.1)) i.1 :: pt lb 302 [.slice a l.length cap] :: ro w0 (.slice a l.length cap) 2 l.length (fracsV l) :: F) (fun i => l.length - i.1) (0, .slice none 0 0) (Nat.zero_le _) rfl
    (show Imp _ (vec (.slice none 0 0) 3 1 [] 0 :: _) from Imp.vec0 (a := none) rfl (by (repeat (first | refine Imp.pick 0 rfl ?_ | refine Imp.pick 1 rfl ?_)); exact Imp.drop1)) ?_
  rintro ⟨i, v⟩ hi g next hnext
  simp only at hi hnext ⊢
  show Ent w0 _ (hV P (binOp .lss 3 (.int .i64 (i : Nat)) (.int .i64 (l.length : Nat))) _)
  refine ent_qb (run_lt _ _) (fun h => ?_) (fun h => ?_)
  · (repeat refine ent_ifT ?_)
    refine bs64_1 rfl fun n => ?_
    refine ent_append (zs := [.int .i64 0]) 1 rfl (RdS.all (l := [.int .i64 (i : Nat)]) 0 rfl rfl) rfl (by simp [Value.oneCell']) (by omega) (by omega) fun v' => ?_
    refine ent_q (run_add64 (by omega)) ?_
    have := hnext (i + 1, v') (by simp only; omega) (by simp only; omega)
    have e : intsV (List.range (i + 1)) = intsV (List.range i) ++ [.int .i64 (i : Nat)] := by rw [List.range_succ, intsV_append]; rfl
    simp only [e] at this
    exact Ent.imp (by (repeat (first | refine Imp.pick 0 rfl ?_ | refine Imp.pick 1 rfl ?_)); exact Imp.drop1) this
  · have : i = l.length := by omega
    subst this
    (repeat (first | refine ent_ifF ?_ | refine ent_q (run_mf _ _ _) ?_))
    refine Ent.vec (fun a' hv' hl' hn' => ?_) fun b' cap' junk hv' hl' hc' => ?_
    · subst hv'
      show Ent w0 _ (hF P 226 #[.slice a' 0 0, .func (.func 227) #[] #[P0 lb]] _)
      refine ent_call (wi_sortf a' 0 _ 0 (by omega) (wi_isort0 a' 0 _)) (Imp.refl _) fun _ => ?_
      have hl0 : l = [] := List.eq_nil_of_length_eq_zero hn'
      subst hl0
      exact fun w hs => ⟨.slice a' 0 0, rfl, Imp.sat (show Imp _ (vec _ 3 1 [] 0 :: F) from Imp.vec0 rfl (by exact Imp.trans Imp.drop1 (Imp.drop1))) hs⟩
    · subst hv'
      have hs := wi_isort (w0 := w0) (.slice a l.length cap) lb b' cap' junk l (List.range l.length) hl (fun x hx => List.mem_range.1 hx) (by simpa using h8)
      rw [List.length_range] at hs
      refine ent_call (wi_sortf _ _ _ l.length h8 hs) (by (repeat refine Imp.pick 0 rfl ?_); exact Imp.refl _) fun _ => ?_
      refine fun w hs => ⟨.slice (some ⟨b', 0, none⟩) l.length cap', rfl, Imp.sat ?_ hs⟩
      have hlen := (orderF_ok l).1
      refine Imp.vec1 (junk := junk) (by rw [intsV_len, hlen, Nat.mul_one]) ?_ ?_
      · rw [List.length_append] at hc' ⊢
        rw [intsV_len, hlen]; rw [intsV_len, List.length_range] at hc'; exact hc'
      · exact (by (repeat refine Imp.pick 0 rfl ?_); exact Imp.trans Imp.drop1 (Imp.drop1))
end
end Go.Gd
