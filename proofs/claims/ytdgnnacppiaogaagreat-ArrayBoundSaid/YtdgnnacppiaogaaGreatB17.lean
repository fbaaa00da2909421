/- The contracts of package karma, first part: who gets which. Conditions: those in the theorems. The contract of karma.allocate. Conditions: those in the theorem. The contracts of package karma, second part. Conditions: those in the theorems. The contracts of package karma, last part. Conditions: those in the theorems. -/
import Derived.Test.YtdgnnacppiaogaaGreatB13
import Derived.Test.YtdgnnacppiaogaaGreatB15
import Derived.Test.YtdgnnacppiaogaaGreatB16
import Derived.Test.YtdgnnacppiaogaaGreatB6
set_option linter.unusedVariables false
set_option linter.unusedSimpArgs false
namespace Go.Gd
open Go.Instr
attribute [local irreducible] loadAt storeAt fieldAt indexAt alloc box build buildSlice hNil eqG binOp Op.unary extract makeSlice makeInterface makeFunc convert hV mV pV hU hF hFV hIf hGuard hPick hJ hDraw hLoop ro
def rowN (sz : Nat) (c r : Nat → Nat) : Nat → Nat × (Nat → Nat) × (Nat → Nat)
  | 0 => (sz, c, r)
  | t + 1 => ((rowN sz c r t).1 - min (rowN sz c r t).1 ((rowN sz c r t).2.1 t), upF (rowN sz c r t).2.1 t ((rowN sz c r t).2.1 t - min (rowN sz c r t).1 ((rowN sz c r t).2.1 t)), upF (rowN sz c r t).2.2 t (min (rowN sz c r t).1 ((rowN sz c r t).2.1 t)))
def allocS (sz : Nat → Nat) (s : (Nat → Nat) × (Nat → Nat → Nat)) (i : Nat) : (Nat → Nat) × (Nat → Nat → Nat) :=
  ((rowN (sz i) s.1 (s.2 i) 3).2.1, upF s.2 i (upF (rowN (sz i) s.1 (s.2 i) 3).2.2 3 (rowN (sz i) s.1 (s.2 i) 3).1))
def sizesOf (l : List Hint) (i : Nat) : Nat := match l[i]? with | some h => h.size.toNat | none => 0
def fracsOf (l : List Hint) : List (Nat × Nat) := l.map fun h => (h.often.toNat, h.size.toNat)
def allocN (l : List Hint) (caps : Nat → Nat) (o : List Nat) : (Nat → Nat) × (Nat → Nat → Nat) := o.foldl (allocS (sizesOf l)) (caps, fun _ _ => 0)
def allocP (l : List Hint) (caps : Nat → Nat) : Nat → Nat → Nat := (allocN l caps (orderF (fracsOf l))).2
def partsV (n : Nat) (p : Nat → Nat → Nat) : List Value := fl n fun i => iv 4 (p i)
theorem partsV_len (n : Nat) (p : Nat → Nat → Nat) : (partsV n p).length = n * 4 := fl_len (k := 4) (fun _ => iv_len _ _) n
theorem partsV_get {n : Nat} {p : Nat → Nat → Nat} {r : List Value} {i j : Nat} (hi : i < n) (hj : j < 4) : (partsV n p ++ r)[i * 4 + j * 1]? = some (.int .i64 (p i j : Nat)) := by
  rw [Nat.mul_one]
  unfold partsV
  rw [fl_get (k := 4) (fun _ => iv_len _ _) hi hj]
  exact iv_get hj
theorem partsV_set {n : Nat} {p : Nat → Nat → Nat} {r : List Value} {i j x : Nat} (hi : i < n) (hj : j < 4) : (partsV n p ++ r).set (i * 4 + j * 1) (.int .i64 (x : Nat)) = partsV n (upF p i (upF (p i) j x)) ++ r := by
  rw [Nat.mul_one]
  unfold partsV
  rw [fl_set (k := 4) (fun _ => iv_len _ _) hi hj, iv_set]
  congr 1
  unfold fl
  congr 1
  funext t
  unfold upF
  split <;> rfl
theorem partsV_one (n : Nat) (p : Nat → Nat → Nat) : ∀ v ∈ partsV n p, v.oneCell' = true := by
  intro v hv
  unfold partsV fl at hv
  obtain ⟨i, _, h⟩ := List.mem_flatMap.1 hv
  obtain ⟨j, _, rfl⟩ := List.mem_map.1 h
  rfl
theorem rep_parts : ∀ n : Nat, (List.replicate n [Value.int .i64 0, .int .i64 0, .int .i64 0, .int .i64 0]).flatten = partsV n (fun _ _ => 0)
  | 0 => rfl
  | n + 1 => by unfold partsV; rw [fl_succ, List.replicate_succ', List.flatten_append, rep_parts n]; rfl
theorem rowN_le (sz : Nat) (c r : Nat → Nat) : ∀ t, (rowN sz c r t).1 ≤ sz
  | 0 => Nat.le_refl _
  | t + 1 => by have := rowN_le sz c r t; unfold rowN; simp only; omega
theorem rowN_cap (sz : Nat) (c r : Nat → Nat) (k : Nat) : ∀ t, (rowN sz c r t).2.1 k ≤ c k
  | 0 => Nat.le_refl _
  | t + 1 => by
    have := rowN_cap sz c r k t
    unfold rowN; simp only [upF]
    split
    · rename_i h; subst h; omega
    · exact this
theorem fracsOf_ok {l : List Hint} {blocks : Int} (h8 : l.length ≤ 8) (h : ∀ x ∈ l, HintP blocks x) : FracsOk (fracsOf l) := by
  refine ⟨by simpa [fracsOf] using h8, fun f hf => ?_⟩
  obtain ⟨x, hx, rfl⟩ := List.mem_map.1 hf
  have := h x hx
  unfold HintP at this
  unfold FracP
  simp only
  omega
end Go.Gd
namespace Go.Gd
open Go.Instr
attribute [local irreducible] loadAt storeAt fieldAt indexAt alloc box build buildSlice hNil eqG binOp Op.unary extract makeSlice makeInterface makeFunc convert hV mV pV hU hF hFV hIf hGuard hPick hJ hDraw hLoop ro
theorem fracsV_append (a b : List (Nat × Nat)) : fracsV (a ++ b) = fracsV a ++ fracsV b := by simp [fracsV]
theorem fracsOf_take {l : List Hint} {i : Nat} {x : Hint} (hx : l[i]? = some x) : fracsOf (l.take (i + 1)) = fracsOf (l.take i) ++ [(x.often.toNat, x.size.toNat)] := by
  unfold fracsOf
  rw [List.take_add_one, hx, List.map_append]; rfl
theorem iv_get1 {n : Nat} {f : Nat → Nat} {i : Nat} (h : i < n) : (iv n f)[0 + i * 1]? = some (.int .i64 (f i : Nat)) := by rw [Nat.zero_add, Nat.mul_one]; exact iv_get h
theorem iv_set1 {n : Nat} {f : Nat → Nat} {i : Nat} (x : Nat) : (iv n f).set (0 + i * 1) (.int .i64 (x : Nat)) = iv n (upF f i x) := by rw [Nat.zero_add, Nat.mul_one]; exact iv_set x
section
variable {w0 : World}
theorem hint_cells {a : Option Addr} {cap : Nat} {l : List Hint} {M : List HP} {i : Nat} (hrd : RdS w0 M (.slice a l.length cap) 4 l.length (hintsV l)) (hi : i < l.length) :
    ∃ b o, a = some ⟨b, o, none⟩ ∧ Cells w0 M b o (hintsV l) := by
  obtain ⟨a', cap', e1, _, e2⟩ := hrd
  cases e1
  rcases e2 with e2 | e2
  · have := hintsV_len l; rw [e2] at this; simp at this; omega
  · exact e2
theorem ka_allocate (hv : Value) (l : List Hint) (blocks : Int) (caps : Nat → Nat) (h8 : l.length ≤ 8) (hl : ∀ x ∈ l, HintP blocks x) (hc : ∀ t, t < 3 → caps t ≤ 16) :
    Spec w0 213 [hv, .agg #[.int .i64 (caps 0), .int .i64 (caps 1), .int .i64 (caps 2)]] [ro w0 hv 4 l.length (hintsV l)] (fun v : Value => v) (fun v => [vec v 298 4 (partsV l.length (allocP l caps)) l.length]) := by
  refine spec_go (fun R w => H213) fun F => ?_
  show Ent w0 (ro w0 hv 4 l.length (hintsV l) :: F) _
  unfold F213
  refine Ent.ro fun a cap R hv' hln hrd => ?_
  subst hv'
  refine Ent.imp (L' := R :: F) (by (repeat refine Imp.pick 0 rfl ?_); exact Imp.drop1) ?_
  refine ent_box fun cb => ?_
  rw [show (Value.agg #[.int .i64 (caps 0), .int .i64 (caps 1), .int .i64 (caps 2)]).cells.toList = iv 3 caps from rfl]
  refine ent_q run_len ?_
  refine ent_loop (ι := Nat × Value) (fun i => i.1 ≤ l.length) (fun i => [.int .i64 (i.1 : Nat), i.2]) (fun i => vec i.2 304 2 (fracsV (fracsOf (l.take i.1))) i.1 :: pt cb 22 (iv 3 caps) :: R :: F) (fun i => l.length - i.1) (0, .slice none 0 0) (Nat.zero_le _) rfl
    (show Imp _ (vec (.slice none 0 0) 304 2 [] 0 :: _) from Imp.vec0 (a := none) rfl (Imp.refl _)) ?_
  rintro ⟨i, v⟩ hi g next hnext
  simp only at hi hnext ⊢
  show Ent w0 _ (hV P (binOp .lss 3 (.int .i64 (i : Nat)) (.int .i64 (l.length : Nat))) _)
  refine ent_qb (run_lt _ _) (fun h => ?_) (fun h => ?_)
  · have hil : i < l.length := by omega
    obtain ⟨x, hx⟩ : ∃ x, l[i]? = some x := ⟨_, List.getElem?_eq_getElem hil⟩
    have hxp := hl x (List.mem_of_getElem? hx)
    unfold HintP at hxp
    obtain ⟨b, o, ha, hcl⟩ := hint_cells (hrd (vec v 304 2 (fracsV (fracsOf (l.take i))) i :: pt cb 22 (iv 3 caps) :: R :: F) 2 rfl) hil
    subst ha
    (repeat refine ent_ifT ?_)
    refine ent_q (run_indexS i rfl hil) ?_
    refine ent_q (run_loadA (vs := hintV x) rfl (fun j u hj => ?_)) ?_
    · rw [show o + i * 4 + j = o + (i * 4 + j) by omega]
      exact hcl _ _ (hintsV_get hx j u hj)
    refine ent_alloc fun h7 => ?_
    refine ent_sa0 (l' := hintV x) rfl (by simp [hintV, Value.oneCell']) (by simp [hintV]) rfl ?_
    (repeat (first | refine ent_q (run_field0 _) ?_ | refine ent_q (run_load (cell_own 0 rfl rfl)) ?_))
    refine ent_q (bd304_0_1 rfl rfl) ?_
    refine bs302_1 fun n => ?_
    refine ent_append (zs := [.int .i64 0, .int .i64 0]) 2 rfl (RdS.all (l := [.int .i64 x.often, .int .i64 x.size]) 0 rfl rfl) rfl (by simp [Value.oneCell']) (by omega) (by omega) fun v' => ?_
    refine ent_q (run_add64 (by omega)) ?_
    have := hnext (i + 1, v') (by simp only; omega) (by simp only; omega)
    simp only [fracsOf_take hx, fracsV_append] at this
    have e : fracsV [(x.often.toNat, x.size.toNat)] = [.int .i64 x.often, .int .i64 x.size] := by
      simp only [fracsV, fracV, List.flatMap_cons, List.flatMap_nil, List.append_nil]
      rw [Int.toNat_of_nonneg (by omega), Int.toNat_of_nonneg (by omega)]
    rw [e] at this
    exact Ent.imp (by (repeat (first | refine Imp.pick 0 rfl ?_ | refine Imp.pick 2 rfl ?_)); exact Imp.trans Imp.drop1 (Imp.drop1)) this
  have : i = l.length := by omega
  subst this
  rw [List.take_length]
  have hfr := fracsOf_ok h8 hl
  have hfl : (fracsOf l).length = l.length := by simp [fracsOf]
  (repeat refine ent_ifF ?_)
  refine Ent.vecRo ?_
  have hor := wi_order (w0 := w0) v (fracsOf l) hfr
  rw [hfl] at hor
  refine ent_call hor (by (repeat refine Imp.pick 0 rfl ?_); exact Imp.refl _) fun ov => ?_
  obtain ⟨hol, hoi⟩ := orderF_ok (fracsOf l)
  rw [hfl] at hol hoi
  (repeat (first | refine ent_q (run_len) ?_ | refine ent_q (run_ex rfl) ?_))
  refine ent_make (zs := [.int .i64 0, .int .i64 0, .int .i64 0, .int .i64 0]) rfl l.length l.length rfl rfl (Nat.le_refl _) (by omega) (by omega) fun pv => ?_
  rw [rep_parts]
  refine Ent.at 1 rfl (Ent.vecRo ?_)
  refine Ent.ro fun oa ocap R2 hov holn hord => ?_
  subst hov
  show Ent w0 (R2 :: ro w0 (.slice oa l.length ocap) 1 l.length (intsV (orderF (fracsOf l))) :: vec pv 298 4 (partsV l.length (fun _ _ => 0)) l.length :: _) _
  refine ent_q run_len ?_
  refine Ent.at 2 rfl (Ent.vec (fun a0 hpv hp0 hn0 => ?_) fun pb pcap junk hpv hpl hpc => ?_)
  ·
    have hl0 : l = [] := List.eq_nil_of_length_eq_zero hn0
    subst hl0
    subst hpv
    refine ent_loop (ι := Unit) (fun _ => True) (fun _ => [.int .i64 0, undef]) (fun _ => F) (fun _ => 0) () trivial rfl (by exact Imp.trans Imp.drop1 (Imp.trans Imp.drop1 (Imp.trans Imp.drop1 (Imp.drop1)))) ?_
    intro _ _ g2 next2 _
    show Ent w0 _ (hV P (binOp .lss 3 (.int .i64 0) (.int .i64 0)) _)
    refine ent_q ((run_lt _ _).F (by omega)) ?_
    (repeat refine ent_ifF ?_)
    exact ent_ret _ rfl (show Imp _ (vec _ 298 4 [] 0 :: F) from Imp.vec0 rfl (Imp.refl _))
  subst hpv
  have stepR : ∀ k, (((orderF (fracsOf l)).take (k + 1)).foldl (allocS (sizesOf l)) (caps, fun _ _ => 0)) = match (orderF (fracsOf l))[k]? with
      | some x => allocS (sizesOf l) (((orderF (fracsOf l)).take k).foldl (allocS (sizesOf l)) (caps, fun _ _ => 0)) x
      | none => ((orderF (fracsOf l)).take k).foldl (allocS (sizesOf l)) (caps, fun _ _ => 0) := by
    intro k
    rw [List.take_add_one, List.foldl_append]
    cases (orderF (fracsOf l))[k]? <;> rfl
  refine ent_loop (ι := Nat × Value × ((Nat → Nat) × (Nat → Nat → Nat))) (fun i => i.1 ≤ l.length ∧ i.2.2 = ((orderF (fracsOf l)).take i.1).foldl (allocS (sizesOf l)) (caps, fun _ _ => 0) ∧ ∀ t, t < 3 → i.2.2.1 t ≤ 16) (fun i => [.int .i64 (i.1 : Nat), i.2.1])
    (fun i => pt pb 298 (partsV l.length i.2.2.2 ++ junk) :: pt cb 22 (iv 3 i.2.2.1) :: R2 :: R :: F) (fun i => l.length - i.1) (0, undef, caps, fun _ _ => 0) ⟨Nat.zero_le _, rfl, hc⟩ rfl (by (repeat (first | refine Imp.pick 0 rfl ?_ | refine Imp.pick 1 rfl ?_ | refine Imp.pick 2 rfl ?_)); exact Imp.drop1) ?_
  rintro ⟨i, lv, c, p⟩ ⟨hi2, hst, hc16⟩ g2 next2 hnext2
  simp only at hi2 hst hc16 hnext2 ⊢
  show Ent w0 _ (hV P (binOp .lss 3 (.int .i64 (i : Nat)) (.int .i64 (l.length : Nat))) _)
  refine ent_qb (run_lt _ _) (fun h2 => ?_) (fun h2 => ?_)
  · have hil : i < l.length := by omega
    have hio : (orderF (fracsOf l))[i]? = some ((orderF (fracsOf l)).getD i 0) := by
      rw [List.getD_eq_getElem?_getD, List.getElem?_eq_getElem (by omega)]; rfl
    have hk : (orderF (fracsOf l)).getD i 0 < l.length := hoi _ (getD_mem (by omega))
    have hS := stepR i
    rw [hio, ← hst] at hS
    have hget : (intsV (orderF (fracsOf l)))[i]? = some (.int .i64 ((orderF (fracsOf l)).getD i 0 : Nat)) := intsV_get (by omega)
    generalize (orderF (fracsOf l)).getD i 0 = k at *
    obtain ⟨x, hx⟩ : ∃ x, l[k]? = some x := ⟨_, List.getElem?_eq_getElem hk⟩
    have hxp := hl x (List.mem_of_getElem? hx)
    unfold HintP at hxp
    have hsz : sizesOf l k = x.size.toNat := by unfold sizesOf; rw [hx]
    obtain ⟨ob, oo, hoa, hoc⟩ : ∃ b o, oa = some ⟨b, o, none⟩ ∧ Cells w0 (pt pb 298 (partsV l.length p ++ junk) :: pt cb 22 (iv 3 c) :: R2 :: R :: F) b o (intsV (orderF (fracsOf l))) := by
      obtain ⟨a', cap', e1, _, e2⟩ := hord (pt pb 298 (partsV l.length p ++ junk) :: pt cb 22 (iv 3 c) :: R2 :: R :: F) 2 rfl
      cases e1
      rcases e2 with e2 | e2
      · rw [e2] at hget; simp at hget
      · exact e2
    subst hoa
    obtain ⟨b, o, ha, hcl⟩ := hint_cells (hrd (pt pb 298 (partsV l.length p ++ junk) :: pt cb 22 (iv 3 c) :: R2 :: R :: F) 3 rfl) hk
    subst ha
    (repeat refine ent_ifT ?_)
    refine ent_q (run_indexS i rfl hil) ?_
    refine ent_q (run_load (v := .int .i64 (k : Nat)) (by rw [Nat.mul_one]; exact hoc i _ hget)) ?_
    refine ent_q (run_indexS k rfl hk) ?_
    (repeat refine ent_q (run_field _ _) ?_)
    refine ent_q (run_load (v := .int .i64 x.size) (by rw [show o + k * 4 + 1 = o + (k * 4 + 1) by omega]; exact hcl _ _ (hintsV_get hx 1 _ rfl))) ?_
    have hxs : x.size = ((sizesOf l k : Nat) : Int) := by rw [hsz]; omega
    rw [hxs]
    have hs32 : sizesOf l k ≤ 32 := by omega
    refine ent_loop (ι := Nat) (fun t => t ≤ 3) (fun t => [.int .i64 (t : Nat), .int .i64 ((rowN (sizesOf l k) c (p k) t).1 : Nat)])
      (fun t => pt pb 298 (partsV l.length (upF p k (rowN (sizesOf l k) c (p k) t).2.2) ++ junk) :: pt cb 22 (iv 3 (rowN (sizesOf l k) c (p k) t).2.1) :: R2 :: R :: F) (fun t => 3 - t) 0 (by omega) rfl ?_ ?_
    · have : upF p k (rowN (sizesOf l k) c (p k) 0).2.2 = p := by
        funext t; unfold upF; split
        · rename_i h; subst h; rfl
        · rfl
      rw [this]; exact Imp.refl _
    intro t ht g3 next3 hnext3
    show Ent w0 _ (hV P (binOp .lss 3 (.int .i64 (t : Nat)) (.int .i64 3)) _)
    have r1 := rowN_le (sizesOf l k) c (p k) t
    refine ent_qb (run_lt _ _) (fun h3 => ?_) (fun h3 => ?_)
    · have ht3 : t < 3 := by omega
      have r2 := rowN_cap (sizesOf l k) c (p k) t t
      have r3 := hc16 t ht3
      have hrow : rowN (sizesOf l k) c (p k) (t + 1) = ((rowN (sizesOf l k) c (p k) t).1 - min (rowN (sizesOf l k) c (p k) t).1 ((rowN (sizesOf l k) c (p k) t).2.1 t), upF (rowN (sizesOf l k) c (p k) t).2.1 t ((rowN (sizesOf l k) c (p k) t).2.1 t - min (rowN (sizesOf l k) c (p k) t).1 ((rowN (sizesOf l k) c (p k) t).2.1 t)), upF (rowN (sizesOf l k) c (p k) t).2.2 t (min (rowN (sizesOf l k) c (p k) t).1 ((rowN (sizesOf l k) c (p k) t).2.1 t))) := rfl
      have hn3 := hnext3 (t + 1) (by omega) (by omega)
      rw [hrow] at hn3
      show Ent w0 _ (hIf _ (hV P (indexAt 22 _ (.int .i64 (t : Nat))) fun t55 => hV P (loadAt 3 t55) fun t56 => hV P (Builtin.min_ #[3, 3] 3 #[.int .i64 ((rowN (sizesOf l k) c (p k) t).1 : Nat), t56]) _) _)
      generalize rowN (sizesOf l k) c (p k) t = row at *
      obtain ⟨left, cc, rr⟩ := row
      simp only at r1 r2 hn3 ⊢
      (repeat refine ent_ifT ?_)
      refine ent_q (run_indexA t rfl ht3) ?_
      refine ent_q (run_load (cell_own 1 rfl (iv_get1 ht3))) ?_
      refine ent_q (run_min _ _) ?_
      rw [show min ((left : Nat) : Int) ((cc t : Nat) : Int) = ((min left (cc t) : Nat) : Int) by omega]
      refine ent_q (run_indexS0 k rfl hk) ?_
      (repeat refine ent_q (run_fieldZ _ _) ?_)
      refine ent_q (run_indexA t rfl (by omega)) ?_
      refine ent_st0 rfl (by rw [List.length_append, partsV_len]; omega) (partsV_set hk (by omega)) ?_
      refine ent_q (run_indexA t rfl ht3) ?_
      refine ent_q (run_load (cell_own 1 rfl (iv_get1 ht3))) ?_
      refine ent_q (run_sub64 (by omega)) ?_
      refine ent_q (run_indexA t rfl ht3) ?_
      rw [show ((cc t : Nat) : Int) - ((min left (cc t) : Nat) : Int) = ((cc t - min left (cc t) : Nat) : Int) by omega]
      refine ent_st1 rfl (by rw [iv_len]; omega) (iv_set1 _) ?_
      refine ent_q (run_sub64 (by omega)) ?_
      rw [show ((left : Nat) : Int) - ((min left (cc t) : Nat) : Int) = ((left - min left (cc t) : Nat) : Int) by omega]
      refine ent_q (run_add64 (by omega)) ?_
      have e : upF (upF p k rr) k (upF ((upF p k rr) k) t (min left (cc t))) = upF p k (upF rr t (min left (cc t))) := by
        rw [upF_up, upF_same]
      rw [e]
      exact hn3
    · have ht3 : t = 3 := by omega
      subst ht3
      show Ent w0 _ (hIf _ _ (hV P (indexAt 253 _ (.int .i64 (k : Nat))) fun t78 => hV P (fieldAt 298 t78 0) fun t79 => hV P (indexAt 119 t79 (.int .i64 3)) fun t80 => hU P (storeAt 3 t80 (.int .i64 ((rowN (sizesOf l k) c (p k) 3).1 : Nat))) <| hV P (binOp .add 3 (.int .i64 (i : Nat)) (.int .i64 1)) fun t81 => next2 [t81, (.int .i64 ((rowN (sizesOf l k) c (p k) 3).1 : Nat))]))
      have hrow : allocS (sizesOf l) (c, p) k = ((rowN (sizesOf l k) c (p k) 3).2.1, upF p k (upF (rowN (sizesOf l k) c (p k) 3).2.2 3 (rowN (sizesOf l k) c (p k) 3).1)) := rfl
      have hcap3 := fun t => rowN_cap (sizesOf l k) c (p k) t 3
      generalize rowN (sizesOf l k) c (p k) 3 = row at *
      obtain ⟨left, cc, rr⟩ := row
      simp only at r1 hrow hcap3 ⊢
      (repeat refine ent_ifF ?_)
      refine ent_q (run_indexS0 k rfl hk) ?_
      (repeat refine ent_q (run_fieldZ _ _) ?_)
      refine ent_q (run_indexA 3 rfl (by omega)) ?_
      refine ent_st0 rfl (by rw [List.length_append, partsV_len]; omega) (partsV_set hk (by omega)) ?_
      refine ent_q (run_add64 (by omega)) ?_
      have e : upF (upF p k rr) k (upF ((upF p k rr) k) 3 left) = upF p k (upF rr 3 left) := by
        rw [upF_up, upF_same]
      rw [e]
      have := hnext2 (i + 1, .int .i64 (left : Nat), cc, upF p k (upF rr 3 left)) ⟨by simp only; omega, ?_, fun t ht => ?_⟩ (by simp only; omega)
      · exact this
      · rw [hS]; exact hrow.symm
      · have := hcap3 t; have := hc16 t ht; simp only; omega
  · have : i = l.length := by omega
    subst this
    (repeat refine ent_ifF ?_)
    refine fun w hs => ⟨.slice (some ⟨pb, 0, none⟩) l.length pcap, rfl, Imp.sat ?_ hs⟩
    have he : p = allocP l caps := by
      unfold allocP allocN
      rw [List.take_of_length_le (by omega)] at hst
      rw [← hst]
    subst he
    refine Imp.vec1 (junk := junk) (by rw [partsV_len]) ?_ (by (repeat refine Imp.pick 0 rfl ?_); exact Imp.trans Imp.drop1 (Imp.trans Imp.drop1 (Imp.drop1)))
    rw [List.length_append, partsV_len] at hpc ⊢
    exact hpc
end
end Go.Gd
namespace Go.Gd
open Go.Instr
attribute [local irreducible] loadAt storeAt fieldAt indexAt alloc box build buildSlice hNil eqG binOp Op.unary extract makeSlice makeInterface makeFunc convert hV mV pV hU hF hFV hIf hGuard hPick hJ hDraw hLoop ro Instr.index
theorem immJoin {a b r : Res} (j : Join a b r) : Join (immPart a) (immPart b) (immPart r) := fun n => by
  have := j n
  unfold immPart
  cases ha : a n with
  | none => rw [ha] at this; simp only [joinO] at this; rw [this]; cases r n with
    | none => simp [joinO]
    | some x => cases x <;> simp [joinO]
  | some x =>
    rw [ha] at this
    cases x with
    | own o =>
      cases hb : b n with
      | none => rw [hb] at this; simp only [joinO] at this; rw [this]; simp [joinO]
      | some y => rw [hb] at this; cases y <;> exact absurd this (by simp [joinO])
    | imm o =>
      cases hb : b n with
      | none => rw [hb] at this; simp only [joinO] at this; rw [this]; simp [joinO]
      | some y => rw [hb] at this; cases y with
        | own => exact this.elim
        | imm => rw [this.2]; obtain ⟨h1, _⟩ := this; subst h1; simp [joinO]
theorem Pers.sepL : ∀ {M : List HP}, (∀ A ∈ M, Pers A) → Pers (Gd.sepL M)
  | [], _ => fun _ _ => trivial
  | A :: M, h => fun r ⟨a, b, j, ha, hb⟩ => ⟨_, _, immJoin j, h A (by simp) _ ha, Pers.sepL (fun B hB => h B (by simp [hB])) _ hb⟩
theorem Pers.star {M : List HP} (h : ∀ A ∈ M, Pers A) : Pers (star M) := Pers.sepL h
theorem Pers.ptI (b : Nat) (T : TypeId) (l : List Value) : Pers (ptI b T l) := Pers.imm _ _
def planI (w0 : World) (q : Nat) (blocks : Int) (caps : Nat → Nat) (l : List Hint) (hv pv : Value) : HP :=
  star [ptI q 255 [.int .i64 blocks, .int .i64 (caps 0), .int .i64 (caps 1), .int .i64 (caps 2), hv, pv], ro w0 hv 4 l.length (hintsV l), ro w0 pv 4 l.length (partsV l.length (allocP l caps))]
theorem Pers.plan (w0 : World) (q : Nat) (blocks : Int) (caps : Nat → Nat) (l : List Hint) (hv pv : Value) : Pers (planI w0 q blocks caps l hv pv) := Pers.star fun A hA => by
  simp only [List.mem_cons, List.not_mem_nil, or_false] at hA
  rcases hA with rfl | rfl | rfl
  · exact Pers.ptI _ _ _
  · exact Pers.ro _ _ _ _ _
  · exact Pers.ro _ _ _ _ _
section
variable {w0 : World}
theorem Ent.roOne {v : Value} {sz n : Nat} {l : List Value} {L : List HP} {X : World → Prop} (h : v.oneCell' = true → Ent w0 (Gd.ro w0 v sz n l :: L) X) : Ent w0 (Gd.ro w0 v sz n l :: L) X := by
  refine Ent.ro fun a cap R hv _ _ => ?_
  refine Ent.imp Imp.drop1 ?_
  exact h (by rw [hv]; rfl)
theorem clone_hints (v : Value) (l : List Hint) (hl : l.length ≤ 1000000) : Spec w0 58 [v] [ro w0 v 4 l.length (hintsV l)] (fun v : Value => v) (fun v => [vec v 114 4 (hintsV l) l.length]) := by
  refine spec_go (fun R w => H58) fun F => ?_
  show Ent w0 (ro w0 v 4 l.length (hintsV l) :: F) _
  unfold F58
  refine Ent.ro fun a cap R hv hln hrd => ?_
  subst hv
  refine ent_clone (K := fun v w' => ∃ i : Value, v = i ∧ Sat w0 ([vec i 114 4 (hintsV l) l.length] ++ F) w') (t := 23) (e := 114) (sz := 4) (zs := [.int .i64 0, .int .i64 0, .int .i64 0, .bool false]) rfl ?_ (hintsV_one l) ?_ ?_ ?_ fun v => ?_
  · exact fun M => hrd _ M.length (by simp)
  · omega
  · omega
  · omega
  exact ent_ret v rfl (by (repeat refine Imp.pick 0 rfl ?_); exact Imp.trans Imp.drop1 (Imp.drop1))
theorem clone_parts (v : Value) (n : Nat) (p : Nat → Nat → Nat) (hl : n ≤ 1000000) : Spec w0 214 [v] [ro w0 v 4 n (partsV n p)] (fun v : Value => v) (fun v => [vec v 298 4 (partsV n p) n]) := by
  refine spec_go (fun R w => H214) fun F => ?_
  show Ent w0 (ro w0 v 4 n (partsV n p) :: F) _
  unfold F214
  refine Ent.ro fun a cap R hv hln hrd => ?_
  subst hv
  refine ent_clone (K := fun v w' => ∃ i : Value, v = i ∧ Sat w0 ([vec i 298 4 (partsV n p) n] ++ F) w') (t := 253) (e := 298) (sz := 4) (zs := [.int .i64 0, .int .i64 0, .int .i64 0, .int .i64 0]) rfl ?_ (partsV_one n p) ?_ ?_ ?_ fun v => ?_
  · exact fun M => hrd _ M.length (by simp)
  · omega
  · omega
  · omega
  exact ent_ret v rfl (by (repeat refine Imp.pick 0 rfl ?_); exact Imp.trans Imp.drop1 (Imp.drop1))
theorem ka_new (hv : Value) (l : List Hint) (blocks : Int) (caps : Nat → Nat) (hb : 1 ≤ blocks ∧ blocks ≤ 32) (hh : hintsB l blocks = true) (hc : ∀ t, t < 3 → 1 ≤ caps t ∧ caps t ≤ 16) :
    Spec w0 140 [hv, .int .i64 blocks, .agg #[.int .i64 (caps 0), .int .i64 (caps 1), .int .i64 (caps 2)]] [ro w0 hv 4 l.length (hintsV l)]
      (fun x : Nat × Value × Value => .tuple #[P0 x.1, .int .i64 0]) (fun x => [planI w0 x.1 blocks caps l x.2.1 x.2.2]) := by
  refine spec_go (fun R w => H140) fun F => ?_
  show Ent w0 (ro w0 hv 4 l.length (hintsV l) :: F) _
  obtain ⟨h8, hok⟩ := hintsB_ok hh
  have hset : ∀ q, Spec w0 183 [P0 q, hv] [pt q 255 [.int .i64 blocks, .int .i64 (caps 0), .int .i64 (caps 1), .int .i64 (caps 2), .slice none 0 0, .slice none 0 0], ro w0 hv 4 l.length (hintsV l)] (fun _ : Value × Value => .int .i64 0) (fun x => [planI w0 q blocks caps l x.1 x.2]) := by
    intro q
    refine spec_go (fun R w => H183) fun F => ?_
    show Ent w0 (pt q 255 [.int .i64 blocks, .int .i64 (caps 0), .int .i64 (caps 1), .int .i64 (caps 2), .slice none 0 0, .slice none 0 0] :: ro w0 hv 4 l.length (hintsV l) :: F) _
    unfold F183
    (repeat (first | refine ent_q (run_nil _) ?_ | refine ent_q (run_fieldZ _ _) ?_ | refine ent_ifF ?_ | refine ent_q (run_eqpS _) ?_ | refine ent_q (run_load (cell_own 0 rfl rfl)) ?_))
    refine Ent.at 1 rfl (Ent.roDup (Ent.roDup ?_))
    refine ent_call (cf_hints hv l blocks (by omega) (by omega)) (by (repeat refine Imp.pick 0 rfl ?_); exact Imp.refl _) fun _ => ?_
    rw [hh]
    (repeat (first | refine ent_ifF ?_ | refine ent_q (run_notT) ?_))
    refine ent_draw [pt q 255 [.int .i64 blocks, .int .i64 (caps 0), .int .i64 (caps 1), .int .i64 (caps 2), .slice none 0 0, .slice none 0 0]] (by (repeat refine Imp.pick 2 rfl ?_); exact Imp.nil) ?_
    (repeat (first | refine ent_p (fun _ => run_nil _) ?_ | refine ent_p (fun _ => run_field0 _) ?_))
    refine ent_m (run_loadA (vs := [.int .i64 (caps 0), .int .i64 (caps 1), .int .i64 (caps 2)]) rfl (cells_own 0 rfl (fun j v hj => ?_))) ?_
    · match j with
      | 0 => exact hj
      | 1 => exact hj
      | 2 => exact hj
      | n + 3 => simp at hj
    refine ent_call (clone_hints hv l (by omega)) (by (repeat refine Imp.pick 0 rfl ?_); exact Imp.refl _) fun cv => ?_
    refine ent_and (by (repeat refine Imp.pick 2 rfl ?_); exact Imp.nil) ?_
    refine ent_call (ka_allocate hv l blocks caps h8 hok (fun t ht => (hc t ht).2)) (by (repeat refine Imp.pick 1 rfl ?_); exact Imp.refl _) fun av => ?_
    refine Ent.vecRo (Ent.roOne fun hav => ?_)
    refine Ent.at 1 rfl (Ent.vecRo (Ent.roOne fun hcv => ?_))
    refine Ent.at 2 rfl ?_
    (repeat (first | refine ent_p (fun _ => run_nil _) ?_ | refine ent_p (fun _ => run_field0 _) ?_))
    refine ent_st0 hcv (by simp) rfl ?_
    (repeat (first | refine ent_p (fun _ => run_nil _) ?_ | refine ent_p (fun _ => run_field0 _) ?_))
    refine ent_st0 hav (by simp) rfl ?_
    refine Ent.freeze ?_
    refine fun w hs => ⟨(cv, av), rfl, Imp.sat (Imp.starI ?_) hs⟩
    exact (by (repeat refine Imp.pick 0 rfl ?_); exact Imp.refl _)
  unfold F140
  refine ent_box fun cb => ?_
  refine ent_q (run_loadA (vs := [.int .i64 (caps 0), .int .i64 (caps 1), .int .i64 (caps 2)]) rfl (cells_all 0 rfl)) ?_
  refine ent_loop (ι := Nat) (fun i => i ≤ 3) (fun i => [.int .i64 (i : Nat), .pointer none, .int .i64 0]) (fun i => pt cb 22 [.int .i64 (caps 0), .int .i64 (caps 1), .int .i64 (caps 2)] :: ro w0 hv 4 l.length (hintsV l) :: F) (fun i => 3 - i) 0 (by omega) rfl (Imp.refl _) ?_
  intro i hi g next hnext
  show Ent w0 _ (hV P (binOp .lss 3 (.int .i64 (i : Nat)) (.int .i64 3)) _)
  refine ent_qb (run_lt _ _) (fun h => ?_) (fun h => ?_)
  · have hi3 : i < 3 := by omega
    have hci := hc i hi3
    refine ent_ifT ?_
    refine ent_q (run_ixA (v := .int .i64 (caps i)) i rfl hi3 ?_) ?_
    · match i with
      | 0 => rfl
      | 1 => rfl
      | 2 => rfl
      | n + 3 => omega
    refine ent_q ((run_lt _ _).F (by omega)) ?_
    (repeat (first | refine ent_gT ?_ | refine ent_j ?_))
    refine ent_q ((run_gt _ _).F (by omega)) ?_
    (repeat (first | refine ent_ifF ?_ | refine ent_pF ?_))
    refine ent_q (run_add64 (by omega)) ?_
    exact hnext (i + 1) (by omega) (by omega)
  · (repeat refine ent_ifF ?_)
    refine ent_q ((run_lt _ _).F (by omega)) ?_
    (repeat (first | refine ent_gT ?_ | refine ent_j ?_))
    refine ent_q ((run_gt _ _).F (by omega)) ?_
    (repeat (first | refine ent_ifF ?_ | refine ent_pF ?_))
    refine ent_q (run_loadA (vs := [.int .i64 (caps 0), .int .i64 (caps 1), .int .i64 (caps 2)]) rfl (cells_all 0 rfl)) ?_
    refine ent_q (bd255_0_1 rfl) ?_
    refine ent_box fun q => ?_
    refine ent_call (hset q) (by (repeat (first | refine Imp.pick 0 rfl ?_ | refine Imp.pick 1 rfl ?_)); exact Imp.refl _) fun x => ?_
    refine ent_q ((run_ne _ _).F (by simp)) ?_
    (repeat refine ent_ifF ?_)
    exact fun w hs => ⟨(q, x.1, x.2), rfl, Imp.sat (by (repeat refine Imp.pick 0 rfl ?_); exact Imp.drop1) hs⟩
end
end Go.Gd
namespace Go.Gd
open Go.Instr
attribute [local irreducible] loadAt storeAt fieldAt indexAt alloc box build buildSlice hNil eqG binOp Op.unary extract makeSlice makeInterface makeFunc convert hV mV pV hU hF hFV hIf hGuard hPick hJ hDraw hLoop ro Instr.index planI
def inH (b : Int) (h : Hint) : Bool := decide (h.frm ≤ b ∧ b < h.frm + h.size)
def rangeF (l : List Hint) (b : Int) : Option Nat := l.findIdx? (inH b)
def rangeI (l : List Hint) (b : Int) : Int := match rangeF l b with | some i => (i : Int) | none => 0
theorem rangeF_lt {l : List Hint} {b : Int} {i : Nat} (h : rangeF l b = some i) : i < l.length := by
  obtain ⟨h1, _⟩ := List.findIdx?_eq_some_iff_getElem.1 h
  exact h1
def partF (l : List Hint) (caps : Nat → Nat) (b t : Int) : Nat := match rangeF l b with
  | some i => if 1 ≤ t ∧ t ≤ 3 then allocP l caps i (t.toNat - 1) else 0
  | none => 0
def loopF (l : List Hint) (b : Int) : Bool := match rangeF l b with
  | some i => (match l[i]? with | some h => h.loop | none => false)
  | none => false
section
variable {w0 : World}
theorem ka_in (h : Hint) (bb : Nat) (b : Int) (hh : 0 ≤ h.frm ∧ h.frm + h.size ≤ 1000 ∧ 0 ≤ h.size) : Spec w0 230 [.agg (hintV h).toArray, P0 bb] [pt bb 3 [.int .i64 b]] (fun _ : Unit => .bool (inH b h)) (fun _ => [pt bb 3 [.int .i64 b]]) := by
  refine spec_go (fun R w => H230) fun F => ?_
  show Ent w0 (pt bb 3 [.int .i64 b] :: F) _
  unfold F230
  refine ent_box fun q => ?_
  rw [agg_cells, List.toList_toArray]
  unfold hintV
  (repeat (first | refine ent_q (run_fieldZ _ _) ?_ | refine ent_q (run_load (cell_own 0 rfl rfl)) ?_ | refine ent_q (run_load (cell_own 1 rfl rfl)) ?_))
  unfold inH
  refine ent_qb (run_ge _ _) (fun h1 => ?_) (fun h1 => ?_)
  · (repeat (first | refine ent_q (run_fieldZ _ _) ?_ | refine ent_q (run_field0 _) ?_ | refine ent_gT ?_ | refine ent_q (run_load (cell_own 0 rfl rfl)) ?_ | refine ent_q (run_load (cell_own 1 rfl rfl)) ?_))
    refine ent_q (run_add64 (by omega)) ?_
    refine ent_qb (run_lt _ _) (fun h2 => ?_) (fun h2 => ?_)
    · (repeat refine ent_pT ?_)
      exact ent_ret () (by rw [decide_eq_true (by omega)]) (by (repeat refine Imp.pick 1 rfl ?_); exact Imp.drop1)
    · (repeat refine ent_pT ?_)
      exact ent_ret () (by rw [decide_eq_false (by omega)]) (by (repeat refine Imp.pick 1 rfl ?_); exact Imp.drop1)
  · (repeat (first | refine ent_gF ?_ | refine ent_pF ?_))
    exact ent_ret () (by rw [decide_eq_false (by omega)]) (by (repeat refine Imp.pick 1 rfl ?_); exact Imp.drop1)
theorem ka_index (hv : Value) (l : List Hint) (blocks : Int) (bb : Nat) (b : Int) (h8 : l.length ≤ 8) (hok : ∀ x ∈ l, HintP blocks x) :
    Spec w0 229 [hv, .func (.func 230) #[] #[P0 bb]] [pt bb 3 [.int .i64 b], ro w0 hv 4 l.length (hintsV l)] (fun _ : Unit => .int .i64 (match rangeF l b with | some i => (i : Int) | none => -1)) (fun _ => [pt bb 3 [.int .i64 b]]) := by
  refine spec_go (fun R w => H229) fun F => ?_
  show Ent w0 (pt bb 3 [.int .i64 b] :: ro w0 hv 4 l.length (hintsV l) :: F) _
  refine Ent.at 1 rfl (Ent.ro fun a cap R hv' hln hrd => ?_)
  subst hv'
  refine Ent.imp (L' := R :: pt bb 3 [.int .i64 b] :: F) (by (repeat (first | refine Imp.pick 0 rfl ?_ | refine Imp.pick 1 rfl ?_)); exact Imp.drop1) ?_
  unfold F229
  refine ent_q run_len ?_
  refine ent_loop (ι := Nat) (fun i => i ≤ l.length ∧ ∀ j x, j < i → l[j]? = some x → inH b x = false) (fun i => [.int .i64 (i : Nat), .int .i64 0]) (fun i => R :: pt bb 3 [.int .i64 b] :: F) (fun i => l.length - i) 0 ⟨Nat.zero_le _, fun j x hj => by omega⟩ rfl (Imp.refl _) ?_
  intro i ⟨hi, hno⟩ g next hnext
  show Ent w0 _ (hV P (binOp .lss 3 (.int .i64 (i : Nat)) (.int .i64 (l.length : Nat))) _)
  refine ent_qb (run_lt _ _) (fun h => ?_) (fun h => ?_)
  · have hil : i < l.length := by omega
    obtain ⟨x, hx⟩ : ∃ x, l[i]? = some x := ⟨_, List.getElem?_eq_getElem hil⟩
    have hxp := hok x (List.mem_of_getElem? hx)
    unfold HintP at hxp
    obtain ⟨b', o, ha, hcl⟩ := hint_cells (hrd (R :: pt bb 3 [.int .i64 b] :: F) 0 rfl) hil
    subst ha
    (repeat refine ent_ifT ?_)
    refine ent_q (run_indexS i rfl hil) ?_
    refine ent_q (run_loadA (vs := hintV x) rfl (fun j u hj => ?_)) ?_
    · rw [show o + i * 4 + j = o + (i * 4 + j) by omega]
      exact hcl _ _ (hintsV_get hx j u hj)
    refine ent_callV (xs := [.agg (hintV x).toArray, P0 bb]) rfl (ka_in x bb b (by omega)) (by (repeat refine Imp.pick 1 rfl ?_); exact Imp.refl _) fun _ => ?_
    cases hin : inH b x with
    | true =>
      (repeat refine ent_ifT ?_)
      have hr : rangeF l b = some i := by
        unfold rangeF
        rw [List.findIdx?_eq_some_iff_getElem]
        rw [List.getElem?_eq_getElem hil] at hx
        cases hx
        refine ⟨hil, hin, fun j hj => ?_⟩
        have := hno j l[j] hj (List.getElem?_eq_getElem (by omega))
        simp [this]
      exact ent_ret () (by rw [hr]; rfl) (by (repeat refine Imp.pick 0 rfl ?_); exact Imp.drop1)
    | false =>
      (repeat refine ent_ifF ?_)
      refine ent_q (run_add64 (by omega)) ?_
      refine Ent.imp (L' := R :: pt bb 3 [.int .i64 b] :: F) (by (repeat (first | refine Imp.pick 0 rfl ?_ | refine Imp.pick 1 rfl ?_)); exact Imp.refl _) (hnext (i + 1) ⟨by omega, fun j y hj hy => ?_⟩ (by omega))
      by_cases hji : j = i
      · subst hji; rw [hx] at hy; cases hy; exact hin
      · exact hno j y (by omega) hy
  · (repeat refine ent_ifF ?_)
    have hr : rangeF l b = none := by
      unfold rangeF
      rw [List.findIdx?_eq_none_iff]
      intro x hx
      obtain ⟨j, hj, rfl⟩ := List.mem_iff_getElem.1 hx
      exact hno j _ (by omega) (List.getElem?_eq_getElem hj)
    exact ent_ret () (by rw [hr]) (by (repeat refine Imp.pick 1 rfl ?_); exact Imp.drop1)
theorem ka_range (q : Nat) (blocks : Int) (caps : Nat → Nat) (l : List Hint) (hv pv : Value) (b : Int) (h8 : l.length ≤ 8) (hok : ∀ x ∈ l, HintP blocks x) :
    Spec w0 222 [P0 q, .int .i64 b] [planI w0 q blocks caps l hv pv] (fun _ : Unit => .tuple #[.int .i64 (rangeI l b), .bool (rangeF l b).isSome]) (fun _ => []) := by
  refine spec_go (fun R w => H222) fun F => ?_
  show Ent w0 (planI w0 q blocks caps l hv pv :: F) _
  unfold planI
  refine Ent.star ?_
  show Ent w0 (ptI q 255 [.int .i64 blocks, .int .i64 (caps 0), .int .i64 (caps 1), .int .i64 (caps 2), hv, pv] :: ro w0 hv 4 l.length (hintsV l) :: ro w0 pv 4 l.length (partsV l.length (allocP l caps)) :: F) _
  unfold F222
  refine ent_box fun bb => ?_
  (repeat (first | refine ent_q (run_nil _) ?_ | refine ent_q (run_field0 _) ?_ | refine ent_ifF ?_ | refine ent_q (run_eqpS _) ?_ | refine ent_q (run_mf _ _ _) ?_ | refine ent_q (run_load (cell_imm 1 rfl rfl)) ?_))
  refine ent_call (ka_index hv l blocks bb b h8 hok) (by (repeat (first | refine Imp.pick 0 rfl ?_ | refine Imp.pick 1 rfl ?_)); exact Imp.refl _) fun _ => ?_
  refine ent_q (run_max _ _) ?_
  unfold rangeI
  cases rangeF l b with
  | none =>
    refine ent_q ((run_ge _ _).F (by simp)) ?_
    exact ent_ret () rfl (by exact Imp.trans Imp.drop1 (Imp.trans Imp.drop1 (Imp.drop1)))
  | some i =>
    refine ent_q ((run_ge _ _).T (by simp)) ?_
    exact ent_ret () (by rw [show max ((i : Nat) : Int) 0 = i by omega]; rfl) (by exact Imp.trans Imp.drop1 (Imp.trans Imp.drop1 (Imp.drop1)))
theorem ka_part (q : Nat) (blocks : Int) (caps : Nat → Nat) (l : List Hint) (hv pv : Value) (b t : Int) (h8 : l.length ≤ 8) (hok : ∀ x ∈ l, HintP blocks x) :
    Spec w0 216 [P0 q, .int .i64 b, .int .i64 t] [planI w0 q blocks caps l hv pv] (fun _ : Unit => .int .i64 (partF l caps b t : Nat)) (fun _ => []) := by
  refine spec_go (fun R w => H216) fun F => ?_
  show Ent w0 (planI w0 q blocks caps l hv pv :: F) _
  refine Ent.dup (Pers.plan _ _ _ _ _ _ _) ?_
  unfold F216
  refine ent_call (ka_range q blocks caps l hv pv b h8 hok) (by (repeat refine Imp.pick 0 rfl ?_); exact Imp.refl _) fun _ => ?_
  unfold planI
  refine Ent.star ?_
  show Ent w0 (ptI q 255 [.int .i64 blocks, .int .i64 (caps 0), .int .i64 (caps 1), .int .i64 (caps 2), hv, pv] :: ro w0 hv 4 l.length (hintsV l) :: ro w0 pv 4 l.length (partsV l.length (allocP l caps)) :: F) _
  unfold partF rangeI
  cases hr : rangeF l b with
  | none =>
    (repeat (first | refine ent_ifT ?_ | refine ent_gF' ?_ | refine ent_pT ?_ | refine ent_q (run_notF) ?_ | refine ent_q (run_ex rfl) ?_ | refine ent_j ?_))
    exact ent_ret () rfl (by exact Imp.trans Imp.drop1 (Imp.trans Imp.drop1 (Imp.drop1)))
  | some i =>
    have hil := rangeF_lt hr
    (repeat (first | refine ent_gT ?_ | refine ent_q (run_notT) ?_ | refine ent_q (run_ex rfl) ?_ | refine ent_j ?_))
    refine ent_qb (run_lt _ _) (fun h1 => ?_) (fun h1 => ?_)
    · (repeat (first | refine ent_ifT ?_ | refine ent_gF' ?_ | refine ent_pT ?_ | refine ent_pF ?_ | refine ent_j ?_))
      exact ent_ret () (by rw [show (match some i with | some i => if 1 ≤ t ∧ t ≤ 3 then allocP l caps i (t.toNat - 1) else 0 | none => 0) = 0 from if_neg (by omega)]; rfl) (by exact Imp.trans Imp.drop1 (Imp.trans Imp.drop1 (Imp.drop1)))
    (repeat (first | refine ent_gT ?_ | refine ent_pF ?_ | refine ent_j ?_))
    refine ent_qb (run_gt _ _) (fun h2 => ?_) (fun h2 => ?_)
    · (repeat (first | refine ent_ifT ?_ | refine ent_pF ?_))
      exact ent_ret () (by rw [show (match some i with | some i => if 1 ≤ t ∧ t ≤ 3 then allocP l caps i (t.toNat - 1) else 0 | none => 0) = 0 from if_neg (by omega)]; rfl) (by exact Imp.trans Imp.drop1 (Imp.trans Imp.drop1 (Imp.drop1)))
    (repeat (first | refine ent_q (run_nil _) ?_ | refine ent_q (run_field0 _) ?_ | refine ent_ifF ?_ | refine ent_pF ?_ | refine ent_q (run_load (cell_imm 0 rfl rfl)) ?_))
    refine Ent.at 2 rfl (Ent.ro fun a cap R hv' hln hrd => ?_)
    subst hv'
    obtain ⟨pb, o, ha, hcl⟩ : ∃ b o, a = some ⟨b, o, none⟩ ∧ Cells w0 (R :: F) b o (partsV l.length (allocP l caps)) := by
      obtain ⟨a', cap', e1, _, e2⟩ := hrd (R :: F) 0 rfl
      cases e1
      rcases e2 with e2 | e2
      · have := partsV_len l.length (allocP l caps); rw [e2] at this; simp at this; omega
      · exact e2
    subst ha
    refine Ent.imp (L' := R :: F) (by (repeat refine Imp.pick 0 rfl ?_); exact Imp.trans Imp.drop1 (Imp.trans Imp.drop1 (Imp.drop1))) ?_
    obtain ⟨n, hn⟩ : ∃ n : Nat, t = (n : Int) + 1 := ⟨t.toNat - 1, by omega⟩
    subst hn
    refine ent_q (run_sub64 (by omega)) ?_
    refine ent_q (run_indexS i rfl hil) ?_
    (repeat refine ent_q (run_fieldZ _ _) ?_)
    refine ent_q (run_indexA n (by omega) (by omega)) ?_
    have hg := partsV_get (n := l.length) (p := allocP l caps) (r := []) hil (show n < 4 by omega)
    rw [List.append_nil, Nat.mul_one] at hg
    refine ent_q (run_load (v := .int .i64 (allocP l caps i n : Nat)) (by rw [show o + i * 4 + n * 1 = o + (i * 4 + n) by omega]; exact hcl _ _ hg)) ?_
    refine ent_ret () ?_ (by exact Imp.drop1)
    rw [show (match some i with | some i => if 1 ≤ (n : Int) + 1 ∧ (n : Int) + 1 ≤ 3 then allocP l caps i (((n : Int) + 1).toNat - 1) else 0 | none => 0) = allocP l caps i n from by
      show (if _ then _ else _) = _
      rw [if_pos (by omega)]; congr 1]
theorem ka_loop (q : Nat) (blocks : Int) (caps : Nat → Nat) (l : List Hint) (hv pv : Value) (b : Int) (h8 : l.length ≤ 8) (hok : ∀ x ∈ l, HintP blocks x) :
    Spec w0 262 [P0 q, .int .i64 b] [planI w0 q blocks caps l hv pv] (fun _ : Unit => .bool (loopF l b)) (fun _ => []) := by
  refine spec_go (fun R w => H262) fun F => ?_
  show Ent w0 (planI w0 q blocks caps l hv pv :: F) _
  refine Ent.dup (Pers.plan _ _ _ _ _ _ _) ?_
  unfold F262
  refine ent_call (ka_range q blocks caps l hv pv b h8 hok) (by (repeat refine Imp.pick 0 rfl ?_); exact Imp.refl _) fun _ => ?_
  unfold planI
  refine Ent.star ?_
  show Ent w0 (ptI q 255 [.int .i64 blocks, .int .i64 (caps 0), .int .i64 (caps 1), .int .i64 (caps 2), hv, pv] :: ro w0 hv 4 l.length (hintsV l) :: ro w0 pv 4 l.length (partsV l.length (allocP l caps)) :: F) _
  unfold loopF rangeI
  cases hr : rangeF l b with
  | none =>
    (repeat (first | refine ent_gF ?_ | refine ent_pF ?_ | refine ent_q (run_ex rfl) ?_))
    exact ent_ret () rfl (by exact Imp.trans Imp.drop1 (Imp.trans Imp.drop1 (Imp.drop1)))
  | some i =>
    have hil := rangeF_lt hr
    obtain ⟨x, hx⟩ : ∃ x, l[i]? = some x := ⟨_, List.getElem?_eq_getElem hil⟩
    (repeat (first | refine ent_q (run_nil _) ?_ | refine ent_q (run_field0 _) ?_ | refine ent_gT ?_ | refine ent_q (run_ex rfl) ?_ | refine ent_q (run_load (cell_imm 0 rfl rfl)) ?_))
    refine Ent.at 1 rfl (Ent.ro fun a cap R hv' hln hrd => ?_)
    subst hv'
    refine Ent.imp (L' := R :: F) (by (repeat refine Imp.pick 0 rfl ?_); exact Imp.trans Imp.drop1 (Imp.trans Imp.drop1 (Imp.drop1))) ?_
    obtain ⟨pb, o, ha, hcl⟩ := hint_cells (hrd (R :: F) 0 rfl) hil
    subst ha
    refine ent_q (run_indexS i rfl hil) ?_
    (repeat refine ent_q (run_field _ _) ?_)
    refine ent_q (run_load (v := .bool x.loop) (by rw [show o + i * 4 + 3 = o + (i * 4 + 3) by omega]; exact hcl _ _ (hintsV_get hx 3 _ rfl))) ?_
    (repeat refine ent_pT ?_)
    refine ent_ret () ?_ (by exact Imp.drop1)
    simp [hx]
theorem ka_parts (q : Nat) (blocks : Int) (caps : Nat → Nat) (l : List Hint) (hv pv : Value) (h8 : l.length ≤ 8) :
    Spec w0 185 [P0 q] [planI w0 q blocks caps l hv pv] (fun v : Value => v) (fun v => [vec v 298 4 (partsV l.length (allocP l caps)) l.length]) := by
  refine spec_go (fun R w => H185) fun F => ?_
  show Ent w0 (planI w0 q blocks caps l hv pv :: F) _
  unfold planI
  refine Ent.star ?_
  show Ent w0 (ptI q 255 [.int .i64 blocks, .int .i64 (caps 0), .int .i64 (caps 1), .int .i64 (caps 2), hv, pv] :: ro w0 hv 4 l.length (hintsV l) :: ro w0 pv 4 l.length (partsV l.length (allocP l caps)) :: F) _
  unfold F185
  (repeat (first | refine ent_q (run_nil _) ?_ | refine ent_q (run_field0 _) ?_ | refine ent_ifF ?_ | refine ent_q (run_eqpS _) ?_ | refine ent_q (run_load (cell_imm 0 rfl rfl)) ?_))
  refine ent_call (clone_parts pv l.length (allocP l caps) (by omega)) (by (repeat refine Imp.pick 2 rfl ?_); exact Imp.refl _) fun v => ?_
  exact ent_ret v rfl (by (repeat refine Imp.pick 0 rfl ?_); exact Imp.trans Imp.drop1 (Imp.drop1))
end
end Go.Gd
