/- Rules of the logic: slices that nobody writes any more; rows of truths. Conditions: none beyond those in the theorems. Rules of the logic: calls of function values, slices against nil, copies of slices. Conditions: none beyond those in the theorems. Rules of the logic: scopes, parts of slices, copies, rows of what stays, bytes. Conditions: none beyond those in the theorems. Rules of the logic: calls through interfaces. Conditions: none beyond those in the theorems. -/
import Derived.Test.YtdgnnacppiaogaaGreatB7
set_option linter.unusedVariables false
set_option linter.unusedSimpArgs false
namespace Go.Gd
open Go.Instr
def roC (w0 : World) (b o : Nat) (l : List Value) : HP := fun r =>
  (∀ j u, l[j]? = some u → w0.cell? ⟨b, o + j, none⟩ = some u) ∨ (∃ T cs, r b = some (.imm (.cells cs T (0, 0))) ∧ ∀ j u, l[j]? = some u → cs[o + j]? = some u)
def ro (w0 : World) (v : Value) (sz n : Nat) (l : List Value) : HP := exH fun (x : Option Addr × Nat × Nat × Nat) =>
  star [pureH (v = .slice x.1 n x.2.1 ∧ l.length = n * sz ∧ n ≤ x.2.1 ∧ (l = [] ∨ x.1 = some ⟨x.2.2.1, x.2.2.2, none⟩)), roC w0 x.2.2.1 x.2.2.2 l]
theorem Pers.roC (w0 : World) (b o : Nat) (l : List Value) : Pers (roC w0 b o l) := fun r h => by
  rcases h with h | ⟨T, cs, h1, h2⟩
  · exact .inl h
  · exact .inr ⟨T, cs, by simp only [immPart, h1], h2⟩
theorem Pers.star2 {A B : HP} (hA : Pers A) (hB : Pers B) : Pers (star [A, B]) := fun r ⟨a, b, j, ha, c, d, j2, hb, _⟩ => by
  have i1 : Join (immPart a) (immPart b) (immPart r) := fun n => by
    have := j n
    unfold immPart
    cases ha : a n with
    | none => rw [ha] at this; simp only [joinO] at this; rw [this]; cases r n with
      | none => simp [joinO]
      | some x => cases x <;> simp [joinO]
    | some x =>
      rw [ha] at this
      cases x with
      | own o =>
        cases hb : b n with
        | none => rw [hb] at this; simp only [joinO] at this; rw [this]; simp [joinO]
        | some y => rw [hb] at this; cases y <;> exact absurd this (by simp [joinO])
      | imm o =>
        cases hb : b n with
        | none => rw [hb] at this; simp only [joinO] at this; rw [this]; simp [joinO]
        | some y => rw [hb] at this; cases y with
          | own => exact this.elim
          | imm => rw [this.2]; obtain ⟨h1, _⟩ := this; subst h1; simp [joinO]
  have i2 : Join (immPart c) (immPart d) (immPart b) := fun n => by
    have := j2 n
    unfold immPart
    cases hc : c n with
    | none => rw [hc] at this; simp only [joinO] at this; rw [this]; cases b n with
      | none => simp [joinO]
      | some x => cases x <;> simp [joinO]
    | some x =>
      rw [hc] at this
      cases x with
      | own o =>
        cases hd : d n with
        | none => rw [hd] at this; simp only [joinO] at this; rw [this]; simp [joinO]
        | some y => rw [hd] at this; cases y <;> exact absurd this (by simp [joinO])
      | imm o =>
        cases hd : d n with
        | none => rw [hd] at this; simp only [joinO] at this; rw [this]; simp [joinO]
        | some y => rw [hd] at this; cases y with
          | own => exact this.elim
          | imm => rw [this.2]; obtain ⟨h1, _⟩ := this; subst h1; simp [joinO]
  exact ⟨_, _, i1, hA _ ha, _, _, i2, hB _ hb, trivial⟩
theorem Pers.ro (w0 : World) (v : Value) (sz n : Nat) (l : List Value) : Pers (ro w0 v sz n l) := Pers.ex fun _ => Pers.star2 (Pers.pure _) (Pers.roC _ _ _ _)
section
variable {w0 : World} {L L' : List HP} {X : World → Prop}
theorem Sat.roC {b o : Nat} {l : List Value} {w : World} (i : Nat) (hi : L[i]? = some (roC w0 b o l)) (hs : Sat w0 L w) : ∀ j u, l[j]? = some u → w.cell? ⟨b, o + j, none⟩ = some u := by
  obtain ⟨hold, r, hr, hag⟩ := hs.perm (pick_perm hi)
  obtain ⟨a, c, j, ha, hc⟩ := hr
  intro k u hk
  rcases ha with h | ⟨T, cs, h1, h2⟩
  · exact cell_old (L := []) (h k u hk) w (Sat.nil hold)
  · have := (Agree.left j hag b _ (.inr h1)).2
    simp only [World.cell?, this]
    have := h2 k u hk
    simpa using this
theorem cells_ro {b o : Nat} {l : List Value} (i : Nat) (hi : L[i]? = some (roC w0 b o l)) : Cells w0 L b o l := fun j v hj w hw => Sat.roC i hi hw j v hj
theorem Ent.ro {v : Value} {sz n : Nat} {l : List Value}
    (h : ∀ a cap (R : HP), v = .slice a n cap → l.length = n * sz → (∀ (M : List HP) (i : Nat), M[i]? = some R → RdS w0 M v sz n l) → Ent w0 (R :: Gd.ro w0 v sz n l :: L) X) : Ent w0 (Gd.ro w0 v sz n l :: L) X := by
  refine Ent.imp (Imp.dup1 (Pers.ro _ _ _ _ _)) ?_
  conv => lhs; unfold Gd.ro
  refine Ent.ex fun x => ?_
  refine Ent.star ?_
  show Ent w0 (pureH _ :: Gd.roC _ _ _ _ :: _) X
  refine Ent.pure fun ⟨h1, h2, _, h3⟩ => ?_
  refine h x.1 x.2.1 _ h1 h2 fun M i hi => ⟨x.1, x.2.1, h1, h2, ?_⟩
  rcases h3 with h3 | h3
  · exact .inl h3
  · exact .inr ⟨_, _, h3, cells_ro i hi⟩
theorem Imp.ro0 {v : Value} {sz : Nat} {a : Option Addr} {cap : Nat} (hv : v = .slice a 0 cap) (h : Imp L L') : Imp L (ro w0 v sz 0 [] :: L') := by
  refine Imp.exI (a, cap, 0, 0) (Imp.starI (Imp.pureI ⟨hv, by simp, Nat.zero_le _, .inl rfl⟩ ?_))
  exact fun r hr => ⟨fun _ => none, r, (Join.none r).comm, .inl (fun j u hj => by simp at hj), h r hr⟩
theorem Imp.roOld {b o cap sz n : Nat} {l : List Value} (hl : l.length = n * sz) (hcap : n ≤ cap) (hc : ∀ j u, l[j]? = some u → w0.cell? ⟨b, o + j, none⟩ = some u) (h : Imp L L') :
    Imp L (ro w0 (.slice (some ⟨b, o, none⟩) n cap) sz n l :: L') := by
  refine Imp.exI (some ⟨b, o, none⟩, cap, b, o) (Imp.starI (Imp.pureI ⟨rfl, hl, hcap, .inr rfl⟩ ?_))
  exact fun r hr => ⟨fun _ => none, r, (Join.none r).comm, .inl hc, h r hr⟩
theorem Imp.roI {b cap sz n : Nat} {T : TypeId} {l junk : List Value} (hl : l.length = n * sz) (hcap : n ≤ cap) : Imp (ptI b T (l ++ junk) :: L) (ro w0 (.slice (some ⟨b, 0, none⟩) n cap) sz n l :: L) := by
  refine Imp.exI (some ⟨b, 0, none⟩, cap, b, 0) (Imp.starI (Imp.pureI ⟨rfl, hl, hcap, .inr rfl⟩ ?_))
  refine Imp.head fun r hr => .inr ⟨T, (l ++ junk).toArray, hr, fun j u hj => ?_⟩
  rw [Nat.zero_add]
  simp only [List.getElem?_toArray]
  rw [List.getElem?_append_left (List.getElem?_eq_some_iff.1 hj).1]; exact hj
theorem Ent.vecRo {v : Value} {e : TypeId} {sz n : Nat} {l : List Value} [hz : NeZero sz] (h : Ent w0 (Gd.ro w0 v sz n l :: L) X) : Ent w0 (Gd.vec v e sz l n :: L) X := by
  refine Ent.vec (fun a hv hl hn => ?_) fun b cap junk hv hl hc => ?_
  · subst hl; subst hn
    exact Ent.imp (Imp.ro0 hv (Imp.refl _)) h
  · subst hv
    refine Ent.freeze (Ent.imp (Imp.roI hl ?_) h)
    rw [List.length_append, hl] at hc
    exact Nat.le_of_mul_le_mul_right (Nat.le_trans (Nat.le_add_right _ _) (Nat.le_of_eq hc)) (Nat.pos_of_ne_zero hz.out)
theorem Ent.dup {A : HP} (hA : Pers A) (h : Ent w0 (A :: A :: L) X) : Ent w0 (A :: L) X := h.imp (Imp.dup1 hA)
theorem Ent.roDup {v : Value} {sz n : Nat} {l : List Value} (h : Ent w0 (Gd.ro w0 v sz n l :: Gd.ro w0 v sz n l :: L) X) : Ent w0 (Gd.ro w0 v sz n l :: L) X := Ent.dup (Pers.ro _ _ _ _ _) h
end
def bv (n : Nat) (f : Nat → Bool) : List Value := (List.range n).map fun i => Value.bool (f i)
theorem bv_len (n : Nat) (f : Nat → Bool) : (bv n f).length = n := by simp [bv]
theorem bv_get {n : Nat} {f : Nat → Bool} {i : Nat} (h : i < n) : (bv n f)[i]? = some (.bool (f i)) := by simp [bv, h]
theorem bv_set {n : Nat} {f : Nat → Bool} {i : Nat} (x : Bool) : (bv n f).set i (.bool x) = bv n (upF f i x) := by
  apply List.ext_getElem?
  intro j
  by_cases hj : j < n
  · rw [bv_get hj, List.getElem?_set]
    by_cases hij : i = j
    · subst hij; simp [bv_len, hj]
    · rw [if_neg hij, bv_get hj, upF_ne _ _ (Ne.symm hij)]
  · rw [List.getElem?_eq_none (by simp [bv_len]; omega), List.getElem?_eq_none (by simp [bv_len]; omega)]
end Go.Gd
namespace Go.Gd
open Go.Instr
section
variable {w0 : World} {L : List HP} {X : World → Prop}
theorem hFV_eq {k : FuncId} {first caps args : Array Value} {K : Value → World → Prop} : hFV P (.func (.func k) first caps) args K = hF P k (first ++ args ++ caps) K := by
  unfold hFV hF Deferred.ofValue
  simp only [pure_bind, invoke]
theorem ent_callV {ι : Type} {k : FuncId} {first caps args : Array Value} {xs : List Value} (ha : (first ++ args ++ caps) = xs.toArray) {Pre F : List HP} {val : ι → Value} {post : ι → List HP} {K : Value → World → Prop}
    (hS : Spec w0 k xs Pre val post) (hI : Imp L (Pre ++ F)) (h : ∀ i, Ent w0 (post i ++ F) (K (val i))) : Ent w0 L (hFV P (.func (.func k) first caps) args K) := by
  rw [hFV_eq, ha]
  exact ent_call hS hI h
theorem run_equalIn_slc {t e : TypeId} {n : Nat} [ElS t e n] (d : Nat) (a : Option Addr) (l c : Nat) (w : World) : (Op.equalIn (d + 1) t (.slice a l c) (.slice none 0 0)).run P w = .ok (decide (a = none)) w := by
  obtain ⟨hu, _⟩ := elS_und (t := t) (e := e) (n := n)
  unfold Op.equalIn
  simp only [Sem.run_bind, run_underlying hu, Result.andThen_ok]
  cases a with
  | none => rfl
  | some a => rfl
theorem run_eqs {lit : Bool} {t e : TypeId} {n : Nat} [ElS t e n] (a : Option Addr) (l c : Nat) : Run w0 L (eqG lit .eql t (.slice a l c) (.slice none 0 0)) (.bool (decide (a = none))) := fun w _ => by
  have h := run_equalIn_slc (t := t) 9999 a l c w
  have e : (eqG lit .eql t (.slice a l c) (.slice none 0 0)).run P w = ((Op.equalIn (9999 + 1) t (.slice a l c) (.slice none 0 0)).run P w).andThen fun b w => .ok (.bool b) w := by
    cases a <;> simp [eqG, eqGd, binOp, Op.equal, Op.maxDepth]
  rw [e, h]; rfl
theorem ent_clone {t e : TypeId} {sz : Nat} [ElS t e sz] {by_ : Nat} [Byt e by_] {zs : List Value} [Zer e zs] {a : Option Addr} {n cap : Nat} {l : List Value} {K : Value → World → Prop}
    (hzs : zs.length = sz) (hr : ∀ M : List HP, RdS w0 (M ++ L) (.slice a n cap) sz n l) (hone : ∀ v ∈ l, v.oneCell' = true) (hbd : n * by_ ≤ 140737488355328) (hsmall : n ≤ 9223372036854775807) (hsz : sz ≠ 0)
    (h : ∀ v, Ent w0 (vec v e sz l n :: L) (K v)) : Ent w0 L (hV P (eqG true .eql t (.slice a n cap) (.slice none 0 0)) fun t4 =>
      hIf t4 (K (.slice none 0 0)) (hV P (buildSlice t 0 #[]) fun t5 => hV P (Builtin.append_ #[t, t] t #[t5, .slice a n cap]) fun t7 => K t7)) := by
  refine ent_qb (run_eqs _ _ _) (fun ha => ?_) (fun ha => ?_)
  · refine ent_ifT ?_
    subst ha
    obtain ⟨a', c', e1, e2, e3⟩ := hr []
    cases e1
    have hl : l = [] := by
      rcases e3 with e3 | ⟨b, o, e3, _⟩
      · exact e3
      · cases e3
    subst hl
    have hn : n = 0 := by
      have : n * sz = 0 := by simpa using e2.symm
      rcases Nat.mul_eq_zero.1 this with h | h
      · exact h
      · exact absurd h hsz
    subst hn
    exact Ent.imp (Imp.vec0 rfl (Imp.refl _)) (h _)
  · refine ent_ifF ?_
    refine ent_bs (zs := zs) hzs (n := 0) (parts := []) (cs := []) (by omega) rfl fun b => ?_
    refine Ent.imp (Imp.vecN (sz := sz) (n := 0) (by simp) (Imp.refl _)) ?_
    refine ent_append (zs := zs) 0 rfl (hr []) hzs hone (by rw [Nat.zero_add]; exact hbd) (by omega) fun v' => ?_
    have := h v'
    simpa using this
end
end Go.Gd
namespace Go.Gd
open Go.Instr
section
variable {w0 : World} {L L' : List HP} {X : World → Prop}
theorem ent_scope {ι : Type} {first : (List Value → World → Prop) → World → Prop} {pass : List Value → Frm → (List Value → World → Prop) → World → Prop} {n : Nat} (Inv : ι → Prop) (vals : ι → List Value) (Ls : ι → List HP) (μ : ι → Nat)
    (h0 : ∀ next : List Value → World → Prop, (∀ j, Inv j → Ent w0 (Ls j) (next (vals j))) → Ent w0 L (first next))
    (step : ∀ i, Inv i → ∀ (g : Frm) (next : List Value → World → Prop), (∀ j, Inv j → μ j < μ i → Ent w0 (Ls j) (next (vals j))) → Ent w0 (Ls i) (pass (vals i) g next)) : Ent w0 L (hScope first pass n) := by
  classical
  intro w hs
  let p : List Value → World → Nat → Prop := fun vs w n => ∃ i, Inv i ∧ vs = vals i ∧ Sat w0 (Ls i) w ∧ μ i = n
  refine ⟨fun vs w => ∃ i, Inv i ∧ vs = vals i ∧ Sat w0 (Ls i) w, fun vs w => if h : ∃ n, p vs w n then (least h).choose else 0, h0 _ (fun j hj w' hs' => ⟨j, hj, rfl, hs'⟩) w hs, fun vs g w _ hI' => ?_⟩
  have hex : ∃ n, p vs w n := let ⟨i, a, b, c⟩ := hI'; ⟨_, i, a, b, c, rfl⟩
  obtain ⟨i, hi, hvs, hs', hn⟩ := (least hex).choose_spec.1
  subst hvs
  refine step i hi g _ (fun j hj hlt w' hs2 => ?_) w hs'
  refine ⟨⟨j, hj, rfl, hs2⟩, ?_⟩
  have hex2 : ∃ n, p (vals j) w' n := ⟨_, j, hj, rfl, hs2, rfl⟩
  simp only []
  rw [dif_pos hex2, dif_pos hex]
  have h1 := (least hex2).choose_spec.2 (μ j) ⟨j, hj, rfl, hs2, rfl⟩
  omega
theorem run_slice {t e : TypeId} {sz : Nat} [ElS t e sz] {a : Option Addr} {len cap : Nat} {k k' : IntKind} {x y : Int} (lo hi : Nat) (hx : x = lo) (hy : y = hi) (h1 : lo ≤ hi) (h2 : hi ≤ cap) :
    Run w0 L (sliceAt t (.slice a len cap) (some (.int k x)) (some (.int k' y)) none) (.slice (if cap = lo then a else a.map (·.add (lo * sz))) (hi - lo) (cap - lo)) := fun w _ => by
  obtain ⟨hu, xe, hxe, hsz⟩ := elS_und (t := t) (e := e) (n := sz)
  subst hx; subst hy
  unfold sliceAt
  simp only [Sem.run_bind, run_underlying hu, Result.andThen_ok]
  unfold slice sliceBounds sliceBound asIntOf
  have e1 : (0 : Int) ≤ (hi : Int) ∧ (hi : Int) ≤ cap := by omega
  have e2 : (0 : Int) ≤ (lo : Int) ∧ (lo : Int) ≤ hi := by omega
  simp only [Sem.run_bind, run_underlying hu, Result.andThen_ok, Sem.run_pure, e1, e2, and_self, if_true, Int.toNat_natCast, Option.isSome_none, Bool.false_eq_true, if_false, run_sizeOf hxe, hsz]
theorem Ent.roC {v : Value} {sz n : Nat} {l : List Value}
    (h : ∀ a cap (R : HP), v = .slice a n cap → l.length = n * sz → n ≤ cap → (∀ (M : List HP) (i : Nat), M[i]? = some R → RdS w0 M v sz n l) → Ent w0 (R :: Gd.ro w0 v sz n l :: L) X) : Ent w0 (Gd.ro w0 v sz n l :: L) X := by
  refine Ent.imp (Imp.dup1 (Pers.ro _ _ _ _ _)) ?_
  conv => lhs; unfold Gd.ro
  refine Ent.ex fun x => ?_
  refine Ent.star ?_
  show Ent w0 (pureH _ :: Gd.roC _ _ _ _ :: _) X
  refine Ent.pure fun ⟨h1, h2, h4, h3⟩ => ?_
  refine h x.1 x.2.1 _ h1 h2 h4 fun M i hi => ⟨x.1, x.2.1, h1, h2, ?_⟩
  rcases h3 with h3 | h3
  · exact .inl h3
  · exact .inr ⟨_, _, h3, cells_ro i hi⟩
theorem Imp.roPart {a : Option Addr} {n cap sz : Nat} {l : List Value} {lo hi : Nat} (h1 : lo ≤ hi) (h2 : hi ≤ n) :
    Imp (ro w0 (.slice a n cap) sz n l :: L) (ro w0 (.slice (if cap = lo then a else a.map (·.add (lo * sz))) (hi - lo) (cap - lo)) sz (hi - lo) ((l.drop (lo * sz)).take ((hi - lo) * sz)) :: L) := by
  conv => lhs; unfold Gd.ro
  refine Imp.exE fun x => Imp.starE ?_
  show Imp (pureH _ :: Gd.roC _ _ _ _ :: L) _
  refine Imp.pureE fun ⟨e1, e2, e4, e3⟩ => ?_
  obtain ⟨xa, xc, b, o⟩ := x
  simp only [Value.slice.injEq] at e1
  obtain ⟨rfl, -, rfl⟩ := e1
  dsimp only at e3 e4 ⊢
  have hlen : ((l.drop (lo * sz)).take ((hi - lo) * sz)).length = (hi - lo) * sz := by
    rw [List.length_take, List.length_drop, e2]
    have : hi * sz ≤ n * sz := Nat.mul_le_mul_right _ h2
    rw [Nat.sub_mul]; omega
  refine Imp.exI (if cap = lo then a else a.map (·.add (lo * sz)), cap - lo, b, o + lo * sz) (Imp.starI (Imp.pureI ⟨rfl, hlen, (by show hi - lo ≤ cap - lo; omega), ?_⟩ ?_))
  · by_cases hc : cap = lo
    · exact .inl (List.eq_nil_of_length_eq_zero (by rw [hlen, show hi - lo = 0 by omega, Nat.zero_mul]))
    · rcases e3 with rfl | e3
      · exact .inl (by simp)
      · refine .inr ?_
        rw [if_neg hc, e3]
        rw [Option.map_some, add_none]
  · refine Imp.head fun r hr => ?_
    have key : ∀ j u, ((l.drop (lo * sz)).take ((hi - lo) * sz))[j]? = some u → l[lo * sz + j]? = some u := fun j u hj => by
      rw [List.getElem?_take] at hj
      split at hj
      · rwa [List.getElem?_drop] at hj
      · cases hj
    rcases hr with h | ⟨T, cs, g1, g2⟩
    · exact .inl fun j u hj => by rw [Nat.add_assoc]; exact h _ _ (key j u hj)
    · exact .inr ⟨T, cs, g1, fun j u hj => by rw [Nat.add_assoc]; exact g2 _ _ (key j u hj)⟩
theorem Ent.ro1 {v : Value} {sz n : Nat} {l : List Value} (h : v.oneCell' = true → Ent w0 (Gd.ro w0 v sz n l :: L) X) : Ent w0 (Gd.ro w0 v sz n l :: L) X := by
  refine Ent.ro fun a cap R hv _ _ => ?_
  refine Ent.imp Imp.drop1 ?_
  exact h (by rw [hv]; rfl)
theorem Ent.vecOne {v : Value} {e : TypeId} {sz n : Nat} {l : List Value} (h : v.oneCell' = true → Ent w0 (Gd.vec v e sz l n :: L) X) : Ent w0 (Gd.vec v e sz l n :: L) X := by
  refine Ent.vec (fun a hv hl hn => ?_) fun b cap junk hv hl hc => ?_
  · subst hl; subst hn
    exact Ent.imp (Imp.vec0 hv (Imp.refl _)) (h (by rw [hv]; rfl))
  · subst hv
    exact Ent.imp (Imp.vec1 hl hc (Imp.refl _)) (h rfl)
theorem run_lenV {t ty e' e : TypeId} {k sz n : Nat} [ElS t e' k] {v : Value} {l : List Value} (i : Nat) (hi : L[i]? = some (vec v e sz l n)) : Run w0 L (Builtin.len_ #[t] ty #[v]) (.int .i64 n) := fun w hs => by
  have h := hs.perm (pick_perm hi)
  unfold vec at h
  obtain ⟨x, hx⟩ := h.exE
  cases x with
  | none =>
    obtain ⟨⟨a, hv⟩, _, hn⟩ := hx.pureE.1
    subst hv; subst hn
    exact run_len (w0 := w0) (L := L) w hs
  | some x =>
    obtain ⟨b, cap, junk⟩ := x
    have h2 : Sat w0 (pt b e (l ++ junk) :: pureH (v = .slice (some ⟨b, 0, none⟩) n cap ∧ l.length = n * sz ∧ (l ++ junk).length = cap * sz) :: L.eraseIdx i) w := hx.starE
    have hv := h2.tail.pureE.1.1
    subst hv
    exact run_len (w0 := w0) (L := L) w hs
theorem run_lenR {t ty e' : TypeId} {k sz n : Nat} [ElS t e' k] {v : Value} {l : List Value} (i : Nat) (hi : L[i]? = some (ro w0 v sz n l)) : Run w0 L (Builtin.len_ #[t] ty #[v]) (.int .i64 n) := fun w hs => by
  have h := hs.perm (pick_perm hi)
  unfold ro at h
  obtain ⟨x, hx⟩ := h.exE
  have h2 : Sat w0 (pureH (v = .slice x.1 n x.2.1 ∧ l.length = n * sz ∧ n ≤ x.2.1 ∧ (l = [] ∨ x.1 = some ⟨x.2.2.1, x.2.2.2, none⟩)) :: roC w0 x.2.2.1 x.2.2.2 l :: L.eraseIdx i) w := hx.starE
  have hv := h2.pureE.1.1
  subst hv
  exact run_len (w0 := w0) (L := L) w hs
theorem cells_immP {b : Nat} {T : TypeId} {vs rest : List Value} (i : Nat) (hi : L[i]? = some (ptI b T (vs ++ rest))) : Cells w0 L b 0 vs := fun j v hj => by
  rw [Nat.zero_add]
  exact cell_imm i hi (by rw [List.getElem?_append_left (List.getElem?_eq_some_iff.1 hj).1]; exact hj)
theorem cells_ownP {b : Nat} {T : TypeId} {vs rest : List Value} (i : Nat) (hi : L[i]? = some (pt b T (vs ++ rest))) : Cells w0 L b 0 vs := fun j v hj => by
  rw [Nat.zero_add]
  exact cell_own i hi (by rw [List.getElem?_append_left (List.getElem?_eq_some_iff.1 hj).1]; exact hj)
theorem run_buildA {t e : TypeId} {n sz : Nat} [ElA t n e sz] {zs : List Value} [Zer t zs] {parts : List (Nat × Value)} {cs : List Value} (h : fill (fun i => some (i * sz, sz)) zs.toArray parts = some cs.toArray) : Run w0 L (build t parts.toArray) (.agg cs.toArray) := fun w _ => by
  obtain ⟨hu, x, hx, hsz⟩ := elA_und (t := t) (l := n) (e := e) (n := sz)
  obtain ⟨z, hz, hzl⟩ := zer_run (t := t) (l := zs)
  have hzc : z.cells = zs.toArray := by rw [← hzl]
  unfold build
  simp only [Sem.run_bind, hz, Result.andThen_ok, run_underlying hu, run_sizeOf hx, hsz, hzc, h, Sem.run_pure]
theorem ent_copy {dt xt ty e : TypeId} {sz : Nat} [ElS dt e sz] [ElS xt e sz] {d x : Value} {old lx : List Value} {n : Nat} {K : Value → World → Prop}
    (hx : RdS w0 L x sz n lx) (hone : ∀ v ∈ lx, v.oneCell' = true)
    (h : Ent w0 (vec d e sz lx n :: L) (K (.int .i64 n))) : Ent w0 (vec d e sz old n :: L) (hV P (Builtin.copy_ #[dt, xt] ty #[d, x]) K) := by
  obtain ⟨hu, xe, hxe, hsz⟩ := elS_und (t := dt) (e := e) (n := sz)
  have hll : lx.length = n * sz := by obtain ⟨_, _, _, h2, _⟩ := hx; exact h2
  refine Ent.vec (fun a hs hl hn => ?_) (fun b cap junk hs hl hc => ?_)
  · subst hn
    have hlx0 : lx = [] := List.eq_nil_of_length_eq_zero (by simpa using hll)
    subst hlx0; subst hs
    intro w hw
    have hsrc : Src P sz xt x 0 [] w := hx.src (e := e) hone hw
    refine ⟨.int .i64 0, w, ?_, h w ((Imp.vec0 rfl (Imp.refl _)).sat hw)⟩
    unfold Builtin.copy_
    simp [run_underlying hu, run_sizeOf hxe, hsz, hsrc.len, hsrc.cells]
    cases a <;> simp [storeCells, goInt]
  · subst hs
    intro w hw
    have hm0 := hw.mem 0 rfl
    have hsrc : Src P sz xt x n lx w := hx.src (e := e) hone hw.tail
    obtain ⟨w', e1, e2, e3, e4, e5, e6⟩ := run_storeCells (b := b) (o := 0) (T := e) lx 0 w (old ++ junk) hm0.2 (by rw [List.length_append, hl, hll]; omega) hone
    refine ⟨.int .i64 n, w', ?_, h w' ?_⟩
    · unfold Builtin.copy_
      simp [run_underlying hu, run_sizeOf hxe, hsz, hsrc.len, hsrc.cells, e1, goInt]
    · have hput := hw.put 0 rfl e2 e3 e4 e5 e6
      have hset : setL (old ++ junk) (0 + 0) lx = lx ++ junk := by
        rw [Nat.add_zero, setL_take lx (old ++ junk) (by rw [List.length_append, hl, hll]; omega), hll, ← hl]; simp
      rw [hset] at hput
      refine (Imp.vec1 hll ?_ (Imp.refl _)).sat hput
      rw [List.length_append] at hc ⊢
      omega
def allH : Nat → (Nat → HP) → HP
  | 0, _ => pureH True
  | n + 1, g => star [g n, allH n g]
theorem Imp.allGet {g : Nat → HP} (hg : ∀ i, Pers (g i)) {i : Nat} : ∀ {n : Nat}, i < n → ∀ {L : List HP}, Imp (allH n g :: L) (g i :: allH n g :: L)
  | 0, h, _ => by omega
  | n + 1, h, L => by
    by_cases hi : i = n
    · subst hi
      refine Imp.starE ?_
      show Imp (g i :: allH i g :: L) _
      refine (Imp.dup1 (hg i)).trans (Imp.cons (Imp.starI ?_))
      exact Imp.refl _
    · refine Imp.starE ?_
      show Imp (g n :: allH n g :: L) _
      refine (Imp.cons (Imp.allGet hg (i := i) (by omega))).trans ?_
      refine Imp.trans (Imp.perm (List.Perm.swap _ _ _)) (Imp.cons (Imp.starI ?_))
      exact Imp.refl _
theorem Imp.allAll {g g' : Nat → HP} : ∀ {n : Nat}, (∀ i, i < n → ∀ r, g i r → g' i r) → ∀ {L : List HP}, Imp (allH n g :: L) (allH n g' :: L)
  | 0, _, _ => Imp.refl _
  | n + 1, h, L => by
    refine Imp.starE (Imp.starI ?_)
    show Imp (g n :: allH n g :: L) (g' n :: allH n g' :: L)
    exact (Imp.head (h n (by omega))).trans (Imp.cons (Imp.allAll fun i hi => h i (by omega)))
theorem Imp.allSet {g g' : Nat → HP} {i : Nat} : ∀ {n : Nat}, (∀ j, j ≠ i → g' j = g j) → ∀ {L : List HP}, Imp (g' i :: allH n g :: L) (allH n g' :: L)
  | 0, _, _ => Imp.drop1
  | n + 1, h, L => by
    by_cases hi : n = i
    · subst hi
      refine Imp.trans ?_ (Imp.starI (M := [g' n, allH n g']) (Imp.refl _))
      refine Imp.cons ?_
      refine Imp.starE ?_
      show Imp (g n :: allH n g :: L) (allH n g' :: L)
      refine Imp.trans Imp.drop1 (Imp.allAll fun j hj r hr => ?_)
      rw [h j (by omega)]; exact hr
    · have h1 : Imp (g' i :: allH (n + 1) g :: L) (g n :: g' i :: allH n g :: L) := by
        refine Imp.at 1 rfl (Imp.starE ?_)
        show Imp (g n :: allH n g :: g' i :: L) _
        exact Imp.cons (Imp.perm (List.Perm.swap _ _ _))
      refine h1.trans (Imp.trans ?_ (Imp.starI (M := [g' n, allH n g']) (Imp.refl _)))
      rw [h n hi]
      exact Imp.cons (Imp.allSet h)
theorem Imp.allOf {g : Nat → HP} : ∀ {n : Nat} {L L' : List HP}, (∀ i, i < n → ∀ {M : List HP}, Imp M (g i :: M)) → Imp L L' → Imp L (allH n g :: L')
  | 0, _, _, _, h => Imp.pureI trivial h
  | n + 1, L, L', hg, h => by
    refine Imp.starI ?_
    show Imp L (g n :: allH n g :: L')
    exact Imp.trans (Imp.allOf (fun i hi => hg i (by omega)) h) (hg n (by omega))
def by8 (l : List UInt8) : List Value := l.map fun x => .int .u8 (x.toNat : Nat)
theorem by8_len (l : List UInt8) : (by8 l).length = l.length := by simp [by8]
theorem by8_one (l : List UInt8) : ∀ v ∈ by8 l, v.oneCell' = true := by
  intro v hv
  obtain ⟨x, _, rfl⟩ := List.mem_map.1 hv
  rfl
theorem by8_get {l : List UInt8} {i : Nat} {x : UInt8} (h : l[i]? = some x) : (by8 l)[i]? = some (.int .u8 (x.toNat : Nat)) := by simp [by8, h]
theorem by8_app (a b : List UInt8) : by8 (a ++ b) = by8 a ++ by8 b := by simp [by8]
theorem by8_part (l : List UInt8) (x y : Nat) : ((by8 l).drop x).take y = by8 ((l.drop x).take y) := by simp [by8, List.map_take, List.map_drop]
theorem by8_zero (n : Nat) : (List.replicate n [Value.int .u8 0]).flatten = by8 (List.replicate n 0) := by
  induction n with
  | zero => rfl
  | succ n ih => rw [List.replicate_succ, List.flatten_cons, ih, List.replicate_succ]; rfl
abbrev roB (w0 : World) (v : Value) (l : List UInt8) : HP := ro w0 v 1 l.length (by8 l)
abbrev vecB (v : Value) (e : TypeId) (l : List UInt8) : HP := vec v e 1 (by8 l) l.length
theorem RdS.cell8 {a : Option Addr} {n cap : Nat} {l : List UInt8} (h : RdS w0 L (.slice a n cap) 1 n (by8 l)) {i : Nat} {x : UInt8} (hx : l[i]? = some x) :
    ∃ b o, a = some ⟨b, o, none⟩ ∧ Cell w0 L ⟨b, o + i, none⟩ (.int .u8 (x.toNat : Nat)) := by
  obtain ⟨a', c', e1, e2, e3⟩ := h
  cases e1
  rcases e3 with e3 | ⟨b, o, rfl, hc⟩
  · have := congrArg List.length e3
    rw [by8_len] at this
    have := (List.getElem?_eq_some_iff.1 hx).1
    simp_all
  · exact ⟨b, o, rfl, hc i _ (by8_get hx)⟩
end
end Go.Gd
set_option maxRecDepth 100000
namespace Go.Gd
open Go.Instr
def mthOf (P : Program) (t : TypeId) (name : String) : Option FuncId := match P.info? t with
  | some i => (match i.methods.find? (·.name == name) with
    | some m => (match m.path.toList, m.func with | [], some (f, true) => some f | _, _ => none)
    | none => none)
  | none => none
class Mth (t : TypeId) (name : String) (f : outParam FuncId) : Prop where h : mthOf P t name = some f
theorem method_run {t : TypeId} {name : String} {f : FuncId} [hM : Mth t name f] [hp : PtrT t] (n : Nat) (a : Addr) (w : World) : (method (n + 1) t (.pointer (some a)) name).run P w = .ok (f, .pointer (some a)) w := by
  have h := hM.h
  have hq := hp.h
  unfold mthOf at h
  unfold ptrT at hq
  cases hi : P.info? t with
  | none => rw [hi] at h; cases h
  | some i =>
    rw [hi] at h
    dsimp only at h
    cases hf : i.methods.find? (·.name == name) with
    | none => rw [hf] at h; cases h
    | some m =>
      rw [hf] at h
      dsimp only at h
      cases hu : P.underlying t with
      | none => rw [hu] at hq; cases hq
      | some d =>
        rw [hu] at hq
        cases d <;> simp only [Bool.false_eq_true] at hq
        split at h
        · rename_i hpath hfunc
          simp only [Option.some.injEq] at h
          subst h
          unfold method
          simp only [Sem.run_bind, run_typeInfo hi, Result.andThen_ok, hf, hpath, follow, Sem.run_pure, hfunc]
          unfold receiverAt
          simp only [Sem.run_bind, run_underlying hu, Result.andThen_ok, Place.get, Sem.run_pure]
        · cases h
theorem hI_eq {t : TypeId} {name : String} {f : FuncId} [Mth t name f] [PtrT t] {a : Addr} {args : Array Value} {K : Value → World → Prop} {w : World} (h : hF P f (#[.pointer (some a)] ++ args) K w) : hI P (.iface t (.pointer (some a))) name args K w := by
  unfold hI
  unfold hF hX at *
  have e : (callMethod (.iface t (.pointer (some a))) name args).run P w = (callFunc f (#[.pointer (some a)] ++ args)).run P w := by
    unfold callMethod
    have hd : ∃ n, P.types.size + Made.depth = n + 1 := ⟨P.types.size + (Made.depth - 1), by have : 1 ≤ Made.depth := by decide
                                                                                             omega⟩
    obtain ⟨n, hn⟩ := hd
    simp only [Sem.run_bind, run_program, Result.andThen_ok, hn]
    rw [method_run]
    rfl
  rw [e]; exact h
section
variable {w0 : World} {L : List HP}
theorem ent_inv {ι : Type} {t : TypeId} {name : String} {f : FuncId} [Mth t name f] [PtrT t] {a : Addr} {args : Array Value} {xs : List Value} (ha : (#[Value.pointer (some a)] ++ args) = xs.toArray) {Pre F : List HP} {val : ι → Value} {post : ι → List HP} {K : Value → World → Prop}
    (hS : Spec w0 f xs Pre val post) (hImp : Imp L (Pre ++ F)) (h : ∀ i, Ent w0 (post i ++ F) (K (val i))) : Ent w0 L (hI P (.iface t (.pointer (some a))) name args K) := by
  intro w hs
  refine hI_eq ?_
  rw [ha]
  exact ent_call hS hImp h w hs
end
instance : Mth 210 "Use" 268 := ⟨by unfold P; kernel_rfl⟩
instance : Mth 210 "Add" 263 := ⟨by unfold P; kernel_rfl⟩
instance : Mth 210 "Remove" 267 := ⟨by unfold P; kernel_rfl⟩
instance : Mth 210 "Has" 265 := ⟨by unfold P; kernel_rfl⟩
instance : Mth 210 "All" 264 := ⟨by unfold P; kernel_rfl⟩
instance : Mth 213 "Use" 286 := ⟨by unfold P; kernel_rfl⟩
instance : Mth 213 "Add" 281 := ⟨by unfold P; kernel_rfl⟩
instance : Mth 213 "Remove" 285 := ⟨by unfold P; kernel_rfl⟩
instance : Mth 213 "Has" 283 := ⟨by unfold P; kernel_rfl⟩
instance : Mth 213 "All" 282 := ⟨by unfold P; kernel_rfl⟩
instance : Mth 218 "Use" 301 := ⟨by unfold P; kernel_rfl⟩
instance : Mth 218 "Add" 296 := ⟨by unfold P; kernel_rfl⟩
instance : Mth 218 "Remove" 300 := ⟨by unfold P; kernel_rfl⟩
instance : Mth 218 "Has" 298 := ⟨by unfold P; kernel_rfl⟩
instance : Mth 218 "All" 297 := ⟨by unfold P; kernel_rfl⟩
end Go.Gd
