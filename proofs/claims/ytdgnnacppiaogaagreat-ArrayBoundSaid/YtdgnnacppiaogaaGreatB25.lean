/- The contracts of package sector. Conditions: those in the theorems. -/
import Derived.Test.YtdgnnacppiaogaaGreatB8
import Derived.Test.YtdgnnacppiaogaaGreatB23
import Derived.Test.YtdgnnacppiaogaaGreatB14
import Derived.Test.YtdgnnacppiaogaaGreatB24
import Derived.Test.YtdgnnacppiaogaaGreatB16
set_option linter.unusedVariables false
set_option linter.unusedSimpArgs false
namespace Go.Gd
open Go.Instr
attribute [local irreducible] loadAt storeAt fieldAt indexAt alloc box build buildSlice hNil eqG binOp Op.unary extract makeSlice makeInterface makeFunc convert hV mV pV hU hF hFV hIf hGuard hPick hJ hDraw hLoop ro Instr.index
structure Dk where
  l : Nat → List UInt8
  fuse : Int
  down : Bool
def sv (n : Nat) (f : Nat → Value) : List Value := (List.range n).map f
theorem sv_len (n : Nat) (f : Nat → Value) : (sv n f).length = n := by simp [sv]
theorem sv_get {n : Nat} {f : Nat → Value} {r : List Value} {i : Nat} (h : i < n) : (sv n f ++ r)[i]? = some (f i) := by
  rw [List.getElem?_append_left (by rw [sv_len]; exact h)]; simp [sv, h]
theorem sv_set {n : Nat} {f : Nat → Value} {r : List Value} {i : Nat} (h : i < n) (x : Value) : (sv n f ++ r).set i x = sv n (upF f i x) ++ r := by
  rw [List.set_append_left _ _ (by rw [sv_len]; exact h)]
  congr 1
  apply List.ext_getElem?
  intro j
  by_cases hj : j < n
  · rw [List.getElem?_set]
    by_cases hij : i = j
    · subst hij; simp [sv, hj]
    · rw [if_neg hij]; simp [sv, hj, upF_ne _ _ (Ne.symm hij)]
  · rw [List.getElem?_eq_none (by rw [List.length_set, sv_len]; omega), List.getElem?_eq_none (by rw [sv_len]; omega)]
theorem rep_sv (n : Nat) (x : Value) : (List.replicate n [x]).flatten = sv n (fun _ => x) := by
  induction n with
  | zero => rfl
  | succ n ih => rw [List.replicate_succ', List.flatten_append, ih]; simp [sv, List.range_succ]
def dkH (w0 : World) (d n : Nat) (D : Dk) : HP := exH fun (x : Value × (Nat → Value)) => star [pt d 94 [x.1, .int .i64 D.fuse, .bool D.down], vec x.1 35 1 (sv n x.2) n, allH n (fun i => roB w0 (x.2 i) (D.l i))]
def Dk.write (D : Dk) (a : Nat) (b : List UInt8) : Int × Dk :=
  if D.down then (8, D) else if D.fuse = 0 then (8, { D with down := true }) else (0, { D with fuse := max (D.fuse - 1) (-1), l := upF D.l a b })
section
variable {w0 : World}
theorem Ent.disk {d n : Nat} {D : Dk} {F : List HP} {X : World → Prop} (hn : 0 < n)
    (h : ∀ (vs : Nat → Value) (db cap : Nat) (junk : List Value), (sv n vs ++ junk).length = cap * 1 → Ent w0 (pt d 94 [.slice (some ⟨db, 0, none⟩) n cap, .int .i64 D.fuse, .bool D.down] :: pt db 35 (sv n vs ++ junk) :: allH n (fun i => roB w0 (vs i) (D.l i)) :: F) X) :
    Ent w0 (dkH w0 d n D :: F) X := by
  unfold dkH
  refine Ent.ex fun x => Ent.star ?_
  refine Ent.at 1 rfl (Ent.vec (fun a hv hl hn0 => by omega) fun b cap junk hv hl hc => ?_)
  rw [hv]
  exact Ent.imp (Imp.perm (List.Perm.swap _ _ _)) (h x.2 b cap junk hc)
theorem Imp.disk {d n : Nat} {D : Dk} {F F' : List HP} {vs : Nat → Value} {db cap : Nat} {junk : List Value} (hc : (sv n vs ++ junk).length = cap * 1)
    (h : Imp F (pt d 94 [.slice (some ⟨db, 0, none⟩) n cap, .int .i64 D.fuse, .bool D.down] :: pt db 35 (sv n vs ++ junk) :: allH n (fun i => roB w0 (vs i) (D.l i)) :: F')) : Imp F (dkH w0 d n D :: F') := by
  unfold dkH
  refine Imp.exI (.slice (some ⟨db, 0, none⟩) n cap, vs) (Imp.starI ?_)
  refine Imp.trans h (Imp.cons ?_)
  exact Imp.vec1 (by rw [sv_len, Nat.mul_one]) hc (Imp.refl _)
attribute [local irreducible] dkH
theorem clone_bytes (v : Value) (l : List UInt8) (hl : l.length ≤ 1099511627776) : Spec w0 99 [v] [roB w0 v l] (fun v : Value => v) (fun v => [vecB v 5 l]) := by
  refine spec_go (fun R w => H99) fun F => ?_
  show Ent w0 (roB w0 v l :: F) _
  unfold F99
  refine Ent.ro fun a cap R hv hln hrd => ?_
  subst hv
  refine ent_clone (K := fun v w' => ∃ i : Value, v = i ∧ Sat w0 ([vecB i 5 l] ++ F) w') (t := 35) (e := 5) (sz := 1) (zs := [.int .u8 0]) rfl ?_ (by8_one l) ?_ ?_ ?_ fun v => ?_
  · exact fun M => hrd _ M.length (by simp)
  · omega
  · omega
  · omega
  exact ent_ret v rfl (by (repeat refine Imp.pick 0 rfl ?_); exact Imp.trans Imp.drop1 (Imp.drop1))
theorem sec_there (d n : Nat) (D : Dk) (a : Int) (hn : 0 < n) : Spec w0 195 [P0 d, .int .i64 a] [dkH w0 d n D] (fun _ : Unit => .bool (decide (0 ≤ a ∧ a < n))) (fun _ => [dkH w0 d n D]) := by
  refine spec_go (fun R w => H195) fun F => ?_
  show Ent w0 (dkH w0 d n D :: F) _
  unfold F195
  refine ent_qb (run_ge _ _) (fun h1 => ?_) (fun h1 => ?_)
  · refine Ent.disk hn fun vs db cap junk hc => ?_
    (repeat (first | refine ent_q (run_nil _) ?_ | refine ent_q (run_fieldZ _ _) ?_ | refine ent_gT ?_ | refine ent_q (run_len) ?_ | refine ent_q (run_load (cell_own 0 rfl rfl)) ?_))
    refine ent_qb (run_lt _ _) (fun h2 => ?_) (fun h2 => ?_)
    · (repeat refine ent_pT ?_)
      exact ent_ret () (by rw [decide_eq_true ⟨h1, h2⟩]) (Imp.disk hc (by (repeat refine Imp.pick 0 rfl ?_); exact Imp.refl _))
    · (repeat refine ent_pT ?_)
      exact ent_ret () (by rw [decide_eq_false (fun h => h2 h.2)]) (Imp.disk hc (by (repeat refine Imp.pick 0 rfl ?_); exact Imp.refl _))
  · (repeat (first | refine ent_gF ?_ | refine ent_pF ?_))
    exact ent_ret () (by rw [decide_eq_false (fun h => h1 h.1)]) (Imp.refl _)
theorem sec_read (d n : Nat) (D : Dk) (a : Nat) (ha : a < n) (hl : (D.l a).length ≤ 1099511627776) : Spec w0 187 [P0 d, .int .i64 (a : Nat)] [dkH w0 d n D] (fun v : Value => .tuple #[v, .int .i64 0]) (fun v => [vecB v 5 (D.l a), dkH w0 d n D]) := by
  refine spec_go (fun R w => H187) fun F => ?_
  show Ent w0 (dkH w0 d n D :: F) _
  unfold F187
  (repeat (first | refine ent_ifF ?_ | refine ent_q (run_eqpS _) ?_))
  refine ent_call (sec_there d n D a (by omega)) (Imp.refl _) fun _ => ?_
  rw [decide_eq_true (by omega)]
  (repeat (first | refine ent_q (run_nil _) ?_ | refine ent_q (run_fieldZ _ _) ?_ | refine ent_ifF ?_ | refine ent_q (run_notT) ?_))
  refine Ent.disk (by omega) fun vs db cap junk hc => ?_
  (repeat refine ent_q (run_load (cell_own 0 rfl rfl)) ?_)
  refine ent_q (run_indexS0 a rfl ha) ?_
  rw [Nat.mul_one]
  refine ent_q (run_load (cell_own 1 rfl (sv_get ha))) ?_
  refine Ent.at 2 rfl (Ent.imp (Imp.allGet (fun i => Pers.ro _ _ _ _ _) ha) ?_)
  refine ent_call (clone_bytes (vs a) (D.l a) hl) (Imp.refl _) fun v => ?_
  exact ent_ret v rfl (Imp.cons (Imp.disk hc (by (repeat (first | refine Imp.pick 0 rfl ?_ | refine Imp.pick 1 rfl ?_)); exact Imp.refl _)))
theorem sec_write (d n : Nat) (D : Dk) (a : Nat) (bv : Value) (l : List UInt8) (ha : a < n) (hl : l.length ≤ 64) (hf : -1 ≤ D.fuse ∧ D.fuse ≤ 9223372036854775807) :
    Spec w0 159 [P0 d, .int .i64 (a : Nat), bv] [dkH w0 d n D, roB w0 bv l] (fun _ : Unit => .int .i64 (D.write a l).1) (fun _ => [dkH w0 d n (D.write a l).2]) := by
  refine spec_go (fun R w => H159) fun F => ?_
  show Ent w0 (dkH w0 d n D :: roB w0 bv l :: F) _
  unfold F159
  (repeat (first | refine ent_q (run_nil _) ?_ | refine ent_q (run_field0 _) ?_ | refine ent_ifF ?_ | refine ent_q (run_eqpS _) ?_))
  refine Ent.disk (by omega) fun vs db cap junk hc => ?_
  (repeat refine ent_q (run_load (cell_own 0 rfl rfl)) ?_)
  cases hd : D.down with
  | true =>
    (repeat refine ent_ifT ?_)
    refine ent_ret () (by unfold Dk.write; rw [hd]; rfl) ?_
    unfold Dk.write; rw [if_pos hd]
    exact Imp.disk hc (by rw [hd]; exact (by (repeat refine Imp.pick 0 rfl ?_); exact Imp.drop1))
  | false =>
    (repeat refine ent_ifF ?_)
    have hback : Imp (pt d 94 [.slice (some ⟨db, 0, none⟩) n cap, .int .i64 D.fuse, .bool false] :: pt db 35 (sv n vs ++ junk) :: allH n (fun i => roB w0 (vs i) (D.l i)) :: roB w0 bv l :: F) (dkH w0 d n D :: roB w0 bv l :: F) := Imp.disk hc (by rw [hd]; exact Imp.refl _)
    refine Ent.imp hback ?_
    refine ent_call (sec_there d n D a (by omega)) (Imp.refl _) fun _ => ?_
    rw [decide_eq_true (by omega)]
    (repeat (first | refine ent_ifF ?_ | refine ent_q (run_notT) ?_))
    refine Ent.at 1 rfl (Ent.ro fun ba bcap R hv hln hrd => ?_)
    subst hv
    (repeat refine ent_q (run_len) ?_)
    refine ent_q ((run_gt _ _).F (by omega)) ?_
    (repeat (first | refine ent_q (run_nil _) ?_ | refine ent_q (run_field0 _) ?_ | refine ent_ifF ?_))
    refine Ent.at 2 rfl (Ent.disk (by omega) fun vs db cap junk hc => ?_)
    (repeat refine ent_q (run_load (cell_own 0 rfl rfl)) ?_)
    refine ent_qb (run_eq _ _) (fun hz => ?_) (fun hz => ?_)
    · (repeat (first | refine ent_q (run_nil _) ?_ | refine ent_q (run_field0 _) ?_ | refine ent_ifT ?_))
      refine ent_st0 rfl (by simp) rfl ?_
      have he : D.write a l = (8, { D with down := true }) := by unfold Dk.write; rw [hd, if_neg (by simp), if_pos hz]
      rw [he]
      exact ent_ret () rfl (Imp.disk (D := { D with down := true }) hc (by (repeat refine Imp.pick 0 rfl ?_); exact Imp.trans Imp.drop1 (Imp.drop1)))
    · have he : D.write a l = (0, { D with fuse := max (D.fuse - 1) (-1), l := upF D.l a l }) := by unfold Dk.write; rw [hd, if_neg (by simp), if_neg hz]
      rw [he]
      (repeat (first | refine ent_q (run_nil _) ?_ | refine ent_q (run_field0 _) ?_ | refine ent_ifF ?_ | refine ent_q (run_load (cell_own 0 rfl rfl)) ?_))
      refine ent_q (run_sub64 (by omega)) ?_
      refine ent_q (run_max _ _) ?_
      (repeat (first | refine ent_q (run_nil _) ?_ | refine ent_q (run_field0 _) ?_))
      refine ent_st0 rfl (by simp) rfl ?_
      (repeat refine ent_q (run_len) ?_)
      refine ent_make (zs := [.int .u8 0]) rfl l.length l.length rfl rfl (Nat.le_refl _) (by omega) (by omega) fun v => ?_
      refine ent_copy (hrd _ 3 rfl) (by8_one l) ?_
      refine Ent.vecRo (Ent.ro1 fun hv => ?_)
      refine Ent.to1 ?_
      (repeat (first | refine ent_q (run_nil _) ?_ | refine ent_q (run_fieldZ _ _) ?_ | refine ent_q (run_load (cell_own 0 rfl rfl)) ?_))
      refine ent_q (run_indexS0 a rfl ha) ?_
      rw [Nat.mul_one]
      refine Ent.to2 ?_
      refine ent_st0 hv (by rw [List.length_append, sv_len]; omega) (sv_set ha _) ?_
      refine ent_ret () rfl ?_
      refine Imp.disk (D := { D with fuse := max (D.fuse - 1) (-1), l := upF D.l a l }) (vs := upF vs a v) (db := db) (junk := junk) (cap := cap) (by rw [List.length_append, sv_len] at hc ⊢; exact hc) ?_
      refine Imp.trans (L2 := pt d 94 [.slice (some ⟨db, 0, none⟩) n cap, .int .i64 (max (D.fuse - 1) (-1)), .bool D.down] :: pt db 35 (sv n (upF vs a v) ++ junk) :: roB w0 v l :: allH n (fun i => roB w0 (vs i) (D.l i)) :: F) (by (repeat (first | refine Imp.pick 0 rfl ?_ | refine Imp.pick 1 rfl ?_)); exact Imp.trans Imp.drop1 (Imp.drop1)) ?_
      refine Imp.cons (Imp.cons ?_)
      have := Imp.allSet (g := fun i => roB w0 (vs i) (D.l i)) (g' := fun i => roB w0 (upF vs a v i) (upF D.l a l i)) (i := a) (n := n) (fun j hj => by simp only [upF_ne _ _ hj]) (L := F)
      simp only [upF_same] at this
      exact this
theorem sec_new : Spec w0 12 [.int .i64 64] [] (fun d : Nat => P0 d) (fun d => [dkH w0 d 64 { l := fun _ => [], fuse := -1, down := false }]) := by
  refine spec_go (fun R w => H12) fun F => ?_
  show Ent w0 F _
  unfold F12
  refine ent_q (run_min _ _) ?_
  refine ent_q (run_max _ _) ?_
  refine ent_make (zs := [.slice none 0 0]) rfl 64 64 rfl rfl (Nat.le_refl _) (by omega) (by omega) fun v => ?_
  rw [rep_sv]
  refine Ent.vecOne fun hv => ?_
  refine ent_q (bd94_0_1 hv rfl) ?_
  refine ent_box fun d => ?_
  refine ent_ret d rfl ?_
  unfold dkH
  refine Imp.exI (v, fun _ => .slice none 0 0) (Imp.starI ?_)
  refine Imp.cons ?_
  refine Imp.cons ?_
  exact Imp.allOf (fun i _ M => Imp.ro0 rfl (Imp.refl _)) (Imp.refl _)
theorem sec_len (d n : Nat) (D : Dk) (hn : 0 < n) : Spec w0 94 [P0 d] [dkH w0 d n D] (fun _ : Unit => .int .i64 n) (fun _ => [dkH w0 d n D]) := by
  refine spec_go (fun R w => H94) fun F => ?_
  show Ent w0 (dkH w0 d n D :: F) _
  unfold F94
  refine Ent.disk hn fun vs db cap junk hc => ?_
  (repeat (first | refine ent_q (run_nil _) ?_ | refine ent_q (run_fieldZ _ _) ?_ | refine ent_ifF ?_ | refine ent_q (run_eqpS _) ?_ | refine ent_q (run_len) ?_ | refine ent_q (run_load (cell_own 0 rfl rfl)) ?_))
  exact ent_ret () rfl (Imp.disk hc (by (repeat refine Imp.pick 0 rfl ?_); exact Imp.refl _))
end
end Go.Gd
