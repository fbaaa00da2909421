/- The contracts of package array, fourth part: writes. Conditions: those in the theorems. The contracts of package array, fifth part: New, Hear, what is asked. Conditions: those in the theorems. The contracts of package array, sixth part: New. Conditions: those in the theorems. The contracts of the references small comparisons. Conditions: those in the theorems. -/
import Derived.Test.YtdgnnacppiaogaaGreatB36
set_option linter.unusedVariables false
set_option linter.unusedSimpArgs false
namespace Go.Gd
open Go.Instr
attribute [local irreducible] loadAt storeAt fieldAt indexAt alloc box build buildSlice hNil eqG binOp Op.unary extract makeSlice makeInterface makeFunc convert hV mV pV hU hF hFV hI hIf hGuard hPick hJ hDraw hLoop ro Instr.index planI spaceH ptH mqH lruH lookup mapUpdate typeAssert mpI ordH stI dkH caH outH arH
def msgW (m : Msg) : Wr := ⟨m.client, m.slot, m.boot, m.op, m.block, m.data⟩
noncomputable def Ar.write (c : Cfg) (A : Ar) (m : Msg) : Ar × List Msg :=
  let r := (shOf c).write (msgW m) A.D
  if r.2.1 = 0 then
    (if ((shOf c).read r.2.2 m.block).2.1 ≠ ((shOf c).read A.D m.block).2.1 then ((Ar.keep c { A with D := r.2.2 } m.block m.level m.data).1, (Ar.keep c { A with D := r.2.2 } m.block m.level m.data).2 ++ [mDone m r.1 true])
     else ({ A with D := r.2.2 }, [mDone m r.1 false]))
  else if r.2.1 = 8 then ({ A with D := r.2.2, down := true }, [])
  else if r.2.1 = 12 then ({ A with D := r.2.2 }, [])
  else ({ A with D := r.2.2 }, [mDone m r.2.1 false])
section
variable {w0 : World} {L : List HP} {x : ArN} {c : Cfg} {A : Ar} {n k : Nat}
set_option maxHeartbeats 2000000 in
theorem ar_write (hok : ArOk c n k A) (m : Msg) (mv : Value) (hd : m.data.length ≤ 64) :
    Spec w0 51 [P0 x.ar, .agg (msgL m mv).toArray] [arH w0 x c A, dkH w0 x.d n A.D, roB w0 mv m.data] (fun v : Value => v) (fun v => [outH w0 v (A.write c m).2, arH w0 x c (A.write c m).1, dkH w0 x.d n (A.write c m).1.D]) := by
  have hsh := shOf_ok hok.S.right
  refine spec_go (fun R w => H51) fun F => ?_
  show Ent w0 (arH w0 x c A :: dkH w0 x.d n A.D :: roB w0 mv m.data :: F) _
  generalize hW : A.write c m = W
  unfold Ar.write at hW
  dsimp only at hW
  have hDw := Shp.write_ok hsh (msgW m) hok.D
  unfold F51
  refine Ent.at 2 rfl (Ent.ro1 fun hmv => ?_)
  refine ent_box fun mb => ?_
  rw [agg_cells, List.toList_toArray]
  refine Ent.at 2 rfl (Ent.ar ?_)
  refine Ent.at 1 rfl (Ent.dup (Pers.st _ _ _) ?_)
  refine Ent.imp (L' := pt x.ar 105 (arL x c A) :: pt mb 37 (msgL m mv) :: stI x.s x.d (shOf c) :: stI x.s x.d (shOf c) :: caH w0 x.k x.a x.p x.mb c 3 A.S :: dkH w0 x.d n A.D :: roB w0 mv m.data :: F) (by (repeat (first | refine Imp.pick 0 rfl ?_ | refine Imp.pick 1 rfl ?_ | refine Imp.pick 2 rfl ?_ | refine Imp.pick 3 rfl ?_)); exact Imp.refl _) ?_
  refine ent_draw [pt x.ar 105 (arL x c A), pt mb 37 (msgL m mv)] (by (repeat refine Imp.pick 0 rfl ?_); exact Imp.nil) ?_
  (repeat (first | refine ent_p (fun _ => run_nil _) ?_ | refine ent_p (fun _ => run_field0 _) ?_))
  refine ent_m (run_load (v := P0 x.s) (cell_own 0 rfl rfl)) ?_
  (repeat refine ent_p (fun _ => run_field0 _) ?_)
  refine ent_m (run_load (v := .int .i64 m.block) (cell_own 1 rfl rfl)) ?_
  refine ent_call (st_read x.s x.d (shOf c) n A.D hsh m.block hok.need hok.D) (by (repeat (first | refine Imp.pick 2 rfl ?_ | refine Imp.pick 4 rfl ?_)); exact Imp.refl _) fun sv => ?_
  refine Ent.imp (L' := pt x.ar 105 (arL x c A) :: pt mb 37 (msgL m mv) :: stI x.s x.d (shOf c) :: stI x.s x.d (shOf c) :: caH w0 x.k x.a x.p x.mb c 3 A.S :: dkH w0 x.d n A.D :: roB w0 mv m.data :: F) (by (repeat (first | refine Imp.pick 1 rfl ?_ | refine Imp.pick 2 rfl ?_ | refine Imp.pick 3 rfl ?_)); exact Imp.drop1) ?_
  (repeat refine ent_p (fun _ => run_ex rfl) ?_)
  refine ent_draw [pt x.ar 105 (arL x c A), pt mb 37 (msgL m mv)] (by (repeat refine Imp.pick 0 rfl ?_); exact Imp.nil) ?_
  (repeat (first | refine ent_p (fun _ => run_nil _) ?_ | refine ent_p (fun _ => run_field0 _) ?_))
  refine ent_m (run_load (v := P0 x.s) (cell_own 0 rfl rfl)) ?_
  (repeat refine ent_p (fun _ => run_field0 _) ?_)
  refine ent_m (run_load (v := .int .i64 m.client) (cell_own 1 rfl rfl)) ?_
  (repeat refine ent_p (fun _ => run_field0 _) ?_)
  refine ent_m (run_load (v := .int .i64 m.slot) (cell_own 1 rfl rfl)) ?_
  (repeat refine ent_p (fun _ => run_field0 _) ?_)
  refine ent_m (run_load (v := .int .i64 m.boot) (cell_own 1 rfl rfl)) ?_
  (repeat refine ent_p (fun _ => run_field0 _) ?_)
  refine ent_m (run_load (v := .int .i64 m.op) (cell_own 1 rfl rfl)) ?_
  (repeat refine ent_p (fun _ => run_field0 _) ?_)
  refine ent_m (run_load (v := .int .i64 m.block) (cell_own 1 rfl rfl)) ?_
  (repeat refine ent_p (fun _ => run_field0 _) ?_)
  refine ent_m (run_load (v := mv) (cell_own 1 rfl rfl)) ?_
  refine ent_p (fun _ => bd161_0_1_2_3_4_5 rfl rfl rfl rfl rfl hmv) ?_
  refine Ent.at 6 rfl (Ent.roDup ?_)
  refine ent_call (st_write x.s x.d (shOf c) n A.D hsh (msgW m) mv hmv (by show m.data.length ≤ 1000; omega) hok.need hok.D) (by (repeat (first | refine Imp.pick 0 rfl ?_ | refine Imp.pick 4 rfl ?_ | refine Imp.pick 6 rfl ?_)); exact Imp.refl _) fun _ => ?_
  refine ent_and (by (repeat refine Imp.pick 2 rfl ?_); exact Imp.nil) ?_
  generalize (shOf c).write (msgW m) A.D = rw1 at *
  obtain ⟨code, e, D'⟩ := rw1
  dsimp only at hW hDw ⊢
  refine Ent.imp (L' := pt x.ar 105 (arL x c A) :: pt mb 37 (msgL m mv) :: stI x.s x.d (shOf c) :: caH w0 x.k x.a x.p x.mb c 3 A.S :: dkH w0 x.d n D' :: roB w0 mv m.data :: F) (by (repeat (first | refine Imp.pick 0 rfl ?_ | refine Imp.pick 2 rfl ?_)); exact Imp.refl _) ?_
  (repeat refine ent_p (fun _ => run_ex rfl) ?_)
  refine ent_draw [pt x.ar 105 (arL x c A), pt mb 37 (msgL m mv)] (by (repeat refine Imp.pick 0 rfl ?_); exact Imp.nil) ?_
  (repeat (first | refine ent_p (fun _ => run_nil _) ?_ | refine ent_p (fun _ => run_field0 _) ?_))
  refine ent_m (run_load (v := P0 x.s) (cell_own 0 rfl rfl)) ?_
  (repeat refine ent_p (fun _ => run_field0 _) ?_)
  refine ent_m (run_load (v := .int .i64 m.block) (cell_own 1 rfl rfl)) ?_
  refine Ent.at 2 rfl (Ent.dup (Pers.st _ _ _) ?_)
  refine ent_call (st_read x.s x.d (shOf c) n D' hsh m.block hok.need hDw) (by (repeat (first | refine Imp.pick 0 rfl ?_ | refine Imp.pick 4 rfl ?_)); exact Imp.refl _) fun sv2 => ?_
  generalize ((shOf c).read D' m.block).2.1 = behind at *
  generalize ((shOf c).read A.D m.block).2.1 = before at *
  refine Ent.imp (L' := pt mb 37 (msgL m mv) :: pt x.ar 105 (arL x c A) :: stI x.s x.d (shOf c) :: caH w0 x.k x.a x.p x.mb c 3 A.S :: dkH w0 x.d n D' :: roB w0 mv m.data :: F) (by (repeat (first | refine Imp.pick 1 rfl ?_ | refine Imp.pick 2 rfl ?_ | refine Imp.pick 3 rfl ?_ | refine Imp.pick 4 rfl ?_ | refine Imp.pick 5 rfl ?_)); exact Imp.trans Imp.drop1 (Imp.drop1)) ?_
  (repeat (first | refine ent_q (run_field0 _) ?_ | refine ent_p (fun _ => run_ex rfl) ?_))
  refine ent_q (run_load (v := .int .i64 m.client) (cell_own 0 rfl rfl)) ?_
  (repeat refine ent_q (run_field0 _) ?_)
  refine ent_q (run_load (v := .int .i64 m.slot) (cell_own 0 rfl rfl)) ?_
  (repeat refine ent_q (run_field0 _) ?_)
  refine ent_q (run_load (v := .int .i64 m.boot) (cell_own 0 rfl rfl)) ?_
  (repeat refine ent_q (run_field0 _) ?_)
  refine ent_q (run_load (v := .int .i64 m.op) (cell_own 0 rfl rfl)) ?_
  (repeat refine ent_q (run_field0 _) ?_)
  refine ent_q (run_load (v := .int .i64 m.block) (cell_own 0 rfl rfl)) ?_
  refine ent_q (bd37_0_1_2_3_4_5_8 rfl rfl rfl rfl rfl rfl rfl) ?_
  refine ent_alloc fun db => ?_
  refine ent_sa0 (vs := msgL (mDone m code false) (.slice none 0 0)) rfl (msgL_one rfl) (Nat.le_refl 11) (l' := msgL (mDone m code false) (.slice none 0 0)) rfl ?_
  have back : ∀ {B : Ar} {M : List HP}, B.S = A.S → arL x c B = arL x c A → Imp (pt x.ar 105 (arL x c A) :: stI x.s x.d (shOf c) :: caH w0 x.k x.a x.p x.mb c 3 A.S :: M) (arH w0 x c B :: M) := fun {B M} h1 h2 => Imp.ar (by rw [h1, h2]; exact Imp.refl _)
  by_cases he0 : e = 0
  · rw [if_pos he0] at hW
    refine ent_q ((run_eq _ _).T he0) ?_
    (repeat refine ent_ifT ?_)
    by_cases hv : behind = before
    · rw [if_neg (by simpa using hv)] at hW
      refine ent_q ((run_ne _ _).F (by omega)) ?_
      (repeat (first | refine ent_ifF ?_ | refine ent_j ?_))
      refine ent_q (run_loadA (vs := msgL (mDone m code false) (.slice none 0 0)) rfl (cells_all 0 rfl)) ?_
      refine Ent.imp (Imp.ro0 (a := none) (cap := 0) (sz := 1) (w0 := w0) rfl (Imp.out0 (w0 := w0) (v := .slice none 0 0) rfl (Imp.refl _))) (Ent.to1 ?_)
      refine ent_outApp (m := mDone m code false) (dv := .slice none 0 0) (l := []) (by simp) fun v => ?_
      rw [← hW]
      refine ent_ret v rfl (Imp.cons ?_)
      exact Imp.trans (L2 := pt x.ar 105 (arL x c A) :: stI x.s x.d (shOf c) :: caH w0 x.k x.a x.p x.mb c 3 A.S :: dkH w0 x.d n D' :: F) (by (repeat refine Imp.pick 2 rfl ?_); exact Imp.trans Imp.drop1 (Imp.trans Imp.drop1 (Imp.drop1))) (back rfl rfl)
    · rw [if_pos hv] at hW
      refine ent_q ((run_ne _ _).T (by omega)) ?_
      (repeat (first | refine ent_q (run_field0 _) ?_ | refine ent_ifT ?_ | refine ent_j ?_))
      refine ent_st0 rfl (by show 9 < 11; omega) (l' := msgL (mDone m code true) (.slice none 0 0)) rfl ?_
      (repeat refine ent_q (run_field0 _) ?_)
      refine ent_q (run_load (v := .int .i64 m.block) (cell_own 1 rfl rfl)) ?_
      (repeat refine ent_q (run_field0 _) ?_)
      refine ent_q (run_load (v := .int .i64 m.level) (cell_own 1 rfl rfl)) ?_
      (repeat refine ent_q (run_field0 _) ?_)
      refine ent_q (run_load (v := mv) (cell_own 1 rfl rfl)) ?_
      refine Ent.imp (L' := pt x.ar 105 (arL x c A) :: stI x.s x.d (shOf c) :: caH w0 x.k x.a x.p x.mb c 3 A.S :: pt db 37 (msgL (mDone m code true) (.slice none 0 0)) :: roB w0 mv m.data :: dkH w0 x.d n D' :: F) (by (repeat (first | refine Imp.pick 0 rfl ?_ | refine Imp.pick 1 rfl ?_ | refine Imp.pick 2 rfl ?_)); exact Imp.drop1) ?_
      refine Ent.imp (back (B := { A with D := D' }) rfl rfl) ?_
      refine ent_call (ar_keep (A := { A with D := D' }) hok.S m.block m.level mv m.data hd) (by (repeat (first | refine Imp.pick 0 rfl ?_ | refine Imp.pick 1 rfl ?_)); exact Imp.refl _) fun kv => ?_
      refine ent_q (run_loadA (vs := msgL (mDone m code true) (.slice none 0 0)) rfl (cells_all 2 rfl)) ?_
      refine Ent.imp (Imp.ro0 (a := none) (cap := 0) (sz := 1) (w0 := w0) rfl (Imp.refl _)) (Ent.to1 ?_)
      refine ent_outApp (m := mDone m code true) (dv := .slice none 0 0) (by have := out_len_keep c { A with D := D' } m.block m.level m.data; omega) fun v => ?_
      have hkD := (keep_reads c { A with D := D' } m.block m.level m.data).1
      rw [← hW]
      dsimp only
      rw [hkD]
      exact ent_ret v rfl (by (repeat (first | refine Imp.pick 0 rfl ?_ | refine Imp.pick 1 rfl ?_)); exact Imp.drop1)
  · rw [if_neg he0] at hW
    refine ent_q ((run_eq _ _).F he0) ?_
    (repeat refine ent_ifF ?_)
    by_cases he8 : e = 8
    · rw [if_pos he8] at hW
      refine ent_q ((run_eq _ _).T he8) ?_
      (repeat (first | refine ent_q (run_nil _) ?_ | refine ent_q (run_field0 _) ?_ | refine ent_ifT ?_))
      refine Ent.to2 (ent_st0 rfl (by show 19 < 22; omega) (l' := arL x c { A with D := D', down := true }) rfl ?_)
      rw [← hW]
      refine ent_ret (.slice none 0 0) rfl (Imp.out0 rfl ?_)
      exact Imp.ar (A := { A with D := D', down := true }) (by (repeat (first | refine Imp.pick 0 rfl ?_ | refine Imp.pick 2 rfl ?_)); exact Imp.trans Imp.drop1 (Imp.trans Imp.drop1 (Imp.drop1)))
    · rw [if_neg he8] at hW
      refine ent_q ((run_eq _ _).F he8) ?_
      (repeat refine ent_ifF ?_)
      by_cases he12 : e = 12
      · rw [if_pos he12] at hW
        refine ent_q ((run_eq _ _).T he12) ?_
        (repeat refine ent_ifT ?_)
        rw [← hW]
        refine ent_ret (.slice none 0 0) rfl (Imp.out0 rfl ?_)
        exact Imp.ar (A := { A with D := D' }) (by (repeat refine Imp.pick 2 rfl ?_); exact Imp.trans Imp.drop1 (Imp.trans Imp.drop1 (Imp.drop1)))
      · rw [if_neg he12] at hW
        refine ent_q ((run_eq _ _).F he12) ?_
        (repeat (first | refine ent_q (run_field0 _) ?_ | refine ent_ifF ?_))
        refine ent_st0 rfl (by show 8 < 11; omega) (l' := msgL (mDone m e false) (.slice none 0 0)) rfl ?_
        refine ent_q (run_loadA (vs := msgL (mDone m e false) (.slice none 0 0)) rfl (cells_all 0 rfl)) ?_
        refine Ent.imp (Imp.ro0 (a := none) (cap := 0) (sz := 1) (w0 := w0) rfl (Imp.refl _)) ?_
        refine ent_out1 (m := mDone m e false) (dv := .slice none 0 0) fun v => ?_
        rw [← hW]
        refine ent_ret v rfl (Imp.cons ?_)
        exact Imp.ar (A := { A with D := D' }) (by (repeat refine Imp.pick 2 rfl ?_); exact Imp.trans Imp.drop1 (Imp.trans Imp.drop1 (Imp.drop1)))
end
end Go.Gd
namespace Go.Gd
open Go.Instr
attribute [local irreducible] loadAt storeAt fieldAt indexAt alloc box build buildSlice hNil eqG binOp Op.unary extract makeSlice makeInterface makeFunc convert hV mV pV hU hF hFV hI hIf hGuard hPick hJ hDraw hLoop ro Instr.index planI spaceH ptH mqH lruH lookup mapUpdate typeAssert mpI ordH stI dkH caH outH arH
noncomputable def Ar.demote (c : Cfg) (A : Ar) (m : Msg) : Ar := if c.mode = 2 ∧ m.level = 3 then (A.put c m.block m.level m.data).1 else A
def Ar.drop (A : Ar) (m : Msg) : Ar := { A with S := (A.S.drop m.block).1 }
noncomputable def Ar.hear (c : Cfg) (A : Ar) (m : Msg) : Ar × List Msg :=
  if A.down = true ∨ m.right = false then (A, [])
  else if m.kind = 8 then A.read c m
  else if m.kind = 9 then A.write c m
  else if m.kind = 10 then (A.demote c m, [])
  else if m.kind = 11 then (A.drop m, [])
  else (A, [])
def Ar.new (c : Cfg) (D : Dk) (y : CaN) : Ar := ⟨Ca.new c 3 y, ((shOf c).open D).2, false, 0⟩
theorem read_D (c : Cfg) (A : Ar) (m : Msg) : (A.read c m).1.D = A.D := by
  unfold Ar.read
  split
  · split
    · exact (keep_reads _ _ _ _ _).1
    · rfl
  · split
    · rfl
    · exact (keep_reads _ _ _ _ _).1
theorem demote_D (c : Cfg) (A : Ar) (m : Msg) : (A.demote c m).D = A.D := by unfold Ar.demote; split <;> rfl
section
variable {w0 : World} {L : List HP} {x : ArN} {c : Cfg} {A : Ar} {n k : Nat}
theorem ar_demote (hS : CaOk c k A.S) (m : Msg) (mv : Value) (hd : m.data.length ≤ 64) :
    Spec w0 52 [P0 x.ar, .agg (msgL m mv).toArray] [arH w0 x c A, roB w0 mv m.data] (fun _ : Unit => .slice none 0 0) (fun _ => [arH w0 x c (A.demote c m)]) := by
  refine spec_go (fun R w => H52) fun F => ?_
  show Ent w0 (arH w0 x c A :: roB w0 mv m.data :: F) _
  unfold F52 Ar.demote
  refine ent_box fun mb => ?_
  rw [agg_cells, List.toList_toArray]
  refine Ent.at 1 rfl (Ent.ar ?_)
  (repeat (first | refine ent_q (run_nil _) ?_ | refine ent_q (run_fieldZ _ _) ?_ | refine ent_q (run_field0 _) ?_))
  refine ent_q (run_load (v := .int .i64 c.mode) (cell_own 0 rfl rfl)) ?_
  have back : ∀ {M : List HP}, Imp (pt x.ar 105 (arL x c A) :: stI x.s x.d (shOf c) :: caH w0 x.k x.a x.p x.mb c 3 A.S :: M) (arH w0 x c A :: M) := fun {M} => Imp.ar (Imp.refl _)
  refine Ent.imp back ?_
  by_cases h1 : c.mode = 2
  · refine ent_q ((run_eq _ _).T h1) ?_
    (repeat (first | refine ent_q (run_field0 _) ?_ | refine ent_gT ?_ | refine ent_j ?_))
    refine ent_q (run_load (v := .int .i64 m.level) (cell_own 1 rfl rfl)) ?_
    by_cases h2 : m.level = 3
    · rw [if_pos ⟨h1, h2⟩]
      refine ent_q ((run_eq _ _).T h2) ?_
      (repeat (first | refine ent_q (run_field0 _) ?_ | refine ent_ifT ?_ | refine ent_pT ?_))
      refine ent_q (run_load (v := .int .i64 m.block) (cell_own 1 rfl rfl)) ?_
      (repeat refine ent_q (run_field0 _) ?_)
      refine ent_q (run_load (v := .int .i64 m.level) (cell_own 1 rfl rfl)) ?_
      (repeat refine ent_q (run_field0 _) ?_)
      refine ent_q (run_load (v := mv) (cell_own 1 rfl rfl)) ?_
      refine ent_call (ar_put hS m.block m.level mv m.data hd) (by (repeat (first | refine Imp.pick 0 rfl ?_ | refine Imp.pick 1 rfl ?_)); exact Imp.refl _) fun v => ?_
      exact ent_ret () rfl (by (repeat refine Imp.pick 1 rfl ?_); exact Imp.trans Imp.drop1 (Imp.drop1))
    · rw [if_neg (fun h => h2 h.2)]
      refine ent_q ((run_eq _ _).F h2) ?_
      (repeat (first | refine ent_ifF ?_ | refine ent_pT ?_))
      exact ent_ret () rfl (by (repeat refine Imp.pick 0 rfl ?_); exact Imp.trans Imp.drop1 (Imp.drop1))
  · rw [if_neg (fun h => h1 h.1)]
    refine ent_q ((run_eq _ _).F h1) ?_
    (repeat (first | refine ent_ifF ?_ | refine ent_gF ?_ | refine ent_pF ?_ | refine ent_j ?_))
    exact ent_ret () rfl (by (repeat refine Imp.pick 0 rfl ?_); exact Imp.trans Imp.drop1 (Imp.drop1))
theorem ar_drop (m : Msg) (mv : Value) :
    Spec w0 53 [P0 x.ar, .agg (msgL m mv).toArray] [arH w0 x c A] (fun _ : Unit => .slice none 0 0) (fun _ => [arH w0 x c (A.drop m)]) := by
  refine spec_go (fun R w => H53) fun F => ?_
  show Ent w0 (arH w0 x c A :: F) _
  unfold F53
  refine ent_box fun mb => ?_
  rw [agg_cells, List.toList_toArray]
  refine Ent.at 1 rfl (Ent.ar ?_)
  refine ent_draw [pt x.ar 105 (arL x c A), pt mb 37 (msgL m mv)] (by (repeat (first | refine Imp.pick 0 rfl ?_ | refine Imp.pick 2 rfl ?_)); exact Imp.nil) ?_
  (repeat (first | refine ent_p (fun _ => run_nil _) ?_ | refine ent_p (fun _ => run_field0 _) ?_))
  refine ent_m (run_load (v := P0 x.k) (cell_own 0 rfl rfl)) ?_
  (repeat refine ent_p (fun _ => run_field0 _) ?_)
  refine ent_m (run_load (v := .int .i64 m.block) (cell_own 1 rfl rfl)) ?_
  refine ent_call (ca_drop m.block) (by (repeat refine Imp.pick 2 rfl ?_); exact Imp.refl _) fun dv => ?_
  exact ent_ret () rfl (Imp.ar (A := A.drop m) (by (repeat (first | refine Imp.pick 1 rfl ?_ | refine Imp.pick 2 rfl ?_)); exact Imp.trans Imp.drop1 (Imp.drop1)))
theorem ar_blocks (hS : CaOk c k A.S) : Spec w0 33 [P0 x.ar] [arH w0 x c A] (fun v : Value => v) (fun v => [vec v 3 1 (intsV A.S.o.all) A.S.o.all.length, arH w0 x c A]) := by
  refine spec_go (fun R w => H33) fun F => ?_
  show Ent w0 (arH w0 x c A :: F) _
  unfold F33
  refine Ent.ar ?_
  (repeat (first | refine ent_q (run_nil _) ?_ | refine ent_q (run_field0 _) ?_ | refine ent_ifF ?_ | refine ent_q (run_eqpS _) ?_))
  refine ent_q (run_load (v := P0 x.k) (cell_own 0 rfl rfl)) ?_
  refine ent_call (ca_all k hS.fine hS.kb) (by (repeat refine Imp.pick 2 rfl ?_); exact Imp.refl _) fun v => ?_
  exact ent_ret v rfl (Imp.cons (Imp.ar (by (repeat (first | refine Imp.pick 0 rfl ?_ | refine Imp.pick 1 rfl ?_)); exact Imp.refl _)))
theorem ar_reads : Spec w0 40 [P0 x.ar] [arH w0 x c A] (fun _ : Unit => .int .i64 (A.reads : Nat)) (fun _ => [arH w0 x c A]) := by
  refine spec_go (fun R w => H40) fun F => ?_
  show Ent w0 (arH w0 x c A :: F) _
  unfold F40
  refine Ent.ar ?_
  (repeat (first | refine ent_q (run_nil _) ?_ | refine ent_q (run_field0 _) ?_ | refine ent_ifF ?_ | refine ent_q (run_eqpS _) ?_))
  refine ent_q (run_load (v := .int .i64 (A.reads : Nat)) (cell_own 0 rfl rfl)) ?_
  exact ent_ret () rfl (Imp.ar (by (repeat refine Imp.pick 0 rfl ?_); exact Imp.refl _))
def doTab : List Value := [.nilFunc, .nilFunc, .nilFunc, .nilFunc, .nilFunc, .nilFunc, .nilFunc, .nilFunc, .func (.func 50) #[] #[], .func (.func 51) #[] #[], .func (.func 52) #[] #[], .func (.func 53) #[] #[], .nilFunc, .nilFunc, .nilFunc]
theorem ar_hear (hok : ArOk c n k A) (hk : k + 2 < 4611686018427387904) (m : Msg) (mv : Value) :
    Spec w0 17 [P0 x.ar, .agg (msgL m mv).toArray] [arH w0 x c A, dkH w0 x.d n A.D, roB w0 mv m.data] (fun v : Value => v) (fun v => [outH w0 v (A.hear c m).2, arH w0 x c (A.hear c m).1, dkH w0 x.d n (A.hear c m).1.D]) := by
  refine spec_go (fun R w => H17) fun F => ?_
  show Ent w0 (arH w0 x c A :: dkH w0 x.d n A.D :: roB w0 mv m.data :: F) _
  generalize hW : A.hear c m = W
  unfold Ar.hear at hW
  unfold F17
  refine ent_box fun mb => ?_
  rw [agg_cells, List.toList_toArray]
  refine Ent.at 1 rfl (Ent.ar ?_)
  (repeat (first | refine ent_q (run_nil _) ?_ | refine ent_q (run_field0 _) ?_ | refine ent_gT ?_ | refine ent_q (run_eqpS _) ?_ | refine ent_j ?_))
  refine ent_q (run_load (v := .bool A.down) (cell_own 0 rfl rfl)) ?_
  refine Ent.imp (Imp.ar (w0 := w0) (x := x) (c := c) (A := A) (Imp.refl _)) ?_
  cases hdn : A.down with
  | true =>
    rw [if_pos (.inl hdn)] at hW
    subst hW
    (repeat (first | refine ent_ifT ?_ | refine ent_gF' ?_ | refine ent_pT ?_ | refine ent_pF ?_ | refine ent_j ?_))
    exact ent_ret (.slice none 0 0) rfl (Imp.out0 rfl (by (repeat (first | refine Imp.pick 0 rfl ?_ | refine Imp.pick 1 rfl ?_)); exact Imp.trans Imp.drop1 (Imp.drop1)))
  | false =>
    (repeat (first | refine ent_gT ?_ | refine ent_pF ?_ | refine ent_j ?_))
    refine ent_q (run_loadA (vs := msgL m mv) rfl (cells_all 1 rfl)) ?_
    refine Ent.at 3 rfl (Ent.roDup ?_)
    refine ent_call (ms_right m mv) (by (repeat refine Imp.pick 0 rfl ?_); exact Imp.refl _) fun _ => ?_
    cases hr : m.right with
    | false =>
      rw [if_pos (.inr hr)] at hW
      subst hW
      (repeat (first | refine ent_ifT ?_ | refine ent_pF ?_ | refine ent_q (run_notF) ?_))
      exact ent_ret (.slice none 0 0) rfl (Imp.out0 rfl (by (repeat (first | refine Imp.pick 1 rfl ?_ | refine Imp.pick 2 rfl ?_)); exact Imp.trans Imp.drop1 (Imp.drop1)))
    | true =>
      rw [if_neg (by rw [hdn, hr]; simp)] at hW
      obtain ⟨k1, k2⟩ := right_kind hr
      have hdl : m.data.length ≤ 64 := (right_bounds hr).2.2.2.2.2.2.2
      (repeat (first | refine ent_ifF ?_ | refine ent_pF ?_ | refine ent_q (run_notT) ?_))
      refine ent_q (run_buildA (parts := [(8, .func (.func 50) #[] #[]), (9, .func (.func 51) #[] #[]), (10, .func (.func 52) #[] #[]), (11, .func (.func 53) #[] #[])]) (cs := doTab) rfl) ?_
      (repeat refine ent_q (run_fieldZ _ _) ?_)
      refine Ent.imp (L' := pt mb 37 (msgL m mv) :: arH w0 x c A :: roB w0 mv m.data :: dkH w0 x.d n A.D :: F) (by (repeat (first | refine Imp.pick 0 rfl ?_ | refine Imp.pick 1 rfl ?_ | refine Imp.pick 2 rfl ?_)); exact Imp.refl _) ?_
      refine ent_q (run_load (v := .int .i64 m.kind) (cell_own 0 rfl rfl)) ?_
      have hk15 : m.kind.toNat < 15 := by omega
      obtain ⟨kn, hkn⟩ := Int.eq_ofNat_of_zero_le (show 0 ≤ m.kind by omega)
      have hget : doTab[m.kind.toNat]? = some (doTab[m.kind.toNat]'(by show m.kind.toNat < 15; exact hk15)) := List.getElem?_eq_getElem _
      refine ent_q (run_ixA m.kind.toNat (by omega) hk15 hget) ?_
      rw [hkn] at k1 k2
      have e : m.kind.toNat = kn := by omega
      simp only [e]
      match kn, k1, k2, hkn with
      | 8, _, _, hk8 =>
        rw [if_pos (by rw [hk8]; rfl)] at hW
        refine ent_q (run_eqfS _ _ _) ?_
        (repeat refine ent_ifF ?_)
        refine ent_q (run_loadA (vs := msgL m mv) rfl (cells_all 0 rfl)) ?_
        refine ent_callV (xs := [P0 x.ar, .agg (msgL m mv).toArray]) rfl (ar_read hok hk m mv) (by (repeat (first | refine Imp.pick 1 rfl ?_ | refine Imp.pick 2 rfl ?_)); exact Imp.refl _) fun v => ?_
        rw [← hW, read_D]
        exact ent_ret v rfl (by (repeat refine Imp.pick 0 rfl ?_); exact Imp.trans Imp.drop1 (Imp.drop1))
      | 9, _, _, hk9 =>
        rw [if_neg (by rw [hk9]; decide), if_pos (by rw [hk9]; rfl)] at hW
        refine ent_q (run_eqfS _ _ _) ?_
        (repeat refine ent_ifF ?_)
        refine ent_q (run_loadA (vs := msgL m mv) rfl (cells_all 0 rfl)) ?_
        refine ent_callV (xs := [P0 x.ar, .agg (msgL m mv).toArray]) rfl (ar_write hok m mv hdl) (by (repeat (first | refine Imp.pick 1 rfl ?_ | refine Imp.pick 2 rfl ?_)); exact Imp.refl _) fun v => ?_
        rw [← hW]
        exact ent_ret v rfl (by (repeat refine Imp.pick 0 rfl ?_); exact Imp.drop1)
      | 10, _, _, hk10 =>
        rw [if_neg (by rw [hk10]; decide), if_neg (by rw [hk10]; decide), if_pos (by rw [hk10]; rfl)] at hW
        refine ent_q (run_eqfS _ _ _) ?_
        (repeat refine ent_ifF ?_)
        refine ent_q (run_loadA (vs := msgL m mv) rfl (cells_all 0 rfl)) ?_
        refine ent_callV (xs := [P0 x.ar, .agg (msgL m mv).toArray]) rfl (ar_demote hok.S m mv hdl) (by (repeat refine Imp.pick 1 rfl ?_); exact Imp.refl _) fun v => ?_
        rw [← hW]
        dsimp only
        rw [demote_D]
        exact ent_ret (.slice none 0 0) rfl (Imp.out0 rfl (by (repeat (first | refine Imp.pick 0 rfl ?_ | refine Imp.pick 1 rfl ?_)); exact Imp.drop1))
      | 11, _, _, hk11 =>
        rw [if_neg (by rw [hk11]; decide), if_neg (by rw [hk11]; decide), if_neg (by rw [hk11]; decide), if_pos (by rw [hk11]; rfl)] at hW
        refine ent_q (run_eqfS _ _ _) ?_
        (repeat refine ent_ifF ?_)
        refine ent_q (run_loadA (vs := msgL m mv) rfl (cells_all 0 rfl)) ?_
        refine ent_callV (xs := [P0 x.ar, .agg (msgL m mv).toArray]) rfl (ar_drop m mv) (by (repeat refine Imp.pick 1 rfl ?_); exact Imp.refl _) fun v => ?_
        rw [← hW]
        exact ent_ret (.slice none 0 0) rfl (Imp.out0 rfl (by (repeat (first | refine Imp.pick 0 rfl ?_ | refine Imp.pick 2 rfl ?_)); exact Imp.trans Imp.drop1 (Imp.drop1)))
      | 1, _, _, hk' | 2, _, _, hk' | 3, _, _, hk' | 4, _, _, hk' | 5, _, _, hk' | 6, _, _, hk' | 7, _, _, hk' | 12, _, _, hk' | 13, _, _, hk' | 14, _, _, hk' =>
        rw [if_neg (by rw [hk']; decide), if_neg (by rw [hk']; decide), if_neg (by rw [hk']; decide), if_neg (by rw [hk']; decide)] at hW
        refine ent_q run_eqfN ?_
        (repeat refine ent_ifT ?_)
        rw [← hW]
        exact ent_ret (.slice none 0 0) rfl (Imp.out0 rfl (by (repeat (first | refine Imp.pick 1 rfl ?_ | refine Imp.pick 2 rfl ?_)); exact Imp.trans Imp.drop1 (Imp.drop1)))
      | n + 15, _, h2, _ => omega
end
end Go.Gd
namespace Go.Gd
open Go.Instr
attribute [local irreducible] loadAt storeAt fieldAt indexAt alloc box build buildSlice hNil eqG binOp Op.unary extract makeSlice makeInterface makeFunc convert hV mV pV hU hF hFV hI hIf hGuard hPick hJ hDraw hLoop ro Instr.index planI spaceH ptH mqH lruH lookup mapUpdate typeAssert mpI ordH stI dkH caH outH arH
section
variable {w0 : World} {L : List HP} {c : Cfg} {n : Nat}
theorem ar_new (hr : cfgRight c = true) (d : Nat) (D : Dk) (hn : (shOf c).need ≤ n) (hD : D.Ok) (ho : ((shOf c).open D).1 = 0) :
    Spec w0 13 [cfgV c, P0 d] [ro w0 c.hv 4 c.hints.length (hintsV c.hints), dkH w0 d n D]
      (fun z : ArN × CaN => .tuple #[P0 z.1.ar, .int .i64 0]) (fun z => [arH w0 z.1 c (Ar.new c D z.2), dkH w0 z.1.d n ((shOf c).open D).2, pureH (z.1.d = d)]) := by
  have hsh := shOf_ok hr
  have hP := (cfg_facts hr).1
  obtain ⟨h1, h2, h3, h4, h5, h6, h7, h9, h10, h11, h12, h13, h14⟩ := hP
  refine spec_go (fun R w => H13) fun F => ?_
  show Ent w0 (ro w0 c.hv 4 c.hints.length (hintsV c.hints) :: dkH w0 d n D :: F) _
  refine Ent.ro1 fun hhv => ?_
  unfold F13
  refine ent_box fun cb => ?_
  rw [agg_cells, List.toList_toArray]
  refine ent_q (run_loadA (vs := cfgL c) rfl (cells_all 0 rfl)) ?_
  refine ent_call (ca_new c 3 hr (by omega)) (by (repeat refine Imp.pick 1 rfl ?_); exact Imp.refl _) fun y => ?_
  (repeat refine ent_q (run_ex rfl) ?_)
  refine ent_q ((run_ne _ _).F (by omega)) ?_
  (repeat (first | refine ent_q (run_field0 _) ?_ | refine ent_ifF ?_))
  refine ent_q (run_load (v := .int .i64 c.blocks) (cell_own 1 rfl rfl)) ?_
  (repeat refine ent_q (run_field0 _) ?_)
  refine ent_q (run_load (v := .int .i64 c.size) (cell_own 1 rfl rfl)) ?_
  (repeat refine ent_q (run_fieldZ _ _) ?_)
  refine ent_q (run_load (v := .int .i64 c.clients) (cell_own 1 rfl rfl)) ?_
  (repeat refine ent_q (run_field0 _) ?_)
  refine ent_q (run_load (v := .int .i64 c.slots) (cell_own 1 rfl rfl)) ?_
  refine ent_q (bd102_0_1_2_3 rfl rfl rfl rfl) ?_
  have hv : Value.agg ([.int .i64 c.blocks, .int .i64 c.size, .int .i64 c.clients, .int .i64 c.slots] : List Value).toArray = shV (shOf c) := by
    unfold shV shL shOf
    dsimp only
    rw [show ((c.blocks.toNat : Nat) : Int) = c.blocks by omega, show ((c.size.toNat : Nat) : Int) = c.size by omega, show ((c.clients.toNat : Nat) : Int) = c.clients by omega, show ((c.slots.toNat : Nat) : Int) = c.slots by omega]
  rw [hv]
  refine ent_call (st_open d (shOf c) n D hsh hn hD) (by (repeat refine Imp.pick 2 rfl ?_); exact Imp.refl _) fun s => ?_
  rw [ho, if_pos rfl]
  (repeat refine ent_q (run_ex rfl) ?_)
  refine ent_q ((run_ne _ _).F (by omega)) ?_
  (repeat refine ent_ifF ?_)
  refine ent_q (run_loadA (vs := cfgL c) rfl (cells_all 3 rfl)) ?_
  refine ent_makeMap0 fun lm => ?_
  refine ent_q (bd105_0_1_2_5 rfl rfl rfl) ?_
  refine ent_box fun ar => ?_
  refine ent_ret (⟨ar, y.k, y.a, y.p, y.mb, s, d, lm⟩, y) rfl ?_
  refine Imp.ar (x := ⟨ar, y.k, y.a, y.p, y.mb, s, d, lm⟩) (c := c) (A := Ar.new c D y) ?_
  refine Imp.trans (L2 := pt ar 105 (arL ⟨ar, y.k, y.a, y.p, y.mb, s, d, lm⟩ c (Ar.new c D y)) :: stI s d (shOf c) :: caH w0 y.k y.a y.p y.mb c 3 (Ca.new c 3 y) :: dkH w0 d n ((shOf c).open D).2 :: F) (by (repeat (first | refine Imp.pick 0 rfl ?_ | refine Imp.pick 1 rfl ?_ | refine Imp.pick 2 rfl ?_)); exact Imp.trans Imp.drop1 (Imp.drop1)) ?_
  exact Imp.cons (Imp.cons (Imp.cons (Imp.cons (Imp.pureI rfl (Imp.refl _)))))
theorem ar_new0 (hr : cfgRight c = false) (hl : c.hints.length ≤ 1000000) (d : Value) :
    Spec w0 13 [cfgV c, d] [ro w0 c.hv 4 c.hints.length (hintsV c.hints)] (fun _ : Unit => .tuple #[.pointer none, .int .i64 6]) (fun _ => []) := by
  refine spec_go (fun R w => H13) fun F => ?_
  show Ent w0 (ro w0 c.hv 4 c.hints.length (hintsV c.hints) :: F) _
  unfold F13
  refine ent_box fun cb => ?_
  rw [agg_cells, List.toList_toArray]
  refine ent_q (run_loadA (vs := cfgL c) rfl (cells_all 0 rfl)) ?_
  refine ent_call (ca_new0 c 3 hr hl) (by (repeat refine Imp.pick 1 rfl ?_); exact Imp.refl _) fun y => ?_
  (repeat refine ent_q (run_ex rfl) ?_)
  refine ent_q ((run_ne _ _).T (by omega)) ?_
  (repeat refine ent_ifT ?_)
  exact ent_ret () rfl (by exact Imp.drop1)
end
end Go.Gd
namespace Go.Gd
open Go.Instr
attribute [local irreducible] loadAt storeAt fieldAt indexAt alloc box build buildSlice hNil eqG binOp Op.unary extract makeSlice makeInterface makeFunc convert hV mV pV hU hF hFV hI hIf hGuard hPick hJ hDraw hLoop ro Instr.index
def inV (l : List Int) : List Value := l.map fun n => Value.int .i64 n
theorem inV_len (l : List Int) : (inV l).length = l.length := by simp [inV]
theorem inV_nat (l : List Nat) : intsV l = inV (l.map fun n : Nat => (n : Int)) := by simp [inV, intsV]
theorem take_eq_of {α : Type} {a b : List α} {i : Nat} (h : a.take i = b.take i) {x y : α} (ha : a[i]? = some x) (hb : b[i]? = some y) (hxy : x = y) : a.take (i + 1) = b.take (i + 1) := by
  obtain ⟨h1, e1⟩ := List.getElem?_eq_some_iff.1 ha
  obtain ⟨h2, e2⟩ := List.getElem?_eq_some_iff.1 hb
  rw [List.take_succ_eq_append_getElem h1, List.take_succ_eq_append_getElem h2, h, e1, e2, hxy]
theorem ne_of_get {α : Type} {a b : List α} {i : Nat} {x y : α} (ha : a[i]? = some x) (hb : b[i]? = some y) (hxy : x ≠ y) : a ≠ b := fun e => by
  rw [e, hb] at ha; exact hxy (Option.some.inj ha).symm
def msgN (m : Msg) : List Int := [m.client, m.slot, m.boot, m.op, m.block, m.level, m.round, m.code]
theorem fill8 (m : Msg) : fill (fun i => some (i * 1, 1)) ((List.replicate 8 [Value.int .i64 0]).flatten).toArray [(0, .int .i64 m.client), (1, .int .i64 m.slot), (2, .int .i64 m.boot), (3, .int .i64 m.op), (4, .int .i64 m.block), (5, .int .i64 m.level), (6, .int .i64 m.round), (7, .int .i64 m.code)] = some (inV (msgN m)).toArray := by
  have hc : ∀ n : Int, (Value.int .i64 n).cells = #[.int .i64 n] := fun _ => rfl
  simp [fill, hc, inV, msgN, List.replicate]
section
variable {w0 : World} {L : List HP}
theorem RdS.cellI {a : Option Addr} {n cap : Nat} {l : List Int} (h : RdS w0 L (.slice a n cap) 1 n (inV l)) {i : Nat} {x : Int} (hx : l[i]? = some x) :
    ∃ b o, a = some ⟨b, o, none⟩ ∧ Cell w0 L ⟨b, o + i, none⟩ (.int .i64 x) := by
  obtain ⟨a', c', e1, e2, e3⟩ := h
  cases e1
  rcases e3 with e3 | ⟨b, o, rfl, hc⟩
  · have := congrArg List.length e3
    rw [inV_len] at this
    have := (List.getElem?_eq_some_iff.1 hx).1
    simp_all
  · exact ⟨b, o, rfl, hc i _ (by simp [inV, hx])⟩
theorem rf_same (a b : Value) (la lb : List UInt8) (h1 : la.length ≤ 1099511627776) (h2 : lb.length ≤ 1099511627776) : Spec w0 18 [a, b] [roB w0 a la, roB w0 b lb] (fun _ : Unit => .bool (decide (la = lb))) (fun _ => []) := by
  refine spec_go (fun R w => H18) fun F => ?_
  show Ent w0 (roB w0 a la :: roB w0 b lb :: F) _
  unfold F18
  refine Ent.ro fun aa ca Ra hav hal hard => ?_
  subst hav
  refine Ent.at 2 rfl (Ent.ro fun ba cb Rb hbv hbl hbrd => ?_)
  subst hbv
  refine ent_q run_len ?_
  refine ent_q run_len ?_
  refine ent_qb (run_ne _ _) (fun h => ?_) (fun h => ?_)
  · refine ent_ifT ?_
    exact ent_ret () (by rw [decide_eq_false (fun e => h (by rw [e]))]) (by exact Imp.trans Imp.drop1 (Imp.trans Imp.drop1 (Imp.trans Imp.drop1 (Imp.drop1))))
  refine ent_ifF ?_
  have hlen : la.length = lb.length := by omega
  refine ent_loop (ι := Nat) (fun i => i ≤ la.length ∧ la.take i = lb.take i) (fun i => [.int .i64 (i : Nat), .bool false]) (fun i => Ra :: Rb :: F) (fun i => la.length - i) 0 ⟨by simp, rfl⟩ rfl (by (repeat (first | refine Imp.pick 0 rfl ?_ | refine Imp.pick 2 rfl ?_)); exact Imp.trans Imp.drop1 (Imp.drop1)) ?_
  rintro i ⟨hi, hti⟩ g next hnext
  show Ent w0 _ (hV P (Builtin.len_ #[35] 3 #[.slice aa la.length ca]) _)
  refine ent_q run_len ?_
  refine ent_qb (run_lt _ _) (fun h => ?_) (fun h => ?_)
  · refine ent_ifT ?_
    have hia : i < la.length := by omega
    have hib : i < lb.length := by omega
    have ga : la[i]? = some la[i] := List.getElem?_eq_getElem hia
    have gb : lb[i]? = some lb[i] := List.getElem?_eq_getElem hib
    generalize la[i] = x at *
    generalize lb[i] = y at *
    have hx := u8_lt x
    have hy := u8_lt y
    refine ent_draw [Ra, Rb] (by (repeat refine Imp.pick 0 rfl ?_); exact Imp.nil) ?_
    obtain ⟨b1, o1, rfl, hc1⟩ := RdS.cell8 (hard [Ra, Rb] 0 rfl) ga
    obtain ⟨b2, o2, rfl, hc2⟩ := RdS.cell8 (hbrd [Ra, Rb] 1 rfl) gb
    refine ent_p (fun _ => run_indexS i rfl hia) ?_
    rw [Nat.mul_one]
    refine ent_m (run_load hc1) ?_
    refine ent_p (fun _ => run_indexS i rfl (show i < lb.length from hib)) ?_
    rw [Nat.mul_one]
    refine ent_m (run_load hc2) ?_
    by_cases hxy : x = y
    · refine ent_p (fun _ => (run_ne _ _).F (by rw [hxy]; simp)) ?_
      (repeat refine ent_ifF ?_)
      refine ent_q (run_add64 (by omega)) ?_
      exact hnext (i + 1) ⟨by omega, take_eq_of hti ga gb hxy⟩ (by omega)
    · refine ent_p (fun _ => (run_ne _ _).T (fun e => hxy (UInt8.toNat_inj.1 (by omega)))) ?_
      (repeat refine ent_ifT ?_)
      exact ent_ret () (by rw [decide_eq_false (ne_of_get ga gb hxy)]) (by exact Imp.trans Imp.drop1 (Imp.drop1))
  · refine ent_ifF ?_
    have hia : i = la.length := by omega
    refine ent_ret () ?_ (by exact Imp.trans Imp.drop1 (Imp.drop1))
    rw [hia, List.take_length, hlen, List.take_length] at hti
    rw [decide_eq_true hti]
theorem rf_sameInts (a b : Value) (la lb : List Int) (h1 : la.length ≤ 1099511627776) (h2 : lb.length ≤ 1099511627776) : Spec w0 34 [a, b] [ro w0 a 1 la.length (inV la), ro w0 b 1 lb.length (inV lb)] (fun _ : Unit => .bool (decide (la = lb))) (fun _ => []) := by
  refine spec_go (fun R w => H34) fun F => ?_
  show Ent w0 (ro w0 a 1 la.length (inV la) :: ro w0 b 1 lb.length (inV lb) :: F) _
  unfold F34
  refine Ent.ro fun aa ca Ra hav hal hard => ?_
  subst hav
  refine Ent.at 2 rfl (Ent.ro fun ba cb Rb hbv hbl hbrd => ?_)
  subst hbv
  refine ent_q run_len ?_
  refine ent_q run_len ?_
  refine ent_qb (run_ne _ _) (fun h => ?_) (fun h => ?_)
  · refine ent_ifT ?_
    exact ent_ret () (by rw [decide_eq_false (fun e => h (by rw [e]))]) (by exact Imp.trans Imp.drop1 (Imp.trans Imp.drop1 (Imp.trans Imp.drop1 (Imp.drop1))))
  refine ent_ifF ?_
  have hlen : la.length = lb.length := by omega
  refine ent_loop (ι := Nat) (fun i => i ≤ la.length ∧ la.take i = lb.take i) (fun i => [.int .i64 (i : Nat), .bool false]) (fun i => Ra :: Rb :: F) (fun i => la.length - i) 0 ⟨by simp, rfl⟩ rfl (by (repeat (first | refine Imp.pick 0 rfl ?_ | refine Imp.pick 2 rfl ?_)); exact Imp.trans Imp.drop1 (Imp.drop1)) ?_
  rintro i ⟨hi, hti⟩ g next hnext
  show Ent w0 _ (hV P (Builtin.len_ #[64] 3 #[.slice aa la.length ca]) _)
  refine ent_q run_len ?_
  refine ent_qb (run_lt _ _) (fun h => ?_) (fun h => ?_)
  · refine ent_ifT ?_
    have hia : i < la.length := by omega
    have hib : i < lb.length := by omega
    have ga : la[i]? = some la[i] := List.getElem?_eq_getElem hia
    have gb : lb[i]? = some lb[i] := List.getElem?_eq_getElem hib
    generalize la[i] = x at *
    generalize lb[i] = y at *
    refine ent_draw [Ra, Rb] (by (repeat refine Imp.pick 0 rfl ?_); exact Imp.nil) ?_
    obtain ⟨b1, o1, rfl, hc1⟩ := RdS.cellI (hard [Ra, Rb] 0 rfl) ga
    obtain ⟨b2, o2, rfl, hc2⟩ := RdS.cellI (hbrd [Ra, Rb] 1 rfl) gb
    refine ent_p (fun _ => run_indexS i rfl hia) ?_
    rw [Nat.mul_one]
    refine ent_m (run_load hc1) ?_
    refine ent_p (fun _ => run_indexS i rfl (show i < lb.length from hib)) ?_
    rw [Nat.mul_one]
    refine ent_m (run_load hc2) ?_
    by_cases hxy : x = y
    · refine ent_p (fun _ => (run_ne _ _).F (by simpa using hxy)) ?_
      (repeat refine ent_ifF ?_)
      refine ent_q (run_add64 (by omega)) ?_
      exact hnext (i + 1) ⟨by omega, take_eq_of hti ga gb hxy⟩ (by omega)
    · refine ent_p (fun _ => (run_ne _ _).T hxy) ?_
      (repeat refine ent_ifT ?_)
      exact ent_ret () (by rw [decide_eq_false (ne_of_get ga gb hxy)]) (by exact Imp.trans Imp.drop1 (Imp.drop1))
  · refine ent_ifF ?_
    have hia : i = la.length := by omega
    refine ent_ret () ?_ (by exact Imp.trans Imp.drop1 (Imp.drop1))
    rw [hia, List.take_length, hlen, List.take_length] at hti
    rw [decide_eq_true hti]
theorem rf_has (a : Value) (la : List Int) (n : Int) (h1 : la.length ≤ 1099511627776) : Spec w0 32 [a, .int .i64 n] [ro w0 a 1 la.length (inV la)] (fun _ : Unit => .bool (decide (n ∈ la))) (fun _ => []) := by
  refine spec_go (fun R w => H32) fun F => ?_
  show Ent w0 (ro w0 a 1 la.length (inV la) :: F) _
  unfold F32
  refine Ent.ro fun aa ca Ra hav hal hard => ?_
  subst hav
  refine ent_loop (ι := Nat) (fun i => i ≤ la.length ∧ n ∉ la.take i) (fun i => [.int .i64 (i : Nat), .bool false]) (fun i => Ra :: F) (fun i => la.length - i) 0 ⟨by simp, by simp⟩ rfl (by (repeat refine Imp.pick 0 rfl ?_); exact Imp.drop1) ?_
  rintro i ⟨hi, hti⟩ g next hnext
  show Ent w0 _ (hV P (Builtin.len_ #[64] 3 #[.slice aa la.length ca]) _)
  refine ent_q run_len ?_
  refine ent_qb (run_lt _ _) (fun h => ?_) (fun h => ?_)
  · refine ent_ifT ?_
    have hia : i < la.length := by omega
    have ga : la[i]? = some la[i] := List.getElem?_eq_getElem hia
    have hgen : la.take (i + 1) = la.take i ++ [la[i]] := List.take_succ_eq_append_getElem hia
    generalize la[i] = x at *
    obtain ⟨b1, o1, rfl, hc1⟩ := RdS.cellI (hard (Ra :: F) 0 rfl) ga
    refine ent_q (run_indexS i rfl hia) ?_
    rw [Nat.mul_one]
    refine ent_q (run_load hc1) ?_
    refine ent_qb (run_eq _ _) (fun hx => ?_) (fun hx => ?_)
    · (repeat refine ent_ifT ?_)
      exact ent_ret () (by rw [decide_eq_true (by rw [← hx]; exact List.mem_of_getElem? ga)]) (by exact Imp.drop1)
    · (repeat refine ent_ifF ?_)
      refine ent_q (run_add64 (by omega)) ?_
      refine hnext (i + 1) ⟨by omega, ?_⟩ (by omega)
      rw [hgen]
      simp only [List.mem_append, List.mem_singleton, not_or]
      exact ⟨hti, fun e => hx e.symm⟩
  · refine ent_ifF ?_
    have hia : i = la.length := by omega
    rw [hia, List.take_length] at hti
    exact ent_ret () (by rw [decide_eq_false hti]) (by exact Imp.drop1)
theorem rf_numbers (m : Msg) (mv : Value) : Spec w0 90 [.agg (msgL m mv).toArray] [] (fun v : Value => v) (fun v => [ro w0 v 1 8 (inV (msgN m))]) := by
  refine spec_go (fun R w => H90) fun F => ?_
  show Ent w0 F _
  unfold F90
  refine ent_box fun mb => ?_
  rw [agg_cells, List.toList_toArray]
  unfold msgL
  (repeat (first | refine ent_q (run_field0 _) ?_ | refine ent_q (run_load (cell_own 0 rfl rfl)) ?_))
  refine ent_bs (zs := [.int .i64 0]) rfl (n := 8) (parts := [(0, .int .i64 m.client), (1, .int .i64 m.slot), (2, .int .i64 m.boot), (3, .int .i64 m.op), (4, .int .i64 m.block), (5, .int .i64 m.level), (6, .int .i64 m.round), (7, .int .i64 m.code)]) (cs := inV (msgN m)) (by simp) (fill8 m) fun tb => ?_
  refine Ent.freeze ?_
  refine ent_ret (.slice (some ⟨tb, 0, none⟩) 8 8) rfl ?_
  refine Imp.trans ?_ (Imp.trans (Imp.roI (w0 := w0) (b := tb) (cap := 8) (sz := 1) (n := 8) (T := 3) (l := inV (msgN m)) (junk := []) rfl (Nat.le_refl _)) (by (repeat refine Imp.pick 0 rfl ?_); exact Imp.refl _))
  rw [List.append_nil]
  exact (by (repeat refine Imp.pick 0 rfl ?_); exact Imp.drop1)
end
end Go.Gd
