/- The contracts of package store, fifth part: the journal, Open. Conditions: those in the theorems. -/
import Derived.Test.YtdgnnacppiaogaaGreatK30
set_option linter.unusedVariables false
set_option linter.unusedSimpArgs false
namespace Go.Gd
open Go.Instr
attribute [local irreducible] loadAt storeAt fieldAt indexAt alloc box build buildSlice hNil eqG binOp Op.unary extract makeSlice makeInterface makeFunc convert hV mV pV hU hF hFV hIf hGuard hPick hJ hDraw hLoop ro Instr.index dkH stI
section
variable {w0 : World} {L : List HP}
theorem ent_pb {s : Sem Value} {φ : Prop} [Decidable φ] {K : Value → World → Prop} (hr : ∀ w0 : World, Run w0 [] s (.bool (decide φ))) (h1 : φ → Ent w0 L (K (.bool true))) (h2 : ¬ φ → Ent w0 L (K (.bool false))) : Ent w0 L (pV P s K) := by
  refine ent_p hr ?_
  by_cases h : φ
  · rw [decide_eq_true h]; exact h1 h
  · rw [decide_eq_false h]; exact h2 h
theorem wone {a b c d e : Int} {tv : Value} (h : tv.oneCell' = true) : ∀ u ∈ ([.int .i64 a, .int .i64 b, .int .i64 c, .int .i64 d, .int .i64 e, tv] : List Value), u.oneCell' = true := by
  intro u hu
  simp only [List.mem_cons, List.not_mem_nil, or_false] at hu
  rcases hu with rfl | rfl | rfl | rfl | rfl | rfl <;> first | rfl | exact h
set_option maxHeartbeats 1000000 in
theorem st_journal (s d : Nat) (sh : Shp) (n : Nat) (D : Dk) (hs : sh.Ok) (hn : sh.need ≤ n) (hD : D.Ok) (q : Bool) (hq : q = decide (sh.jrnIs (D.l 0))) :
    Spec w0 96 [P0 s] [stI s d sh, dkH w0 d n D] (fun tv : Value => .tuple #[.agg (wrL (jrnW sh.size (D.l 0)) tv).toArray, .int .i64 (jrnV (D.l 0) : Nat), (.bool q)])
      (fun tv => [roB w0 tv (jrnW sh.size (D.l 0)).data, stI s d sh, dkH w0 d n D]) := by
  refine spec_go (fun R w => H96) fun F => ?_
  show Ent w0 (stI s d sh :: dkH w0 d n D :: F) _
  have h2 := hs.size
  unfold F96
  refine ent_alloc fun wb => ?_
  refine ent_alloc fun vb => ?_
  refine ent_call (st_sector s d sh n D 0 (by unfold Shp.need at hn; omega) hD) (by (repeat refine Imp.pick 2 rfl ?_); exact Imp.refl _) fun x => ?_
  have hlen := hD.len 0
  have hjW : ∀ tv, wrL (jrnW sh.size (D.l 0)) tv = [.int .i64 ((rNums (D.l 0) 6 rd0).1.getD 0 0 : Nat), .int .i64 ((rNums (D.l 0) 6 rd0).1.getD 1 0 : Nat), .int .i64 ((rNums (D.l 0) 6 rd0).1.getD 2 0 : Nat), .int .i64 ((rNums (D.l 0) 6 rd0).1.getD 3 0 : Nat), .int .i64 ((rNums (D.l 0) 6 rd0).1.getD 4 0 : Nat), tv] := fun tv => rfl
  have hjD : (jrnW sh.size (D.l 0)).data = (rText (D.l 0) sh.size (rNums (D.l 0) 6 rd0).2).1 := rfl
  have hjB : (jrnW sh.size (D.l 0)).block = ((rNums (D.l 0) 6 rd0).1.getD 4 0 : Nat) := rfl
  have hjV : jrnV (D.l 0) = (rNums (D.l 0) 6 rd0).1.getD 5 0 := rfl
  have hjI : q = true ↔ ((rText (D.l 0) sh.size (rNums (D.l 0) 6 rd0).2).2.ok = true ∧ sh.fits (jrnW sh.size (D.l 0)) ∧ (jrnW sh.size (D.l 0)).block < sh.blocks ∧ 1 ≤ jrnV (D.l 0) ∧ jrnV (D.l 0) ≤ 1000) := by rw [hq]; exact decide_eq_true_iff
  clear hq
  generalize jrnW sh.size (D.l 0) = W at *
  generalize jrnV (D.l 0) = V at *
  generalize D.l 0 = l at *
  (repeat (first | refine ent_q (run_fieldZ _ _) ?_ | refine ent_q (run_field0 _) ?_ | refine ent_q (run_mf _ _ _) ?_))
  refine ent_bs (zs := [.pointer none]) rfl (n := 6) (parts := [(0, P0 wb), (1, .pointer (some ⟨wb, 1, none⟩)), (2, .pointer (some ⟨wb, 2, none⟩)), (3, .pointer (some ⟨wb, 3, none⟩)), (4, .pointer (some ⟨wb, 4, none⟩)), (5, P0 vb)])
    (cs := [P0 wb, .pointer (some ⟨wb, 1, none⟩), .pointer (some ⟨wb, 2, none⟩), .pointer (some ⟨wb, 3, none⟩), .pointer (some ⟨wb, 4, none⟩), P0 vb]) (by simp) rfl fun tb => ?_
  refine ent_call (rd_all x.1 x.2 l rd0 tb 6 (fun i => if i = 5 then ⟨vb, 0, none⟩ else ⟨wb, i, none⟩)
    (fun vs => [pt wb 161 [.int .i64 (vs.getD 0 0 : Nat), .int .i64 (vs.getD 1 0 : Nat), .int .i64 (vs.getD 2 0 : Nat), .int .i64 (vs.getD 3 0 : Nat), .int .i64 (vs.getD 4 0 : Nat), .slice none 0 0], pt vb 3 [.int .i64 (vs.getD 5 0 : Nat)]]) (by omega) (by omega) ?_) (by (repeat (first | refine Imp.pick 0 rfl ?_ | refine Imp.pick 2 rfl ?_ | refine Imp.pick 3 rfl ?_)); exact Imp.refl _) fun _ => ?_
  · intro vs v F K hv hK
    match vs, hv with
    | [], _ => exact ent_st0 rfl (by simp) rfl hK
    | [a], _ => exact ent_st0 rfl (by simp) rfl hK
    | [a, b], _ => exact ent_st0 rfl (by simp) rfl hK
    | [a, b, c], _ => exact ent_st0 rfl (by simp) rfl hK
    | [a, b, c, e], _ => exact ent_st0 rfl (by simp) rfl hK
    | [a, b, c, e, f], _ => exact ent_st1 rfl (by simp) rfl hK
    | a :: b :: c :: e :: f :: g :: t, h => simp only [List.length_cons] at h; omega
  generalize rNums l 6 rd0 = f at *
  obtain ⟨vs, y⟩ := f
  dsimp only at hjW hjD hjB hjV hjI ⊢
  show Ent w0 (pt x.1 226 (rdV x.2 y) :: roB w0 x.2 l :: pt wb 161 [.int .i64 (vs.getD 0 0 : Nat), .int .i64 (vs.getD 1 0 : Nat), .int .i64 (vs.getD 2 0 : Nat), .int .i64 (vs.getD 3 0 : Nat), .int .i64 (vs.getD 4 0 : Nat), .slice none 0 0] :: pt vb 3 [.int .i64 (vs.getD 5 0 : Nat)] :: stI s d sh :: dkH w0 d n D :: F) _
  refine Ent.at 4 rfl (Ent.dup (Pers.st s d sh) ?_)
  conv => lhs; arg 1; unfold stI
  (repeat (first | refine ent_q (run_nil _) ?_ | refine ent_q (run_fieldZ _ _) ?_ | refine ent_q (run_field0 _) ?_ | refine ent_q (run_load (cell_imm 0 rfl rfl)) ?_))
  refine ent_call (rd_text x.1 x.2 l y sh.size (by omega) (by omega)) (by (repeat refine Imp.pick 2 rfl ?_); exact Imp.refl _) fun tv => ?_
  generalize rText l sh.size y = T at *
  obtain ⟨t, z⟩ := T
  dsimp only at hjD hjI ⊢
  refine Ent.vecRo (Ent.ro1 fun htv => ?_)
  refine Ent.imp (L' := pt wb 161 [.int .i64 (vs.getD 0 0 : Nat), .int .i64 (vs.getD 1 0 : Nat), .int .i64 (vs.getD 2 0 : Nat), .int .i64 (vs.getD 3 0 : Nat), .int .i64 (vs.getD 4 0 : Nat), .slice none 0 0] :: pt x.1 226 (rdV x.2 z) :: pt vb 3 [.int .i64 (vs.getD 5 0 : Nat)] :: ptI s 159 [.int .i64 (sh.blocks : Nat), .int .i64 (sh.size : Nat), .int .i64 (sh.clients : Nat), .int .i64 (sh.slots : Nat), P0 d] :: roB w0 tv t :: stI s d sh :: dkH w0 d n D :: F) (by (repeat (first | refine Imp.pick 0 rfl ?_ | refine Imp.pick 1 rfl ?_ | refine Imp.pick 2 rfl ?_ | refine Imp.pick 4 rfl ?_ | refine Imp.pick 5 rfl ?_)); exact Imp.drop1) ?_
  (repeat refine ent_q (run_field0 _) ?_)
  refine ent_st0 htv (by simp) rfl ?_
  unfold rdV
  refine ent_draw [pt wb 161 [.int .i64 (vs.getD 0 0 : Nat), .int .i64 (vs.getD 1 0 : Nat), .int .i64 (vs.getD 2 0 : Nat), .int .i64 (vs.getD 3 0 : Nat), .int .i64 (vs.getD 4 0 : Nat), tv], pt x.1 226 [x.2, .int .i64 (z.pos : Nat), .bool z.ok], pt vb 3 [.int .i64 (vs.getD 5 0 : Nat)], ptI s 159 [.int .i64 (sh.blocks : Nat), .int .i64 (sh.size : Nat), .int .i64 (sh.clients : Nat), .int .i64 (sh.slots : Nat), P0 d]] (by (repeat refine Imp.pick 0 rfl ?_); exact Imp.nil) ?_
  refine ent_m (run_loadA (vs := [.int .i64 (vs.getD 0 0 : Nat), .int .i64 (vs.getD 1 0 : Nat), .int .i64 (vs.getD 2 0 : Nat), .int .i64 (vs.getD 3 0 : Nat), .int .i64 (vs.getD 4 0 : Nat), tv]) rfl (cells_all 0 rfl)) ?_
  (repeat (first | refine ent_p (fun _ => run_nil _) ?_ | refine ent_p (fun _ => run_field0 _) ?_ | refine ent_j ?_ | refine ent_m (run_load (cell_own 1 rfl rfl)) ?_ | refine ent_m (run_load (cell_own 2 rfl rfl)) ?_))
  by_cases c1 : z.ok = true
  rotate_left
  · have hz : q = false := by
      cases q with
      | false => rfl
      | true => exact absurd (hjI.1 rfl).1 c1
    have c1 : z.ok = false := by simpa using c1
    rw [c1]
    (repeat (first | refine ent_gF ?_ | refine ent_pF ?_ | refine ent_j ?_))
    refine ent_sa0 (vs := [.int .i64 (vs.getD 0 0 : Nat), .int .i64 (vs.getD 1 0 : Nat), .int .i64 (vs.getD 2 0 : Nat), .int .i64 (vs.getD 3 0 : Nat), .int .i64 (vs.getD 4 0 : Nat), tv]) rfl (wone htv) (by simp) rfl ?_
    refine ent_st2 rfl (by simp) rfl ?_
    refine ent_r (run_loadA (vs := [.int .i64 (vs.getD 0 0 : Nat), .int .i64 (vs.getD 1 0 : Nat), .int .i64 (vs.getD 2 0 : Nat), .int .i64 (vs.getD 3 0 : Nat), .int .i64 (vs.getD 4 0 : Nat), tv]) rfl (cells_all 0 rfl)) ?_
    (repeat refine ent_r (run_load (cell_own 2 rfl rfl)) ?_)
    refine ent_ret tv ?_ ?_
    · rw [hjW, hjV, hz]
    · rw [hjD]; exact (by (repeat refine Imp.pick 4 rfl ?_); exact Imp.trans Imp.drop1 (Imp.trans Imp.drop1 (Imp.trans Imp.drop1 (Imp.drop1))))
  rw [c1]
  (repeat (first | refine ent_p (fun _ => run_nil _) ?_ | refine ent_p (fun _ => run_fieldZ _ _) ?_ | refine ent_gT ?_))
  refine ent_m (run_loadA (vs := shL sh) rfl (cells_immP (rest := [P0 d]) 3 rfl)) ?_
  refine ent_m (run_loadA (vs := [.int .i64 (vs.getD 0 0 : Nat), .int .i64 (vs.getD 1 0 : Nat), .int .i64 (vs.getD 2 0 : Nat), .int .i64 (vs.getD 3 0 : Nat), .int .i64 (vs.getD 4 0 : Nat), tv]) rfl (cells_all 0 rfl)) ?_
  have hS := st_fits (w0 := w0) sh W tv
  rw [hjW] at hS
  refine ent_call hS (Imp.refl _) fun _ => ?_
  refine ent_and (by (repeat refine Imp.pick 0 rfl ?_); exact Imp.nil) ?_
  by_cases c2 : sh.fits W
  rotate_left
  · have hz : q = false := by
      cases q with
      | false => rfl
      | true => exact absurd (hjI.1 rfl).2.1 c2
    rw [decide_eq_false c2]
    (repeat (first | refine ent_gF ?_ | refine ent_pT ?_ | refine ent_pF ?_ | refine ent_j ?_))
    refine ent_sa0 (vs := [.int .i64 (vs.getD 0 0 : Nat), .int .i64 (vs.getD 1 0 : Nat), .int .i64 (vs.getD 2 0 : Nat), .int .i64 (vs.getD 3 0 : Nat), .int .i64 (vs.getD 4 0 : Nat), tv]) rfl (wone htv) (by simp) rfl ?_
    refine ent_st2 rfl (by simp) rfl ?_
    refine ent_r (run_loadA (vs := [.int .i64 (vs.getD 0 0 : Nat), .int .i64 (vs.getD 1 0 : Nat), .int .i64 (vs.getD 2 0 : Nat), .int .i64 (vs.getD 3 0 : Nat), .int .i64 (vs.getD 4 0 : Nat), tv]) rfl (cells_all 0 rfl)) ?_
    (repeat refine ent_r (run_load (cell_own 2 rfl rfl)) ?_)
    refine ent_ret tv ?_ ?_
    · rw [hjW, hjV, hz]
    · rw [hjD]; exact (by (repeat refine Imp.pick 4 rfl ?_); exact Imp.trans Imp.drop1 (Imp.trans Imp.drop1 (Imp.trans Imp.drop1 (Imp.drop1))))
  rw [decide_eq_true c2]
  (repeat (first | refine ent_p (fun _ => run_nil _) ?_ | refine ent_p (fun _ => run_fieldZ _ _) ?_ | refine ent_p (fun _ => run_field0 _) ?_ | refine ent_gT ?_ | refine ent_pT ?_ | refine ent_j ?_ | refine ent_m (run_load (cell_own 0 rfl rfl)) ?_ | refine ent_m (run_load (cell_imm 3 rfl rfl)) ?_))
  by_cases c3 : W.block < sh.blocks
  rotate_left
  · have hz : q = false := by
      cases q with
      | false => rfl
      | true => exact absurd (hjI.1 rfl).2.2.1 c3
    refine ent_p (fun _ => (run_lt _ _).F (by rw [hjB] at c3; exact c3)) ?_
    (repeat (first | refine ent_gF ?_ | refine ent_pT ?_ | refine ent_pF ?_ | refine ent_j ?_))
    refine ent_sa0 (vs := [.int .i64 (vs.getD 0 0 : Nat), .int .i64 (vs.getD 1 0 : Nat), .int .i64 (vs.getD 2 0 : Nat), .int .i64 (vs.getD 3 0 : Nat), .int .i64 (vs.getD 4 0 : Nat), tv]) rfl (wone htv) (by simp) rfl ?_
    refine ent_st2 rfl (by simp) rfl ?_
    refine ent_r (run_loadA (vs := [.int .i64 (vs.getD 0 0 : Nat), .int .i64 (vs.getD 1 0 : Nat), .int .i64 (vs.getD 2 0 : Nat), .int .i64 (vs.getD 3 0 : Nat), .int .i64 (vs.getD 4 0 : Nat), tv]) rfl (cells_all 0 rfl)) ?_
    (repeat refine ent_r (run_load (cell_own 2 rfl rfl)) ?_)
    refine ent_ret tv ?_ ?_
    · rw [hjW, hjV, hz]
    · rw [hjD]; exact (by (repeat refine Imp.pick 4 rfl ?_); exact Imp.trans Imp.drop1 (Imp.trans Imp.drop1 (Imp.trans Imp.drop1 (Imp.drop1))))
  refine ent_p (fun _ => (run_lt _ _).T (by rw [hjB] at c3; exact c3)) ?_
  (repeat (first | refine ent_gT ?_ | refine ent_pT ?_ | refine ent_j ?_ | refine ent_m (run_load (cell_own 2 rfl rfl)) ?_))
  by_cases c4 : 1 ≤ V
  rotate_left
  · have hz : q = false := by
      cases q with
      | false => rfl
      | true => exact absurd (hjI.1 rfl).2.2.2.1 c4
    refine ent_p (fun _ => (run_ge _ _).F (by omega)) ?_
    (repeat (first | refine ent_gF ?_ | refine ent_pT ?_ | refine ent_pF ?_ | refine ent_j ?_))
    refine ent_sa0 (vs := [.int .i64 (vs.getD 0 0 : Nat), .int .i64 (vs.getD 1 0 : Nat), .int .i64 (vs.getD 2 0 : Nat), .int .i64 (vs.getD 3 0 : Nat), .int .i64 (vs.getD 4 0 : Nat), tv]) rfl (wone htv) (by simp) rfl ?_
    refine ent_st2 rfl (by simp) rfl ?_
    refine ent_r (run_loadA (vs := [.int .i64 (vs.getD 0 0 : Nat), .int .i64 (vs.getD 1 0 : Nat), .int .i64 (vs.getD 2 0 : Nat), .int .i64 (vs.getD 3 0 : Nat), .int .i64 (vs.getD 4 0 : Nat), tv]) rfl (cells_all 0 rfl)) ?_
    (repeat refine ent_r (run_load (cell_own 2 rfl rfl)) ?_)
    refine ent_ret tv ?_ ?_
    · rw [hjW, hjV, hz]
    · rw [hjD]; exact (by (repeat refine Imp.pick 4 rfl ?_); exact Imp.trans Imp.drop1 (Imp.trans Imp.drop1 (Imp.trans Imp.drop1 (Imp.drop1))))
  refine ent_p (fun _ => (run_ge _ _).T (by omega)) ?_
  (repeat (first | refine ent_gT ?_ | refine ent_pT ?_ | refine ent_j ?_ | refine ent_m (run_load (cell_own 2 rfl rfl)) ?_))
  by_cases c5 : V ≤ 1000
  rotate_left
  · have hz : q = false := by
      cases q with
      | false => rfl
      | true => exact absurd (hjI.1 rfl).2.2.2.2 c5
    refine ent_p (fun _ => (run_le _ _).F (by omega)) ?_
    (repeat refine ent_pT ?_)
    refine ent_sa0 (vs := [.int .i64 (vs.getD 0 0 : Nat), .int .i64 (vs.getD 1 0 : Nat), .int .i64 (vs.getD 2 0 : Nat), .int .i64 (vs.getD 3 0 : Nat), .int .i64 (vs.getD 4 0 : Nat), tv]) rfl (wone htv) (by simp) rfl ?_
    refine ent_st2 rfl (by simp) rfl ?_
    refine ent_r (run_loadA (vs := [.int .i64 (vs.getD 0 0 : Nat), .int .i64 (vs.getD 1 0 : Nat), .int .i64 (vs.getD 2 0 : Nat), .int .i64 (vs.getD 3 0 : Nat), .int .i64 (vs.getD 4 0 : Nat), tv]) rfl (cells_all 0 rfl)) ?_
    (repeat refine ent_r (run_load (cell_own 2 rfl rfl)) ?_)
    refine ent_ret tv ?_ ?_
    · rw [hjW, hjV, hz]
    · rw [hjD]; exact (by (repeat refine Imp.pick 4 rfl ?_); exact Imp.trans Imp.drop1 (Imp.trans Imp.drop1 (Imp.trans Imp.drop1 (Imp.drop1))))
  refine ent_p (fun _ => (run_le _ _).T (by omega)) ?_
  have hz : q = true := hjI.2 ⟨c1, c2, c3, c4, c5⟩
  (repeat refine ent_pT ?_)
  refine ent_sa0 (vs := [.int .i64 (vs.getD 0 0 : Nat), .int .i64 (vs.getD 1 0 : Nat), .int .i64 (vs.getD 2 0 : Nat), .int .i64 (vs.getD 3 0 : Nat), .int .i64 (vs.getD 4 0 : Nat), tv]) rfl (wone htv) (by simp) rfl ?_
  refine ent_st2 rfl (by simp) rfl ?_
  refine ent_r (run_loadA (vs := [.int .i64 (vs.getD 0 0 : Nat), .int .i64 (vs.getD 1 0 : Nat), .int .i64 (vs.getD 2 0 : Nat), .int .i64 (vs.getD 3 0 : Nat), .int .i64 (vs.getD 4 0 : Nat), tv]) rfl (cells_all 0 rfl)) ?_
  (repeat refine ent_r (run_load (cell_own 2 rfl rfl)) ?_)
  refine ent_ret tv ?_ ?_
  · rw [hjW, hjV, hz]
  · rw [hjD]; exact (by (repeat refine Imp.pick 4 rfl ?_); exact Imp.trans Imp.drop1 (Imp.trans Imp.drop1 (Imp.trans Imp.drop1 (Imp.drop1))))
end
end Go.Gd
