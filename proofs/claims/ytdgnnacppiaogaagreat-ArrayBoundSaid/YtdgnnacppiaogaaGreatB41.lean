/- The statement ArrayBound, of the program. Conditions: those in the theorems. -/
import Derived.Test.YtdgnnacppiaogaaGreatB40
set_option linter.unusedVariables false
set_option linter.unusedSimpArgs false
set_option linter.unusedVariables false
namespace Go.Gd
open Go.Instr
attribute [local irreducible] loadAt storeAt fieldAt indexAt alloc box build buildSlice hNil eqG binOp Op.unary extract makeSlice makeInterface makeFunc convert hV mV pV hU hF hFV hI hIf hGuard hPick hJ hDraw hLoop ro Instr.index dkH arH outH caH ordH stI
section
variable {w0 : World} {L : List HP}
set_option maxHeartbeats 2000000 in
theorem array_bound (c : Cfg) (lv : Value) (xs : List (ActS × Value)) :
    Spec w0 5 [cfgV c, lv] [ro w0 c.hv 4 c.hints.length (hintsV c.hints), ro w0 lv 12 xs.length (actsV xs), adatH w0 xs] (fun _ : Unit => .bool true) (fun _ => []) := by
  classical
  refine spec_go (fun R w => H5) fun F => ?_
  show Ent w0 (ro w0 c.hv 4 c.hints.length (hintsV c.hints) :: ro w0 lv 12 xs.length (actsV xs) :: adatH w0 xs :: F) _
  unfold F5
  refine Ent.ro1 fun hhv => ?_
  refine ent_box fun cb => ?_
  rw [agg_cells, List.toList_toArray]
  refine ent_call rf_wakes (Imp.refl _) fun _ => ?_
  (repeat (first | refine ent_ifF ?_ | refine ent_q (run_notT) ?_))
  show Ent w0 (pt cb 25 (cfgL c) :: ro w0 c.hv 4 c.hints.length (hintsV c.hints) :: ro w0 lv 12 xs.length (actsV xs) :: adatH w0 xs :: F) _
  refine ent_q (run_loadA (vs := cfgL c) rfl (cells_all 0 rfl)) ?_
  refine Ent.at 1 rfl (Ent.roDup (Ent.at 3 rfl (Ent.roDup (Ent.at 5 rfl (Ent.dup (Pers.adat _ _) ?_)))))
  refine ent_call (rf_long c lv xs (decide (longP c xs)) decide_eq_true_iff) (by (repeat (first | refine Imp.pick 0 rfl ?_ | refine Imp.pick 2 rfl ?_ | refine Imp.pick 4 rfl ?_)); exact Imp.refl _) fun _ => ?_
  by_cases hlong : longP c xs
  · rw [decide_eq_true hlong]
    (repeat refine ent_ifT ?_)
    exact ent_ret () rfl (by exact Imp.trans Imp.drop1 (Imp.trans Imp.drop1 (Imp.trans Imp.drop1 (Imp.drop1))))
  rw [decide_eq_false hlong]
  have hl1 : c.hints.length ≤ 20 := Nat.le_of_not_lt fun h => hlong (.inl h)
  have hl2 : xs.length ≤ 100 := Nat.le_of_not_lt fun h => hlong (.inr (.inl h))
  refine Ent.imp (L' := pt cb 25 (cfgL c) :: ro w0 c.hv 4 c.hints.length (hintsV c.hints) :: ro w0 lv 12 xs.length (actsV xs) :: adatH w0 xs :: F) (by (repeat (first | refine Imp.pick 0 rfl ?_ | refine Imp.pick 1 rfl ?_ | refine Imp.pick 2 rfl ?_ | refine Imp.pick 3 rfl ?_)); exact Imp.refl _) ?_
  (repeat refine ent_ifF ?_)
  refine ent_draw [pt cb 25 (cfgL c)] (by (repeat refine Imp.pick 0 rfl ?_); exact Imp.nil) ?_
  refine ent_m (run_loadA (vs := cfgL c) rfl (cells_all 0 rfl)) ?_
  refine ent_call sec_new (Imp.refl _) fun d => ?_
  show Ent w0 (dkH w0 d 64 freshD :: _) _
  refine ent_and (by (repeat refine Imp.pick 1 rfl ?_); exact Imp.nil) ?_
  refine Ent.imp (L' := pt cb 25 (cfgL c) :: ro w0 c.hv 4 c.hints.length (hintsV c.hints) :: ro w0 lv 12 xs.length (actsV xs) :: adatH w0 xs :: dkH w0 d 64 freshD :: F) (by (repeat (first | refine Imp.pick 0 rfl ?_ | refine Imp.pick 1 rfl ?_)); exact Imp.refl _) ?_
  refine Ent.at 1 rfl (Ent.roDup ?_)
  cases hr : cfgRight c with
  | false =>
    refine ent_call (ar_new0 hr (by omega) (P0 d)) (by (repeat refine Imp.pick 0 rfl ?_); exact Imp.refl _) fun _ => ?_
    (repeat refine ent_p (fun _ => run_ex rfl) ?_)
    refine ent_q ((run_ne _ _).T (by omega)) ?_
    (repeat refine ent_ifT ?_)
    exact ent_ret () rfl (by exact Imp.trans Imp.drop1 (Imp.trans Imp.drop1 (Imp.trans Imp.drop1 (Imp.trans Imp.drop1 (Imp.drop1)))))
  | true =>
    have hn64 := need64 hr
    refine ent_call (ar_new hr d freshD hn64 fresh_ok (by rw [open_fresh])) (by (repeat (first | refine Imp.pick 0 rfl ?_ | refine Imp.pick 4 rfl ?_)); exact Imp.refl _) fun z => ?_
    obtain ⟨x0, y0⟩ := z
    dsimp only
    rw [open_fresh]
    refine Ent.at 2 rfl (Ent.pure fun hx0 => ?_)
    rw [hx0]
    (repeat refine ent_p (fun _ => run_ex rfl) ?_)
    refine ent_q ((run_ne _ _).F (by omega)) ?_
    (repeat refine ent_ifF ?_)
    refine Ent.imp (L' := ro w0 lv 12 xs.length (actsV xs) :: arH w0 x0 c (Ar.new c freshD y0) :: dkH w0 d 64 freshD :: pt cb 25 (cfgL c) :: adatH w0 xs :: F) (by (repeat (first | refine Imp.pick 0 rfl ?_ | refine Imp.pick 1 rfl ?_ | refine Imp.pick 4 rfl ?_)); exact Imp.drop1) ?_
    refine ent_q (run_lenR 0 rfl) ?_
    refine Ent.ro fun aa ca Ra hav hal hard => ?_
    subst hav
    have hD0 : (Ar.new c freshD y0).D = freshD := by show ((shOf c).open freshD).2 = _; rw [open_fresh]
    refine ent_loop (ι := Nat × Ar) (fun s => s.1 ≤ xs.length ∧ ArOk c 64 (2 * s.1) s.2 ∧ BdI c s.2.S) (fun s => [.int .i64 (s.1 : Nat), .bool false])
      (fun s => arH w0 x0 c s.2 :: dkH w0 d 64 s.2.D :: pt cb 25 (cfgL c) :: Ra :: adatH w0 xs :: F) (fun s => xs.length - s.1)
      (0, Ar.new c freshD y0) ⟨Nat.zero_le _, new_ok hr fresh_ok hn64 y0, BdI.new c y0⟩ rfl (by dsimp only; rw [hD0]; exact (by (repeat (first | refine Imp.pick 0 rfl ?_ | refine Imp.pick 1 rfl ?_ | refine Imp.pick 2 rfl ?_)); exact Imp.drop1)) ?_
    rintro ⟨i, A⟩ ⟨hi, hok, hI⟩ g next hnext
    dsimp only at hi hok hI hnext ⊢
    show Ent w0 _ (hV P (binOp .lss 3 (.int .i64 (i : Nat)) (.int .i64 (xs.length : Nat))) _)
    refine ent_qb (run_lt _ _) (fun h => ?_) (fun h => ?_)
    rotate_left
    · refine ent_ifF ?_
      exact ent_ret () rfl (by exact Imp.trans Imp.drop1 (Imp.trans Imp.drop1 (Imp.trans Imp.drop1 (Imp.trans Imp.drop1 (Imp.drop1)))))
    have hix : i < xs.length := by omega
    have ga : xs[i]? = some xs[i] := List.getElem?_eq_getElem hix
    generalize xs[i] = e at ga
    obtain ⟨⟨fuse, y⟩, yv⟩ := e
    refine ent_ifT ?_
    refine Ent.at 4 rfl (Ent.imp (Imp.adatGet ga) ?_)
    refine Ent.ro1 fun hyv => ?_
    refine Ent.imp (L' := roB w0 yv y.data :: Ra :: arH w0 x0 c A :: dkH w0 d 64 A.D :: pt cb 25 (cfgL c) :: adatH w0 xs :: F) (by (repeat (first | refine Imp.pick 0 rfl ?_ | refine Imp.pick 1 rfl ?_ | refine Imp.pick 4 rfl ?_)); exact Imp.refl _) ?_
    obtain ⟨b1, o1, rfl, hc1⟩ := RdS.cellA (hard (roB w0 yv y.data :: Ra :: arH w0 x0 c A :: dkH w0 d 64 A.D :: pt cb 25 (cfgL c) :: adatH w0 xs :: F) 1 rfl) ga
    refine ent_q (run_indexS i rfl hix) ?_
    refine ent_q (run_loadA (vs := .int .i64 fuse :: msgL y yv) rfl (fun j' v hj' => hc1 j' v hj')) ?_
    refine ent_alloc fun yb => ?_
    have hone : ∀ u ∈ (Value.int .i64 fuse :: msgL y yv), u.oneCell' = true := by
      intro u hu
      rcases List.mem_cons.1 hu with rfl | hu
      · rfl
      · exact msgL_one hyv u hu
    refine ent_sa0 (vs := .int .i64 fuse :: msgL y yv) rfl hone (Nat.le_refl 12) (l' := .int .i64 fuse :: msgL y yv) rfl ?_
    refine Ent.imp (L' := pt yb 39 (.int .i64 fuse :: msgL y yv) :: roB w0 yv y.data :: arH w0 x0 c A :: dkH w0 d 64 A.D :: pt cb 25 (cfgL c) :: Ra :: adatH w0 xs :: F) (by (repeat (first | refine Imp.pick 0 rfl ?_ | refine Imp.pick 1 rfl ?_)); exact Imp.refl _) ?_
    exact bound_step c hr d cb i (by omega) (Ra :: adatH w0 xs :: F) x0 A hx0 hok hI fuse yb next (fun v w' => ∃ _ : Unit, v = Value.bool true ∧ Sat w0 ([] ++ F) w') y yv
      (fun A' h1 h2 => hnext (i + 1, A') ⟨by dsimp only; omega, h1, h2⟩ (by dsimp only; omega))
end
end Go.Gd
