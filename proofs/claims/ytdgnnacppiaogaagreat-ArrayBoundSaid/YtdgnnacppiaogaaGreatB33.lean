/- The contracts of package store, sixth part: Open, Write. Conditions: those in the theorems. -/
import Derived.Test.YtdgnnacppiaogaaGreatB32
import Derived.Test.YtdgnnacppiaogaaGreatB26
set_option linter.unusedVariables false
set_option linter.unusedSimpArgs false
namespace Go.Gd
open Go.Instr
attribute [local irreducible] loadAt storeAt fieldAt indexAt alloc box build buildSlice hNil eqG binOp Op.unary extract makeSlice makeInterface makeFunc convert hV mV pV hU hF hFV hIf hGuard hPick hJ hDraw hLoop ro Instr.index dkH stI
theorem rText_ok {l : List UInt8} {size : Nat} {x : Rd} (h : (rText l size x).2.ok = true) : (rText l size x).1.length = size := by
  unfold rText at h ⊢
  split
  · rename_i h2
    rw [if_pos h2] at h
    simp only [Bool.and_eq_true, decide_eq_true_eq] at h
    exact h.2.1
  · rename_i h2
    rw [if_neg h2] at h
    exact absurd h h2
theorem jrn_data {sh : Shp} {l : List UInt8} (h : sh.jrnIs l) : (jrnW sh.size l).data.length = sh.size := rText_ok h.1
section
variable {w0 : World} {L : List HP}
theorem Imp.stF {s d : Nat} {sh : Shp} : Imp (ptI s 159 [.int .i64 (sh.blocks : Nat), .int .i64 (sh.size : Nat), .int .i64 (sh.clients : Nat), .int .i64 (sh.slots : Nat), P0 d] :: L) (stI s d sh :: L) := by
  unfold stI; exact Imp.refl _
theorem st_open (d : Nat) (sh : Shp) (n : Nat) (D : Dk) (hs : sh.Ok) (hn : sh.need ≤ n) (hD : D.Ok) :
    Spec w0 47 [P0 d, shV sh] [dkH w0 d n D] (fun s : Nat => .tuple #[if (sh.open D).1 = 0 then P0 s else .pointer none, .int .i64 (sh.open D).1]) (fun s => [stI s d sh, dkH w0 d n (sh.open D).2]) := by
  refine spec_go (fun R w => H47) fun F => ?_
  show Ent w0 (dkH w0 d n D :: F) _
  have hn' := hn
  unfold Shp.need at hn'
  have h2 := hs.size
  unfold F47
  refine ent_box fun sb => ?_
  rw [agg_cells, List.toList_toArray]
  (repeat (first | refine ent_ifF ?_ | refine ent_q (run_eqpS _) ?_))
  refine ent_draw [pt sb 102 (shL sh)] (by (repeat refine Imp.pick 0 rfl ?_); exact Imp.nil) ?_
  refine ent_m (run_loadA (vs := shL sh) rfl (cells_all 0 rfl)) ?_
  refine ent_call (st_right sh hs) (Imp.refl _) fun _ => ?_
  refine ent_and (by (repeat refine Imp.pick 0 rfl ?_); exact Imp.nil) ?_
  (repeat (first | refine ent_gT ?_ | refine ent_p (fun _ => run_notT) ?_ | refine ent_j ?_))
  refine ent_m (run_loadA (vs := shL sh) rfl (cells_all 0 rfl)) ?_
  refine ent_call (sec_len d n D (by omega)) (by (repeat refine Imp.pick 1 rfl ?_); exact Imp.refl _) fun _ => ?_
  refine ent_and (by (repeat refine Imp.pick 1 rfl ?_); exact Imp.nil) ?_
  refine ent_call (st_need sh hs) (Imp.refl _) fun _ => ?_
  refine ent_and (by (repeat refine Imp.pick 1 rfl ?_); exact Imp.nil) ?_
  refine ent_p (fun _ => (run_lt _ _).F (by omega)) ?_
  (repeat (first | refine ent_ifF ?_ | refine ent_pF ?_))
  refine ent_q (run_loadA (vs := shL sh) rfl (cells_all 1 rfl)) ?_
  refine ent_q (bd159_0_1 rfl) ?_
  refine ent_box fun s => ?_
  rw [agg_cells, List.toList_toArray]
  refine Ent.freeze (Ent.imp Imp.stF (Ent.dup (Pers.st s d sh) ?_))
  generalize hq : decide (sh.jrnIs (D.l 0)) = q
  refine ent_call (st_journal s d sh n D hs hn hD q hq.symm) (by (repeat (first | refine Imp.pick 0 rfl ?_ | refine Imp.pick 1 rfl ?_)); exact Imp.refl _) fun tv => ?_
  refine Ent.ro1 fun htv => ?_
  (repeat refine ent_q (run_ex rfl) ?_)
  refine ent_alloc fun wb => ?_
  refine ent_sa0 (vs := wrL (jrnW sh.size (D.l 0)) tv) rfl (wone htv) (Nat.le_refl 6) rfl ?_
  have hop : sh.open D = if sh.jrnIs (D.l 0) then sh.does (jrnW sh.size (D.l 0)) (jrnV (D.l 0)) D else (0, D) := rfl
  cases q with
  | false =>
    have hj : ¬ sh.jrnIs (D.l 0) := of_decide_eq_false hq
    rw [if_neg hj] at hop
    rw [hop]
    (repeat refine ent_ifF ?_)
    exact ent_ret s rfl (by (repeat refine Imp.pick 2 rfl ?_); exact Imp.trans Imp.drop1 (Imp.trans Imp.drop1 (Imp.trans Imp.drop1 (Imp.drop1))))
  | true =>
    have hj : sh.jrnIs (D.l 0) := of_decide_eq_true hq
    rw [if_pos hj] at hop
    rw [hop]
    have hdl := jrn_data hj
    obtain ⟨j1, j2, j3, j4, j5⟩ := hj
    have hb0 : 0 ≤ (jrnW sh.size (D.l 0)).block := Int.natCast_nonneg _
    generalize jrnW sh.size (D.l 0) = W at *
    generalize jrnV (D.l 0) = V at *
    (repeat refine ent_ifT ?_)
    refine ent_q (run_loadA (vs := wrL W tv) rfl (cells_all 0 rfl)) ?_
    refine ent_call (st_does s d sh n D hs W tv V htv j2 ⟨hb0, j3⟩ (by omega) (by omega) hn hD) (by (repeat (first | refine Imp.pick 1 rfl ?_ | refine Imp.pick 2 rfl ?_)); exact Imp.refl _) fun _ => ?_
    by_cases he : (sh.does W V D).1 = 0
    · refine ent_q ((run_ne _ _).F (by omega)) ?_
      (repeat refine ent_ifF ?_)
      refine ent_ret s (by rw [if_pos he, he]) (by (repeat (first | refine Imp.pick 0 rfl ?_ | refine Imp.pick 2 rfl ?_)); exact Imp.trans Imp.drop1 (Imp.drop1))
    · refine ent_q ((run_ne _ _).T he) ?_
      (repeat refine ent_ifT ?_)
      refine ent_ret s (by rw [if_neg he]) (by (repeat (first | refine Imp.pick 0 rfl ?_ | refine Imp.pick 2 rfl ?_)); exact Imp.trans Imp.drop1 (Imp.drop1))
set_option maxHeartbeats 2000000 in
theorem st_write (s d : Nat) (sh : Shp) (n : Nat) (D : Dk) (hs : sh.Ok) (w : Wr) (dv : Value) (hdv : dv.oneCell' = true) (hdl : w.data.length ≤ 1000) (hn : sh.need ≤ n) (hD : D.Ok) :
    Spec w0 104 [P0 s, .agg (wrL w dv).toArray] [stI s d sh, dkH w0 d n D, roB w0 dv w.data] (fun _ : Unit => .tuple #[.int .i64 (sh.write w D).1, .int .i64 (sh.write w D).2.1]) (fun _ => [dkH w0 d n (sh.write w D).2.2]) := by
  obtain ⟨client, slot, boot, op, block, data⟩ := w
  dsimp only at hdl
  have h1 := hs.clients; have h2 := hs.slots; have h3 := hs.blocks; have h4 := hs.size
  refine spec_go (fun R w => H104) fun F => ?_
  show Ent w0 (stI s d sh :: dkH w0 d n D :: roB w0 dv data :: F) _
  generalize hWW : sh.write ⟨client, slot, boot, op, block, data⟩ D = WW
  unfold Shp.write at hWW
  dsimp only at hWW
  unfold F104
  refine ent_box fun wb => ?_
  rw [agg_cells, List.toList_toArray]
  unfold wrL
  refine Ent.at 1 rfl (Ent.dup (Pers.st s d sh) ?_)
  conv => lhs; arg 1; unfold stI
  (repeat (first | refine ent_ifF ?_ | refine ent_q (run_eqpS _) ?_))
  refine ent_draw [ptI s 159 [.int .i64 (sh.blocks : Nat), .int .i64 (sh.size : Nat), .int .i64 (sh.clients : Nat), .int .i64 (sh.slots : Nat), P0 d], pt wb 161 [.int .i64 client, .int .i64 slot, .int .i64 boot, .int .i64 op, .int .i64 block, dv]] (by (repeat (first | refine Imp.pick 0 rfl ?_ | refine Imp.pick 1 rfl ?_)); exact Imp.nil) ?_
  (repeat (first | refine ent_p (fun _ => run_field0 _) ?_ | refine ent_m (run_load (cell_own 1 rfl rfl)) ?_))
  refine ent_pb (fun _ => run_lt _ _) (fun c1 => ?_) (fun c1 => ?_)
  · rw [if_pos (.inl c1)] at hWW
    subst hWW
    (repeat (first | refine ent_ifT ?_ | refine ent_gF' ?_ | refine ent_pT ?_ | refine ent_j ?_))
    exact ent_ret () rfl (by (repeat refine Imp.pick 3 rfl ?_); exact Imp.trans Imp.drop1 (Imp.trans Imp.drop1 (Imp.trans Imp.drop1 (Imp.drop1))))
  (repeat (first | refine ent_p (fun _ => run_nil _) ?_ | refine ent_p (fun _ => run_fieldZ _ _) ?_ | refine ent_p (fun _ => run_field0 _) ?_ | refine ent_gT ?_ | refine ent_j ?_ | refine ent_m (run_load (cell_own 1 rfl rfl)) ?_ | refine ent_m (run_load (cell_imm 0 rfl rfl)) ?_))
  refine ent_pb (fun _ => run_ge _ _) (fun c2 => ?_) (fun c2 => ?_)
  · rw [if_pos (.inr c2)] at hWW
    subst hWW
    (repeat (first | refine ent_ifT ?_ | refine ent_pF ?_))
    exact ent_ret () rfl (by (repeat refine Imp.pick 3 rfl ?_); exact Imp.trans Imp.drop1 (Imp.trans Imp.drop1 (Imp.trans Imp.drop1 (Imp.drop1))))
  rw [if_neg (by omega)] at hWW
  (repeat (first | refine ent_ifF ?_ | refine ent_pF ?_))
  refine ent_draw [ptI s 159 [.int .i64 (sh.blocks : Nat), .int .i64 (sh.size : Nat), .int .i64 (sh.clients : Nat), .int .i64 (sh.slots : Nat), P0 d], pt wb 161 [.int .i64 client, .int .i64 slot, .int .i64 boot, .int .i64 op, .int .i64 block, dv], roB w0 dv data] (by (repeat (first | refine Imp.pick 0 rfl ?_ | refine Imp.pick 1 rfl ?_ | refine Imp.pick 2 rfl ?_)); exact Imp.nil) ?_
  (repeat (first | refine ent_p (fun _ => run_field0 _) ?_ | refine ent_m (run_load (cell_own 1 rfl rfl)) ?_))
  refine ent_m (run_lenR 2 rfl) ?_
  (repeat (first | refine ent_p (fun _ => run_nil _) ?_ | refine ent_p (fun _ => run_fieldZ _ _) ?_ | refine ent_p (fun _ => run_field0 _) ?_ | refine ent_m (run_load (cell_imm 0 rfl rfl)) ?_))
  refine ent_pb (fun _ => run_ne _ _) (fun c3 => ?_) (fun c3 => ?_)
  · rw [if_pos (by omega)] at hWW
    subst hWW
    (repeat refine ent_ifT ?_)
    exact ent_ret () rfl (by (repeat refine Imp.pick 3 rfl ?_); exact Imp.trans Imp.drop1 (Imp.trans Imp.drop1 (Imp.trans Imp.drop1 (Imp.drop1))))
  rw [if_neg (by omega)] at hWW
  (repeat refine ent_ifF ?_)
  refine ent_draw [ptI s 159 [.int .i64 (sh.blocks : Nat), .int .i64 (sh.size : Nat), .int .i64 (sh.clients : Nat), .int .i64 (sh.slots : Nat), P0 d], pt wb 161 [.int .i64 client, .int .i64 slot, .int .i64 boot, .int .i64 op, .int .i64 block, dv]] (by (repeat (first | refine Imp.pick 0 rfl ?_ | refine Imp.pick 1 rfl ?_)); exact Imp.nil) ?_
  (repeat (first | refine ent_p (fun _ => run_nil _) ?_ | refine ent_p (fun _ => run_fieldZ _ _) ?_))
  refine ent_m (run_loadA (vs := shL sh) rfl (cells_immP (rest := [P0 d]) 0 rfl)) ?_
  refine ent_m (run_loadA (vs := wrL ⟨client, slot, boot, op, block, data⟩ dv) rfl (cells_all 1 rfl)) ?_
  refine ent_call (st_fits sh ⟨client, slot, boot, op, block, data⟩ dv) (Imp.refl _) fun _ => ?_
  by_cases hf : sh.fits ⟨client, slot, boot, op, block, data⟩
  rotate_left
  · rw [if_pos hf] at hWW
    subst hWW
    rw [decide_eq_false hf]
    (repeat (first | refine ent_ifT ?_ | refine ent_p (fun _ => run_notF) ?_))
    exact ent_ret () rfl (by (repeat refine Imp.pick 3 rfl ?_); exact Imp.trans Imp.drop1 (Imp.trans Imp.drop1 (Imp.trans Imp.drop1 (Imp.drop1))))
  rw [if_neg (by simpa using hf)] at hWW
  rw [decide_eq_true hf]
  have hf' := hf
  obtain ⟨f1, f2, f3, f4, f5, f6, f7, f8⟩ := hf'
  dsimp only at f1 f2 f3 f4 f5 f6 f7 f8
  obtain ⟨c, rfl⟩ := Int.eq_ofNat_of_zero_le f1
  obtain ⟨k, rfl⟩ := Int.eq_ofNat_of_zero_le f3
  obtain ⟨bo, rfl⟩ := Int.eq_ofNat_of_zero_le (show 0 ≤ boot by omega)
  obtain ⟨o, rfl⟩ := Int.eq_ofNat_of_zero_le (show 0 ≤ op by omega)
  obtain ⟨b, rfl⟩ := Int.eq_ofNat_of_zero_le (show 0 ≤ block by omega)
  simp only [Int.toNat_natCast] at hWW
  (repeat (first | refine ent_q (run_fieldZ _ _) ?_ | refine ent_q (run_field0 _) ?_ | refine ent_ifF ?_ | refine ent_p (fun _ => run_notT) ?_ | refine ent_q (run_load (cell_own 2 rfl rfl)) ?_))
  refine ent_call (st_last s d sh n D hs c k (by omega) (by omega) hn hD) (by (repeat (first | refine Imp.pick 1 rfl ?_ | refine Imp.pick 2 rfl ?_)); exact Imp.refl _) fun _ => ?_
  (repeat (first | refine ent_q (run_field0 _) ?_ | refine ent_q (run_ex rfl) ?_ | refine ent_q (run_load (cell_own 3 rfl rfl)) ?_))
  refine ent_call (st_blk s d sh n D hs b (by omega) hn hD) (by (repeat refine Imp.pick 0 rfl ?_); exact Imp.refl _) fun bv => ?_
  have hver := blk_ver (sh := sh) D b
  generalize (sh.blk D b).1 = ver at *
  generalize sh.last D c k = la at *
  obtain ⟨lb, lo, lc⟩ := la
  dsimp only at hWW ⊢
  refine Ent.imp (L' := ptI s 159 [.int .i64 (sh.blocks : Nat), .int .i64 (sh.size : Nat), .int .i64 (sh.clients : Nat), .int .i64 (sh.slots : Nat), P0 d] :: pt wb 161 [.int .i64 (c : Nat), .int .i64 (k : Nat), .int .i64 (bo : Nat), .int .i64 (o : Nat), .int .i64 (b : Nat), dv] :: roB w0 dv data :: stI s d sh :: dkH w0 d n D :: F) (by (repeat (first | refine Imp.pick 1 rfl ?_ | refine Imp.pick 3 rfl ?_)); exact Imp.drop1) ?_
  (repeat (first | refine ent_q (run_field0 _) ?_ | refine ent_q (run_ex rfl) ?_ | refine ent_q (run_load (cell_own 1 rfl rfl)) ?_))
  refine ent_qb (run_lt _ _) (fun c4 => ?_) (fun c4 => ?_)
  · rw [if_pos (by omega)] at hWW
    subst hWW
    (repeat (first | refine ent_ifT ?_ | refine ent_gF' ?_ | refine ent_gU ?_ | refine ent_pT ?_ | refine ent_j ?_))
    exact ent_ret () rfl (by (repeat refine Imp.pick 4 rfl ?_); exact Imp.trans Imp.drop1 (Imp.trans Imp.drop1 (Imp.trans Imp.drop1 (Imp.drop1))))
  (repeat (first | refine ent_q (run_field0 _) ?_ | refine ent_gT ?_ | refine ent_j ?_ | refine ent_q (run_load (cell_own 1 rfl rfl)) ?_))
  refine ent_qb (run_eq _ _) (fun c5 => ?_) (fun c5 => ?_)
  · (repeat (first | refine ent_q (run_field0 _) ?_ | refine ent_gT ?_ | refine ent_j ?_ | refine ent_q (run_load (cell_own 1 rfl rfl)) ?_))
    refine ent_qb (run_lt _ _) (fun c6 => ?_) (fun c6 => ?_)
    · rw [if_pos (by omega)] at hWW
      subst hWW
      (repeat (first | refine ent_ifT ?_ | refine ent_gT ?_ | refine ent_pT ?_ | refine ent_pF ?_))
      exact ent_ret () rfl (by (repeat refine Imp.pick 4 rfl ?_); exact Imp.trans Imp.drop1 (Imp.trans Imp.drop1 (Imp.trans Imp.drop1 (Imp.drop1))))
    · rw [if_neg (by omega)] at hWW
      (repeat (first | refine ent_q (run_field0 _) ?_ | refine ent_ifF ?_ | refine ent_gT ?_ | refine ent_pT ?_ | refine ent_pF ?_ | refine ent_q (run_load (cell_own 1 rfl rfl)) ?_))
      refine ent_q ((run_eq _ _).T c5) ?_
      (repeat (first | refine ent_q (run_field0 _) ?_ | refine ent_gT ?_ | refine ent_j ?_ | refine ent_q (run_load (cell_own 1 rfl rfl)) ?_))
      refine ent_qb (run_eq _ _) (fun c7 => ?_) (fun c7 => ?_)
      · rw [if_pos (by omega)] at hWW
        subst hWW
        (repeat (first | refine ent_ifT ?_ | refine ent_pT ?_))
        exact ent_ret () rfl (by (repeat refine Imp.pick 4 rfl ?_); exact Imp.trans Imp.drop1 (Imp.trans Imp.drop1 (Imp.trans Imp.drop1 (Imp.drop1))))
      · rw [if_neg (by omega)] at hWW
        (repeat (first | refine ent_ifF ?_ | refine ent_pT ?_))
        exact (by
        refine ent_qb (run_eq _ _) (fun c8 => ?_) (fun c8 => ?_)
        · rw [if_pos (by omega)] at hWW
          have hsl := slot_lt (n := n) (show c < sh.clients by omega) (show k < sh.slots by omega) hn
          have hl2 : (nums [bo, o, 11]).length ≤ 64 := len_slot (by omega) (by omega) (by omega)
          (repeat refine ent_ifT ?_)
          refine ent_draw [ptI s 159 [.int .i64 (sh.blocks : Nat), .int .i64 (sh.size : Nat), .int .i64 (sh.clients : Nat), .int .i64 (sh.slots : Nat), P0 d], pt wb 161 [.int .i64 (c : Nat), .int .i64 (k : Nat), .int .i64 (bo : Nat), .int .i64 (o : Nat), .int .i64 (b : Nat), dv]] (by (repeat refine Imp.pick 0 rfl ?_); exact Imp.nil) ?_
          (repeat (first | refine ent_p (fun _ => run_nil _) ?_ | refine ent_p (fun _ => run_fieldZ _ _) ?_ | refine ent_p (fun _ => run_field0 _) ?_ | refine ent_m (run_load (cell_imm 0 rfl rfl)) ?_))
          refine ent_m (run_loadA (vs := shL sh) rfl (cells_immP (rest := [P0 d]) 0 rfl)) ?_
          (repeat (first | refine ent_p (fun _ => run_fieldZ _ _) ?_ | refine ent_p (fun _ => run_field0 _) ?_ | refine ent_j ?_ | refine ent_m (run_load (cell_own 1 rfl rfl)) ?_))
          have fin : ∀ v : Value, Ent w0 (roB w0 v (nums [bo, o, 11]) :: ptI s 159 [.int .i64 (sh.blocks : Nat), .int .i64 (sh.size : Nat), .int .i64 (sh.clients : Nat), .int .i64 (sh.slots : Nat), P0 d] :: pt wb 161 [.int .i64 (c : Nat), .int .i64 (k : Nat), .int .i64 (bo : Nat), .int .i64 (o : Nat), .int .i64 (b : Nat), dv] :: dkH w0 d n D :: F) (hF P 159 #[P0 d, .int .i64 (sh.slotAt c k : Nat), v] fun t117 => hAnd (Sat w0 [ptI s 159 [.int .i64 (sh.blocks : Nat), .int .i64 (sh.size : Nat), .int .i64 (sh.clients : Nat), .int .i64 (sh.slots : Nat), P0 d], pt wb 161 [.int .i64 (c : Nat), .int .i64 (k : Nat), .int .i64 (bo : Nat), .int .i64 (o : Nat), .int .i64 (b : Nat), dv]]) <| hV P (eqG true .neq 32 t117 (.int .i64 0)) fun t119 =>
              hIf t119 ((fun v w' => ∃ _ : Unit, v = Value.tuple #[.int .i64 WW.1, .int .i64 WW.2.1] ∧ Sat w0 ([dkH w0 d n WW.2.2] ++ F) w') (.tuple #[(.int .i64 0), t117])) ((fun v w' => ∃ _ : Unit, v = Value.tuple #[.int .i64 WW.1, .int .i64 WW.2.1] ∧ Sat w0 ([dkH w0 d n WW.2.2] ++ F) w') (.tuple #[(.int .i64 11), (.int .i64 0)]))) := by
            intro v
            refine ent_call (sec_write d n D (sh.slotAt c k) v (nums [bo, o, 11]) hsl hl2 hD.fuse) (by (repeat (first | refine Imp.pick 0 rfl ?_ | refine Imp.pick 3 rfl ?_)); exact Imp.refl _) fun _ => ?_
            refine ent_and (by (repeat refine Imp.pick 1 rfl ?_); exact Imp.nil) ?_
            by_cases he : (D.write (sh.slotAt c k) (nums [bo, o, 11])).1 = 0
            · rw [if_neg (by omega)] at hWW
              subst hWW
              refine ent_q ((run_ne _ _).F (by omega)) ?_
              (repeat refine ent_ifF ?_)
              exact ent_ret () (by rw [he]) (by (repeat refine Imp.pick 0 rfl ?_); exact Imp.trans Imp.drop1 (Imp.drop1))
            · rw [if_pos he] at hWW
              subst hWW
              refine ent_q ((run_ne _ _).T he) ?_
              (repeat refine ent_ifT ?_)
              exact ent_ret () rfl (by (repeat refine Imp.pick 0 rfl ?_); exact Imp.trans Imp.drop1 (Imp.drop1))
          refine ent_and2 ?_ ?_
          · refine ent_call (st_slotAt sh hs c k (by omega) (by omega)) (Imp.refl _) fun _ => ?_
            refine ent_and (by (repeat refine Imp.pick 0 rfl ?_); exact Imp.nil) ?_
            refine ent_bs (zs := [.int .i64 0]) rfl (n := 3) (parts := [(0, .int .i64 (bo : Nat)), (1, .int .i64 (o : Nat)), (2, .int .i64 11)]) (cs := [.int .i64 (bo : Nat), .int .i64 (o : Nat), .int .i64 11]) (by simp) rfl fun b18 => ?_
            refine ent_and (by (repeat refine Imp.pick 1 rfl ?_); exact Imp.nil) ?_
            refine ent_call (st_numbers b18 [bo, o, 11] (by simp) (by simp; omega)) (by (repeat refine Imp.pick 0 rfl ?_); exact Imp.refl _) fun v19 => ?_
            refine ent_and (by (repeat refine Imp.pick 1 rfl ?_); exact Imp.nil) ?_
            exact Ent.imp (by (repeat (first | refine Imp.pick 0 rfl ?_ | refine Imp.pick 2 rfl ?_)); exact Imp.trans Imp.drop1 (Imp.drop1)) (fin v19)
          · refine ent_bs (zs := [.int .i64 0]) rfl (n := 3) (parts := [(0, .int .i64 (bo : Nat)), (1, .int .i64 (o : Nat)), (2, .int .i64 11)]) (cs := [.int .i64 (bo : Nat), .int .i64 (o : Nat), .int .i64 11]) (by simp) rfl fun b18 => ?_
            refine ent_and (by (repeat refine Imp.pick 1 rfl ?_); exact Imp.nil) ?_
            refine ent_call (st_slotAt sh hs c k (by omega) (by omega)) (Imp.refl _) fun _ => ?_
            refine ent_and (by (repeat refine Imp.pick 1 rfl ?_); exact Imp.nil) ?_
            refine ent_call (st_numbers b18 [bo, o, 11] (by simp) (by simp; omega)) (by (repeat refine Imp.pick 0 rfl ?_); exact Imp.refl _) fun v19 => ?_
            refine ent_and (by (repeat refine Imp.pick 1 rfl ?_); exact Imp.nil) ?_
            exact Ent.imp (by (repeat (first | refine Imp.pick 0 rfl ?_ | refine Imp.pick 2 rfl ?_)); exact Imp.trans Imp.drop1 (Imp.drop1)) (fin v19)
        · rw [if_neg (by omega)] at hWW
          have hjl : (jrnB ⟨(c : Nat), (k : Nat), (bo : Nat), (o : Nat), (b : Nat), data⟩ (ver + 1)).length ≤ 64 := len_jrn hs hf (by omega) (by dsimp only; omega) (by dsimp only; omega)
          have hjb : jrnB ⟨(c : Nat), (k : Nat), (bo : Nat), (o : Nat), (b : Nat), data⟩ (ver + 1) = txt (nums [c, k, bo, o, b, ver + 1]) data := rfl
          rw [hjb] at hWW hjl
          (repeat refine ent_ifF ?_)
          refine ent_draw [ptI s 159 [.int .i64 (sh.blocks : Nat), .int .i64 (sh.size : Nat), .int .i64 (sh.clients : Nat), .int .i64 (sh.slots : Nat), P0 d], pt wb 161 [.int .i64 (c : Nat), .int .i64 (k : Nat), .int .i64 (bo : Nat), .int .i64 (o : Nat), .int .i64 (b : Nat), dv]] (by (repeat refine Imp.pick 0 rfl ?_); exact Imp.nil) ?_
          (repeat (first | refine ent_p (fun _ => run_fieldZ _ _) ?_ | refine ent_p (fun _ => run_field0 _) ?_ | refine ent_m (run_load (cell_own 1 rfl rfl)) ?_))
          refine ent_p (fun _ => run_add64 (by omega)) ?_
          rw [show ((ver : Nat) : Int) + 1 = ((ver + 1 : Nat) : Int) by omega]
          (repeat (first | refine ent_p (fun _ => run_field0 _) ?_ | refine ent_m (run_load (cell_own 1 rfl rfl)) ?_))
          refine ent_bs (zs := [.int .i64 0]) rfl (n := 6) (parts := [(0, .int .i64 (c : Nat)), (1, .int .i64 (k : Nat)), (2, .int .i64 (bo : Nat)), (3, .int .i64 (o : Nat)), (4, .int .i64 (b : Nat)), (5, .int .i64 ((ver + 1 : Nat) : Int))]) (cs := [.int .i64 (c : Nat), .int .i64 (k : Nat), .int .i64 (bo : Nat), .int .i64 (o : Nat), .int .i64 (b : Nat), .int .i64 ((ver + 1 : Nat) : Int)]) (by simp) rfl fun b18 => ?_
          refine ent_and (by (repeat refine Imp.pick 1 rfl ?_); exact Imp.nil) ?_
          refine ent_call (st_numbers b18 [c, k, bo, o, b, ver + 1] (by simp) (by simp; omega)) (by (repeat refine Imp.pick 0 rfl ?_); exact Imp.refl _) fun v10 => ?_
          refine ent_and (by (repeat refine Imp.pick 1 rfl ?_); exact Imp.nil) ?_
          have hnl : (nums [c, k, bo, o, b, ver + 1]).length ≤ 9 * 6 := nums_len (l := [c, k, bo, o, b, ver + 1]) (by simp; omega)
          refine Ent.at 3 rfl (Ent.roDup ?_)
          refine ent_call (raw_putText v10 dv (nums [c, k, bo, o, b, ver + 1]) data (by omega) (by omega)) (by (repeat (first | refine Imp.pick 0 rfl ?_ | refine Imp.pick 2 rfl ?_)); exact Imp.refl _) fun v13 => ?_
          refine ent_and (by (repeat refine Imp.pick 2 rfl ?_); exact Imp.nil) ?_
          refine Ent.vecRo ?_
          refine Ent.imp (L' := ptI s 159 [.int .i64 (sh.blocks : Nat), .int .i64 (sh.size : Nat), .int .i64 (sh.clients : Nat), .int .i64 (sh.slots : Nat), P0 d] :: pt wb 161 [.int .i64 (c : Nat), .int .i64 (k : Nat), .int .i64 (bo : Nat), .int .i64 (o : Nat), .int .i64 (b : Nat), dv] :: roB w0 v13 (txt (nums [c, k, bo, o, b, ver + 1]) data) :: roB w0 dv data :: stI s d sh :: dkH w0 d n D :: F) (by (repeat (first | refine Imp.pick 0 rfl ?_ | refine Imp.pick 2 rfl ?_)); exact Imp.refl _) ?_
          (repeat (first | refine ent_q (run_nil _) ?_ | refine ent_q (run_field0 _) ?_ | refine ent_q (run_load (cell_imm 0 rfl rfl)) ?_))
          refine ent_call (sec_write d n D 0 v13 _ (by unfold Shp.need at hn; omega) hjl hD.fuse) (by (repeat (first | refine Imp.pick 2 rfl ?_ | refine Imp.pick 5 rfl ?_)); exact Imp.refl _) fun _ => ?_
          have hD1 := hD.write (a := 0) hjl
          by_cases he : (D.write 0 (txt (nums [c, k, bo, o, b, ver + 1]) data)).1 = 0
          · rw [if_neg (by omega)] at hWW
            refine ent_q ((run_ne _ _).F (by omega)) ?_
            (repeat refine ent_ifF ?_)
            refine ent_q (run_loadA (vs := wrL ⟨(c : Nat), (k : Nat), (bo : Nat), (o : Nat), (b : Nat), data⟩ dv) rfl (cells_all 2 rfl)) ?_
            refine ent_q (run_add64 (by omega)) ?_
            rw [show ((ver : Nat) : Int) + 1 = ((ver + 1 : Nat) : Int) by omega]
            refine ent_call (st_does s d sh n _ hs ⟨(c : Nat), (k : Nat), (bo : Nat), (o : Nat), (b : Nat), data⟩ dv (ver + 1) hdv hf (by dsimp only; omega) (by omega) (by dsimp only; omega) hn hD1) (by (repeat (first | refine Imp.pick 0 rfl ?_ | refine Imp.pick 2 rfl ?_ | refine Imp.pick 4 rfl ?_)); exact Imp.refl _) fun _ => ?_
            subst hWW
            exact ent_ret () rfl (by (repeat refine Imp.pick 0 rfl ?_); exact Imp.trans Imp.drop1 (Imp.drop1))
          · rw [if_pos he] at hWW
            subst hWW
            refine ent_q ((run_ne _ _).T he) ?_
            (repeat refine ent_ifT ?_)
            exact ent_ret () rfl (by (repeat refine Imp.pick 0 rfl ?_); exact Imp.trans Imp.drop1 (Imp.trans Imp.drop1 (Imp.trans Imp.drop1 (Imp.drop1)))))
  · rw [if_neg (by omega), if_neg (by omega)] at hWW
    (repeat (first | refine ent_q (run_field0 _) ?_ | refine ent_ifF ?_ | refine ent_gT ?_ | refine ent_gF ?_ | refine ent_pF ?_ | refine ent_j ?_ | refine ent_q (run_load (cell_own 1 rfl rfl)) ?_))
    refine ent_q ((run_eq _ _).F c5) ?_
    (repeat (first | refine ent_ifF ?_ | refine ent_gF ?_ | refine ent_pF ?_ | refine ent_j ?_))
    exact (by
    refine ent_qb (run_eq _ _) (fun c8 => ?_) (fun c8 => ?_)
    · rw [if_pos (by omega)] at hWW
      have hsl := slot_lt (n := n) (show c < sh.clients by omega) (show k < sh.slots by omega) hn
      have hl2 : (nums [bo, o, 11]).length ≤ 64 := len_slot (by omega) (by omega) (by omega)
      (repeat refine ent_ifT ?_)
      refine ent_draw [ptI s 159 [.int .i64 (sh.blocks : Nat), .int .i64 (sh.size : Nat), .int .i64 (sh.clients : Nat), .int .i64 (sh.slots : Nat), P0 d], pt wb 161 [.int .i64 (c : Nat), .int .i64 (k : Nat), .int .i64 (bo : Nat), .int .i64 (o : Nat), .int .i64 (b : Nat), dv]] (by (repeat refine Imp.pick 0 rfl ?_); exact Imp.nil) ?_
      (repeat (first | refine ent_p (fun _ => run_nil _) ?_ | refine ent_p (fun _ => run_fieldZ _ _) ?_ | refine ent_p (fun _ => run_field0 _) ?_ | refine ent_m (run_load (cell_imm 0 rfl rfl)) ?_))
      refine ent_m (run_loadA (vs := shL sh) rfl (cells_immP (rest := [P0 d]) 0 rfl)) ?_
      (repeat (first | refine ent_p (fun _ => run_fieldZ _ _) ?_ | refine ent_p (fun _ => run_field0 _) ?_ | refine ent_j ?_ | refine ent_m (run_load (cell_own 1 rfl rfl)) ?_))
      have fin : ∀ v : Value, Ent w0 (roB w0 v (nums [bo, o, 11]) :: ptI s 159 [.int .i64 (sh.blocks : Nat), .int .i64 (sh.size : Nat), .int .i64 (sh.clients : Nat), .int .i64 (sh.slots : Nat), P0 d] :: pt wb 161 [.int .i64 (c : Nat), .int .i64 (k : Nat), .int .i64 (bo : Nat), .int .i64 (o : Nat), .int .i64 (b : Nat), dv] :: dkH w0 d n D :: F) (hF P 159 #[P0 d, .int .i64 (sh.slotAt c k : Nat), v] fun t117 => hAnd (Sat w0 [ptI s 159 [.int .i64 (sh.blocks : Nat), .int .i64 (sh.size : Nat), .int .i64 (sh.clients : Nat), .int .i64 (sh.slots : Nat), P0 d], pt wb 161 [.int .i64 (c : Nat), .int .i64 (k : Nat), .int .i64 (bo : Nat), .int .i64 (o : Nat), .int .i64 (b : Nat), dv]]) <| hV P (eqG true .neq 32 t117 (.int .i64 0)) fun t119 =>
          hIf t119 ((fun v w' => ∃ _ : Unit, v = Value.tuple #[.int .i64 WW.1, .int .i64 WW.2.1] ∧ Sat w0 ([dkH w0 d n WW.2.2] ++ F) w') (.tuple #[(.int .i64 0), t117])) ((fun v w' => ∃ _ : Unit, v = Value.tuple #[.int .i64 WW.1, .int .i64 WW.2.1] ∧ Sat w0 ([dkH w0 d n WW.2.2] ++ F) w') (.tuple #[(.int .i64 11), (.int .i64 0)]))) := by
        intro v
        refine ent_call (sec_write d n D (sh.slotAt c k) v (nums [bo, o, 11]) hsl hl2 hD.fuse) (by (repeat (first | refine Imp.pick 0 rfl ?_ | refine Imp.pick 3 rfl ?_)); exact Imp.refl _) fun _ => ?_
        refine ent_and (by (repeat refine Imp.pick 1 rfl ?_); exact Imp.nil) ?_
        by_cases he : (D.write (sh.slotAt c k) (nums [bo, o, 11])).1 = 0
        · rw [if_neg (by omega)] at hWW
          subst hWW
          refine ent_q ((run_ne _ _).F (by omega)) ?_
          (repeat refine ent_ifF ?_)
          exact ent_ret () (by rw [he]) (by (repeat refine Imp.pick 0 rfl ?_); exact Imp.trans Imp.drop1 (Imp.drop1))
        · rw [if_pos he] at hWW
          subst hWW
          refine ent_q ((run_ne _ _).T he) ?_
          (repeat refine ent_ifT ?_)
          exact ent_ret () rfl (by (repeat refine Imp.pick 0 rfl ?_); exact Imp.trans Imp.drop1 (Imp.drop1))
      refine ent_and2 ?_ ?_
      · refine ent_call (st_slotAt sh hs c k (by omega) (by omega)) (Imp.refl _) fun _ => ?_
        refine ent_and (by (repeat refine Imp.pick 0 rfl ?_); exact Imp.nil) ?_
        refine ent_bs (zs := [.int .i64 0]) rfl (n := 3) (parts := [(0, .int .i64 (bo : Nat)), (1, .int .i64 (o : Nat)), (2, .int .i64 11)]) (cs := [.int .i64 (bo : Nat), .int .i64 (o : Nat), .int .i64 11]) (by simp) rfl fun b18 => ?_
        refine ent_and (by (repeat refine Imp.pick 1 rfl ?_); exact Imp.nil) ?_
        refine ent_call (st_numbers b18 [bo, o, 11] (by simp) (by simp; omega)) (by (repeat refine Imp.pick 0 rfl ?_); exact Imp.refl _) fun v19 => ?_
        refine ent_and (by (repeat refine Imp.pick 1 rfl ?_); exact Imp.nil) ?_
        exact Ent.imp (by (repeat (first | refine Imp.pick 0 rfl ?_ | refine Imp.pick 2 rfl ?_)); exact Imp.trans Imp.drop1 (Imp.drop1)) (fin v19)
      · refine ent_bs (zs := [.int .i64 0]) rfl (n := 3) (parts := [(0, .int .i64 (bo : Nat)), (1, .int .i64 (o : Nat)), (2, .int .i64 11)]) (cs := [.int .i64 (bo : Nat), .int .i64 (o : Nat), .int .i64 11]) (by simp) rfl fun b18 => ?_
        refine ent_and (by (repeat refine Imp.pick 1 rfl ?_); exact Imp.nil) ?_
        refine ent_call (st_slotAt sh hs c k (by omega) (by omega)) (Imp.refl _) fun _ => ?_
        refine ent_and (by (repeat refine Imp.pick 1 rfl ?_); exact Imp.nil) ?_
        refine ent_call (st_numbers b18 [bo, o, 11] (by simp) (by simp; omega)) (by (repeat refine Imp.pick 0 rfl ?_); exact Imp.refl _) fun v19 => ?_
        refine ent_and (by (repeat refine Imp.pick 1 rfl ?_); exact Imp.nil) ?_
        exact Ent.imp (by (repeat (first | refine Imp.pick 0 rfl ?_ | refine Imp.pick 2 rfl ?_)); exact Imp.trans Imp.drop1 (Imp.drop1)) (fin v19)
    · rw [if_neg (by omega)] at hWW
      have hjl : (jrnB ⟨(c : Nat), (k : Nat), (bo : Nat), (o : Nat), (b : Nat), data⟩ (ver + 1)).length ≤ 64 := len_jrn hs hf (by omega) (by dsimp only; omega) (by dsimp only; omega)
      have hjb : jrnB ⟨(c : Nat), (k : Nat), (bo : Nat), (o : Nat), (b : Nat), data⟩ (ver + 1) = txt (nums [c, k, bo, o, b, ver + 1]) data := rfl
      rw [hjb] at hWW hjl
      (repeat refine ent_ifF ?_)
      refine ent_draw [ptI s 159 [.int .i64 (sh.blocks : Nat), .int .i64 (sh.size : Nat), .int .i64 (sh.clients : Nat), .int .i64 (sh.slots : Nat), P0 d], pt wb 161 [.int .i64 (c : Nat), .int .i64 (k : Nat), .int .i64 (bo : Nat), .int .i64 (o : Nat), .int .i64 (b : Nat), dv]] (by (repeat refine Imp.pick 0 rfl ?_); exact Imp.nil) ?_
      (repeat (first | refine ent_p (fun _ => run_fieldZ _ _) ?_ | refine ent_p (fun _ => run_field0 _) ?_ | refine ent_m (run_load (cell_own 1 rfl rfl)) ?_))
      refine ent_p (fun _ => run_add64 (by omega)) ?_
      rw [show ((ver : Nat) : Int) + 1 = ((ver + 1 : Nat) : Int) by omega]
      (repeat (first | refine ent_p (fun _ => run_field0 _) ?_ | refine ent_m (run_load (cell_own 1 rfl rfl)) ?_))
      refine ent_bs (zs := [.int .i64 0]) rfl (n := 6) (parts := [(0, .int .i64 (c : Nat)), (1, .int .i64 (k : Nat)), (2, .int .i64 (bo : Nat)), (3, .int .i64 (o : Nat)), (4, .int .i64 (b : Nat)), (5, .int .i64 ((ver + 1 : Nat) : Int))]) (cs := [.int .i64 (c : Nat), .int .i64 (k : Nat), .int .i64 (bo : Nat), .int .i64 (o : Nat), .int .i64 (b : Nat), .int .i64 ((ver + 1 : Nat) : Int)]) (by simp) rfl fun b18 => ?_
      refine ent_and (by (repeat refine Imp.pick 1 rfl ?_); exact Imp.nil) ?_
      refine ent_call (st_numbers b18 [c, k, bo, o, b, ver + 1] (by simp) (by simp; omega)) (by (repeat refine Imp.pick 0 rfl ?_); exact Imp.refl _) fun v10 => ?_
      refine ent_and (by (repeat refine Imp.pick 1 rfl ?_); exact Imp.nil) ?_
      have hnl : (nums [c, k, bo, o, b, ver + 1]).length ≤ 9 * 6 := nums_len (l := [c, k, bo, o, b, ver + 1]) (by simp; omega)
      refine Ent.at 3 rfl (Ent.roDup ?_)
      refine ent_call (raw_putText v10 dv (nums [c, k, bo, o, b, ver + 1]) data (by omega) (by omega)) (by (repeat (first | refine Imp.pick 0 rfl ?_ | refine Imp.pick 2 rfl ?_)); exact Imp.refl _) fun v13 => ?_
      refine ent_and (by (repeat refine Imp.pick 2 rfl ?_); exact Imp.nil) ?_
      refine Ent.vecRo ?_
      refine Ent.imp (L' := ptI s 159 [.int .i64 (sh.blocks : Nat), .int .i64 (sh.size : Nat), .int .i64 (sh.clients : Nat), .int .i64 (sh.slots : Nat), P0 d] :: pt wb 161 [.int .i64 (c : Nat), .int .i64 (k : Nat), .int .i64 (bo : Nat), .int .i64 (o : Nat), .int .i64 (b : Nat), dv] :: roB w0 v13 (txt (nums [c, k, bo, o, b, ver + 1]) data) :: roB w0 dv data :: stI s d sh :: dkH w0 d n D :: F) (by (repeat (first | refine Imp.pick 0 rfl ?_ | refine Imp.pick 2 rfl ?_)); exact Imp.refl _) ?_
      (repeat (first | refine ent_q (run_nil _) ?_ | refine ent_q (run_field0 _) ?_ | refine ent_q (run_load (cell_imm 0 rfl rfl)) ?_))
      refine ent_call (sec_write d n D 0 v13 _ (by unfold Shp.need at hn; omega) hjl hD.fuse) (by (repeat (first | refine Imp.pick 2 rfl ?_ | refine Imp.pick 5 rfl ?_)); exact Imp.refl _) fun _ => ?_
      have hD1 := hD.write (a := 0) hjl
      by_cases he : (D.write 0 (txt (nums [c, k, bo, o, b, ver + 1]) data)).1 = 0
      · rw [if_neg (by omega)] at hWW
        refine ent_q ((run_ne _ _).F (by omega)) ?_
        (repeat refine ent_ifF ?_)
        refine ent_q (run_loadA (vs := wrL ⟨(c : Nat), (k : Nat), (bo : Nat), (o : Nat), (b : Nat), data⟩ dv) rfl (cells_all 2 rfl)) ?_
        refine ent_q (run_add64 (by omega)) ?_
        rw [show ((ver : Nat) : Int) + 1 = ((ver + 1 : Nat) : Int) by omega]
        refine ent_call (st_does s d sh n _ hs ⟨(c : Nat), (k : Nat), (bo : Nat), (o : Nat), (b : Nat), data⟩ dv (ver + 1) hdv hf (by dsimp only; omega) (by omega) (by dsimp only; omega) hn hD1) (by (repeat (first | refine Imp.pick 0 rfl ?_ | refine Imp.pick 2 rfl ?_ | refine Imp.pick 4 rfl ?_)); exact Imp.refl _) fun _ => ?_
        subst hWW
        exact ent_ret () rfl (by (repeat refine Imp.pick 0 rfl ?_); exact Imp.trans Imp.drop1 (Imp.drop1))
      · rw [if_pos he] at hWW
        subst hWW
        refine ent_q ((run_ne _ _).T he) ?_
        (repeat refine ent_ifT ?_)
        exact ent_ret () rfl (by (repeat refine Imp.pick 0 rfl ?_); exact Imp.trans Imp.drop1 (Imp.trans Imp.drop1 (Imp.trans Imp.drop1 (Imp.drop1)))))
end
end Go.Gd
