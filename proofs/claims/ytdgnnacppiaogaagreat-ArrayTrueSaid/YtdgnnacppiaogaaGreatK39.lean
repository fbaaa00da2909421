/- The statement ArrayTrue, of the program. Conditions: those in the theorems. The statement ArrayTrue, of the program: all acts. Conditions: those in the theorems. -/
import Derived.Test.YtdgnnacppiaogaaGreatK38
set_option linter.unusedVariables false
set_option linter.unusedSimpArgs false
set_option linter.unusedVariables false
namespace Go.Gd
open Go.Instr
attribute [local irreducible] loadAt storeAt fieldAt indexAt alloc box build buildSlice hNil eqG binOp Op.unary extract makeSlice makeInterface makeFunc convert hV mV pV hU hF hFV hI hIf hGuard hPick hJ hDraw hLoop ro Instr.index dkH arH outH caH ordH stI
theorem Ent.arLk {w0 : World} {x : ArN} {c : Cfg} {A : Ar} {L : List HP} {X : World → Prop} (h : A.S.o.Lk → Ent w0 (arH w0 x c A :: L) X) : Ent w0 (arH w0 x c A :: L) X := by
  refine Ent.ar ?_
  refine Ent.at 2 rfl (Ent.ca fun cv vs => ?_)
  refine Ent.at 1 rfl (Ent.ordOk fun hk => ?_)
  refine Ent.imp ?_ (h hk)
  refine Imp.trans (L2 := caH w0 x.k x.a x.p x.mb c 3 A.S :: pt x.ar 105 (arL x c A) :: stI x.s x.d (shOf c) :: L) (Imp.ca (cv := cv) (vs := vs) (by (repeat (first | refine Imp.pick 0 rfl ?_ | refine Imp.pick 1 rfl ?_)); exact Imp.refl _)) (Imp.ar (by (repeat (first | refine Imp.pick 0 rfl ?_ | refine Imp.pick 1 rfl ?_)); exact Imp.refl _))
theorem InvX.congr {c : Cfg} {D D' : Dk} {S : Ca} {x0 : Option Nat} (hl : D'.l = D.l) (h : InvX c D S x0) : InvX c D' S x0 := ⟨fun b d hb => ⟨(h.i1 b d hb).1, fun hne => by
  have := (h.i1 b d hb).2 hne
  rw [this]; unfold Shp.blk; rw [hl]⟩, h.i2⟩
structure TrueOk (c : Cfg) (d i : Nat) (x : ArN) (A : Ar) : Prop where
  at_ : x.d = d
  ok : ArOk c 64 (2 * i) A
  inv : A.down = false → Inv c A.D A.S ∧ A.D.down = false
theorem RdS.cellM {w0 : World} {L : List HP} {a : Option Addr} {n cap : Nat} {xs : List (Msg × Value)} (h : RdS w0 L (.slice a n cap) 11 n (msgsV xs)) {i : Nat} {x : Msg × Value} (hx : xs[i]? = some x) :
    ∃ b o, a = some ⟨b, o, none⟩ ∧ ∀ j u, (msgL x.1 x.2)[j]? = some u → Cell w0 L ⟨b, o + i * 11 + j, none⟩ u := by
  obtain ⟨a', c', e1, e2, e3⟩ := h
  cases e1
  rcases e3 with e3 | ⟨b, o, rfl, hc⟩
  · have := congrArg List.length e3
    rw [msgsV_len] at this
    have := (List.getElem?_eq_some_iff.1 hx).1
    simp at *; omega
  · exact ⟨b, o, rfl, fun j u hj => by rw [Nat.add_assoc]; exact hc _ _ (msgsV_get hx j u hj)⟩
theorem hear_len (c : Cfg) (A : Ar) (m : Msg) : (A.hear c m).2.length ≤ 2 := by
  unfold Ar.hear
  split
  · simp
  · split
    · unfold Ar.read
      split
      · split
        · have := out_len_keep c { A with S := (A.S.use m.block).1 } m.block m.level (A.S.use m.block).2.1
          simp only [List.length_append, List.length_cons, List.length_nil]; omega
        · simp
      · split
        · simp
        · have := out_len_keep c { A with reads := A.reads + 1 } m.block m.level ((shOf c).read A.D m.block).1
          simp only [List.length_append, List.length_cons, List.length_nil]; omega
    · split
      · unfold Ar.write
        dsimp only
        split
        · split
          · have := out_len_keep c { A with D := ((shOf c).write (msgW m) A.D).2.2 } m.block m.level m.data
            simp only [List.length_append, List.length_cons, List.length_nil]; omega
          · simp
        · split
          · simp
          · split <;> simp
      · split
        · simp
        · split <;> simp
section
variable {w0 : World} {L : List HP}
set_option maxHeartbeats 2000000 in
theorem true_step (c : Cfg) (hr : cfgRight c = true) (d cb i : Nat) (hi : i < 100) (R : HP) (F : List HP) (x : ArN) (A : Ar) (h : TrueOk c d i x A) (fuse : Int) (yb : Nat) (next : List Value → World → Prop) (RR : Value → World → Prop)
    (C : List HP) (hC : C = pt cb 25 (cfgL c) :: ro w0 c.hv 4 c.hints.length (hintsV c.hints) :: R :: F)
    (T1 : ∀ (x' : ArN) (A' : Ar), TrueOk c d (i + 1) x' A' → Ent w0 (arH w0 x' c A' :: dkH w0 d 64 A'.D :: C) (
 hF P 19 #[P0 d] fun t117 =>
 hJ (fun (j121_306 : Value) =>
 hPick t117 j121_306 (.bool false) fun t122 =>
 hIf t122 (RR (.bool false)) (hV P (binOp .add 3 (.int .i64 (i : Nat)) (.int .i64 1)) fun t123 =>
 next [t123, P0 x'.ar, (.int .i64 0), (.bool false)])) fun J307 =>
 hGuard t117 true (hF P 20 #[P0 x'.ar] fun t120 =>
 hV P (Op.unary .not t120) fun t121 =>
 J307 t121) (J307 undef)))
    (m : Msg) (mv : Value) (hmv : mv.oneCell' = true) (h10 : m.kind = 10 → Ca.there c m.block → A.down = false → m.data = ((shOf c).blk A.D m.block.toNat).2) :
    Ent w0 (pt yb 39 (.int .i64 fuse :: msgL m mv) :: roB w0 mv m.data :: arH w0 x c A :: dkH w0 d 64 A.D :: C) (
 hV P (fieldAt 39 (P0 yb) 1) fun t57 =>
 hV P (loadAt 37 t57) fun t58 =>
 hF P 17 #[(P0 x.ar), t58] fun t59 =>
 hV P (Builtin.len_ #[43] 3 #[t59]) fun t60 =>
 hLoop2 (.int .i64 0) (.bool false) fun t61_24 t4_25 g26 next27 =>
 hV P (binOp .lss 3 t61_24 t60) fun t62 =>
 hIf t62 (hV P (indexAt 43 t59 t61_24) fun t63 =>
 hV P (loadAt 37 t63) fun t64 =>
 hV P (alloc 37 true (.tuple #[])) fun m_14 =>
 hU P (storeAt 37 m_14 t64) <|
 hV P (fieldAt 37 m_14 5) fun t67 =>
 hV P (loadAt 3 t67) fun t68 =>
 hF P 16 #[(P0 x.ar), t68] fun t69 =>
 hV P (extract t69 0) fun t70 =>
 hV P (extract t69 1) fun t71 =>
 hV P (extract t69 2) fun t72 =>
 hV P (fieldAt 37 m_14 0) fun t73 =>
 hV P (loadAt 3 t73) fun t74 =>
 hV P (eqG true .eql 3 t74 (.int .i64 12)) fun t75 =>
 hJ (fun (j79_30 : Value) =>
 hPick t75 j79_30 (.bool false) fun t80 =>
 hJ (fun (j90_53 : Value) =>
 hPick t80 j90_53 (.bool false) fun t91 =>
 hIf t91 (RR (.bool false)) (hV P (binOp .add 3 t61_24 (.int .i64 1)) fun t92 =>
 next27 t92 t4_25)) fun J54 =>
 hGuard t80 true (hV P (eqG true .neq 32 t72 (.int .i64 0)) fun t83 =>
 hJ (fun (j89_35 : Value) =>
 hGuard t80 true (hPick t83 (.bool true) j89_35 fun t90 =>
 J54 t90) (J54 undef)) fun J37 =>
 hGuard t83 false (hV P (fieldAt 37 m_14 10) fun t86 =>
 hV P (loadAt 35 t86) fun t87 =>
 hF P 18 #[t70, t87] fun t88 =>
 hV P (Op.unary .not t88) fun t89 =>
 J37 t89) (J37 undef)) (hJ (fun (j89_42 : Value) =>
 hGuard t80 true (hPick undef (.bool true) j89_42 fun t90 =>
 J54 t90) (J54 undef)) fun J44 =>
 hGuard undef false (hV P (fieldAt 37 m_14 10) fun t86 =>
 hV P (loadAt 35 t86) fun t87 =>
 hF P 18 #[t70, t87] fun t88 =>
 hV P (Op.unary .not t88) fun t89 =>
 J44 t89) (J44 undef))) fun J55 =>
 hGuard t75 true (hV P (fieldAt 37 m_14 8) fun t77 =>
 hV P (loadAt 32 t77) fun t78 =>
 hV P (eqG true .eql 32 t78 (.int .i64 0)) fun t79 =>
 J55 t79) (J55 undef)) (hF P 19 #[P0 d] fun t117 =>
 hJ (fun (j121_306 : Value) =>
 hPick t117 j121_306 (.bool false) fun t122 =>
 hIf t122 (RR (.bool false)) (hV P (binOp .add 3 (.int .i64 (i : Nat)) (.int .i64 1)) fun t123 =>
 next [t123, P0 x.ar, (.int .i64 0), t4_25])) fun J307 =>
 hGuard t117 true (hF P 20 #[P0 x.ar] fun t120 =>
 hV P (Op.unary .not t120) fun t121 =>
 J307 t121) (J307 undef))) := by
  have hxd := h.at_
  have hok := h.ok
  have hsh := shOf_ok hr
  refine Ent.at 2 rfl (Ent.arLk fun hlk => ?_)
  have hpost : TrueOk c d (i + 1) x (A.hear c m).1 ∧ Told c (A.hear c m).1.D (A.hear c m).2 := by
    have hok2 := hear_ok hok (by omega) m
    have h2 : ArOk c 64 (2 * (i + 1)) (A.hear c m).1 := by rw [show 2 * (i + 1) = 2 * i + 2 by omega]; exact hok2
    cases hdn : A.down with
    | true =>
      have he : A.hear c m = (A, []) := by unfold Ar.hear; rw [if_pos (.inl hdn)]
      rw [he] at h2 ⊢
      exact ⟨⟨hxd, h2, fun hf => by rw [hdn] at hf; cases hf⟩, told_nil⟩
    | false =>
      obtain ⟨hI, hD⟩ := h.inv hdn
      have hlk2 : ∀ b, (A.S.use b).1.o.Lk := by
        intro b
        unfold Ca.use
        cases hh : A.S.o.has b with
        | false => exact hlk
        | true =>
          have := Ord.has_lt hh
          exact Ord.use_lk hlk (by omega)
      obtain ⟨h3, h4⟩ := hear_law hok (by omega) hlk hlk2 hdn hD hI m (fun hk ht => h10 hk ht hdn)
      exact ⟨⟨hxd, h2, h3⟩, h4⟩
  obtain ⟨hT, hTold⟩ := hpost
  have hml := hear_len c A m
  refine Ent.imp (L' := pt yb 39 (.int .i64 fuse :: msgL m mv) :: roB w0 mv m.data :: arH w0 x c A :: dkH w0 d 64 A.D :: C) (by (repeat (first | refine Imp.pick 0 rfl ?_ | refine Imp.pick 1 rfl ?_)); exact Imp.refl _) ?_
  (repeat refine ent_q (run_field0 _) ?_)
  refine ent_q (run_loadA (vs := msgL m mv) rfl (cells_own 0 rfl (fun j v hj => by rw [Nat.add_comm]; exact hj))) ?_
  have hH := ar_hear (w0 := w0) (x := x) hok (by omega) m mv
  rw [hxd] at hH
  refine ent_call hH (by (repeat (first | refine Imp.pick 1 rfl ?_ | refine Imp.pick 2 rfl ?_)); exact Imp.refl _) fun ov => ?_
  generalize A.hear c m = W at *
  obtain ⟨A', msgs⟩ := W
  dsimp only at hT hTold hml ⊢
  refine Ent.out fun ms hms => ?_
  subst hms
  rw [List.length_map] at hml
  refine Ent.vecRo ?_
  refine ent_q (run_lenR 0 rfl) ?_
  refine Ent.ro fun oa oc Ro hov hol hord => ?_
  subst hov
  have hok' := hT.ok
  refine ent_loop (ι := Nat) (fun j => j ≤ ms.length) (fun j => [.int .i64 (j : Nat), .bool false]) (fun j => datH w0 ms :: Ro :: arH w0 x c A' :: dkH w0 d 64 A'.D :: C) (fun j => ms.length - j) 0 (Nat.zero_le _) rfl (by (repeat (first | refine Imp.pick 0 rfl ?_ | refine Imp.pick 1 rfl ?_ | refine Imp.pick 2 rfl ?_)); exact Imp.trans Imp.drop1 (Imp.drop1)) ?_
  intro j hj g2 next2 hnext2
  show Ent w0 _ (hV P (binOp .lss 3 (.int .i64 (j : Nat)) (.int .i64 (ms.length : Nat))) _)
  refine ent_qb (run_lt _ _) (fun h => ?_) (fun h => ?_)
  rotate_left
  · refine ent_ifF ?_
    exact Ent.imp (by (repeat refine Imp.pick 2 rfl ?_); exact Imp.trans Imp.drop1 (Imp.drop1)) (T1 x A' hT)
  have hjm : j < ms.length := by omega
  have ga : ms[j]? = some ms[j] := List.getElem?_eq_getElem hjm
  generalize ms[j] = y at ga
  obtain ⟨m', dv⟩ := y
  have hmem : m' ∈ ms.map (·.1) := List.mem_map.2 ⟨(m', dv), List.mem_of_getElem? ga, rfl⟩
  have hto := hTold m' hmem
  refine ent_ifT ?_
  refine Ent.imp (Imp.datGet ga) ?_
  refine Ent.ro1 fun hdv => ?_
  obtain ⟨b1, o1, rfl, hc1⟩ := RdS.cellM (hord (roB w0 dv m'.data :: datH w0 ms :: Ro :: arH w0 x c A' :: dkH w0 d 64 A'.D :: C) 2 rfl) ga
  refine ent_q (run_indexS j rfl hjm) ?_
  refine ent_q (run_loadA (vs := msgL m' dv) rfl (fun j' v hj' => hc1 j' v hj')) ?_
  refine ent_alloc fun mb => ?_
  refine ent_sa0 (vs := msgL m' dv) rfl (msgL_one hdv) (Nat.le_refl 11) (l' := msgL m' dv) rfl ?_
  have fin : Ent w0 (pt mb 37 (msgL m' dv) :: datH w0 ms :: Ro :: arH w0 x c A' :: dkH w0 d 64 A'.D :: C) (hV P (binOp .add 3 (.int .i64 (j : Nat)) (.int .i64 1)) fun t92 => next2 [t92, .bool false]) := by
    refine ent_q (run_add64 (by omega)) ?_
    exact Ent.imp (by (repeat refine Imp.pick 1 rfl ?_); exact Imp.drop1) (hnext2 (j + 1) (by omega) (by omega))
  (repeat refine ent_q (run_field0 _) ?_)
  refine ent_q (run_load (v := .int .i64 m'.block) (cell_own 0 rfl rfl)) ?_
  have hst := ar_stored (w0 := w0) (x := x) (A := A') hr hok'.need hok'.D m'.block
  rw [hxd] at hst
  refine ent_call hst (by (repeat refine Imp.pick 4 rfl ?_); exact Imp.refl _) fun sv => ?_
  refine Ent.imp (L' := pt mb 37 (msgL m' dv) :: vecB sv 5 ((shOf c).read A'.D m'.block).1 :: roB w0 dv m'.data :: datH w0 ms :: Ro :: arH w0 x c A' :: dkH w0 d 64 A'.D :: C) (by (repeat (first | refine Imp.pick 0 rfl ?_ | refine Imp.pick 2 rfl ?_ | refine Imp.pick 3 rfl ?_)); exact Imp.refl _) ?_
  (repeat (first | refine ent_q (run_fieldZ _ _) ?_ | refine ent_q (run_ex rfl) ?_))
  refine ent_q (run_load (v := .int .i64 m'.kind) (cell_own 0 rfl rfl)) ?_
  by_cases k12 : m'.kind = 12
  rotate_left
  · refine ent_q ((run_eq _ _).F k12) ?_
    (repeat (first | refine ent_ifF ?_ | refine ent_gF ?_ | refine ent_gU ?_ | refine ent_pF ?_ | refine ent_j ?_))
    exact Ent.imp (by (repeat (first | refine Imp.pick 0 rfl ?_ | refine Imp.pick 2 rfl ?_)); exact Imp.trans Imp.drop1 (Imp.drop1)) fin
  refine ent_q ((run_eq _ _).T k12) ?_
  (repeat (first | refine ent_q (run_field0 _) ?_ | refine ent_gT ?_ | refine ent_j ?_))
  refine ent_q (run_load (v := .int .i64 m'.code) (cell_own 0 rfl rfl)) ?_
  by_cases k0 : m'.code = 0
  rotate_left
  · refine ent_q ((run_eq _ _).F k0) ?_
    (repeat (first | refine ent_ifF ?_ | refine ent_gF ?_ | refine ent_gU ?_ | refine ent_pT ?_ | refine ent_pF ?_ | refine ent_j ?_))
    exact Ent.imp (by (repeat (first | refine Imp.pick 0 rfl ?_ | refine Imp.pick 2 rfl ?_)); exact Imp.trans Imp.drop1 (Imp.drop1)) fin
  refine ent_q ((run_eq _ _).T k0) ?_
  (repeat (first | refine ent_gT ?_ | refine ent_pT ?_ | refine ent_j ?_))
  obtain ⟨hbl, hdat⟩ := hto k12 k0
  rw [read_in hbl]
  have hlen := blk_len hsh A'.D m'.block.toNat
  have hs16 := hsh.size
  refine ent_q ((run_ne _ _).F (by simp)) ?_
  (repeat (first | refine ent_q (run_field0 _) ?_ | refine ent_gT ?_ | refine ent_j ?_))
  refine ent_q (run_load (v := dv) (cell_own 0 rfl rfl)) ?_
  refine Ent.at 1 rfl (Ent.vecRo ?_)
  refine ent_call (rf_same sv dv ((shOf c).blk A'.D m'.block.toNat).2 m'.data (by omega) (by rw [hdat]; omega)) (by (repeat (first | refine Imp.pick 0 rfl ?_ | refine Imp.pick 1 rfl ?_)); exact Imp.refl _) fun _ => ?_
  rw [decide_eq_true hdat.symm]
  (repeat (first | refine ent_ifF ?_ | refine ent_gT ?_ | refine ent_pT ?_ | refine ent_pF ?_ | refine ent_q (run_notT) ?_))
  exact Ent.imp (by (repeat refine Imp.pick 0 rfl ?_); exact Imp.refl _) fin
end
end Go.Gd
set_option linter.unusedVariables false
namespace Go.Gd
open Go.Instr
theorem arH_D {w0 : World} {x : ArN} {c : Cfg} {A : Ar} {D' : Dk} : arH w0 x c { A with D := D' } = arH w0 x c A := rfl
attribute [local irreducible] loadAt storeAt fieldAt indexAt alloc box build buildSlice hNil eqG binOp Op.unary extract makeSlice makeInterface makeFunc convert hV mV pV hU hF hFV hI hIf hGuard hPick hJ hDraw hLoop ro Instr.index dkH arH outH caH ordH stI
theorem setFuse_l (D : Dk) (k : Int) : (D.setFuse k).l = D.l ∧ (D.setFuse k).down = D.down := by
  unfold Dk.setFuse; split <;> exact ⟨rfl, rfl⟩
theorem setFuse_ok {D : Dk} (h : D.Ok) {k : Int} (hk : k ≤ 9223372036854775807) : (D.setFuse k).Ok := by
  have h2 := h.fuse
  unfold Dk.setFuse
  split
  · exact h
  · exact ⟨h.len, by show -1 ≤ max k (-1) ∧ max k (-1) ≤ _; omega⟩
theorem new_ok {c : Cfg} (hr : cfgRight c = true) {D : Dk} (hD : D.Ok) (hn : (shOf c).need ≤ 64) (y : CaN) : ArOk c 64 0 (Ar.new c D y) :=
  ⟨CaOk.new hr (by omega) y, hn, Shp.open_ok (shOf_ok hr) hD, Nat.le_refl _⟩
theorem ArOk.mono {c : Cfg} {n k j : Nat} {A : Ar} (h : ArOk c n k A) (hkj : k ≤ j) (hj : j < 4611686018427387904) : ArOk c n j A := ⟨h.S.mono hkj hj, h.need, h.D, Nat.le_trans h.reads hkj⟩
theorem need64 {c : Cfg} (hr : cfgRight c = true) : (shOf c).need ≤ 64 := by
  have h := shOf_ok hr
  have h1 := h.blocks; have h2 := h.clients; have h3 := h.slots
  have h4 : (shOf c).clients * (shOf c).slots ≤ 4 * 4 := Nat.mul_le_mul h2.2 h3.2
  unfold Shp.need; omega
section
variable {w0 : World} {L : List HP}
set_option maxHeartbeats 2000000 in
theorem array_true (c : Cfg) (lv : Value) (xs : List (ActS × Value)) (hfu : ∀ x ∈ xs, x.1.fuse ≤ 9223372036854775807) :
    Spec w0 3 [cfgV c, lv] [ro w0 c.hv 4 c.hints.length (hintsV c.hints), ro w0 lv 12 xs.length (actsV xs), adatH w0 xs] (fun _ : Unit => .bool true) (fun _ => []) := by
  classical
  refine spec_go (fun R w => H3) fun F => ?_
  show Ent w0 (ro w0 c.hv 4 c.hints.length (hintsV c.hints) :: ro w0 lv 12 xs.length (actsV xs) :: adatH w0 xs :: F) _
  unfold F3
  refine Ent.ro1 fun hhv => ?_
  refine ent_box fun cb => ?_
  rw [agg_cells, List.toList_toArray]
  refine ent_call rf_wakes (Imp.refl _) fun _ => ?_
  (repeat (first | refine ent_ifF ?_ | refine ent_q (run_notT) ?_))
  show Ent w0 (pt cb 25 (cfgL c) :: ro w0 c.hv 4 c.hints.length (hintsV c.hints) :: ro w0 lv 12 xs.length (actsV xs) :: adatH w0 xs :: F) _
  refine ent_q (run_loadA (vs := cfgL c) rfl (cells_all 0 rfl)) ?_
  refine Ent.at 1 rfl (Ent.roDup (Ent.at 3 rfl (Ent.roDup (Ent.at 5 rfl (Ent.dup (Pers.adat _ _) ?_)))))
  refine ent_call (rf_long c lv xs (decide (longP c xs)) decide_eq_true_iff) (by (repeat (first | refine Imp.pick 0 rfl ?_ | refine Imp.pick 2 rfl ?_ | refine Imp.pick 4 rfl ?_)); exact Imp.refl _) fun _ => ?_
  by_cases hlong : longP c xs
  · rw [decide_eq_true hlong]
    (repeat refine ent_ifT ?_)
    exact ent_ret () rfl (by exact Imp.trans Imp.drop1 (Imp.trans Imp.drop1 (Imp.trans Imp.drop1 (Imp.drop1))))
  rw [decide_eq_false hlong]
  have hl1 : c.hints.length ≤ 20 := Nat.le_of_not_lt fun h => hlong (.inl h)
  have hl2 : xs.length ≤ 100 := Nat.le_of_not_lt fun h => hlong (.inr (.inl h))
  (repeat refine ent_ifF ?_)
  refine ent_call sec_new (Imp.refl _) fun d => ?_
  show Ent w0 (dkH w0 d 64 freshD :: _) _
  refine Ent.imp (L' := pt cb 25 (cfgL c) :: ro w0 c.hv 4 c.hints.length (hintsV c.hints) :: ro w0 lv 12 xs.length (actsV xs) :: adatH w0 xs :: dkH w0 d 64 freshD :: F) (by (repeat (first | refine Imp.pick 0 rfl ?_ | refine Imp.pick 1 rfl ?_ | refine Imp.pick 2 rfl ?_ | refine Imp.pick 3 rfl ?_ | refine Imp.pick 4 rfl ?_)); exact Imp.refl _) ?_
  refine ent_q (run_loadA (vs := cfgL c) rfl (cells_all 0 rfl)) ?_
  refine Ent.at 1 rfl (Ent.roDup ?_)
  cases hr : cfgRight c with
  | false =>
    refine ent_call (ar_new0 hr (by omega) (P0 d)) (by (repeat refine Imp.pick 0 rfl ?_); exact Imp.refl _) fun _ => ?_
    (repeat refine ent_q (run_ex rfl) ?_)
    refine ent_q ((run_ne _ _).T (by omega)) ?_
    (repeat refine ent_ifT ?_)
    exact ent_ret () rfl (by exact Imp.trans Imp.drop1 (Imp.trans Imp.drop1 (Imp.trans Imp.drop1 (Imp.trans Imp.drop1 (Imp.drop1)))))
  | true =>
    have hn64 := need64 hr
    refine ent_call (ar_new hr d freshD hn64 fresh_ok (by rw [open_fresh])) (by (repeat (first | refine Imp.pick 0 rfl ?_ | refine Imp.pick 4 rfl ?_)); exact Imp.refl _) fun z => ?_
    obtain ⟨x0, y0⟩ := z
    dsimp only
    rw [open_fresh]
    refine Ent.at 2 rfl (Ent.pure fun hx0 => ?_)
    rw [hx0]
    (repeat refine ent_q (run_ex rfl) ?_)
    refine ent_q ((run_ne _ _).F (by omega)) ?_
    (repeat refine ent_ifF ?_)
    refine Ent.imp (L' := ro w0 lv 12 xs.length (actsV xs) :: arH w0 x0 c (Ar.new c freshD y0) :: dkH w0 d 64 freshD :: pt cb 25 (cfgL c) :: ro w0 c.hv 4 c.hints.length (hintsV c.hints) :: adatH w0 xs :: F) (by (repeat (first | refine Imp.pick 0 rfl ?_ | refine Imp.pick 1 rfl ?_ | refine Imp.pick 4 rfl ?_)); exact Imp.refl _) ?_
    refine ent_q (run_lenR 0 rfl) ?_
    refine Ent.ro fun aa ca Ra hav hal hard => ?_
    subst hav
    have hD0 : (Ar.new c freshD y0).D = freshD := by show ((shOf c).open freshD).2 = _; rw [open_fresh]
    refine ent_loop (ι := Nat × ArN × Ar) (fun s => s.1 ≤ xs.length ∧ TrueOk c d s.1 s.2.1 s.2.2) (fun s => [.int .i64 (s.1 : Nat), P0 s.2.1.ar, .int .i64 0, .bool false])
      (fun s => arH w0 s.2.1 c s.2.2 :: dkH w0 d 64 s.2.2.D :: pt cb 25 (cfgL c) :: ro w0 c.hv 4 c.hints.length (hintsV c.hints) :: Ra :: adatH w0 xs :: F) (fun s => xs.length - s.1)
      (0, x0, Ar.new c freshD y0) ⟨Nat.zero_le _, hx0, new_ok hr fresh_ok hn64 y0, fun _ => ⟨Inv.new _ _ _ _, by rw [hD0]; rfl⟩⟩ rfl (by dsimp only; rw [hD0]; exact (by (repeat (first | refine Imp.pick 0 rfl ?_ | refine Imp.pick 1 rfl ?_ | refine Imp.pick 2 rfl ?_)); exact Imp.drop1)) ?_
    rintro ⟨i, x, A⟩ ⟨hi, hT⟩ g next hnext
    dsimp only at hi hT hnext ⊢
    show Ent w0 _ (hV P (binOp .lss 3 (.int .i64 (i : Nat)) (.int .i64 (xs.length : Nat))) _)
    refine ent_qb (run_lt _ _) (fun h => ?_) (fun h => ?_)
    rotate_left
    · refine ent_ifF ?_
      exact ent_ret () rfl (by exact Imp.trans Imp.drop1 (Imp.trans Imp.drop1 (Imp.trans Imp.drop1 (Imp.trans Imp.drop1 (Imp.trans Imp.drop1 (Imp.drop1))))))
    have hix : i < xs.length := by omega
    have ga : xs[i]? = some xs[i] := List.getElem?_eq_getElem hix
    have hmem : xs[i] ∈ xs := List.getElem_mem _
    generalize xs[i] = e at ga hmem
    have hfe := hfu e hmem
    obtain ⟨⟨fuse, m⟩, mv⟩ := e
    dsimp only at hfe
    have T1 : ∀ (x' : ArN) (A' : Ar), TrueOk c d (i + 1) x' A' → Ent w0 (arH w0 x' c A' :: dkH w0 d 64 A'.D :: pt cb 25 (cfgL c) :: ro w0 c.hv 4 c.hints.length (hintsV c.hints) :: Ra :: adatH w0 xs :: F) (
        hF P 19 #[P0 d] fun t117 =>
        hJ (fun (j121_306 : Value) =>
        hPick t117 j121_306 (.bool false) fun t122 =>
        hIf t122 ((fun v w' => ∃ _ : Unit, v = Value.bool true ∧ Sat w0 ([] ++ F) w') (.bool false)) (hV P (binOp .add 3 (.int .i64 (i : Nat)) (.int .i64 1)) fun t123 =>
        next [t123, P0 x'.ar, (.int .i64 0), (.bool false)])) fun J307 =>
        hGuard t117 true (hF P 20 #[P0 x'.ar] fun t120 =>
        hV P (Op.unary .not t120) fun t121 =>
        J307 t121) (J307 undef)) := by
      intro x' A' hT'
      have fin : Ent w0 (arH w0 x' c A' :: dkH w0 d 64 A'.D :: pt cb 25 (cfgL c) :: ro w0 c.hv 4 c.hints.length (hintsV c.hints) :: Ra :: adatH w0 xs :: F) (hV P (binOp .add 3 (.int .i64 (i : Nat)) (.int .i64 1)) fun t123 => next [t123, P0 x'.ar, (.int .i64 0), (.bool false)]) := by
        refine ent_q (run_add64 (by omega)) ?_
        exact hnext (i + 1, x', A') ⟨by dsimp only; omega, hT'⟩ (by dsimp only; omega)
      refine ent_call (sec_down d 64 A'.D (by omega)) (by (repeat refine Imp.pick 1 rfl ?_); exact Imp.refl _) fun _ => ?_
      cases hdd : A'.D.down with
      | false =>
        (repeat (first | refine ent_ifF ?_ | refine ent_gF ?_ | refine ent_pF ?_ | refine ent_j ?_))
        exact Ent.imp (by (repeat (first | refine Imp.pick 0 rfl ?_ | refine Imp.pick 1 rfl ?_)); exact Imp.refl _) fin
      | true =>
        have hAd : A'.down = true := by
          cases hx : A'.down with
          | true => rfl
          | false => have := (hT'.inv hx).2; rw [hdd] at this; cases this
        (repeat (first | refine ent_gT ?_ | refine ent_j ?_))
        refine ent_call ar_down (by (repeat refine Imp.pick 1 rfl ?_); exact Imp.refl _) fun _ => ?_
        rw [hAd]
        (repeat (first | refine ent_ifF ?_ | refine ent_pT ?_ | refine ent_q (run_notT) ?_))
        exact Ent.imp (by (repeat refine Imp.pick 0 rfl ?_); exact Imp.refl _) fin
    refine ent_ifT ?_
    refine ent_j ?_
    refine Ent.at 5 rfl (Ent.imp (Imp.adatGet ga) ?_)
    refine Ent.ro1 fun hmv => ?_
    refine Ent.imp (L' := roB w0 mv m.data :: Ra :: arH w0 x c A :: dkH w0 d 64 A.D :: pt cb 25 (cfgL c) :: ro w0 c.hv 4 c.hints.length (hintsV c.hints) :: adatH w0 xs :: F) (by (repeat (first | refine Imp.pick 0 rfl ?_ | refine Imp.pick 1 rfl ?_ | refine Imp.pick 5 rfl ?_)); exact Imp.refl _) ?_
    obtain ⟨b1, o1, rfl, hc1⟩ := RdS.cellA (hard (roB w0 mv m.data :: Ra :: arH w0 x c A :: dkH w0 d 64 A.D :: pt cb 25 (cfgL c) :: ro w0 c.hv 4 c.hints.length (hintsV c.hints) :: adatH w0 xs :: F) 1 rfl) ga
    refine ent_q (run_indexS i rfl hix) ?_
    refine ent_q (run_loadA (vs := .int .i64 fuse :: msgL m mv) rfl (fun j' v hj' => hc1 j' v hj')) ?_
    refine ent_alloc fun yb => ?_
    have hone : ∀ u ∈ (Value.int .i64 fuse :: msgL m mv), u.oneCell' = true := by
      intro u hu
      rcases List.mem_cons.1 hu with rfl | hu
      · rfl
      · exact msgL_one hmv u hu
    refine ent_sa0 (vs := .int .i64 fuse :: msgL m mv) rfl hone (Nat.le_refl 12) (l' := .int .i64 fuse :: msgL m mv) rfl ?_
    refine ent_j ?_
    (repeat refine ent_q (run_fieldZ _ _) ?_)
    refine ent_q (run_load (v := .int .i64 fuse) (cell_own 0 rfl rfl)) ?_
    refine ent_qb (run_gt _ _) (fun hf1 => ?_) (fun hf1 => ?_)
    · (repeat (first | refine ent_q (run_fieldZ _ _) ?_ | refine ent_ifT ?_))
      refine ent_q (run_load (v := .int .i64 fuse) (cell_own 0 rfl rfl)) ?_
      refine ent_q (run_sub64 (by omega)) ?_
      refine ent_call (sec_fuse d 64 A.D (fuse - 1) (by omega)) (by (repeat refine Imp.pick 4 rfl ?_); exact Imp.refl _) fun _ => ?_
      have hs := setFuse_l A.D (fuse - 1)
      refine Ent.imp ?_ (T1 x { A with D := A.D.setFuse (fuse - 1) } ⟨hT.at_, ⟨hT.ok.S.mono (by omega) (by omega), hT.ok.need, setFuse_ok hT.ok.D (by omega), by have := hT.ok.reads; show A.reads ≤ _; omega⟩, fun hdn => ⟨InvX.congr hs.1 (hT.inv hdn).1, by show (A.D.setFuse _).down = false; rw [hs.2]; exact (hT.inv hdn).2⟩⟩)
      have earh : arH w0 x c { A with D := A.D.setFuse (fuse - 1) } = arH w0 x c A := arH_D
      rw [earh]
      exact (by (repeat (first | refine Imp.pick 0 rfl ?_ | refine Imp.pick 2 rfl ?_ | refine Imp.pick 3 rfl ?_ | refine Imp.pick 4 rfl ?_)); exact Imp.trans Imp.drop1 (Imp.drop1))
    (repeat (first | refine ent_q (run_fieldZ _ _) ?_ | refine ent_ifF ?_))
    refine ent_q (run_load (v := .int .i64 fuse) (cell_own 0 rfl rfl)) ?_
    refine ent_qb (run_lt _ _) (fun hf2 => ?_) (fun hf2 => ?_)
    · (repeat refine ent_ifT ?_)
      refine ent_call (sec_up d 64 A.D (by omega)) (by (repeat refine Imp.pick 4 rfl ?_); exact Imp.refl _) fun _ => ?_
      refine Ent.imp (L' := pt cb 25 (cfgL c) :: dkH w0 d 64 A.D.setUp :: ro w0 c.hv 4 c.hints.length (hintsV c.hints) :: ro w0 c.hv 4 c.hints.length (hintsV c.hints) :: Ra :: adatH w0 xs :: F) ?_ ?_
      · exact Imp.trans (L2 := ro w0 c.hv 4 c.hints.length (hintsV c.hints) :: pt cb 25 (cfgL c) :: dkH w0 d 64 A.D.setUp :: Ra :: adatH w0 xs :: F) (by (repeat (first | refine Imp.pick 0 rfl ?_ | refine Imp.pick 2 rfl ?_ | refine Imp.pick 3 rfl ?_ | refine Imp.pick 5 rfl ?_ | refine Imp.pick 6 rfl ?_)); exact Imp.trans Imp.drop1 (Imp.trans Imp.drop1 (Imp.drop1))) ((Imp.dup1 (Pers.ro _ _ _ _ _)).trans (by (repeat (first | refine Imp.pick 0 rfl ?_ | refine Imp.pick 2 rfl ?_)); exact Imp.refl _))
      refine ent_q (run_loadA (vs := cfgL c) rfl (cells_all 0 rfl)) ?_
      have hup : A.D.setUp.Ok := ⟨hT.ok.D.len, by show (-1 : Int) ≤ -1 ∧ (-1 : Int) ≤ _; omega⟩
      have hou := open_up (s := shOf c) (D := A.D.setUp) rfl rfl
      refine ent_call (ar_new hr d A.D.setUp hn64 hup hou.1) (by (repeat (first | refine Imp.pick 1 rfl ?_ | refine Imp.pick 2 rfl ?_)); exact Imp.refl _) fun z => ?_
      obtain ⟨x', y'⟩ := z
      dsimp only
      refine Ent.at 2 rfl (Ent.pure fun hx' => ?_)
      rw [hx']
      (repeat refine ent_q (run_ex rfl) ?_)
      refine ent_q ((run_ne _ _).F (by omega)) ?_
      (repeat refine ent_ifF ?_)
      refine Ent.imp ?_ (T1 x' (Ar.new c A.D.setUp y') ⟨hx', (new_ok hr hup hn64 y').mono (by omega) (by omega), fun _ => ⟨Inv.new _ _ _ _, hou.2.1⟩⟩)
      exact (by (repeat refine Imp.pick 0 rfl ?_); exact Imp.refl _)
    (repeat (first | refine ent_q (run_fieldZ _ _) ?_ | refine ent_q (run_field0 _) ?_ | refine ent_ifF ?_))
    refine ent_q (run_load (v := .int .i64 m.kind) (cell_own 0 rfl rfl)) ?_
    have hsh := shOf_ok hr
    have hT2 : TrueOk c d (i + 1) x A := ⟨hT.at_, hT.ok.mono (by omega) (by omega), hT.inv⟩
    by_cases k10 : m.kind = 10
    rotate_left
    · refine ent_q ((run_eq _ _).F k10) ?_
      refine ent_j ?_
      refine ent_ifF ?_
      refine Ent.imp ?_ (true_step c hr d cb i (by omega) Ra (adatH w0 xs :: F) x A hT fuse yb next (fun v w' => ∃ _ : Unit, v = Value.bool true ∧ Sat w0 ([] ++ F) w') _ rfl T1 m mv hmv (fun h => absurd h k10))
      exact (by (repeat (first | refine Imp.pick 0 rfl ?_ | refine Imp.pick 1 rfl ?_)); exact Imp.refl _)
    refine ent_q ((run_eq _ _).T k10) ?_
    refine ent_j ?_
    refine ent_ifT ?_
    (repeat (first | refine ent_q (run_field0 _) ?_ | refine ent_q (run_field _ _) ?_))
    refine ent_q (run_load (v := .int .i64 m.block) (cell_own 0 rfl rfl)) ?_
    have hst := ar_stored (w0 := w0) (x := x) (A := A) hr hT.ok.need hT.ok.D m.block
    rw [hT.at_] at hst
    refine ent_call hst (by (repeat refine Imp.pick 3 rfl ?_); exact Imp.refl _) fun tv => ?_
    have hrl := read_len hsh A.D m.block
    have hrf : ((shOf c).read A.D m.block).2.2 = 0 → ((shOf c).read A.D m.block).1 = ((shOf c).blk A.D m.block.toNat).2 := fun h => (read_facts h).2.2.1
    generalize (shOf c).read A.D m.block = rr at *
    obtain ⟨td, tver, te⟩ := rr
    dsimp only at hrf hrl ⊢
    (repeat refine ent_q (run_ex rfl) ?_)
    by_cases he : te = 0
    rotate_left
    · refine ent_q ((run_ne _ _).T (by omega)) ?_
      (repeat refine ent_ifT ?_)
      refine ent_q (run_add64 (by omega)) ?_
      refine Ent.imp ?_ (hnext (i + 1, x, A) ⟨by dsimp only; omega, hT2⟩ (by dsimp only; omega))
      exact (by (repeat (first | refine Imp.pick 1 rfl ?_ | refine Imp.pick 3 rfl ?_ | refine Imp.pick 4 rfl ?_)); exact Imp.trans Imp.drop1 (Imp.trans Imp.drop1 (Imp.drop1)))
    refine ent_q ((run_ne _ _).F (by omega)) ?_
    refine ent_ifF ?_
    refine Ent.vecRo (Ent.ro1 fun htv => ?_)
    refine Ent.imp (L' := pt yb 39 (.int .i64 fuse :: msgL m mv) :: roB w0 tv td :: arH w0 x c A :: dkH w0 d 64 A.D :: pt cb 25 (cfgL c) :: ro w0 c.hv 4 c.hints.length (hintsV c.hints) :: Ra :: adatH w0 xs :: F) (by (repeat (first | refine Imp.pick 0 rfl ?_ | refine Imp.pick 1 rfl ?_ | refine Imp.pick 2 rfl ?_ | refine Imp.pick 3 rfl ?_)); exact Imp.drop1) ?_
    refine ent_q (run_field0 _) ?_
    refine ent_q (run_field _ _) ?_
    refine ent_st0 htv (by show 11 < 12; omega) (l' := .int .i64 fuse :: msgL { m with data := td } tv) rfl ?_
    refine Ent.imp ?_ (true_step c hr d cb i (by omega) Ra (adatH w0 xs :: F) x A hT fuse yb next (fun v w' => ∃ _ : Unit, v = Value.bool true ∧ Sat w0 ([] ++ F) w') _ rfl T1 { m with data := td } tv htv (fun _ _ _ => hrf he))
    exact (by (repeat refine Imp.pick 0 rfl ?_); exact Imp.refl _)
end
end Go.Gd
