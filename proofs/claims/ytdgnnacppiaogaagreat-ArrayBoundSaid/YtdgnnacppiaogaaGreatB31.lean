/- The contracts of package store, first part: readers, numbers. Conditions: those in the theorems. The contracts of package store, second part: what is read. Conditions: those in the theorems. -/
import Derived.Test.YtdgnnacppiaogaaGreatB30
import Derived.Test.YtdgnnacppiaogaaGreatB14
import Derived.Test.YtdgnnacppiaogaaGreatB16
set_option linter.unusedVariables false
set_option linter.unusedSimpArgs false
namespace Go.Gd
open Go.Instr
attribute [local irreducible] loadAt storeAt fieldAt indexAt alloc box build buildSlice hNil eqG binOp Op.unary extract makeSlice makeInterface makeFunc convert hV mV pV hU hF hFV hIf hGuard hPick hJ hDraw hLoop ro Instr.index dkH
section
variable {w0 : World} {L : List HP}
theorem raw_putText (b t : Value) (bl tl : List UInt8) (hb : bl.length ≤ 549755813888) (ht : tl.length ≤ 549755813888) :
    Spec w0 150 [b, t] [roB w0 b bl, roB w0 t tl] (fun v : Value => v) (fun v => [vecB v 5 (txt bl tl)]) := by
  refine spec_go (fun R w => H150) fun F => ?_
  show Ent w0 (roB w0 b bl :: roB w0 t tl :: F) _
  unfold F150
  refine Ent.at 1 rfl (Ent.ro fun a cap R hv hln hrd => ?_)
  subst hv
  refine ent_q run_len ?_
  refine ent_call (raw_put b bl tl.length hb (by omega)) (by (repeat refine Imp.pick 2 rfl ?_); exact Imp.refl _) fun v => ?_
  rw [Int.toNat_natCast]
  have h9 := enc_len9 (n := tl.length) (by omega)
  refine ent_append (zs := [.int .u8 0]) 0 rfl (hrd _ 0 rfl) rfl (by8_one tl) (by rw [List.length_append]; omega) (by rw [List.length_append]; omega) fun v' => ?_
  refine ent_ret v' rfl ?_
  rw [← by8_app, show bl ++ enc tl.length ++ tl = txt bl tl from rfl]
  have e : (bl ++ enc tl.length).length + tl.length = (txt bl tl).length := by unfold txt; simp [Nat.add_assoc]
  rw [e]
  exact (by (repeat refine Imp.pick 0 rfl ?_); exact Imp.trans Imp.drop1 (Imp.drop1))
def wrL (w : Wr) (dv : Value) : List Value := [.int .i64 w.client, .int .i64 w.slot, .int .i64 w.boot, .int .i64 w.op, .int .i64 w.block, dv]
def stI (s d : Nat) (sh : Shp) : HP := ptI s 159 [.int .i64 (sh.blocks : Nat), .int .i64 (sh.size : Nat), .int .i64 (sh.clients : Nat), .int .i64 (sh.slots : Nat), P0 d]
def shL (sh : Shp) : List Value := [.int .i64 (sh.blocks : Nat), .int .i64 (sh.size : Nat), .int .i64 (sh.clients : Nat), .int .i64 (sh.slots : Nat)]
abbrev shV (sh : Shp) : Value := .agg (shL sh).toArray
theorem Pers.st (s d : Nat) (sh : Shp) : Pers (stI s d sh) := Pers.imm _ _
theorem st_right (sh : Shp) (hs : sh.Ok) : Spec w0 93 [shV sh] [] (fun _ : Unit => .bool true) (fun _ => []) := by
  refine spec_go (fun R w => H93) fun F => ?_
  show Ent w0 F _
  have h1 := hs.blocks; have h2 := hs.size; have h3 := hs.clients; have h4 := hs.slots
  unfold F93
  refine ent_box fun b => ?_
  rw [agg_cells, List.toList_toArray]
  unfold shL
  (repeat (first | refine ent_q (run_fieldZ _ _) ?_ | refine ent_q (run_load (cell_own 0 rfl rfl)) ?_))
  refine ent_q ((run_ge _ _).T (by omega)) ?_
  (repeat (first | refine ent_q (run_fieldZ _ _) ?_ | refine ent_gT ?_ | refine ent_j ?_ | refine ent_q (run_load (cell_own 0 rfl rfl)) ?_))
  refine ent_q ((run_le _ _).T (by omega)) ?_
  (repeat (first | refine ent_q (run_field0 _) ?_ | refine ent_gT ?_ | refine ent_pT ?_ | refine ent_j ?_ | refine ent_q (run_load (cell_own 0 rfl rfl)) ?_))
  refine ent_q ((run_ge _ _).T (by omega)) ?_
  (repeat (first | refine ent_q (run_field0 _) ?_ | refine ent_gT ?_ | refine ent_pT ?_ | refine ent_j ?_ | refine ent_q (run_load (cell_own 0 rfl rfl)) ?_))
  refine ent_q ((run_le _ _).T (by omega)) ?_
  (repeat (first | refine ent_q (run_field0 _) ?_ | refine ent_gT ?_ | refine ent_pT ?_ | refine ent_j ?_ | refine ent_q (run_load (cell_own 0 rfl rfl)) ?_))
  refine ent_q ((run_ge _ _).T (by omega)) ?_
  (repeat (first | refine ent_q (run_field0 _) ?_ | refine ent_gT ?_ | refine ent_pT ?_ | refine ent_j ?_ | refine ent_q (run_load (cell_own 0 rfl rfl)) ?_))
  refine ent_q ((run_le _ _).T (by omega)) ?_
  (repeat (first | refine ent_q (run_field0 _) ?_ | refine ent_gT ?_ | refine ent_pT ?_ | refine ent_j ?_ | refine ent_q (run_load (cell_own 0 rfl rfl)) ?_))
  refine ent_q ((run_ge _ _).T (by omega)) ?_
  (repeat (first | refine ent_q (run_field0 _) ?_ | refine ent_gT ?_ | refine ent_pT ?_ | refine ent_q (run_load (cell_own 0 rfl rfl)) ?_))
  refine ent_q ((run_le _ _).T (by omega)) ?_
  (repeat refine ent_pT ?_)
  exact ent_ret () rfl (by exact Imp.drop1)
theorem st_need (sh : Shp) (hs : sh.Ok) : Spec w0 95 [shV sh] [] (fun _ : Unit => .int .i64 (sh.need : Nat)) (fun _ => []) := by
  refine spec_go (fun R w => H95) fun F => ?_
  show Ent w0 F _
  have h1 := hs.blocks; have h2 := hs.size; have h3 := hs.clients; have h4 := hs.slots
  have h5 : sh.clients * sh.slots ≤ 4 * 4 := Nat.mul_le_mul h3.2 h4.2
  unfold F95
  refine ent_box fun b => ?_
  rw [agg_cells, List.toList_toArray]
  unfold shL
  (repeat (first | refine ent_q (run_fieldZ _ _) ?_ | refine ent_q (run_load (cell_own 0 rfl rfl)) ?_))
  refine ent_q (run_add64 (by omega)) ?_
  (repeat (first | refine ent_q (run_field0 _) ?_ | refine ent_q (run_load (cell_own 0 rfl rfl)) ?_))
  rw [show ((1 : Int) + (sh.blocks : Nat)) = ((1 + sh.blocks : Nat) : Int) by omega]
  have e : ((sh.clients : Nat) : Int) * ((sh.slots : Nat) : Int) = ((sh.clients * sh.slots : Nat) : Int) := (Int.natCast_mul _ _).symm
  refine ent_q (run_mul64 (by rw [e]; omega)) ?_
  rw [e]
  refine ent_q (run_add64 (by omega)) ?_
  refine ent_ret () ?_ (by exact Imp.drop1)
  unfold Shp.need
  simp only [Int.natCast_add]
theorem st_blockAt (sh : Shp) (b : Nat) (hb : b < 64) : Spec w0 152 [shV sh, .int .i64 (b : Nat)] [] (fun _ : Unit => .int .i64 ((1 + b : Nat) : Int)) (fun _ => []) := by
  refine spec_go (fun R w => H152) fun F => ?_
  show Ent w0 F _
  unfold F152
  refine ent_box fun p => ?_
  refine ent_q (run_add64 (by omega)) ?_
  exact ent_ret () (by rw [Int.natCast_add]; rfl) (by exact Imp.drop1)
theorem st_slotAt (sh : Shp) (hs : sh.Ok) (c k : Nat) (hc : c < 4) (hk : k < 4) : Spec w0 153 [shV sh, .int .i64 (c : Nat), .int .i64 (k : Nat)] [] (fun _ : Unit => .int .i64 ((sh.slotAt c k : Nat) : Int)) (fun _ => []) := by
  refine spec_go (fun R w => H153) fun F => ?_
  show Ent w0 F _
  have h1 := hs.blocks; have h4 := hs.slots
  have h5 : sh.slots * c ≤ 4 * 4 := Nat.mul_le_mul h4.2 (by omega)
  unfold F153
  refine ent_box fun b => ?_
  rw [agg_cells, List.toList_toArray]
  unfold shL
  (repeat (first | refine ent_q (run_fieldZ _ _) ?_ | refine ent_q (run_load (cell_own 0 rfl rfl)) ?_))
  refine ent_q (run_add64 (by omega)) ?_
  (repeat (first | refine ent_q (run_field0 _) ?_ | refine ent_q (run_load (cell_own 0 rfl rfl)) ?_))
  have e : ((sh.slots : Nat) : Int) * ((c : Nat) : Int) = ((sh.slots * c : Nat) : Int) := (Int.natCast_mul _ _).symm
  refine ent_q (run_mul64 (by rw [e]; omega)) ?_
  rw [e]
  refine ent_q (run_add64 (by omega)) ?_
  refine ent_q (run_add64 (by omega)) ?_
  refine ent_ret () ?_ (by exact Imp.drop1)
  unfold Shp.slotAt
  simp only [Int.natCast_add]
  rfl
theorem st_fits (sh : Shp) (w : Wr) (dv : Value) : Spec w0 148 [shV sh, .agg (wrL w dv).toArray] [] (fun _ : Unit => .bool (decide (sh.fits w))) (fun _ => []) := by
  refine spec_go (fun R w => H148) fun F => ?_
  show Ent w0 F _
  unfold F148
  refine ent_box fun b => ?_
  rw [agg_cells, List.toList_toArray]
  refine ent_box fun b2 => ?_
  rw [agg_cells, List.toList_toArray]
  unfold shL wrL
  have hf : sh.fits w → (0 ≤ w.client ∧ w.client < sh.clients ∧ 0 ≤ w.slot ∧ w.slot < sh.slots ∧ 1 ≤ w.boot ∧ w.boot ≤ 1099511627776 ∧ 1 ≤ w.op ∧ w.op ≤ 1099511627776) := id
  (repeat (first | refine ent_q (run_fieldZ _ _) ?_ | refine ent_q (run_load (cell_own 0 rfl rfl)) ?_))
  refine ent_qb (run_ge _ _) (fun h1 => ?_) (fun h1 => ?_)
  rotate_left
  · (repeat (first | refine ent_gF ?_ | refine ent_pF ?_ | refine ent_j ?_))
    exact ent_ret () (by rw [decide_eq_false (fun h => h1 (hf h).1)]) (by exact Imp.trans Imp.drop1 (Imp.drop1))
  (repeat (first | refine ent_q (run_fieldZ _ _) ?_ | refine ent_q (run_field0 _) ?_ | refine ent_gT ?_ | refine ent_j ?_ | refine ent_q (run_load (cell_own 0 rfl rfl)) ?_ | refine ent_q (run_load (cell_own 1 rfl rfl)) ?_))
  refine ent_qb (run_lt _ _) (fun h2 => ?_) (fun h2 => ?_)
  rotate_left
  · (repeat (first | refine ent_gF ?_ | refine ent_pT ?_ | refine ent_pF ?_ | refine ent_j ?_))
    exact ent_ret () (by rw [decide_eq_false (fun h => h2 (hf h).2.1)]) (by exact Imp.trans Imp.drop1 (Imp.drop1))
  (repeat (first | refine ent_q (run_field0 _) ?_ | refine ent_gT ?_ | refine ent_pT ?_ | refine ent_j ?_ | refine ent_q (run_load (cell_own 0 rfl rfl)) ?_))
  refine ent_qb (run_ge _ _) (fun h3 => ?_) (fun h3 => ?_)
  rotate_left
  · (repeat (first | refine ent_gF ?_ | refine ent_pT ?_ | refine ent_pF ?_ | refine ent_j ?_))
    exact ent_ret () (by rw [decide_eq_false (fun h => h3 (hf h).2.2.1)]) (by exact Imp.trans Imp.drop1 (Imp.drop1))
  (repeat (first | refine ent_q (run_field0 _) ?_ | refine ent_gT ?_ | refine ent_pT ?_ | refine ent_j ?_ | refine ent_q (run_load (cell_own 0 rfl rfl)) ?_ | refine ent_q (run_load (cell_own 1 rfl rfl)) ?_))
  refine ent_qb (run_lt _ _) (fun h4 => ?_) (fun h4 => ?_)
  rotate_left
  · (repeat (first | refine ent_gF ?_ | refine ent_pT ?_ | refine ent_pF ?_ | refine ent_j ?_))
    exact ent_ret () (by rw [decide_eq_false (fun h => h4 (hf h).2.2.2.1)]) (by exact Imp.trans Imp.drop1 (Imp.drop1))
  (repeat (first | refine ent_q (run_field0 _) ?_ | refine ent_gT ?_ | refine ent_pT ?_ | refine ent_j ?_ | refine ent_q (run_load (cell_own 0 rfl rfl)) ?_))
  refine ent_qb (run_ge _ _) (fun h5 => ?_) (fun h5 => ?_)
  rotate_left
  · (repeat (first | refine ent_gF ?_ | refine ent_pT ?_ | refine ent_pF ?_ | refine ent_j ?_))
    exact ent_ret () (by rw [decide_eq_false (fun h => h5 (hf h).2.2.2.2.1)]) (by exact Imp.trans Imp.drop1 (Imp.drop1))
  (repeat (first | refine ent_q (run_field0 _) ?_ | refine ent_gT ?_ | refine ent_pT ?_ | refine ent_j ?_ | refine ent_q (run_load (cell_own 0 rfl rfl)) ?_))
  refine ent_qb (run_le _ _) (fun h6 => ?_) (fun h6 => ?_)
  rotate_left
  · (repeat (first | refine ent_gF ?_ | refine ent_pT ?_ | refine ent_pF ?_ | refine ent_j ?_))
    exact ent_ret () (by rw [decide_eq_false (fun h => h6 (hf h).2.2.2.2.2.1)]) (by exact Imp.trans Imp.drop1 (Imp.drop1))
  (repeat (first | refine ent_q (run_field0 _) ?_ | refine ent_gT ?_ | refine ent_pT ?_ | refine ent_j ?_ | refine ent_q (run_load (cell_own 0 rfl rfl)) ?_))
  refine ent_qb (run_ge _ _) (fun h7 => ?_) (fun h7 => ?_)
  rotate_left
  · (repeat (first | refine ent_gF ?_ | refine ent_pT ?_ | refine ent_pF ?_))
    exact ent_ret () (by rw [decide_eq_false (fun h => h7 (hf h).2.2.2.2.2.2.1)]) (by exact Imp.trans Imp.drop1 (Imp.drop1))
  (repeat (first | refine ent_q (run_field0 _) ?_ | refine ent_gT ?_ | refine ent_pT ?_ | refine ent_q (run_load (cell_own 0 rfl rfl)) ?_))
  refine ent_qb (run_le _ _) (fun h8 => ?_) (fun h8 => ?_)
  rotate_left
  · (repeat refine ent_pT ?_)
    exact ent_ret () (by rw [decide_eq_false (fun h => h8 (hf h).2.2.2.2.2.2.2)]) (by exact Imp.trans Imp.drop1 (Imp.drop1))
  (repeat refine ent_pT ?_)
  exact ent_ret () (by rw [decide_eq_true (p := sh.fits w) ⟨h1, h2, h3, h4, h5, h6, h7, h8⟩]) (by exact Imp.trans Imp.drop1 (Imp.drop1))
def rdV (bv : Value) (r : Rd) : List Value := [bv, .int .i64 (r.pos : Nat), .bool r.ok]
theorem st_sector (s d : Nat) (sh : Shp) (n : Nat) (D : Dk) (a : Nat) (ha : a < n) (hD : D.Ok) :
    Spec w0 144 [P0 s, .int .i64 (a : Nat)] [stI s d sh, dkH w0 d n D] (fun x : Nat × Value => P0 x.1) (fun x => [pt x.1 226 (rdV x.2 rd0), roB w0 x.2 (D.l a), stI s d sh, dkH w0 d n D]) := by
  refine spec_go (fun R w => H144) fun F => ?_
  show Ent w0 (stI s d sh :: dkH w0 d n D :: F) _
  unfold F144 stI
  (repeat (first | refine ent_q (run_nil _) ?_ | refine ent_q (run_field0 _) ?_ | refine ent_q (run_load (cell_imm 0 rfl rfl)) ?_))
  have := hD.len a
  refine ent_call (sec_read d n D a ha (by omega)) (by (repeat refine Imp.pick 1 rfl ?_); exact Imp.refl _) fun v => ?_
  (repeat refine ent_q (run_ex rfl) ?_)
  refine Ent.vecRo (Ent.ro1 fun hv => ?_)
  refine ent_q (bd226_0_2 hv rfl) ?_
  refine ent_box fun r => ?_
  rw [agg_cells, List.toList_toArray]
  exact ent_ret (r, v) rfl (by (repeat (first | refine Imp.pick 0 rfl ?_ | refine Imp.pick 1 rfl ?_)); exact Imp.refl _)
theorem rd_num (r : Nat) (bv : Value) (l : List UInt8) (x : Rd) (hl : l.length ≤ 1099511627776) :
    Spec w0 146 [P0 r] [pt r 226 (rdV bv x), roB w0 bv l] (fun _ : Unit => .int .i64 ((rNum l x).1 : Nat)) (fun _ => [pt r 226 (rdV bv (rNum l x).2), roB w0 bv l]) := by
  refine spec_go (fun R w => H146) fun F => ?_
  show Ent w0 (pt r 226 (rdV bv x) :: roB w0 bv l :: F) _
  unfold F146 rdV rNum
  cases hx : x.ok with
  | false =>
    (repeat (first | refine ent_q (run_nil _) ?_ | refine ent_q (run_field0 _) ?_ | refine ent_ifT ?_ | refine ent_q (run_notF) ?_ | refine ent_q (run_load (cell_own 0 rfl rfl)) ?_))
    refine ent_ret () rfl ?_
    rw [if_neg (by simp), hx]
    exact Imp.refl _
  | true =>
    (repeat (first | refine ent_q (run_nil _) ?_ | refine ent_q (run_field0 _) ?_ | refine ent_ifF ?_ | refine ent_q (run_notT) ?_ | refine ent_q (run_load (cell_own 0 rfl rfl)) ?_))
    refine ent_draw [pt r 226 [bv, .int .i64 (x.pos : Nat), .bool true]] (by (repeat refine Imp.pick 0 rfl ?_); exact Imp.nil) ?_
    (repeat (first | refine ent_p (fun _ => run_nil _) ?_ | refine ent_p (fun _ => run_fieldZ _ _) ?_ | refine ent_p (fun _ => run_field0 _) ?_ | refine ent_m (run_load (cell_own 0 rfl rfl)) ?_))
    refine ent_call (raw_get bv l x.pos hl) (by (repeat refine Imp.pick 1 rfl ?_); exact Imp.refl _) fun _ => ?_
    (repeat refine ent_p (fun _ => run_ex rfl) ?_)
    refine Ent.to1 ?_
    have fin : ∀ q : Bool, q = decide ((getB l x.pos).2.2 = 0) → Ent w0 (pt r 226 [bv, .int .i64 ((getB l x.pos).2.1 : Nat), .bool q] :: roB w0 bv l :: F)
        ((fun v w' => ∃ _ : Unit, v = Value.int .i64 ((if true = true then ((getB l x.pos).1, (⟨(getB l x.pos).2.1, decide ((getB l x.pos).2.2 = 0)⟩ : Rd)) else (0, x)).1 : Nat) ∧ Sat w0 ([pt r 226 [bv, .int .i64 ((if true = true then ((getB l x.pos).1, (⟨(getB l x.pos).2.1, decide ((getB l x.pos).2.2 = 0)⟩ : Rd)) else (0, x)).2.pos : Nat), .bool (if true = true then ((getB l x.pos).1, (⟨(getB l x.pos).2.1, decide ((getB l x.pos).2.2 = 0)⟩ : Rd)) else (0, x)).2.ok], roB w0 bv l] ++ F) w') (.int .i64 ((getB l x.pos).1 : Nat))) := by
      intro q hq
      refine ent_ret () rfl ?_
      rw [hq]
      exact Imp.refl _
    by_cases he : (getB l x.pos).2.2 = 0
    · refine ent_q ((run_eq _ _).T (by omega)) ?_
      (repeat (first | refine ent_q (run_nil _) ?_ | refine ent_q (run_field0 _) ?_))
      refine ent_st0 rfl (by simp) rfl ?_
      (repeat (first | refine ent_q (run_nil _) ?_ | refine ent_q (run_field0 _) ?_))
      refine ent_st0 rfl (by simp) rfl ?_
      exact fin true (by rw [decide_eq_true he])
    · refine ent_q ((run_eq _ _).F (by omega)) ?_
      (repeat (first | refine ent_q (run_nil _) ?_ | refine ent_q (run_field0 _) ?_))
      refine ent_st0 rfl (by simp) rfl ?_
      (repeat (first | refine ent_q (run_nil _) ?_ | refine ent_q (run_field0 _) ?_))
      refine ent_st0 rfl (by simp) rfl ?_
      exact fin false (by rw [decide_eq_false he])
theorem rd_text (r : Nat) (bv : Value) (l : List UInt8) (x : Rd) (size : Nat) (hl : l.length ≤ 1099511627776) (hs : size ≤ 1099511627776) :
    Spec w0 147 [P0 r, .int .i64 (size : Nat)] [pt r 226 (rdV bv x), roB w0 bv l] (fun v : Value => v) (fun v => [vecB v 5 (rText l size x).1, pt r 226 (rdV bv (rText l size x).2), roB w0 bv l]) := by
  refine spec_go (fun R w => H147) fun F => ?_
  show Ent w0 (pt r 226 (rdV bv x) :: roB w0 bv l :: F) _
  unfold F147 rdV rText
  cases hx : x.ok with
  | false =>
    (repeat (first | refine ent_q (run_nil _) ?_ | refine ent_q (run_field0 _) ?_ | refine ent_ifT ?_ | refine ent_q (run_notF) ?_ | refine ent_q (run_load (cell_own 0 rfl rfl)) ?_))
    refine ent_ret (.slice none 0 0) rfl ?_
    rw [if_neg (by simp), hx]
    exact Imp.vec0 rfl (Imp.refl _)
  | true =>
    (repeat (first | refine ent_q (run_nil _) ?_ | refine ent_q (run_field0 _) ?_ | refine ent_ifF ?_ | refine ent_q (run_notT) ?_ | refine ent_q (run_load (cell_own 0 rfl rfl)) ?_))
    refine ent_draw [pt r 226 [bv, .int .i64 (x.pos : Nat), .bool true]] (by (repeat refine Imp.pick 0 rfl ?_); exact Imp.nil) ?_
    (repeat (first | refine ent_p (fun _ => run_nil _) ?_ | refine ent_p (fun _ => run_fieldZ _ _) ?_ | refine ent_p (fun _ => run_field0 _) ?_ | refine ent_m (run_load (cell_own 0 rfl rfl)) ?_))
    refine ent_call (raw_getText bv l x.pos size hl) (by (repeat refine Imp.pick 1 rfl ?_); exact Imp.refl _) fun v => ?_
    (repeat refine ent_p (fun _ => run_ex rfl) ?_)
    rw [if_pos rfl]
    by_cases h1 : (getT l x.pos size).2.2 = 0
    · refine ent_q ((run_eq _ _).T (by omega)) ?_
      (repeat (first | refine ent_gT ?_ | refine ent_j ?_))
      refine ent_q (run_lenV 0 rfl) ?_
      by_cases h2 : (getT l x.pos size).1.length = size
      · refine ent_q ((run_eq _ _).T (by omega)) ?_
        (repeat (first | refine ent_q (run_nil _) ?_ | refine ent_q (run_fieldZ _ _) ?_ | refine ent_gT ?_ | refine ent_pT ?_ | refine ent_j ?_ | refine ent_q (run_load (cell_own 2 rfl rfl)) ?_))
        refine ent_q (run_lenR 1 rfl) ?_
        by_cases h3 : (getT l x.pos size).2.1 = l.length
        · refine ent_q ((run_eq _ _).T (by omega)) ?_
          (repeat (first | refine ent_q (run_nil _) ?_ | refine ent_q (run_field0 _) ?_ | refine ent_pT ?_))
          refine Ent.to2 ?_
          refine ent_st0 rfl (by simp) rfl ?_
          refine ent_ret v rfl ?_
          rw [decide_eq_true h1, decide_eq_true h2, decide_eq_true h3]
          exact (by (repeat (first | refine Imp.pick 0 rfl ?_ | refine Imp.pick 1 rfl ?_)); exact Imp.refl _)
        · refine ent_q ((run_eq _ _).F (by omega)) ?_
          (repeat (first | refine ent_q (run_nil _) ?_ | refine ent_q (run_field0 _) ?_ | refine ent_pT ?_))
          refine Ent.to2 ?_
          refine ent_st0 rfl (by simp) rfl ?_
          refine ent_ret v rfl ?_
          rw [decide_eq_true h1, decide_eq_true h2, decide_eq_false h3]
          exact (by (repeat (first | refine Imp.pick 0 rfl ?_ | refine Imp.pick 1 rfl ?_)); exact Imp.refl _)
      · refine ent_q ((run_eq _ _).F (by omega)) ?_
        (repeat (first | refine ent_q (run_nil _) ?_ | refine ent_q (run_field0 _) ?_ | refine ent_gF ?_ | refine ent_pT ?_ | refine ent_pF ?_ | refine ent_j ?_))
        refine Ent.to2 ?_
        refine ent_st0 rfl (by simp) rfl ?_
        refine ent_ret v rfl ?_
        rw [decide_eq_true h1, decide_eq_false h2]
        exact (by (repeat (first | refine Imp.pick 0 rfl ?_ | refine Imp.pick 1 rfl ?_)); exact Imp.refl _)
    · refine ent_q ((run_eq _ _).F (by omega)) ?_
      (repeat (first | refine ent_q (run_nil _) ?_ | refine ent_q (run_field0 _) ?_ | refine ent_gF ?_ | refine ent_pF ?_ | refine ent_j ?_))
      refine Ent.to2 ?_
      refine ent_st0 rfl (by simp) rfl ?_
      refine ent_ret v rfl ?_
      rw [decide_eq_false h1]
      exact (by (repeat (first | refine Imp.pick 0 rfl ?_ | refine Imp.pick 1 rfl ?_)); exact Imp.refl _)
end
end Go.Gd
namespace Go.Gd
open Go.Instr
attribute [local irreducible] loadAt storeAt fieldAt indexAt alloc box build buildSlice hNil eqG binOp Op.unary extract makeSlice makeInterface makeFunc convert hV mV pV hU hF hFV hIf hGuard hPick hJ hDraw hLoop ro Instr.index dkH
theorem rNums_len (l : List UInt8) (n : Nat) (r : Rd) : (rNums l n r).1.length = n := by
  induction n with
  | zero => rfl
  | succ n ih => simp [rNums, ih]
section
variable {w0 : World} {L : List HP}
theorem rd_all (r : Nat) (bv : Value) (l : List UInt8) (x : Rd) (tb k : Nat) (ps : Nat → Addr) (S : List Nat → List HP) (hl : l.length ≤ 1099511627776) (hk : k ≤ 100)
    (hst : ∀ (vs : List Nat) (v : Nat) (F : List HP) (K : World → Prop), vs.length < k → Ent w0 (S (vs ++ [v]) ++ F) K → Ent w0 (S vs ++ F) (hU P (storeAt 3 (.pointer (some (ps vs.length))) (.int .i64 (v : Nat))) K)) :
    Spec w0 145 [.func (.func 146) #[P0 r] #[], .slice (some ⟨tb, 0, none⟩) k k] (pt tb 223 (sv k fun i => .pointer (some (ps i))) :: pt r 226 (rdV bv x) :: roB w0 bv l :: S [])
      (fun _ : Unit => .tuple #[]) (fun _ => pt r 226 (rdV bv (rNums l k x).2) :: roB w0 bv l :: S (rNums l k x).1) := by
  refine spec_go (fun R w => H145) fun F => ?_
  show Ent w0 (pt tb 223 (sv k fun i => .pointer (some (ps i))) :: pt r 226 (rdV bv x) :: roB w0 bv l :: (S [] ++ F)) _
  unfold F145
  refine ent_q run_len ?_
  refine ent_loop (ι := Nat) (fun i => i ≤ k) (fun i => [.int .i64 (i : Nat)]) (fun i => pt tb 223 (sv k fun i => .pointer (some (ps i))) :: pt r 226 (rdV bv (rNums l i x).2) :: roB w0 bv l :: (S (rNums l i x).1 ++ F)) (fun i => k - i) 0 (by omega) rfl (Imp.refl _) ?_
  intro i hi g next hnext
  show Ent w0 _ (hV P (binOp .lss 3 (.int .i64 (i : Nat)) (.int .i64 (k : Nat))) _)
  refine ent_qb (run_lt _ _) (fun h => ?_) (fun h => ?_)
  · have hik : i < k := by omega
    refine ent_ifT ?_
    refine ent_q (run_indexS0 i rfl hik) ?_
    rw [Nat.mul_one]
    refine ent_q (run_load (cell_own 0 rfl (by have := sv_get (f := fun i => Value.pointer (some (ps i))) (r := []) hik; rwa [List.append_nil] at this))) ?_
    refine ent_callV (xs := [P0 r]) rfl (rd_num r bv l (rNums l i x).2 hl) (by (repeat refine Imp.pick 1 rfl ?_); exact Imp.refl _) fun _ => ?_
    (repeat refine ent_q (run_nil _) ?_)
    have hlen := rNums_len l i x
    have hsw : Imp (pt r 226 (rdV bv (rNum l (rNums l i x).2).2) :: roB w0 bv l :: pt tb 223 (sv k fun i => .pointer (some (ps i))) :: (S (rNums l i x).1 ++ F)) (S (rNums l i x).1 ++ (pt tb 223 (sv k fun i => .pointer (some (ps i))) :: pt r 226 (rdV bv (rNum l (rNums l i x).2).2) :: roB w0 bv l :: F)) := by
      refine Imp.perm ?_
      refine List.Perm.trans ?_ (List.perm_append_comm_assoc (l₁ := S (rNums l i x).1) (l₂ := [pt tb 223 (sv k fun i => .pointer (some (ps i))), pt r 226 (rdV bv (rNum l (rNums l i x).2).2), roB w0 bv l]) (l₃ := F)).symm
      refine List.Perm.trans (List.Perm.cons _ (List.Perm.swap _ _ _)) (List.Perm.swap _ _ _)
    refine Ent.imp hsw ?_
    have := hst (rNums l i x).1 (rNum l (rNums l i x).2).1 (pt tb 223 (sv k fun i => .pointer (some (ps i))) :: pt r 226 (rdV bv (rNum l (rNums l i x).2).2) :: roB w0 bv l :: F)
    rw [hlen] at this
    refine this _ hik ?_
    refine ent_q (run_add64 (by omega)) ?_
    refine Ent.imp ?_ (hnext (i + 1) (by omega) (by omega))
    refine Imp.perm ?_
    exact List.perm_append_comm_assoc (l₁ := S ((rNums l i x).1 ++ [(rNum l (rNums l i x).2).1])) (l₂ := [pt tb 223 (sv k fun i => .pointer (some (ps i))), pt r 226 (rdV bv (rNum l (rNums l i x).2).2), roB w0 bv l]) (l₃ := F)
  · have hik : i = k := by omega
    subst hik
    refine ent_ifF ?_
    exact ent_ret () rfl Imp.drop1
theorem run_shape {s d : Nat} {sh : Shp} (i : Nat) (hi : L[i]? = some (stI s d sh)) : Run w0 L (loadAt 102 (.pointer (some ⟨s, 0, none⟩))) (shV sh) := run_loadA (vs := shL sh) rfl (cells_immP (rest := [P0 d]) i hi)
theorem slot_lt {sh : Shp} {n c k : Nat} (hc : c < sh.clients) (hk : k < sh.slots) (hn : sh.need ≤ n) : sh.slotAt c k < n := by
  unfold Shp.need at hn
  unfold Shp.slotAt
  have : sh.slots * c + sh.slots ≤ sh.slots * sh.clients := by rw [← Nat.mul_succ]; exact Nat.mul_le_mul_left _ hc
  rw [Nat.mul_comm] at hn
  omega
set_option maxHeartbeats 1000000 in
theorem st_last (s d : Nat) (sh : Shp) (n : Nat) (D : Dk) (hs : sh.Ok) (c k : Nat) (hc : c < sh.clients) (hk : k < sh.slots) (hn : sh.need ≤ n) (hD : D.Ok) :
    Spec w0 158 [P0 s, .int .i64 (c : Nat), .int .i64 (k : Nat)] [stI s d sh, dkH w0 d n D]
      (fun _ : Unit => .tuple #[.int .i64 ((sh.last D c k).1 : Nat), .int .i64 ((sh.last D c k).2.1 : Nat), .int .i64 ((sh.last D c k).2.2 : Nat)]) (fun _ => [stI s d sh, dkH w0 d n D]) := by
  refine spec_go (fun R w => H158) fun F => ?_
  show Ent w0 (stI s d sh :: dkH w0 d n D :: F) _
  have h1 := hs.clients; have h2 := hs.slots
  have hat := slot_lt hc hk hn
  unfold F158
  refine ent_alloc fun p0 => ?_
  refine ent_alloc fun p1 => ?_
  (repeat (first | refine ent_q (run_nil _) ?_ | refine ent_q (run_fieldZ _ _) ?_))
  refine ent_q (run_shape 2 rfl) ?_
  refine ent_call (st_slotAt sh hs c k (by omega) (by omega)) (Imp.refl _) fun _ => ?_
  refine ent_call (st_sector s d sh n D _ hat hD) (by (repeat refine Imp.pick 2 rfl ?_); exact Imp.refl _) fun x => ?_
  refine ent_alloc fun p2 => ?_
  refine ent_st0 rfl (by simp) rfl ?_
  (repeat refine ent_q (run_mf _ _ _) ?_)
  refine ent_bs (zs := [.pointer none]) rfl (n := 3) (parts := [(0, P0 p0), (1, P0 p1), (2, P0 p2)]) (cs := [P0 p0, P0 p1, P0 p2]) (by simp) rfl fun tb => ?_
  have hlen := hD.len (sh.slotAt c k)
  have hlast : sh.last D c k = lastF (D.l (sh.slotAt c k)) := rfl
  generalize D.l (sh.slotAt c k) = l at *
  refine ent_call (rd_all x.1 x.2 l rd0 tb 3 (fun i => if i = 0 then ⟨p0, 0, none⟩ else if i = 1 then ⟨p1, 0, none⟩ else ⟨p2, 0, none⟩)
    (fun vs => [pt p0 3 [.int .i64 (vs.getD 0 0 : Nat)], pt p1 3 [.int .i64 (vs.getD 1 0 : Nat)], pt p2 3 [.int .i64 (vs.getD 2 0 : Nat)]]) (by omega) (by omega) ?_) (by (repeat (first | refine Imp.pick 0 rfl ?_ | refine Imp.pick 1 rfl ?_ | refine Imp.pick 3 rfl ?_ | refine Imp.pick 4 rfl ?_)); exact Imp.refl _) fun _ => ?_
  · intro vs v F K hv hK
    match vs, hv with
    | [], _ => exact ent_st0 rfl (by simp) rfl hK
    | [a], _ => exact ent_st1 rfl (by simp) rfl hK
    | [a, b], _ => exact ent_st2 rfl (by simp) rfl hK
    | a :: b :: c :: t, h => simp only [List.length_cons] at h; omega
  unfold lastF at hlast
  generalize rNums l 3 rd0 = f at *
  obtain ⟨vs, y⟩ := f
  dsimp only at hlast ⊢
  show Ent w0 (pt x.1 226 (rdV x.2 y) :: roB w0 x.2 l :: pt p0 3 [.int .i64 (vs.getD 0 0 : Nat)] :: pt p1 3 [.int .i64 (vs.getD 1 0 : Nat)] :: pt p2 3 [.int .i64 (vs.getD 2 0 : Nat)] :: stI s d sh :: dkH w0 d n D :: F) _
  unfold rdV
  refine ent_draw [pt x.1 226 [x.2, .int .i64 (y.pos : Nat), .bool y.ok], roB w0 x.2 l, pt p0 3 [.int .i64 (vs.getD 0 0 : Nat)], pt p1 3 [.int .i64 (vs.getD 1 0 : Nat)], pt p2 3 [.int .i64 (vs.getD 2 0 : Nat)]] (by (repeat refine Imp.pick 0 rfl ?_); exact Imp.nil) ?_
  (repeat (first | refine ent_p (fun _ => run_nil _) ?_ | refine ent_p (fun _ => run_field0 _) ?_ | refine ent_m (run_load (cell_own 0 rfl rfl)) ?_))
  by_cases c1 : y.ok = true
  rotate_left
  · have hz : sh.last D c k = (0, 0, 0) := by rw [hlast, if_neg (fun h => c1 h.1)]
    have c1 : y.ok = false := by simpa using c1
    rw [c1]
    (repeat (first | refine ent_ifT ?_ | refine ent_gF' ?_ | refine ent_pT ?_ | refine ent_p (fun _ => run_notF) ?_ | refine ent_j ?_))
    refine ent_st2 rfl (by simp) rfl ?_
    (skip)
    refine ent_st3 rfl (by simp) rfl ?_
    (repeat (first | refine ent_r (run_load (cell_own 2 rfl rfl)) ?_ | refine ent_r (run_load (cell_own 3 rfl rfl)) ?_))
    exact ent_ret () (by rw [hz]; rfl) (by (repeat refine Imp.pick 5 rfl ?_); exact Imp.trans Imp.drop1 (Imp.trans Imp.drop1 (Imp.trans Imp.drop1 (Imp.trans Imp.drop1 (Imp.drop1)))))
  rw [c1]
  (repeat (first | refine ent_p (fun _ => run_nil _) ?_ | refine ent_p (fun _ => run_fieldZ _ _) ?_ | refine ent_p (fun _ => run_field0 _) ?_ | refine ent_gT ?_ | refine ent_p (fun _ => run_notT) ?_ | refine ent_j ?_ | refine ent_m (run_load (cell_own 0 rfl rfl)) ?_))
  refine ent_m (run_lenR 1 rfl) ?_
  by_cases c2 : y.pos = l.length
  rotate_left
  · have hz : sh.last D c k = (0, 0, 0) := by rw [hlast, if_neg (fun h => c2 h.2.1)]
    refine ent_p (fun _ => (run_ne _ _).T (by omega)) ?_
    (repeat (first | refine ent_ifT ?_ | refine ent_gF' ?_ | refine ent_pT ?_ | refine ent_pF ?_ | refine ent_j ?_))
    refine ent_st2 rfl (by simp) rfl ?_
    (skip)
    refine ent_st3 rfl (by simp) rfl ?_
    (repeat (first | refine ent_r (run_load (cell_own 2 rfl rfl)) ?_ | refine ent_r (run_load (cell_own 3 rfl rfl)) ?_))
    exact ent_ret () (by rw [hz]; rfl) (by (repeat refine Imp.pick 5 rfl ?_); exact Imp.trans Imp.drop1 (Imp.trans Imp.drop1 (Imp.trans Imp.drop1 (Imp.trans Imp.drop1 (Imp.drop1)))))
  refine ent_p (fun _ => (run_ne _ _).F (by omega)) ?_
  (repeat (first | refine ent_gT ?_ | refine ent_pF ?_ | refine ent_j ?_ | refine ent_m (run_load (cell_own 2 rfl rfl)) ?_))
  by_cases c3 : vs.getD 0 0 ≤ 1099511627776
  rotate_left
  · have hz : sh.last D c k = (0, 0, 0) := by rw [hlast, if_neg (fun h => c3 h.2.2.1)]
    refine ent_p (fun _ => (run_gt _ _).T (by omega)) ?_
    (repeat (first | refine ent_ifT ?_ | refine ent_gF' ?_ | refine ent_pT ?_ | refine ent_pF ?_ | refine ent_j ?_))
    refine ent_st2 rfl (by simp) rfl ?_
    (skip)
    refine ent_st3 rfl (by simp) rfl ?_
    (repeat (first | refine ent_r (run_load (cell_own 2 rfl rfl)) ?_ | refine ent_r (run_load (cell_own 3 rfl rfl)) ?_))
    exact ent_ret () (by rw [hz]; rfl) (by (repeat refine Imp.pick 5 rfl ?_); exact Imp.trans Imp.drop1 (Imp.trans Imp.drop1 (Imp.trans Imp.drop1 (Imp.trans Imp.drop1 (Imp.drop1)))))
  refine ent_p (fun _ => (run_gt _ _).F (by omega)) ?_
  (repeat (first | refine ent_gT ?_ | refine ent_pF ?_ | refine ent_j ?_ | refine ent_m (run_load (cell_own 3 rfl rfl)) ?_))
  by_cases c4 : vs.getD 1 0 ≤ 1099511627776
  rotate_left
  · have hz : sh.last D c k = (0, 0, 0) := by rw [hlast, if_neg (fun h => c4 h.2.2.2.1)]
    refine ent_p (fun _ => (run_gt _ _).T (by omega)) ?_
    (repeat (first | refine ent_ifT ?_ | refine ent_gF' ?_ | refine ent_pT ?_ | refine ent_pF ?_ | refine ent_j ?_))
    refine ent_st2 rfl (by simp) rfl ?_
    (skip)
    refine ent_st3 rfl (by simp) rfl ?_
    (repeat (first | refine ent_r (run_load (cell_own 2 rfl rfl)) ?_ | refine ent_r (run_load (cell_own 3 rfl rfl)) ?_))
    exact ent_ret () (by rw [hz]; rfl) (by (repeat refine Imp.pick 5 rfl ?_); exact Imp.trans Imp.drop1 (Imp.trans Imp.drop1 (Imp.trans Imp.drop1 (Imp.trans Imp.drop1 (Imp.drop1)))))
  refine ent_p (fun _ => (run_gt _ _).F (by omega)) ?_
  (repeat (first | refine ent_gT ?_ | refine ent_pF ?_ | refine ent_j ?_ | refine ent_m (run_load (cell_own 4 rfl rfl)) ?_))
  by_cases c5 : vs.getD 2 0 ≤ 16
  rotate_left
  · have hz : sh.last D c k = (0, 0, 0) := by rw [hlast, if_neg (fun h => c5 h.2.2.2.2)]
    refine ent_p (fun _ => (run_gt _ _).T (by omega)) ?_
    (repeat (first | refine ent_ifT ?_ | refine ent_pF ?_))
    refine ent_st2 rfl (by simp) rfl ?_
    (skip)
    refine ent_st3 rfl (by simp) rfl ?_
    (repeat (first | refine ent_r (run_load (cell_own 2 rfl rfl)) ?_ | refine ent_r (run_load (cell_own 3 rfl rfl)) ?_))
    exact ent_ret () (by rw [hz]; rfl) (by (repeat refine Imp.pick 5 rfl ?_); exact Imp.trans Imp.drop1 (Imp.trans Imp.drop1 (Imp.trans Imp.drop1 (Imp.trans Imp.drop1 (Imp.drop1)))))
  refine ent_p (fun _ => (run_gt _ _).F (by omega)) ?_
  (repeat (first | refine ent_ifF ?_ | refine ent_pF ?_ | refine ent_q (run_load (cell_own 2 rfl rfl)) ?_ | refine ent_q (run_load (cell_own 3 rfl rfl)) ?_ | refine ent_q (run_load (cell_own 4 rfl rfl)) ?_))
  have hz : sh.last D c k = (vs.getD 0 0, vs.getD 1 0, vs.getD 2 0) := by rw [hlast, if_pos ⟨c1, c2, c3, c4, c5⟩]
  refine ent_st2 rfl (by simp) rfl ?_
  (skip)
  refine ent_st3 rfl (by simp) rfl ?_
  (repeat (first | refine ent_r (run_load (cell_own 2 rfl rfl)) ?_ | refine ent_r (run_load (cell_own 3 rfl rfl)) ?_))
  exact ent_ret () (by rw [hz]) (by (repeat refine Imp.pick 5 rfl ?_); exact Imp.trans Imp.drop1 (Imp.trans Imp.drop1 (Imp.trans Imp.drop1 (Imp.trans Imp.drop1 (Imp.drop1)))))
theorem st_blk (s d : Nat) (sh : Shp) (n : Nat) (D : Dk) (hs : sh.Ok) (b : Nat) (hb : b < sh.blocks) (hn : sh.need ≤ n) (hD : D.Ok) :
    Spec w0 98 [P0 s, .int .i64 (b : Nat)] [stI s d sh, dkH w0 d n D] (fun v : Value => .tuple #[.int .i64 ((sh.blk D b).1 : Nat), v]) (fun v => [vecB v 5 (sh.blk D b).2, stI s d sh, dkH w0 d n D]) := by
  refine spec_go (fun R w => H98) fun F => ?_
  show Ent w0 (stI s d sh :: dkH w0 d n D :: F) _
  have h1 := hs.blocks; have h2 := hs.size
  unfold F98
  (repeat (first | refine ent_q (run_nil _) ?_ | refine ent_q (run_fieldZ _ _) ?_))
  refine ent_q (run_shape 0 rfl) ?_
  refine ent_call (st_blockAt sh b (by omega)) (Imp.refl _) fun _ => ?_
  refine ent_call (st_sector s d sh n D (1 + b) (by unfold Shp.need at hn; omega) hD) (Imp.refl _) fun x => ?_
  have hblk : sh.blk D b = blkF sh.size (D.l (1 + b)) := rfl
  have hlen := hD.len (1 + b)
  generalize D.l (1 + b) = l at *
  show Ent w0 (pt x.1 226 (rdV x.2 rd0) :: roB w0 x.2 l :: stI s d sh :: dkH w0 d n D :: F) _
  refine ent_call (rd_num x.1 x.2 l rd0 (by omega)) (by (repeat refine Imp.pick 0 rfl ?_); exact Imp.refl _) fun _ => ?_
  show Ent w0 (pt x.1 226 (rdV x.2 (rNum l rd0).2) :: roB w0 x.2 l :: stI s d sh :: dkH w0 d n D :: F) _
  refine Ent.at 2 rfl (Ent.dup (Pers.st s d sh) ?_)
  conv => lhs; arg 1; unfold stI
  (repeat (first | refine ent_q (run_nil _) ?_ | refine ent_q (run_fieldZ _ _) ?_ | refine ent_q (run_field0 _) ?_ | refine ent_q (run_load (cell_imm 0 rfl rfl)) ?_))
  refine ent_call (rd_text x.1 x.2 l (rNum l rd0).2 sh.size (by omega) (by omega)) (by (repeat refine Imp.pick 2 rfl ?_); exact Imp.refl _) fun v => ?_
  unfold blkF at hblk
  generalize hy : rText l sh.size (rNum l rd0).2 = y at *
  generalize (rNum l rd0).1 = ver at *
  obtain ⟨t, y⟩ := y
  dsimp only at hblk ⊢
  show Ent w0 (vecB v 5 t :: pt x.1 226 (rdV x.2 y) :: roB w0 x.2 l :: ptI s 159 [.int .i64 (sh.blocks : Nat), .int .i64 (sh.size : Nat), .int .i64 (sh.clients : Nat), .int .i64 (sh.slots : Nat), P0 d] :: stI s d sh :: dkH w0 d n D :: F) _
  unfold rdV
  (repeat (first | refine ent_q (run_nil _) ?_ | refine ent_q (run_field0 _) ?_ | refine ent_q (run_load (cell_own 1 rfl rfl)) ?_))
  by_cases c1 : y.ok = true
  rotate_left
  · have hz : sh.blk D b = (0, List.replicate sh.size 0) := by rw [hblk, if_neg (fun h => c1 h.1)]
    have c1 : y.ok = false := by simpa using c1
    rw [c1]
    (repeat (first | refine ent_ifT ?_ | refine ent_gF' ?_ | refine ent_pT ?_ | refine ent_q (run_notF) ?_ | refine ent_j ?_))
    refine ent_draw [ptI s 159 [.int .i64 (sh.blocks : Nat), .int .i64 (sh.size : Nat), .int .i64 (sh.clients : Nat), .int .i64 (sh.slots : Nat), P0 d]] (by (repeat refine Imp.pick 3 rfl ?_); exact Imp.nil) ?_
    (repeat (first | refine ent_p (fun _ => run_nil _) ?_ | refine ent_p (fun _ => run_fieldZ _ _) ?_ | refine ent_p (fun _ => run_field0 _) ?_ | refine ent_m (run_load (cell_imm 0 rfl rfl)) ?_))
    refine ent_make (zs := [.int .u8 0]) rfl sh.size sh.size rfl rfl (Nat.le_refl _) (by omega) (by omega) fun v' => ?_
    rw [by8_zero]
    refine ent_ret v' (by rw [hz]; rfl) ?_
    rw [hz]
    have e : sh.size = (List.replicate sh.size (0 : UInt8)).length := by simp
    unfold vecB
    rw [← e]
    exact (by (repeat (first | refine Imp.pick 0 rfl ?_ | refine Imp.pick 3 rfl ?_ | refine Imp.pick 4 rfl ?_)); exact Imp.trans Imp.drop1 (Imp.trans Imp.drop1 (Imp.trans Imp.drop1 (Imp.drop1))))
  rw [c1]
  (repeat (first | refine ent_gT ?_ | refine ent_q (run_notT) ?_ | refine ent_j ?_))
  by_cases c2 : ver ≤ 1000
  rotate_left
  · have hz : sh.blk D b = (0, List.replicate sh.size 0) := by rw [hblk, if_neg (fun h => c2 h.2)]
    refine ent_q ((run_gt _ _).T (by omega)) ?_
    (repeat (first | refine ent_ifT ?_ | refine ent_pF ?_))
    refine ent_draw [ptI s 159 [.int .i64 (sh.blocks : Nat), .int .i64 (sh.size : Nat), .int .i64 (sh.clients : Nat), .int .i64 (sh.slots : Nat), P0 d]] (by (repeat refine Imp.pick 3 rfl ?_); exact Imp.nil) ?_
    (repeat (first | refine ent_p (fun _ => run_nil _) ?_ | refine ent_p (fun _ => run_fieldZ _ _) ?_ | refine ent_p (fun _ => run_field0 _) ?_ | refine ent_m (run_load (cell_imm 0 rfl rfl)) ?_))
    refine ent_make (zs := [.int .u8 0]) rfl sh.size sh.size rfl rfl (Nat.le_refl _) (by omega) (by omega) fun v' => ?_
    rw [by8_zero]
    refine ent_ret v' (by rw [hz]; rfl) ?_
    rw [hz]
    have e : sh.size = (List.replicate sh.size (0 : UInt8)).length := by simp
    unfold vecB
    rw [← e]
    exact (by (repeat (first | refine Imp.pick 0 rfl ?_ | refine Imp.pick 3 rfl ?_ | refine Imp.pick 4 rfl ?_)); exact Imp.trans Imp.drop1 (Imp.trans Imp.drop1 (Imp.trans Imp.drop1 (Imp.drop1))))
  refine ent_q ((run_gt _ _).F (by omega)) ?_
  (repeat (first | refine ent_ifF ?_ | refine ent_pF ?_))
  have hz : sh.blk D b = (ver, t) := by rw [hblk, if_pos ⟨c1, c2⟩]
  refine ent_ret v (by rw [hz]) ?_
  rw [hz]
  exact (by (repeat (first | refine Imp.pick 0 rfl ?_ | refine Imp.pick 2 rfl ?_ | refine Imp.pick 3 rfl ?_)); exact Imp.trans Imp.drop1 (Imp.trans Imp.drop1 (Imp.drop1)))
def Shp.read (sh : Shp) (D : Dk) (b : Int) : List UInt8 × Nat × Nat := if 0 ≤ b ∧ b < sh.blocks then ((sh.blk D b.toNat).2, (sh.blk D b.toNat).1, 0) else ([], 0, 9)
theorem blk_len {sh : Shp} (hs : sh.Ok) (D : Dk) (b : Nat) : (sh.blk D b).2.length = sh.size := by
  unfold Shp.blk blkF
  split
  · rename_i h
    unfold rText at h ⊢
    split
    · rename_i h2
      rw [if_pos h2] at h
      simp only [Bool.and_eq_true, decide_eq_true_eq] at h
      exact h.1.2.1
    · rename_i h2
      rw [if_neg h2] at h
      exact absurd h.1 h2
  · simp
theorem blk_ver {sh : Shp} (D : Dk) (b : Nat) : (sh.blk D b).1 ≤ 1000 := by
  unfold Shp.blk blkF
  split
  · rename_i h; exact h.2
  · simp
theorem st_read (s d : Nat) (sh : Shp) (n : Nat) (D : Dk) (hs : sh.Ok) (b : Int) (hn : sh.need ≤ n) (hD : D.Ok) :
    Spec w0 48 [P0 s, .int .i64 b] [stI s d sh, dkH w0 d n D] (fun v : Value => .tuple #[v, .int .i64 ((sh.read D b).2.1 : Nat), .int .i64 ((sh.read D b).2.2 : Nat)]) (fun v => [vecB v 5 (sh.read D b).1, stI s d sh, dkH w0 d n D]) := by
  refine spec_go (fun R w => H48) fun F => ?_
  show Ent w0 (stI s d sh :: dkH w0 d n D :: F) _
  have h1 := hs.blocks; have h2 := hs.size
  unfold F48 Shp.read
  (repeat (first | refine ent_ifF ?_ | refine ent_q (run_eqpS _) ?_))
  refine ent_qb (run_lt _ _) (fun c1 => ?_) (fun c1 => ?_)
  · (repeat (first | refine ent_ifT ?_ | refine ent_gF' ?_ | refine ent_pT ?_ | refine ent_j ?_))
    rw [if_neg (by omega)]
    exact ent_ret (.slice none 0 0) rfl (Imp.vec0 rfl (Imp.refl _))
  · refine Ent.dup (Pers.st s d sh) ?_
    conv => lhs; arg 1; unfold stI
    (repeat (first | refine ent_q (run_nil _) ?_ | refine ent_q (run_fieldZ _ _) ?_ | refine ent_gT ?_ | refine ent_j ?_ | refine ent_q (run_load (cell_imm 0 rfl rfl)) ?_))
    refine ent_qb (run_ge _ _) (fun c2 => ?_) (fun c2 => ?_)
    · (repeat (first | refine ent_ifT ?_ | refine ent_pF ?_))
      rw [if_neg (by omega)]
      exact ent_ret (.slice none 0 0) rfl (Imp.vec0 rfl (by (repeat (first | refine Imp.pick 0 rfl ?_ | refine Imp.pick 1 rfl ?_)); exact Imp.drop1))
    · (repeat (first | refine ent_ifF ?_ | refine ent_pF ?_))
      rw [if_pos (by omega)]
      have e : b = ((b.toNat : Nat) : Int) := by omega
      have e2 : P0 s = P0 s := rfl
      generalize b.toNat = k at *
      subst e
      refine ent_call (st_blk s d sh n D hs k (by omega) hn hD) (by (repeat (first | refine Imp.pick 0 rfl ?_ | refine Imp.pick 1 rfl ?_)); exact Imp.refl _) fun v => ?_
      (repeat refine ent_q (run_ex rfl) ?_)
      have := blk_len hs D k
      refine Ent.vecRo ?_
      refine ent_call (clone_bytes v (sh.blk D k).2 (by omega)) (by (repeat refine Imp.pick 0 rfl ?_); exact Imp.refl _) fun v' => ?_
      exact ent_ret v' rfl (by (repeat refine Imp.pick 0 rfl ?_); exact Imp.drop1)
end
end Go.Gd
