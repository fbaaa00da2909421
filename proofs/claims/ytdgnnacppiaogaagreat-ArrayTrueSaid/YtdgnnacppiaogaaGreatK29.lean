/- The plain law of the store: what it reads and writes. Conditions: those in the theorems. The contracts of package store, first part: readers, numbers. Conditions: those in the theorems. -/
import Derived.Test.YtdgnnacppiaogaaGreatK28
import Derived.Test.YtdgnnacppiaogaaGreatK25
import Derived.Test.YtdgnnacppiaogaaGreatK14
set_option linter.unusedVariables false
set_option linter.unusedSimpArgs false
namespace Go.Gd
structure Shp where
  blocks : Nat
  size : Nat
  clients : Nat
  slots : Nat
structure Shp.Ok (s : Shp) : Prop where
  blocks : 1 ≤ s.blocks ∧ s.blocks ≤ 32
  size : 1 ≤ s.size ∧ s.size ≤ 16
  clients : 1 ≤ s.clients ∧ s.clients ≤ 4
  slots : 1 ≤ s.slots ∧ s.slots ≤ 4
def nums (l : List Nat) : List UInt8 := l.flatMap enc
theorem nums_cons (n : Nat) (l : List Nat) : nums (n :: l) = enc n ++ nums l := rfl
theorem nums_app (l : List Nat) (n : Nat) : nums (l ++ [n]) = nums l ++ enc n := by simp [nums]
def txt (b t : List UInt8) : List UInt8 := b ++ enc t.length ++ t
structure Rd where
  pos : Nat
  ok : Bool
def rNum (l : List UInt8) (r : Rd) : Nat × Rd := if r.ok then ((getB l r.pos).1, ⟨(getB l r.pos).2.1, decide ((getB l r.pos).2.2 = 0)⟩) else (0, r)
def rText (l : List UInt8) (size : Nat) (r : Rd) : List UInt8 × Rd :=
  if r.ok then ((getT l r.pos size).1, ⟨r.pos, decide ((getT l r.pos size).2.2 = 0) && (decide ((getT l r.pos size).1.length = size) && decide ((getT l r.pos size).2.1 = l.length))⟩) else ([], r)
def rNums (l : List UInt8) : Nat → Rd → List Nat × Rd
  | 0, r => ([], r)
  | n + 1, r => ((rNums l n r).1 ++ [(rNum l (rNums l n r).2).1], (rNum l (rNums l n r).2).2)
def rd0 : Rd := ⟨0, true⟩
def blkF (size : Nat) (l : List UInt8) : Nat × List UInt8 :=
  if (rText l size (rNum l rd0).2).2.ok = true ∧ (rNum l rd0).1 ≤ 1000 then ((rNum l rd0).1, (rText l size (rNum l rd0).2).1) else (0, List.replicate size 0)
def lastF (l : List UInt8) : Nat × Nat × Nat :=
  if (rNums l 3 rd0).2.ok = true ∧ (rNums l 3 rd0).2.pos = l.length ∧ (rNums l 3 rd0).1.getD 0 0 ≤ 1099511627776 ∧ (rNums l 3 rd0).1.getD 1 0 ≤ 1099511627776 ∧ (rNums l 3 rd0).1.getD 2 0 ≤ 16
  then ((rNums l 3 rd0).1.getD 0 0, (rNums l 3 rd0).1.getD 1 0, (rNums l 3 rd0).1.getD 2 0) else (0, 0, 0)
structure Wr where
  client : Int
  slot : Int
  boot : Int
  op : Int
  block : Int
  data : List UInt8
def Shp.fits (s : Shp) (w : Wr) : Prop := 0 ≤ w.client ∧ w.client < s.clients ∧ 0 ≤ w.slot ∧ w.slot < s.slots ∧ 1 ≤ w.boot ∧ w.boot ≤ 1099511627776 ∧ 1 ≤ w.op ∧ w.op ≤ 1099511627776
instance (s : Shp) (w : Wr) : Decidable (s.fits w) := by unfold Shp.fits; infer_instance
def Shp.need (s : Shp) : Nat := 1 + s.blocks + s.clients * s.slots
def Shp.slotAt (s : Shp) (c k : Nat) : Nat := 1 + s.blocks + s.slots * c + k
def jrnW (size : Nat) (l : List UInt8) : Wr := let r := rNums l 6 rd0; ⟨r.1.getD 0 0, r.1.getD 1 0, r.1.getD 2 0, r.1.getD 3 0, r.1.getD 4 0, (rText l size r.2).1⟩
def jrnV (l : List UInt8) : Nat := (rNums l 6 rd0).1.getD 5 0
def Shp.jrnIs (s : Shp) (l : List UInt8) : Prop := (rText l s.size (rNums l 6 rd0).2).2.ok = true ∧ s.fits (jrnW s.size l) ∧ (jrnW s.size l).block < s.blocks ∧ 1 ≤ jrnV l ∧ jrnV l ≤ 1000
instance (s : Shp) (l : List UInt8) : Decidable (s.jrnIs l) := by unfold Shp.jrnIs; infer_instance
def wrSeq : List (Nat × List UInt8) → Dk → Int × Dk
  | [], D => (0, D)
  | (a, b) :: l, D => if (D.write a b).1 ≠ 0 then D.write a b else wrSeq l (D.write a b).2
def Shp.does (s : Shp) (w : Wr) (v : Nat) (D : Dk) : Int × Dk :=
  wrSeq [(1 + w.block.toNat, txt (nums [v]) w.data), (s.slotAt w.client.toNat w.slot.toNat, nums [w.boot.toNat, w.op.toNat, 0]), (0, [])] D
def Shp.open (s : Shp) (D : Dk) : Int × Dk := if s.jrnIs (D.l 0) then s.does (jrnW s.size (D.l 0)) (jrnV (D.l 0)) D else (0, D)
def Shp.blk (s : Shp) (D : Dk) (b : Nat) : Nat × List UInt8 := blkF s.size (D.l (1 + b))
def Shp.last (s : Shp) (D : Dk) (c k : Nat) : Nat × Nat × Nat := lastF (D.l (s.slotAt c k))
def jrnB (w : Wr) (v : Nat) : List UInt8 := txt (nums [w.client.toNat, w.slot.toNat, w.boot.toNat, w.op.toNat, w.block.toNat, v]) w.data
def Shp.write (s : Shp) (w : Wr) (D : Dk) : Int × Int × Dk :=
  if w.block < 0 ∨ s.blocks ≤ w.block then (0, 9, D)
  else if w.data.length ≠ s.size then (0, 10, D)
  else if ¬ s.fits w then (0, 6, D)
  else if w.boot < (s.last D w.client.toNat w.slot.toNat).1 ∨ w.boot = (s.last D w.client.toNat w.slot.toNat).1 ∧ w.op < (s.last D w.client.toNat w.slot.toNat).2.1 then (0, 12, D)
  else if w.boot = (s.last D w.client.toNat w.slot.toNat).1 ∧ w.op = (s.last D w.client.toNat w.slot.toNat).2.1 then ((s.last D w.client.toNat w.slot.toNat).2.2, 0, D)
  else if (s.blk D w.block.toNat).1 = 1000 then
    (if (D.write (s.slotAt w.client.toNat w.slot.toNat) (nums [w.boot.toNat, w.op.toNat, 11])).1 ≠ 0 then (0, (D.write (s.slotAt w.client.toNat w.slot.toNat) (nums [w.boot.toNat, w.op.toNat, 11]))) else (11, (D.write (s.slotAt w.client.toNat w.slot.toNat) (nums [w.boot.toNat, w.op.toNat, 11]))))
  else if (D.write 0 (jrnB w ((s.blk D w.block.toNat).1 + 1))).1 ≠ 0 then (0, D.write 0 (jrnB w ((s.blk D w.block.toNat).1 + 1)))
  else (0, s.does w ((s.blk D w.block.toNat).1 + 1) (D.write 0 (jrnB w ((s.blk D w.block.toNat).1 + 1))).2)
structure Dk.Ok (D : Dk) : Prop where
  len : ∀ i, (D.l i).length ≤ 64
  fuse : -1 ≤ D.fuse ∧ D.fuse ≤ 9223372036854775807
theorem Dk.Ok.write {D : Dk} (h : D.Ok) {a : Nat} {b : List UInt8} (hb : b.length ≤ 64) : (D.write a b).2.Ok := by
  have h2 := h.fuse
  unfold Dk.write
  split
  · exact h
  · split
    · exact ⟨h.len, h.fuse⟩
    · refine ⟨fun i => ?_, by simp only; omega⟩
      simp only [upF]
      split
      · exact hb
      · exact h.len i
theorem Dk.Ok.seq {l : List (Nat × List UInt8)} (hl : ∀ x ∈ l, x.2.length ≤ 64) : ∀ {D : Dk}, D.Ok → (wrSeq l D).2.Ok := by
  induction l with
  | nil => exact fun h => h
  | cons x l ih =>
    intro D h
    have h1 := h.write (a := x.1) (b := x.2) (hl x List.mem_cons_self)
    unfold wrSeq
    split
    · exact h1
    · exact ih (fun y hy => hl y (List.mem_cons_of_mem _ hy)) h1
theorem enc40 {n : Nat} (h : n ≤ 1099511627776) : (enc n).length ≤ 6 := enc_len (k := 5) (by omega)
theorem enc14 {n : Nat} (h : n < 16384) : (enc n).length ≤ 2 := enc_len (k := 1) (by omega)
theorem enc7 {n : Nat} (h : n < 128) : (enc n).length = 1 := by rw [enc_lt h]; rfl
theorem Shp.fits.small {s : Shp} (hs : s.Ok) {w : Wr} (h : s.fits w) : w.client.toNat < 4 ∧ w.slot.toNat < 4 ∧ w.boot.toNat ≤ 1099511627776 ∧ w.op.toNat ≤ 1099511627776 := by
  have h1 := hs.clients; have h2 := hs.slots
  unfold Shp.fits at h
  omega
theorem len_txt (b t : List UInt8) (ht : t.length ≤ 16) : (txt b t).length = b.length + 1 + t.length := by
  unfold txt; rw [List.length_append, List.length_append, enc7 (by omega)]
theorem len_blk {v : Nat} {t : List UInt8} (hv : v ≤ 1001) (ht : t.length ≤ 16) : (txt (nums [v]) t).length ≤ 64 := by
  rw [len_txt _ _ ht]
  have := enc14 (n := v) (by omega)
  simp only [nums, List.flatMap_cons, List.flatMap_nil, List.append_nil]
  omega
theorem len_slot {a b c : Nat} (ha : a ≤ 1099511627776) (hb : b ≤ 1099511627776) (hc : c < 128) : (nums [a, b, c]).length ≤ 64 := by
  have h1 := enc40 ha; have h2 := enc40 hb; have h3 := enc7 hc
  simp only [nums, List.flatMap_cons, List.flatMap_nil, List.append_nil, List.length_append]
  omega
theorem len_jrn {s : Shp} (hs : s.Ok) {w : Wr} (h : s.fits w) {v : Nat} (hv : v ≤ 1001) (ht : w.data.length ≤ 16) (hb : w.block.toNat < 128) : (jrnB w v).length ≤ 64 := by
  obtain ⟨h1, h2, h3, h4⟩ := h.small hs
  unfold jrnB
  rw [len_txt _ _ ht]
  have e1 := enc7 (n := w.client.toNat) (by omega)
  have e2 := enc7 (n := w.slot.toNat) (by omega)
  have e3 := enc40 h3; have e4 := enc40 h4
  have e5 := enc7 hb
  have e6 := enc14 (n := v) (by omega)
  simp only [nums, List.flatMap_cons, List.flatMap_nil, List.append_nil, List.length_append]
  omega
theorem rNum_enc {a : List UInt8} {n : Nat} (rest : List UInt8) (hn : n ≤ 9223372036854775807) : rNum (a ++ enc n ++ rest) ⟨a.length, true⟩ = (n, ⟨a.length + (enc n).length, true⟩) := by
  unfold rNum
  simp only [if_true, getB_enc rest hn, decide_true]
theorem rText_enc {a t : List UInt8} (ht : t.length ≤ 9223372036854775807) : rText (a ++ enc t.length ++ t) t.length ⟨a.length, true⟩ = (t, ⟨a.length, true⟩) := by
  have h := getT_enc (a := a) (t := t) [] (most := (t.length : Int)) (Int.le_refl _) ht
  rw [List.append_nil] at h
  unfold rText
  simp only [if_true, h, decide_true, Bool.true_and, List.length_append, Nat.add_assoc]
theorem blkF_enc {v : Nat} {t : List UInt8} (hv : v ≤ 1000) (ht : t.length ≤ 16) : blkF t.length (txt (nums [v]) t) = (v, t) := by
  have e0 : txt (nums [v]) t = [] ++ enc v ++ (enc t.length ++ t) := by simp [txt, nums]
  have h1 : rNum (txt (nums [v]) t) rd0 = (v, ⟨(enc v).length, true⟩) := by
    rw [e0]
    have := rNum_enc (a := []) (n := v) (enc t.length ++ t) (by omega)
    simpa [rd0] using this
  have e1 : txt (nums [v]) t = enc v ++ enc t.length ++ t := by simp [txt, nums]
  have h2 : rText (txt (nums [v]) t) t.length ⟨(enc v).length, true⟩ = (t, ⟨(enc v).length, true⟩) := by
    rw [e1]; exact rText_enc (by omega)
  unfold blkF
  rw [h1]
  simp only [h2]
  rw [if_pos ⟨trivial, hv⟩]
end Go.Gd
namespace Go.Gd
open Go.Instr
attribute [local irreducible] loadAt storeAt fieldAt indexAt alloc box build buildSlice hNil eqG binOp Op.unary extract makeSlice makeInterface makeFunc convert hV mV pV hU hF hFV hIf hGuard hPick hJ hDraw hLoop ro Instr.index dkH
section
variable {w0 : World} {L : List HP}
theorem raw_putText (b t : Value) (bl tl : List UInt8) (hb : bl.length ≤ 549755813888) (ht : tl.length ≤ 549755813888) :
    Spec w0 150 [b, t] [roB w0 b bl, roB w0 t tl] (fun v : Value => v) (fun v => [vecB v 5 (txt bl tl)]) := by
  refine spec_go (fun R w => H150) fun F => ?_
  show Ent w0 (roB w0 b bl :: roB w0 t tl :: F) _
  unfold F150
  refine Ent.at 1 rfl (Ent.ro fun a cap R hv hln hrd => ?_)
  subst hv
  refine ent_q run_len ?_
  refine ent_call (raw_put b bl tl.length hb (by omega)) (by (repeat refine Imp.pick 2 rfl ?_); exact Imp.refl _) fun v => ?_
  rw [Int.toNat_natCast]
  have h9 := enc_len9 (n := tl.length) (by omega)
  refine ent_append (zs := [.int .u8 0]) 0 rfl (hrd _ 0 rfl) rfl (by8_one tl) (by rw [List.length_append]; omega) (by rw [List.length_append]; omega) fun v' => ?_
  refine ent_ret v' rfl ?_
  rw [← by8_app, show bl ++ enc tl.length ++ tl = txt bl tl from rfl]
  have e : (bl ++ enc tl.length).length + tl.length = (txt bl tl).length := by unfold txt; simp [Nat.add_assoc]
  rw [e]
  exact (by (repeat refine Imp.pick 0 rfl ?_); exact Imp.trans Imp.drop1 (Imp.drop1))
def wrL (w : Wr) (dv : Value) : List Value := [.int .i64 w.client, .int .i64 w.slot, .int .i64 w.boot, .int .i64 w.op, .int .i64 w.block, dv]
def stI (s d : Nat) (sh : Shp) : HP := ptI s 159 [.int .i64 (sh.blocks : Nat), .int .i64 (sh.size : Nat), .int .i64 (sh.clients : Nat), .int .i64 (sh.slots : Nat), P0 d]
def shL (sh : Shp) : List Value := [.int .i64 (sh.blocks : Nat), .int .i64 (sh.size : Nat), .int .i64 (sh.clients : Nat), .int .i64 (sh.slots : Nat)]
abbrev shV (sh : Shp) : Value := .agg (shL sh).toArray
theorem Pers.st (s d : Nat) (sh : Shp) : Pers (stI s d sh) := Pers.imm _ _
theorem st_right (sh : Shp) (hs : sh.Ok) : Spec w0 93 [shV sh] [] (fun _ : Unit => .bool true) (fun _ => []) := by
  refine spec_go (fun R w => H93) fun F => ?_
  show Ent w0 F _
  have h1 := hs.blocks; have h2 := hs.size; have h3 := hs.clients; have h4 := hs.slots
  unfold F93
  refine ent_box fun b => ?_
  rw [agg_cells, List.toList_toArray]
  unfold shL
  (repeat (first | refine ent_q (run_fieldZ _ _) ?_ | refine ent_q (run_load (cell_own 0 rfl rfl)) ?_))
  refine ent_q ((run_ge _ _).T (by omega)) ?_
  (repeat (first | refine ent_q (run_fieldZ _ _) ?_ | refine ent_gT ?_ | refine ent_j ?_ | refine ent_q (run_load (cell_own 0 rfl rfl)) ?_))
  refine ent_q ((run_le _ _).T (by omega)) ?_
  (repeat (first | refine ent_q (run_field0 _) ?_ | refine ent_gT ?_ | refine ent_pT ?_ | refine ent_j ?_ | refine ent_q (run_load (cell_own 0 rfl rfl)) ?_))
  refine ent_q ((run_ge _ _).T (by omega)) ?_
  (repeat (first | refine ent_q (run_field0 _) ?_ | refine ent_gT ?_ | refine ent_pT ?_ | refine ent_j ?_ | refine ent_q (run_load (cell_own 0 rfl rfl)) ?_))
  refine ent_q ((run_le _ _).T (by omega)) ?_
  (repeat (first | refine ent_q (run_field0 _) ?_ | refine ent_gT ?_ | refine ent_pT ?_ | refine ent_j ?_ | refine ent_q (run_load (cell_own 0 rfl rfl)) ?_))
  refine ent_q ((run_ge _ _).T (by omega)) ?_
  (repeat (first | refine ent_q (run_field0 _) ?_ | refine ent_gT ?_ | refine ent_pT ?_ | refine ent_j ?_ | refine ent_q (run_load (cell_own 0 rfl rfl)) ?_))
  refine ent_q ((run_le _ _).T (by omega)) ?_
  (repeat (first | refine ent_q (run_field0 _) ?_ | refine ent_gT ?_ | refine ent_pT ?_ | refine ent_j ?_ | refine ent_q (run_load (cell_own 0 rfl rfl)) ?_))
  refine ent_q ((run_ge _ _).T (by omega)) ?_
  (repeat (first | refine ent_q (run_field0 _) ?_ | refine ent_gT ?_ | refine ent_pT ?_ | refine ent_q (run_load (cell_own 0 rfl rfl)) ?_))
  refine ent_q ((run_le _ _).T (by omega)) ?_
  (repeat refine ent_pT ?_)
  exact ent_ret () rfl (by exact Imp.drop1)
theorem st_need (sh : Shp) (hs : sh.Ok) : Spec w0 95 [shV sh] [] (fun _ : Unit => .int .i64 (sh.need : Nat)) (fun _ => []) := by
  refine spec_go (fun R w => H95) fun F => ?_
  show Ent w0 F _
  have h1 := hs.blocks; have h2 := hs.size; have h3 := hs.clients; have h4 := hs.slots
  have h5 : sh.clients * sh.slots ≤ 4 * 4 := Nat.mul_le_mul h3.2 h4.2
  unfold F95
  refine ent_box fun b => ?_
  rw [agg_cells, List.toList_toArray]
  unfold shL
  (repeat (first | refine ent_q (run_fieldZ _ _) ?_ | refine ent_q (run_load (cell_own 0 rfl rfl)) ?_))
  refine ent_q (run_add64 (by omega)) ?_
  (repeat (first | refine ent_q (run_field0 _) ?_ | refine ent_q (run_load (cell_own 0 rfl rfl)) ?_))
  rw [show ((1 : Int) + (sh.blocks : Nat)) = ((1 + sh.blocks : Nat) : Int) by omega]
  have e : ((sh.clients : Nat) : Int) * ((sh.slots : Nat) : Int) = ((sh.clients * sh.slots : Nat) : Int) := (Int.natCast_mul _ _).symm
  refine ent_q (run_mul64 (by rw [e]; omega)) ?_
  rw [e]
  refine ent_q (run_add64 (by omega)) ?_
  refine ent_ret () ?_ (by exact Imp.drop1)
  unfold Shp.need
  simp only [Int.natCast_add]
theorem st_blockAt (sh : Shp) (b : Nat) (hb : b < 64) : Spec w0 152 [shV sh, .int .i64 (b : Nat)] [] (fun _ : Unit => .int .i64 ((1 + b : Nat) : Int)) (fun _ => []) := by
  refine spec_go (fun R w => H152) fun F => ?_
  show Ent w0 F _
  unfold F152
  refine ent_box fun p => ?_
  refine ent_q (run_add64 (by omega)) ?_
  exact ent_ret () (by rw [Int.natCast_add]; rfl) (by exact Imp.drop1)
theorem st_slotAt (sh : Shp) (hs : sh.Ok) (c k : Nat) (hc : c < 4) (hk : k < 4) : Spec w0 153 [shV sh, .int .i64 (c : Nat), .int .i64 (k : Nat)] [] (fun _ : Unit => .int .i64 ((sh.slotAt c k : Nat) : Int)) (fun _ => []) := by
  refine spec_go (fun R w => H153) fun F => ?_
  show Ent w0 F _
  have h1 := hs.blocks; have h4 := hs.slots
  have h5 : sh.slots * c ≤ 4 * 4 := Nat.mul_le_mul h4.2 (by omega)
  unfold F153
  refine ent_box fun b => ?_
  rw [agg_cells, List.toList_toArray]
  unfold shL
  (repeat (first | refine ent_q (run_fieldZ _ _) ?_ | refine ent_q (run_load (cell_own 0 rfl rfl)) ?_))
  refine ent_q (run_add64 (by omega)) ?_
  (repeat (first | refine ent_q (run_field0 _) ?_ | refine ent_q (run_load (cell_own 0 rfl rfl)) ?_))
  have e : ((sh.slots : Nat) : Int) * ((c : Nat) : Int) = ((sh.slots * c : Nat) : Int) := (Int.natCast_mul _ _).symm
  refine ent_q (run_mul64 (by rw [e]; omega)) ?_
  rw [e]
  refine ent_q (run_add64 (by omega)) ?_
  refine ent_q (run_add64 (by omega)) ?_
  refine ent_ret () ?_ (by exact Imp.drop1)
  unfold Shp.slotAt
  simp only [Int.natCast_add]
  rfl
theorem st_fits (sh : Shp) (w : Wr) (dv : Value) : Spec w0 148 [shV sh, .agg (wrL w dv).toArray] [] (fun _ : Unit => .bool (decide (sh.fits w))) (fun _ => []) := by
  refine spec_go (fun R w => H148) fun F => ?_
  show Ent w0 F _
  unfold F148
  refine ent_box fun b => ?_
  rw [agg_cells, List.toList_toArray]
  refine ent_box fun b2 => ?_
  rw [agg_cells, List.toList_toArray]
  unfold shL wrL
  have hf : sh.fits w → (0 ≤ w.client ∧ w.client < sh.clients ∧ 0 ≤ w.slot ∧ w.slot < sh.slots ∧ 1 ≤ w.boot ∧ w.boot ≤ 1099511627776 ∧ 1 ≤ w.op ∧ w.op ≤ 1099511627776) := id
  (repeat (first | refine ent_q (run_fieldZ _ _) ?_ | refine ent_q (run_load (cell_own 0 rfl rfl)) ?_))
  refine ent_qb (run_ge _ _) (fun h1 => ?_) (fun h1 => ?_)
  rotate_left
  · (repeat (first | refine ent_gF ?_ | refine ent_pF ?_ | refine ent_j ?_))
    exact ent_ret () (by rw [decide_eq_false (fun h => h1 (hf h).1)]) (by exact Imp.trans Imp.drop1 (Imp.drop1))
  (repeat (first | refine ent_q (run_fieldZ _ _) ?_ | refine ent_q (run_field0 _) ?_ | refine ent_gT ?_ | refine ent_j ?_ | refine ent_q (run_load (cell_own 0 rfl rfl)) ?_ | refine ent_q (run_load (cell_own 1 rfl rfl)) ?_))
  refine ent_qb (run_lt _ _) (fun h2 => ?_) (fun h2 => ?_)
  rotate_left
  · (repeat (first | refine ent_gF ?_ | refine ent_pT ?_ | refine ent_pF ?_ | refine ent_j ?_))
    exact ent_ret () (by rw [decide_eq_false (fun h => h2 (hf h).2.1)]) (by exact Imp.trans Imp.drop1 (Imp.drop1))
  (repeat (first | refine ent_q (run_field0 _) ?_ | refine ent_gT ?_ | refine ent_pT ?_ | refine ent_j ?_ | refine ent_q (run_load (cell_own 0 rfl rfl)) ?_))
  refine ent_qb (run_ge _ _) (fun h3 => ?_) (fun h3 => ?_)
  rotate_left
  · (repeat (first | refine ent_gF ?_ | refine ent_pT ?_ | refine ent_pF ?_ | refine ent_j ?_))
    exact ent_ret () (by rw [decide_eq_false (fun h => h3 (hf h).2.2.1)]) (by exact Imp.trans Imp.drop1 (Imp.drop1))
  (repeat (first | refine ent_q (run_field0 _) ?_ | refine ent_gT ?_ | refine ent_pT ?_ | refine ent_j ?_ | refine ent_q (run_load (cell_own 0 rfl rfl)) ?_ | refine ent_q (run_load (cell_own 1 rfl rfl)) ?_))
  refine ent_qb (run_lt _ _) (fun h4 => ?_) (fun h4 => ?_)
  rotate_left
  · (repeat (first | refine ent_gF ?_ | refine ent_pT ?_ | refine ent_pF ?_ | refine ent_j ?_))
    exact ent_ret () (by rw [decide_eq_false (fun h => h4 (hf h).2.2.2.1)]) (by exact Imp.trans Imp.drop1 (Imp.drop1))
  (repeat (first | refine ent_q (run_field0 _) ?_ | refine ent_gT ?_ | refine ent_pT ?_ | refine ent_j ?_ | refine ent_q (run_load (cell_own 0 rfl rfl)) ?_))
  refine ent_qb (run_ge _ _) (fun h5 => ?_) (fun h5 => ?_)
  rotate_left
  · (repeat (first | refine ent_gF ?_ | refine ent_pT ?_ | refine ent_pF ?_ | refine ent_j ?_))
    exact ent_ret () (by rw [decide_eq_false (fun h => h5 (hf h).2.2.2.2.1)]) (by exact Imp.trans Imp.drop1 (Imp.drop1))
  (repeat (first | refine ent_q (run_field0 _) ?_ | refine ent_gT ?_ | refine ent_pT ?_ | refine ent_j ?_ | refine ent_q (run_load (cell_own 0 rfl rfl)) ?_))
  refine ent_qb (run_le _ _) (fun h6 => ?_) (fun h6 => ?_)
  rotate_left
  · (repeat (first | refine ent_gF ?_ | refine ent_pT ?_ | refine ent_pF ?_ | refine ent_j ?_))
    exact ent_ret () (by rw [decide_eq_false (fun h => h6 (hf h).2.2.2.2.2.1)]) (by exact Imp.trans Imp.drop1 (Imp.drop1))
  (repeat (first | refine ent_q (run_field0 _) ?_ | refine ent_gT ?_ | refine ent_pT ?_ | refine ent_j ?_ | refine ent_q (run_load (cell_own 0 rfl rfl)) ?_))
  refine ent_qb (run_ge _ _) (fun h7 => ?_) (fun h7 => ?_)
  rotate_left
  · (repeat (first | refine ent_gF ?_ | refine ent_pT ?_ | refine ent_pF ?_))
    exact ent_ret () (by rw [decide_eq_false (fun h => h7 (hf h).2.2.2.2.2.2.1)]) (by exact Imp.trans Imp.drop1 (Imp.drop1))
  (repeat (first | refine ent_q (run_field0 _) ?_ | refine ent_gT ?_ | refine ent_pT ?_ | refine ent_q (run_load (cell_own 0 rfl rfl)) ?_))
  refine ent_qb (run_le _ _) (fun h8 => ?_) (fun h8 => ?_)
  rotate_left
  · (repeat refine ent_pT ?_)
    exact ent_ret () (by rw [decide_eq_false (fun h => h8 (hf h).2.2.2.2.2.2.2)]) (by exact Imp.trans Imp.drop1 (Imp.drop1))
  (repeat refine ent_pT ?_)
  exact ent_ret () (by rw [decide_eq_true (p := sh.fits w) ⟨h1, h2, h3, h4, h5, h6, h7, h8⟩]) (by exact Imp.trans Imp.drop1 (Imp.drop1))
def rdV (bv : Value) (r : Rd) : List Value := [bv, .int .i64 (r.pos : Nat), .bool r.ok]
theorem st_sector (s d : Nat) (sh : Shp) (n : Nat) (D : Dk) (a : Nat) (ha : a < n) (hD : D.Ok) :
    Spec w0 144 [P0 s, .int .i64 (a : Nat)] [stI s d sh, dkH w0 d n D] (fun x : Nat × Value => P0 x.1) (fun x => [pt x.1 226 (rdV x.2 rd0), roB w0 x.2 (D.l a), stI s d sh, dkH w0 d n D]) := by
  refine spec_go (fun R w => H144) fun F => ?_
  show Ent w0 (stI s d sh :: dkH w0 d n D :: F) _
  unfold F144 stI
  (repeat (first | refine ent_q (run_nil _) ?_ | refine ent_q (run_field0 _) ?_ | refine ent_q (run_load (cell_imm 0 rfl rfl)) ?_))
  have := hD.len a
  refine ent_call (sec_read d n D a ha (by omega)) (by (repeat refine Imp.pick 1 rfl ?_); exact Imp.refl _) fun v => ?_
  (repeat refine ent_q (run_ex rfl) ?_)
  refine Ent.vecRo (Ent.ro1 fun hv => ?_)
  refine ent_q (bd226_0_2 hv rfl) ?_
  refine ent_box fun r => ?_
  rw [agg_cells, List.toList_toArray]
  exact ent_ret (r, v) rfl (by (repeat (first | refine Imp.pick 0 rfl ?_ | refine Imp.pick 1 rfl ?_)); exact Imp.refl _)
theorem rd_num (r : Nat) (bv : Value) (l : List UInt8) (x : Rd) (hl : l.length ≤ 1099511627776) :
    Spec w0 146 [P0 r] [pt r 226 (rdV bv x), roB w0 bv l] (fun _ : Unit => .int .i64 ((rNum l x).1 : Nat)) (fun _ => [pt r 226 (rdV bv (rNum l x).2), roB w0 bv l]) := by
  refine spec_go (fun R w => H146) fun F => ?_
  show Ent w0 (pt r 226 (rdV bv x) :: roB w0 bv l :: F) _
  unfold F146 rdV rNum
  cases hx : x.ok with
  | false =>
    (repeat (first | refine ent_q (run_nil _) ?_ | refine ent_q (run_field0 _) ?_ | refine ent_ifT ?_ | refine ent_q (run_notF) ?_ | refine ent_q (run_load (cell_own 0 rfl rfl)) ?_))
    refine ent_ret () rfl ?_
    rw [if_neg (by simp), hx]
    exact Imp.refl _
  | true =>
    (repeat (first | refine ent_q (run_nil _) ?_ | refine ent_q (run_field0 _) ?_ | refine ent_ifF ?_ | refine ent_q (run_notT) ?_ | refine ent_q (run_load (cell_own 0 rfl rfl)) ?_))
    refine ent_draw [pt r 226 [bv, .int .i64 (x.pos : Nat), .bool true]] (by (repeat refine Imp.pick 0 rfl ?_); exact Imp.nil) ?_
    (repeat (first | refine ent_p (fun _ => run_nil _) ?_ | refine ent_p (fun _ => run_fieldZ _ _) ?_ | refine ent_p (fun _ => run_field0 _) ?_ | refine ent_m (run_load (cell_own 0 rfl rfl)) ?_))
    refine ent_call (raw_get bv l x.pos hl) (by (repeat refine Imp.pick 1 rfl ?_); exact Imp.refl _) fun _ => ?_
    (repeat refine ent_p (fun _ => run_ex rfl) ?_)
    refine Ent.to1 ?_
    have fin : ∀ q : Bool, q = decide ((getB l x.pos).2.2 = 0) → Ent w0 (pt r 226 [bv, .int .i64 ((getB l x.pos).2.1 : Nat), .bool q] :: roB w0 bv l :: F)
        ((fun v w' => ∃ _ : Unit, v = Value.int .i64 ((if true = true then ((getB l x.pos).1, (⟨(getB l x.pos).2.1, decide ((getB l x.pos).2.2 = 0)⟩ : Rd)) else (0, x)).1 : Nat) ∧ Sat w0 ([pt r 226 [bv, .int .i64 ((if true = true then ((getB l x.pos).1, (⟨(getB l x.pos).2.1, decide ((getB l x.pos).2.2 = 0)⟩ : Rd)) else (0, x)).2.pos : Nat), .bool (if true = true then ((getB l x.pos).1, (⟨(getB l x.pos).2.1, decide ((getB l x.pos).2.2 = 0)⟩ : Rd)) else (0, x)).2.ok], roB w0 bv l] ++ F) w') (.int .i64 ((getB l x.pos).1 : Nat))) := by
      intro q hq
      refine ent_ret () rfl ?_
      rw [hq]
      exact Imp.refl _
    by_cases he : (getB l x.pos).2.2 = 0
    · refine ent_q ((run_eq _ _).T (by omega)) ?_
      (repeat (first | refine ent_q (run_nil _) ?_ | refine ent_q (run_field0 _) ?_))
      refine ent_st0 rfl (by simp) rfl ?_
      (repeat (first | refine ent_q (run_nil _) ?_ | refine ent_q (run_field0 _) ?_))
      refine ent_st0 rfl (by simp) rfl ?_
      exact fin true (by rw [decide_eq_true he])
    · refine ent_q ((run_eq _ _).F (by omega)) ?_
      (repeat (first | refine ent_q (run_nil _) ?_ | refine ent_q (run_field0 _) ?_))
      refine ent_st0 rfl (by simp) rfl ?_
      (repeat (first | refine ent_q (run_nil _) ?_ | refine ent_q (run_field0 _) ?_))
      refine ent_st0 rfl (by simp) rfl ?_
      exact fin false (by rw [decide_eq_false he])
theorem rd_text (r : Nat) (bv : Value) (l : List UInt8) (x : Rd) (size : Nat) (hl : l.length ≤ 1099511627776) (hs : size ≤ 1099511627776) :
    Spec w0 147 [P0 r, .int .i64 (size : Nat)] [pt r 226 (rdV bv x), roB w0 bv l] (fun v : Value => v) (fun v => [vecB v 5 (rText l size x).1, pt r 226 (rdV bv (rText l size x).2), roB w0 bv l]) := by
  refine spec_go (fun R w => H147) fun F => ?_
  show Ent w0 (pt r 226 (rdV bv x) :: roB w0 bv l :: F) _
  unfold F147 rdV rText
  cases hx : x.ok with
  | false =>
    (repeat (first | refine ent_q (run_nil _) ?_ | refine ent_q (run_field0 _) ?_ | refine ent_ifT ?_ | refine ent_q (run_notF) ?_ | refine ent_q (run_load (cell_own 0 rfl rfl)) ?_))
    refine ent_ret (.slice none 0 0) rfl ?_
    rw [if_neg (by simp), hx]
    exact Imp.vec0 rfl (Imp.refl _)
  | true =>
    (repeat (first | refine ent_q (run_nil _) ?_ | refine ent_q (run_field0 _) ?_ | refine ent_ifF ?_ | refine ent_q (run_notT) ?_ | refine ent_q (run_load (cell_own 0 rfl rfl)) ?_))
    refine ent_draw [pt r 226 [bv, .int .i64 (x.pos : Nat), .bool true]] (by (repeat refine Imp.pick 0 rfl ?_); exact Imp.nil) ?_
    (repeat (first | refine ent_p (fun _ => run_nil _) ?_ | refine ent_p (fun _ => run_fieldZ _ _) ?_ | refine ent_p (fun _ => run_field0 _) ?_ | refine ent_m (run_load (cell_own 0 rfl rfl)) ?_))
    refine ent_call (raw_getText bv l x.pos size hl) (by (repeat refine Imp.pick 1 rfl ?_); exact Imp.refl _) fun v => ?_
    (repeat refine ent_p (fun _ => run_ex rfl) ?_)
    rw [if_pos rfl]
    by_cases h1 : (getT l x.pos size).2.2 = 0
    · refine ent_q ((run_eq _ _).T (by omega)) ?_
      (repeat (first | refine ent_gT ?_ | refine ent_j ?_))
      refine ent_q (run_lenV 0 rfl) ?_
      by_cases h2 : (getT l x.pos size).1.length = size
      · refine ent_q ((run_eq _ _).T (by omega)) ?_
        (repeat (first | refine ent_q (run_nil _) ?_ | refine ent_q (run_fieldZ _ _) ?_ | refine ent_gT ?_ | refine ent_pT ?_ | refine ent_j ?_ | refine ent_q (run_load (cell_own 2 rfl rfl)) ?_))
        refine ent_q (run_lenR 1 rfl) ?_
        by_cases h3 : (getT l x.pos size).2.1 = l.length
        · refine ent_q ((run_eq _ _).T (by omega)) ?_
          (repeat (first | refine ent_q (run_nil _) ?_ | refine ent_q (run_field0 _) ?_ | refine ent_pT ?_))
          refine Ent.to2 ?_
          refine ent_st0 rfl (by simp) rfl ?_
          refine ent_ret v rfl ?_
          rw [decide_eq_true h1, decide_eq_true h2, decide_eq_true h3]
          exact (by (repeat (first | refine Imp.pick 0 rfl ?_ | refine Imp.pick 1 rfl ?_)); exact Imp.refl _)
        · refine ent_q ((run_eq _ _).F (by omega)) ?_
          (repeat (first | refine ent_q (run_nil _) ?_ | refine ent_q (run_field0 _) ?_ | refine ent_pT ?_))
          refine Ent.to2 ?_
          refine ent_st0 rfl (by simp) rfl ?_
          refine ent_ret v rfl ?_
          rw [decide_eq_true h1, decide_eq_true h2, decide_eq_false h3]
          exact (by (repeat (first | refine Imp.pick 0 rfl ?_ | refine Imp.pick 1 rfl ?_)); exact Imp.refl _)
      · refine ent_q ((run_eq _ _).F (by omega)) ?_
        (repeat (first | refine ent_q (run_nil _) ?_ | refine ent_q (run_field0 _) ?_ | refine ent_gF ?_ | refine ent_pT ?_ | refine ent_pF ?_ | refine ent_j ?_))
        refine Ent.to2 ?_
        refine ent_st0 rfl (by simp) rfl ?_
        refine ent_ret v rfl ?_
        rw [decide_eq_true h1, decide_eq_false h2]
        exact (by (repeat (first | refine Imp.pick 0 rfl ?_ | refine Imp.pick 1 rfl ?_)); exact Imp.refl _)
    · refine ent_q ((run_eq _ _).F (by omega)) ?_
      (repeat (first | refine ent_q (run_nil _) ?_ | refine ent_q (run_field0 _) ?_ | refine ent_gF ?_ | refine ent_pF ?_ | refine ent_j ?_))
      refine Ent.to2 ?_
      refine ent_st0 rfl (by simp) rfl ?_
      refine ent_ret v rfl ?_
      rw [decide_eq_false h1]
      exact (by (repeat (first | refine Imp.pick 0 rfl ?_ | refine Imp.pick 1 rfl ?_)); exact Imp.refl _)
end
end Go.Gd
