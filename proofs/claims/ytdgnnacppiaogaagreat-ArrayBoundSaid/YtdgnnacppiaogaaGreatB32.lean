/- The contracts of package store, third part: what is written. Conditions: those in the theorems. The contracts of package store, fourth part: a write that is done, the journal. Conditions: those in the theorems. The contracts of package store, fifth part: the journal, Open. Conditions: those in the theorems. -/
import Derived.Test.YtdgnnacppiaogaaGreatB31
set_option linter.unusedVariables false
set_option linter.unusedSimpArgs false
namespace Go.Gd
open Go.Instr
attribute [local irreducible] loadAt storeAt fieldAt indexAt alloc box build buildSlice hNil eqG binOp Op.unary extract makeSlice makeInterface makeFunc convert hV mV pV hU hF hFV hIf hGuard hPick hJ hDraw hLoop ro Instr.index dkH
def ivs (l : List Nat) : List Value := l.map fun n => Value.int .i64 (n : Nat)
theorem nums_len {l : List Nat} (h : ∀ n ∈ l, n ≤ 9223372036854775807) : (nums l).length ≤ 9 * l.length := by
  induction l with
  | nil => simp [nums]
  | cons n l ih =>
    have h1 := enc_len9 (h n List.mem_cons_self)
    have h2 := ih fun m hm => h m (List.mem_cons_of_mem _ hm)
    rw [nums_cons, List.length_append, List.length_cons]; omega
section
variable {w0 : World} {L : List HP}
theorem st_numbers (tb : Nat) (l : List Nat) (hk : l.length ≤ 100) (hl : ∀ n ∈ l, n ≤ 9223372036854775807) : Spec w0 151 [.slice (some ⟨tb, 0, none⟩) l.length l.length] [pt tb 3 (ivs l)] (fun v : Value => v) (fun v => [roB w0 v (nums l)]) := by
  refine spec_go (fun R w => H151) fun F => ?_
  show Ent w0 (pt tb 3 (ivs l) :: F) _
  unfold F151
  refine ent_q run_len ?_
  refine ent_loop (ι := Nat × Value) (fun i => i.1 ≤ l.length) (fun i => [.int .i64 (i.1 : Nat), i.2]) (fun i => roB w0 i.2 (nums (l.take i.1)) :: pt tb 3 (ivs l) :: F) (fun i => l.length - i.1) (0, .slice none 0 0) (by simp) rfl (Imp.ro0 rfl (Imp.refl _)) ?_
  rintro ⟨i, v⟩ hi g next hnext
  show Ent w0 (roB w0 v (nums (l.take i)) :: pt tb 3 (ivs l) :: F) (hV P (binOp .lss 3 (.int .i64 (i : Nat)) (.int .i64 (l.length : Nat))) _)
  refine ent_qb (run_lt _ _) (fun h => ?_) (fun h => ?_)
  · have hik : i < l.length := by omega
    refine ent_ifT ?_
    refine ent_q (run_indexS0 i rfl hik) ?_
    rw [Nat.mul_one]
    refine ent_q (run_load (v := .int .i64 (l[i] : Nat)) (cell_own 1 rfl (by simp [ivs, hik]))) ?_
    have hle : (nums (l.take i)).length ≤ 9 * (l.take i).length := nums_len fun n hn => hl n (List.mem_of_mem_take hn)
    have hti : (l.take i).length ≤ 100 := by rw [List.length_take]; omega
    refine ent_call (raw_put v (nums (l.take i)) (l[i] : Nat) (by omega) (by have := hl l[i] (List.getElem_mem _); omega)) (by (repeat refine Imp.pick 0 rfl ?_); exact Imp.refl _) fun v' => ?_
    refine ent_q (run_add64 (by omega)) ?_
    refine Ent.vecRo ?_
    have e : nums (l.take i) ++ enc ((l[i] : Nat) : Int).toNat = nums (l.take (i + 1)) := by
      rw [Int.toNat_natCast, List.take_succ_eq_append_getElem hik, nums_app]
    rw [e]
    exact hnext (i + 1, v') (by simp only; omega) (by simp only; omega)
  · have hik : i = l.length := by simp only at hi; omega
    subst hik
    refine ent_ifF ?_
    rw [List.take_length]
    exact ent_ret v rfl (by (repeat refine Imp.pick 0 rfl ?_); exact Imp.drop1)
theorem st_writes (s lb : Nat) (k : Nat) : Spec w0 149 [P0 s, .slice (some ⟨lb, 0, none⟩) k k] [] (fun x : Nat × Nat => .func (.func 190) #[] #[P0 x.1, P0 x.2]) (fun x => [pt x.1 88 [.slice (some ⟨lb, 0, none⟩) k k], pt x.2 98 [P0 s]]) := by
  refine spec_go (fun R w => H149) fun F => ?_
  show Ent w0 F _
  unfold F149
  refine ent_box fun a => ?_
  refine ent_box fun b => ?_
  (repeat refine ent_q (run_mf _ _ _) ?_)
  exact ent_ret (b, a) rfl (Imp.refl _)
theorem wrSeq_drop {L : List (Nat × List UInt8)} {i : Nat} {a : Nat} {b : List UInt8} (h : L[i]? = some (a, b)) (D : Dk) : wrSeq (L.drop i) D = if (D.write a b).1 ≠ 0 then D.write a b else wrSeq (L.drop (i + 1)) (D.write a b).2 := by
  have hlt : i < L.length := (List.getElem?_eq_some_iff.1 h).1
  have he : L[i] = (a, b) := (List.getElem?_eq_some_iff.1 h).2
  rw [List.drop_eq_getElem_cons hlt, he]
  rfl
theorem write_e (D : Dk) (a : Nat) (b : List UInt8) : (D.write a b).1 = 0 ∨ (D.write a b).1 = 8 := by
  unfold Dk.write; split
  · exact .inr rfl
  · split
    · exact .inr rfl
    · exact .inl rfl
theorem st_run (s d lb ab t1 t2 k : Nat) (sh : Shp) (n : Nat) (D : Dk) (av : Nat → Nat) (vs : Nat → Value) (bs : Nat → List UInt8) (hk : k ≤ 100) (hn : 0 < n) (ha : ∀ i, i < k → av i < n) (hb : ∀ i, i < k → (bs i).length ≤ 64) (hD : D.Ok) :
    Spec w0 190 [.slice (some ⟨ab, 0, none⟩) k k, P0 t1, P0 t2] [pt t1 88 [.slice (some ⟨lb, 0, none⟩) k k], pt t2 98 [P0 s], pt lb 35 (sv k vs), pt ab 3 (sv k fun i => .int .i64 (av i : Nat)), allH k (fun i => roB w0 (vs i) (bs i)), stI s d sh, dkH w0 d n D]
      (fun _ : Unit => .int .i64 (wrSeq ((List.range k).map fun i => (av i, bs i)) D).1) (fun _ => [dkH w0 d n (wrSeq ((List.range k).map fun i => (av i, bs i)) D).2]) := by
  refine spec_go (fun R w => H190) fun F => ?_
  show Ent w0 (pt t1 88 [.slice (some ⟨lb, 0, none⟩) k k] :: pt t2 98 [P0 s] :: pt lb 35 (sv k vs) :: pt ab 3 (sv k fun i => .int .i64 (av i : Nat)) :: allH k (fun i => roB w0 (vs i) (bs i)) :: stI s d sh :: dkH w0 d n D :: F) _
  unfold F190
  (repeat (first | refine ent_q (run_len) ?_ | refine ent_q (run_load (cell_own 0 rfl rfl)) ?_))
  generalize hL : (List.range k).map (fun i => (av i, bs i)) = W
  have hW : ∀ i, i < k → W[i]? = some (av i, bs i) := fun i hi => by rw [← hL]; simp [hi]
  have hWl : W.length = k := by rw [← hL]; simp
  refine ent_loop (ι := Nat × Dk) (fun x => x.1 ≤ k ∧ x.2.Ok ∧ wrSeq (W.drop x.1) x.2 = wrSeq W D) (fun x => [.int .i64 (x.1 : Nat), .int .i64 0]) (fun x => pt t2 98 [P0 s] :: pt lb 35 (sv k vs) :: pt ab 3 (sv k fun i => .int .i64 (av i : Nat)) :: allH k (fun i => roB w0 (vs i) (bs i)) :: stI s d sh :: dkH w0 d n x.2 :: F) (fun x => k - x.1) (0, D) ⟨by simp, hD, rfl⟩ rfl Imp.drop1 ?_
  rintro ⟨i, E⟩ ⟨hi, hE, heq⟩ g next hnext
  dsimp only at hi hE heq ⊢
  show Ent w0 _ (hV P (binOp .lss 3 (.int .i64 (i : Nat)) (.int .i64 (k : Nat))) _)
  refine ent_qb (run_lt _ _) (fun h => ?_) (fun h => ?_)
  · have hik : i < k := by omega
    refine ent_ifT ?_
    refine ent_q (run_indexS0 i rfl hik) ?_
    rw [Nat.mul_one]
    refine ent_q (run_load (v := vs i) (cell_own 1 rfl (by have := sv_get (f := vs) (r := []) hik; rwa [List.append_nil] at this))) ?_
    refine Ent.at 4 rfl (Ent.dup (Pers.st s d sh) ?_)
    conv => lhs; arg 1; unfold stI
    refine ent_draw [ptI s 159 [.int .i64 (sh.blocks : Nat), .int .i64 (sh.size : Nat), .int .i64 (sh.clients : Nat), .int .i64 (sh.slots : Nat), P0 d], pt t2 98 [P0 s], pt ab 3 (sv k fun i => .int .i64 (av i : Nat))] (by (repeat (first | refine Imp.pick 0 rfl ?_ | refine Imp.pick 1 rfl ?_ | refine Imp.pick 2 rfl ?_)); exact Imp.nil) ?_
    (repeat (first | refine ent_p (fun _ => run_nil _) ?_ | refine ent_p (fun _ => run_field0 _) ?_ | refine ent_m (run_load (cell_own 1 rfl rfl)) ?_ | refine ent_m (run_load (cell_imm 0 rfl rfl)) ?_))
    refine ent_p (fun _ => run_indexS0 i rfl hik) ?_
    rw [Nat.mul_one]
    refine ent_m (run_load (v := .int .i64 (av i : Nat)) (cell_own 2 rfl (by have := sv_get (f := fun i => Value.int .i64 (av i : Nat)) (r := []) hik; rwa [List.append_nil] at this))) ?_
    refine Ent.at 5 rfl (Ent.imp (Imp.allGet (fun i => Pers.ro _ _ _ _ _) hik) ?_)
    refine ent_call (sec_write d n E (av i) (vs i) (bs i) (ha i hik) (hb i hik) hE.fuse) (by (repeat (first | refine Imp.pick 0 rfl ?_ | refine Imp.pick 7 rfl ?_)); exact Imp.refl _) fun _ => ?_
    refine ent_and (by (repeat (first | refine Imp.pick 2 rfl ?_ | refine Imp.pick 3 rfl ?_ | refine Imp.pick 4 rfl ?_)); exact Imp.nil) ?_
    rw [wrSeq_drop (hW i hik)] at heq
    rcases write_e E (av i) (bs i) with hz | hz
    · rw [hz] at heq ⊢
      rw [if_neg (by simp)] at heq
      refine ent_q ((run_ne _ _).F (by omega)) ?_
      (repeat refine ent_ifF ?_)
      refine ent_q (run_add64 (by omega)) ?_
      refine Ent.imp ?_ (hnext (i + 1, (E.write (av i) (bs i)).2) ⟨by simp only; omega, hE.write (hb i hik), heq⟩ (by simp only; omega))
      exact (by (repeat (first | refine Imp.pick 0 rfl ?_ | refine Imp.pick 1 rfl ?_ | refine Imp.pick 4 rfl ?_)); exact Imp.drop1)
    · have hz2 : (E.write (av i) (bs i)).1 ≠ 0 := by rw [hz]; simp
      rw [if_pos hz2] at heq
      rw [hz]
      refine ent_q ((run_ne _ _).T (by omega)) ?_
      (repeat refine ent_ifT ?_)
      refine ent_ret () (by rw [← heq, hz]) ?_
      rw [← heq]
      exact (by (repeat refine Imp.pick 0 rfl ?_); exact Imp.trans Imp.drop1 (Imp.trans Imp.drop1 (Imp.trans Imp.drop1 (Imp.trans Imp.drop1 (Imp.trans Imp.drop1 (Imp.drop1))))))
  · have hik : i = k := by omega
    refine ent_ifF ?_
    have : W.drop i = [] := List.drop_eq_nil_of_le (by omega)
    rw [this] at heq
    refine ent_ret () (by rw [← heq]; rfl) ?_
    rw [← heq]
    exact (by (repeat refine Imp.pick 5 rfl ?_); exact Imp.trans Imp.drop1 (Imp.trans Imp.drop1 (Imp.trans Imp.drop1 (Imp.trans Imp.drop1 (Imp.drop1)))))
end
end Go.Gd
namespace Go.Gd
open Go.Instr
attribute [local irreducible] loadAt storeAt fieldAt indexAt alloc box build buildSlice hNil eqG binOp Op.unary extract makeSlice makeInterface makeFunc convert hV mV pV hU hF hFV hIf hGuard hPick hJ hDraw hLoop ro Instr.index dkH stI
theorem Imp.all3 {g : Nat → HP} {L : List HP} : Imp (g 0 :: g 1 :: g 2 :: L) (allH 3 g :: L) := by
  refine Imp.starI ?_
  show Imp _ (g 2 :: allH 2 g :: L)
  refine Imp.trans (L2 := g 2 :: g 1 :: g 0 :: L) (by (repeat (first | refine Imp.pick 0 rfl ?_ | refine Imp.pick 1 rfl ?_ | refine Imp.pick 2 rfl ?_)); exact Imp.refl _) (Imp.cons ?_)
  refine Imp.starI ?_
  show Imp _ (g 1 :: allH 1 g :: L)
  refine Imp.cons (Imp.starI ?_)
  show Imp _ (g 0 :: allH 0 g :: L)
  exact Imp.cons (Imp.pureI trivial (Imp.refl _))
def V3 (v w : Value) (i : Nat) : Value := if i = 0 then v else if i = 1 then w else .slice none 0 0
def B3 (a b : List UInt8) (i : Nat) : List UInt8 := if i = 0 then a else if i = 1 then b else []
def A3 (a b : Nat) (i : Nat) : Nat := if i = 0 then a else if i = 1 then b else 0
section
variable {w0 : World} {L : List HP}
theorem Imp.allWr {v w : Value} {a b : List UInt8} : Imp (roB w0 v a :: roB w0 w b :: L) (allH 3 (fun i => roB w0 (V3 v w i) (B3 a b i)) :: L) := by
  refine Imp.trans (L2 := roB w0 v a :: roB w0 w b :: ro w0 (.slice none 0 0) 1 0 [] :: L) (Imp.cons (Imp.cons (Imp.ro0 rfl (Imp.refl _)))) ?_
  exact Imp.all3 (g := fun i => roB w0 (V3 v w i) (B3 a b i))
set_option maxHeartbeats 1000000 in
theorem st_does (s d : Nat) (sh : Shp) (n : Nat) (D : Dk) (hs : sh.Ok) (w : Wr) (dv : Value) (v : Nat) (hdv : dv.oneCell' = true) (hf : sh.fits w) (hb : 0 ≤ w.block ∧ w.block < sh.blocks) (hv : v ≤ 1001) (hdl : w.data.length ≤ 16) (hn : sh.need ≤ n) (hD : D.Ok) :
    Spec w0 97 [P0 s, .agg (wrL w dv).toArray, .int .i64 (v : Nat)] [stI s d sh, dkH w0 d n D, roB w0 dv w.data] (fun _ : Unit => .int .i64 (sh.does w v D).1) (fun _ => [dkH w0 d n (sh.does w v D).2]) := by
  obtain ⟨g1, g2, g3, g4⟩ := hf.small hs
  have h1 := hs.clients; have h2 := hs.slots; have h3 := hs.blocks
  have hf' := hf
  obtain ⟨f1, f2, f3, f4, f5, f6, f7, f8⟩ := hf'
  obtain ⟨client, slot, boot, op, block, data⟩ := w
  dsimp only at *
  obtain ⟨c, rfl⟩ := Int.eq_ofNat_of_zero_le f1
  obtain ⟨k, rfl⟩ := Int.eq_ofNat_of_zero_le f3
  obtain ⟨bo, rfl⟩ := Int.eq_ofNat_of_zero_le (show 0 ≤ boot by omega)
  obtain ⟨o, rfl⟩ := Int.eq_ofNat_of_zero_le (show 0 ≤ op by omega)
  obtain ⟨b, rfl⟩ := Int.eq_ofNat_of_zero_le hb.1
  refine spec_go (fun R w => H97) fun F => ?_
  show Ent w0 (stI s d sh :: dkH w0 d n D :: roB w0 dv data :: F) _
  have hdoes : sh.does ⟨(c : Nat), (k : Nat), (bo : Nat), (o : Nat), (b : Nat), data⟩ v D = wrSeq [(1 + b, txt (nums [v]) data), (sh.slotAt c k, nums [bo, o, 0]), (0, [])] D := rfl
  rw [hdoes]
  unfold F97
  refine ent_box fun wb => ?_
  rw [agg_cells, List.toList_toArray]
  unfold wrL
  refine ent_draw [pt wb 161 [.int .i64 (c : Nat), .int .i64 (k : Nat), .int .i64 (bo : Nat), .int .i64 (o : Nat), .int .i64 (b : Nat), dv], stI s d sh] (by (repeat refine Imp.pick 0 rfl ?_); exact Imp.nil) ?_
  (repeat (first | refine ent_p (fun _ => run_nil _) ?_ | refine ent_p (fun _ => run_fieldZ _ _) ?_ | refine ent_p (fun _ => run_field0 _) ?_ | refine ent_m (run_load (cell_own 0 rfl rfl)) ?_))
  refine ent_m (run_shape 1 rfl) ?_
  (repeat (first | refine ent_p (fun _ => run_nil _) ?_ | refine ent_p (fun _ => run_fieldZ _ _) ?_ | refine ent_p (fun _ => run_field0 _) ?_ | refine ent_m (run_load (cell_own 0 rfl rfl)) ?_))
  refine ent_m (run_shape 1 rfl) ?_
  (repeat (first | refine ent_p (fun _ => run_fieldZ _ _) ?_ | refine ent_p (fun _ => run_field0 _) ?_ | refine ent_m (run_load (cell_own 0 rfl rfl)) ?_))
  have tail : ∀ v13 v19 : Value, Ent w0 (roB w0 v13 (txt (nums [v]) data) :: roB w0 v19 (nums [bo, o, 0]) :: pt wb 161 [.int .i64 (c : Nat), .int .i64 (k : Nat), .int .i64 (bo : Nat), .int .i64 (o : Nat), .int .i64 (b : Nat), dv] :: stI s d sh :: dkH w0 d n D :: F)
      (hV P (buildSlice 88 3 #[(0, v13), (1, v19), (2, (.slice none 0 0))]) fun t20 =>
      hAnd (Sat w0 [pt wb 161 [.int .i64 (c : Nat), .int .i64 (k : Nat), .int .i64 (bo : Nat), .int .i64 (o : Nat), .int .i64 (b : Nat), dv], stI s d sh]) <| hF P 149 #[P0 s, t20] fun t21 =>
      hAnd (Sat w0 [pt wb 161 [.int .i64 (c : Nat), .int .i64 (k : Nat), .int .i64 (bo : Nat), .int .i64 (o : Nat), .int .i64 (b : Nat), dv], stI s d sh]) <| hF P 152 #[shV sh, .int .i64 (b : Nat)] fun t28 =>
      hAnd (Sat w0 [pt wb 161 [.int .i64 (c : Nat), .int .i64 (k : Nat), .int .i64 (bo : Nat), .int .i64 (o : Nat), .int .i64 (b : Nat), dv], stI s d sh]) <| hF P 153 #[shV sh, .int .i64 (c : Nat), .int .i64 (k : Nat)] fun t37 =>
      hAnd (Sat w0 [pt wb 161 [.int .i64 (c : Nat), .int .i64 (k : Nat), .int .i64 (bo : Nat), .int .i64 (o : Nat), .int .i64 (b : Nat), dv], stI s d sh]) <| hV P (buildSlice 64 3 #[(0, t28), (1, t37), (2, (.int .i64 0))]) fun t38 =>
      hAnd (Sat w0 [pt wb 161 [.int .i64 (c : Nat), .int .i64 (k : Nat), .int .i64 (bo : Nat), .int .i64 (o : Nat), .int .i64 (b : Nat), dv], stI s d sh]) <| hFV P t21 #[t38] fun t39 =>
      hAnd (Sat w0 [pt wb 161 [.int .i64 (c : Nat), .int .i64 (k : Nat), .int .i64 (bo : Nat), .int .i64 (o : Nat), .int .i64 (b : Nat), dv], stI s d sh]) <|
      ((fun u w' => ∃ _ : Unit, u = Value.int .i64 (wrSeq [(1 + b, txt (nums [v]) data), (sh.slotAt c k, nums [bo, o, 0]), (0, [])] D).1 ∧ Sat w0 ([dkH w0 d n (wrSeq [(1 + b, txt (nums [v]) data), (sh.slotAt c k, nums [bo, o, 0]), (0, [])] D).2] ++ F) w') t39)) := by
    intro v13 v19
    refine Ent.ro1 fun h13 => Ent.at 1 rfl (Ent.ro1 fun h19 => ?_)
    refine Ent.at 3 rfl (Ent.dup (Pers.st s d sh) ?_)
    refine ent_bs (zs := [.slice none 0 0]) rfl (n := 3) (parts := [(0, v13), (1, v19), (2, .slice none 0 0)]) (cs := [v13, v19, .slice none 0 0]) (by simp) (by simp [fill, one_cells h13, one_cells h19, one_cells (v := .slice none 0 0) rfl]) fun lb => ?_
    refine ent_and (by (repeat (first | refine Imp.pick 1 rfl ?_ | refine Imp.pick 5 rfl ?_)); exact Imp.nil) ?_
    refine ent_call (st_writes s lb 3) (Imp.refl _) fun x => ?_
    refine ent_and (by (repeat (first | refine Imp.pick 3 rfl ?_ | refine Imp.pick 7 rfl ?_)); exact Imp.nil) ?_
    refine ent_call (st_blockAt sh b (by omega)) (Imp.refl _) fun _ => ?_
    refine ent_and (by (repeat (first | refine Imp.pick 3 rfl ?_ | refine Imp.pick 7 rfl ?_)); exact Imp.nil) ?_
    refine ent_call (st_slotAt sh hs c k (by omega) (by omega)) (Imp.refl _) fun _ => ?_
    refine ent_and (by (repeat (first | refine Imp.pick 3 rfl ?_ | refine Imp.pick 7 rfl ?_)); exact Imp.nil) ?_
    refine ent_bs (zs := [.int .i64 0]) rfl (n := 3) (parts := [(0, .int .i64 ((1 + b : Nat) : Int)), (1, .int .i64 ((sh.slotAt c k : Nat) : Int)), (2, .int .i64 0)]) (cs := [.int .i64 ((1 + b : Nat) : Int), .int .i64 ((sh.slotAt c k : Nat) : Int), .int .i64 0]) (by simp) rfl fun ab => ?_
    refine ent_and (by (repeat (first | refine Imp.pick 4 rfl ?_ | refine Imp.pick 8 rfl ?_)); exact Imp.nil) ?_
    have hl1 : (txt (nums [v]) data).length ≤ 64 := len_blk hv hdl
    have hl2 : (nums [bo, o, 0]).length ≤ 64 := len_slot (by omega) (by omega) (by omega)
    refine Ent.imp (L' := roB w0 v13 (txt (nums [v]) data) :: roB w0 v19 (nums [bo, o, 0]) :: pt ab 3 [.int .i64 ((1 + b : Nat) : Int), .int .i64 ((sh.slotAt c k : Nat) : Int), .int .i64 0] :: pt x.1 88 [.slice (some ⟨lb, 0, none⟩) 3 3] :: pt x.2 98 [P0 s] :: pt lb 35 [v13, v19, .slice none 0 0] :: stI s d sh :: stI s d sh :: pt wb 161 [.int .i64 (c : Nat), .int .i64 (k : Nat), .int .i64 (bo : Nat), .int .i64 (o : Nat), .int .i64 (b : Nat), dv] :: dkH w0 d n D :: F) (by (repeat (first | refine Imp.pick 0 rfl ?_ | refine Imp.pick 6 rfl ?_ | refine Imp.pick 7 rfl ?_)); exact Imp.refl _) ?_
    refine Ent.imp Imp.allWr ?_
    refine ent_callV (xs := [.slice (some ⟨ab, 0, none⟩) 3 3, P0 x.1, P0 x.2]) rfl (st_run s d lb ab x.1 x.2 3 sh n D (A3 (1 + b) (sh.slotAt c k)) (V3 v13 v19) (B3 (txt (nums [v]) data) (nums [bo, o, 0])) (by omega) (by unfold Shp.need at hn; omega) ?_ ?_ hD) (by (repeat (first | refine Imp.pick 0 rfl ?_ | refine Imp.pick 1 rfl ?_ | refine Imp.pick 2 rfl ?_)); exact Imp.refl _) fun _ => ?_
    · intro i hi
      have := slot_lt (n := n) (show c < sh.clients by omega) (show k < sh.slots by omega) hn
      match i, hi with
      | 0, _ => show 1 + b < n; unfold Shp.need at hn; omega
      | 1, _ => exact this
      | 2, _ => show 0 < n; omega
      | i + 3, h => omega
    · intro i hi
      match i, hi with
      | 0, _ => exact hl1
      | 1, _ => exact hl2
      | 2, _ => show 0 ≤ 64; omega
      | i + 3, h => omega
    refine ent_and (by (repeat (first | refine Imp.pick 1 rfl ?_ | refine Imp.pick 2 rfl ?_)); exact Imp.nil) ?_
    exact ent_ret () rfl (by (repeat refine Imp.pick 0 rfl ?_); exact Imp.trans Imp.drop1 (Imp.drop1))
  refine ent_and2 ?_ ?_
  · refine ent_bs (zs := [.int .i64 0]) rfl (n := 1) (parts := [(0, .int .i64 (v : Nat))]) (cs := [.int .i64 (v : Nat)]) (by simp) rfl fun b9 => ?_
    refine ent_and (by (repeat refine Imp.pick 1 rfl ?_); exact Imp.nil) ?_
    refine ent_and2 ?_ ?_
    · refine ent_call (st_numbers b9 [v] (by simp) (by simp; omega)) (by (repeat refine Imp.pick 0 rfl ?_); exact Imp.refl _) fun v10 => ?_
      refine ent_and (by (repeat refine Imp.pick 1 rfl ?_); exact Imp.nil) ?_
      refine ent_and2 ?_ ?_
      · refine ent_call (raw_putText v10 dv (nums [v]) data (by have := enc_len9 (n := v) (by omega); simp [nums]; omega) (by omega)) (by (repeat (first | refine Imp.pick 0 rfl ?_ | refine Imp.pick 3 rfl ?_)); exact Imp.refl _) fun v13 => ?_
        refine Ent.vecRo ?_
        refine ent_and (by (repeat refine Imp.pick 1 rfl ?_); exact Imp.nil) ?_
        refine ent_bs (zs := [.int .i64 0]) rfl (n := 3) (parts := [(0, .int .i64 (bo : Nat)), (1, .int .i64 (o : Nat)), (2, .int .i64 0)]) (cs := [.int .i64 (bo : Nat), .int .i64 (o : Nat), .int .i64 0]) (by simp) rfl fun b18 => ?_
        refine ent_and (by (repeat refine Imp.pick 2 rfl ?_); exact Imp.nil) ?_
        refine ent_call (st_numbers b18 [bo, o, 0] (by simp) (by simp; omega)) (by (repeat refine Imp.pick 0 rfl ?_); exact Imp.refl _) fun v19 => ?_
        refine ent_and (by (repeat refine Imp.pick 2 rfl ?_); exact Imp.nil) ?_
        exact Ent.imp (by (repeat (first | refine Imp.pick 0 rfl ?_ | refine Imp.pick 1 rfl ?_)); exact Imp.refl _) (tail v13 v19)
      · refine ent_bs (zs := [.int .i64 0]) rfl (n := 3) (parts := [(0, .int .i64 (bo : Nat)), (1, .int .i64 (o : Nat)), (2, .int .i64 0)]) (cs := [.int .i64 (bo : Nat), .int .i64 (o : Nat), .int .i64 0]) (by simp) rfl fun b18 => ?_
        refine ent_and (by (repeat refine Imp.pick 2 rfl ?_); exact Imp.nil) ?_
        refine ent_call (raw_putText v10 dv (nums [v]) data (by have := enc_len9 (n := v) (by omega); simp [nums]; omega) (by omega)) (by (repeat (first | refine Imp.pick 1 rfl ?_ | refine Imp.pick 4 rfl ?_)); exact Imp.refl _) fun v13 => ?_
        refine Ent.vecRo ?_
        refine ent_and (by (repeat refine Imp.pick 2 rfl ?_); exact Imp.nil) ?_
        refine ent_call (st_numbers b18 [bo, o, 0] (by simp) (by simp; omega)) (by (repeat refine Imp.pick 1 rfl ?_); exact Imp.refl _) fun v19 => ?_
        refine ent_and (by (repeat refine Imp.pick 2 rfl ?_); exact Imp.nil) ?_
        exact Ent.imp (by (repeat (first | refine Imp.pick 0 rfl ?_ | refine Imp.pick 1 rfl ?_)); exact Imp.refl _) (tail v13 v19)
    · refine ent_bs (zs := [.int .i64 0]) rfl (n := 3) (parts := [(0, .int .i64 (bo : Nat)), (1, .int .i64 (o : Nat)), (2, .int .i64 0)]) (cs := [.int .i64 (bo : Nat), .int .i64 (o : Nat), .int .i64 0]) (by simp) rfl fun b18 => ?_
      refine ent_and (by (repeat refine Imp.pick 2 rfl ?_); exact Imp.nil) ?_
      refine ent_call (st_numbers b9 [v] (by simp) (by simp; omega)) (by (repeat refine Imp.pick 1 rfl ?_); exact Imp.refl _) fun v10 => ?_
      refine ent_and (by (repeat refine Imp.pick 2 rfl ?_); exact Imp.nil) ?_
      refine ent_call (raw_putText v10 dv (nums [v]) data (by have := enc_len9 (n := v) (by omega); simp [nums]; omega) (by omega)) (by (repeat (first | refine Imp.pick 0 rfl ?_ | refine Imp.pick 4 rfl ?_)); exact Imp.refl _) fun v13 => ?_
      refine Ent.vecRo ?_
      refine ent_and (by (repeat refine Imp.pick 2 rfl ?_); exact Imp.nil) ?_
      refine ent_call (st_numbers b18 [bo, o, 0] (by simp) (by simp; omega)) (by (repeat refine Imp.pick 1 rfl ?_); exact Imp.refl _) fun v19 => ?_
      refine ent_and (by (repeat refine Imp.pick 2 rfl ?_); exact Imp.nil) ?_
      exact Ent.imp (by (repeat (first | refine Imp.pick 0 rfl ?_ | refine Imp.pick 1 rfl ?_)); exact Imp.refl _) (tail v13 v19)
  · refine ent_bs (zs := [.int .i64 0]) rfl (n := 3) (parts := [(0, .int .i64 (bo : Nat)), (1, .int .i64 (o : Nat)), (2, .int .i64 0)]) (cs := [.int .i64 (bo : Nat), .int .i64 (o : Nat), .int .i64 0]) (by simp) rfl fun b18 => ?_
    refine ent_and (by (repeat refine Imp.pick 1 rfl ?_); exact Imp.nil) ?_
    refine ent_bs (zs := [.int .i64 0]) rfl (n := 1) (parts := [(0, .int .i64 (v : Nat))]) (cs := [.int .i64 (v : Nat)]) (by simp) rfl fun b9 => ?_
    refine ent_and (by (repeat refine Imp.pick 2 rfl ?_); exact Imp.nil) ?_
    refine ent_call (st_numbers b9 [v] (by simp) (by simp; omega)) (by (repeat refine Imp.pick 0 rfl ?_); exact Imp.refl _) fun v10 => ?_
    refine ent_and (by (repeat refine Imp.pick 2 rfl ?_); exact Imp.nil) ?_
    refine ent_call (raw_putText v10 dv (nums [v]) data (by have := enc_len9 (n := v) (by omega); simp [nums]; omega) (by omega)) (by (repeat (first | refine Imp.pick 0 rfl ?_ | refine Imp.pick 4 rfl ?_)); exact Imp.refl _) fun v13 => ?_
    refine Ent.vecRo ?_
    refine ent_and (by (repeat refine Imp.pick 2 rfl ?_); exact Imp.nil) ?_
    refine ent_call (st_numbers b18 [bo, o, 0] (by simp) (by simp; omega)) (by (repeat refine Imp.pick 1 rfl ?_); exact Imp.refl _) fun v19 => ?_
    refine ent_and (by (repeat refine Imp.pick 2 rfl ?_); exact Imp.nil) ?_
    exact Ent.imp (by (repeat (first | refine Imp.pick 0 rfl ?_ | refine Imp.pick 1 rfl ?_)); exact Imp.refl _) (tail v13 v19)
end
end Go.Gd
namespace Go.Gd
open Go.Instr
attribute [local irreducible] loadAt storeAt fieldAt indexAt alloc box build buildSlice hNil eqG binOp Op.unary extract makeSlice makeInterface makeFunc convert hV mV pV hU hF hFV hIf hGuard hPick hJ hDraw hLoop ro Instr.index dkH stI
section
variable {w0 : World} {L : List HP}
theorem ent_pb {s : Sem Value} {φ : Prop} [Decidable φ] {K : Value → World → Prop} (hr : ∀ w0 : World, Run w0 [] s (.bool (decide φ))) (h1 : φ → Ent w0 L (K (.bool true))) (h2 : ¬ φ → Ent w0 L (K (.bool false))) : Ent w0 L (pV P s K) := by
  refine ent_p hr ?_
  by_cases h : φ
  · rw [decide_eq_true h]; exact h1 h
  · rw [decide_eq_false h]; exact h2 h
theorem wone {a b c d e : Int} {tv : Value} (h : tv.oneCell' = true) : ∀ u ∈ ([.int .i64 a, .int .i64 b, .int .i64 c, .int .i64 d, .int .i64 e, tv] : List Value), u.oneCell' = true := by
  intro u hu
  simp only [List.mem_cons, List.not_mem_nil, or_false] at hu
  rcases hu with rfl | rfl | rfl | rfl | rfl | rfl <;> first | rfl | exact h
set_option maxHeartbeats 1000000 in
theorem st_journal (s d : Nat) (sh : Shp) (n : Nat) (D : Dk) (hs : sh.Ok) (hn : sh.need ≤ n) (hD : D.Ok) (q : Bool) (hq : q = decide (sh.jrnIs (D.l 0))) :
    Spec w0 96 [P0 s] [stI s d sh, dkH w0 d n D] (fun tv : Value => .tuple #[.agg (wrL (jrnW sh.size (D.l 0)) tv).toArray, .int .i64 (jrnV (D.l 0) : Nat), (.bool q)])
      (fun tv => [roB w0 tv (jrnW sh.size (D.l 0)).data, stI s d sh, dkH w0 d n D]) := by
  refine spec_go (fun R w => H96) fun F => ?_
  show Ent w0 (stI s d sh :: dkH w0 d n D :: F) _
  have h2 := hs.size
  unfold F96
  refine ent_alloc fun wb => ?_
  refine ent_alloc fun vb => ?_
  refine ent_call (st_sector s d sh n D 0 (by unfold Shp.need at hn; omega) hD) (by (repeat refine Imp.pick 2 rfl ?_); exact Imp.refl _) fun x => ?_
  have hlen := hD.len 0
  have hjW : ∀ tv, wrL (jrnW sh.size (D.l 0)) tv = [.int .i64 ((rNums (D.l 0) 6 rd0).1.getD 0 0 : Nat), .int .i64 ((rNums (D.l 0) 6 rd0).1.getD 1 0 : Nat), .int .i64 ((rNums (D.l 0) 6 rd0).1.getD 2 0 : Nat), .int .i64 ((rNums (D.l 0) 6 rd0).1.getD 3 0 : Nat), .int .i64 ((rNums (D.l 0) 6 rd0).1.getD 4 0 : Nat), tv] := fun tv => rfl
  have hjD : (jrnW sh.size (D.l 0)).data = (rText (D.l 0) sh.size (rNums (D.l 0) 6 rd0).2).1 := rfl
  have hjB : (jrnW sh.size (D.l 0)).block = ((rNums (D.l 0) 6 rd0).1.getD 4 0 : Nat) := rfl
  have hjV : jrnV (D.l 0) = (rNums (D.l 0) 6 rd0).1.getD 5 0 := rfl
  have hjI : q = true ↔ ((rText (D.l 0) sh.size (rNums (D.l 0) 6 rd0).2).2.ok = true ∧ sh.fits (jrnW sh.size (D.l 0)) ∧ (jrnW sh.size (D.l 0)).block < sh.blocks ∧ 1 ≤ jrnV (D.l 0) ∧ jrnV (D.l 0) ≤ 1000) := by rw [hq]; exact decide_eq_true_iff
  clear hq
  generalize jrnW sh.size (D.l 0) = W at *
  generalize jrnV (D.l 0) = V at *
  generalize D.l 0 = l at *
  (repeat (first | refine ent_q (run_fieldZ _ _) ?_ | refine ent_q (run_field0 _) ?_ | refine ent_q (run_mf _ _ _) ?_))
  refine ent_bs (zs := [.pointer none]) rfl (n := 6) (parts := [(0, P0 wb), (1, .pointer (some ⟨wb, 1, none⟩)), (2, .pointer (some ⟨wb, 2, none⟩)), (3, .pointer (some ⟨wb, 3, none⟩)), (4, .pointer (some ⟨wb, 4, none⟩)), (5, P0 vb)])
    (cs := [P0 wb, .pointer (some ⟨wb, 1, none⟩), .pointer (some ⟨wb, 2, none⟩), .pointer (some ⟨wb, 3, none⟩), .pointer (some ⟨wb, 4, none⟩), P0 vb]) (by simp) rfl fun tb => ?_
  refine ent_call (rd_all x.1 x.2 l rd0 tb 6 (fun i => if i = 5 then ⟨vb, 0, none⟩ else ⟨wb, i, none⟩)
    (fun vs => [pt wb 161 [.int .i64 (vs.getD 0 0 : Nat), .int .i64 (vs.getD 1 0 : Nat), .int .i64 (vs.getD 2 0 : Nat), .int .i64 (vs.getD 3 0 : Nat), .int .i64 (vs.getD 4 0 : Nat), .slice none 0 0], pt vb 3 [.int .i64 (vs.getD 5 0 : Nat)]]) (by omega) (by omega) ?_) (by (repeat (first | refine Imp.pick 0 rfl ?_ | refine Imp.pick 2 rfl ?_ | refine Imp.pick 3 rfl ?_)); exact Imp.refl _) fun _ => ?_
  · intro vs v F K hv hK
    match vs, hv with
    | [], _ => exact ent_st0 rfl (by simp) rfl hK
    | [a], _ => exact ent_st0 rfl (by simp) rfl hK
    | [a, b], _ => exact ent_st0 rfl (by simp) rfl hK
    | [a, b, c], _ => exact ent_st0 rfl (by simp) rfl hK
    | [a, b, c, e], _ => exact ent_st0 rfl (by simp) rfl hK
    | [a, b, c, e, f], _ => exact ent_st1 rfl (by simp) rfl hK
    | a :: b :: c :: e :: f :: g :: t, h => simp only [List.length_cons] at h; omega
  generalize rNums l 6 rd0 = f at *
  obtain ⟨vs, y⟩ := f
  dsimp only at hjW hjD hjB hjV hjI ⊢
  show Ent w0 (pt x.1 226 (rdV x.2 y) :: roB w0 x.2 l :: pt wb 161 [.int .i64 (vs.getD 0 0 : Nat), .int .i64 (vs.getD 1 0 : Nat), .int .i64 (vs.getD 2 0 : Nat), .int .i64 (vs.getD 3 0 : Nat), .int .i64 (vs.getD 4 0 : Nat), .slice none 0 0] :: pt vb 3 [.int .i64 (vs.getD 5 0 : Nat)] :: stI s d sh :: dkH w0 d n D :: F) _
  refine Ent.at 4 rfl (Ent.dup (Pers.st s d sh) ?_)
  conv => lhs; arg 1; unfold stI
  (repeat (first | refine ent_q (run_nil _) ?_ | refine ent_q (run_fieldZ _ _) ?_ | refine ent_q (run_field0 _) ?_ | refine ent_q (run_load (cell_imm 0 rfl rfl)) ?_))
  refine ent_call (rd_text x.1 x.2 l y sh.size (by omega) (by omega)) (by (repeat refine Imp.pick 2 rfl ?_); exact Imp.refl _) fun tv => ?_
  generalize rText l sh.size y = T at *
  obtain ⟨t, z⟩ := T
  dsimp only at hjD hjI ⊢
  refine Ent.vecRo (Ent.ro1 fun htv => ?_)
  refine Ent.imp (L' := pt wb 161 [.int .i64 (vs.getD 0 0 : Nat), .int .i64 (vs.getD 1 0 : Nat), .int .i64 (vs.getD 2 0 : Nat), .int .i64 (vs.getD 3 0 : Nat), .int .i64 (vs.getD 4 0 : Nat), .slice none 0 0] :: pt x.1 226 (rdV x.2 z) :: pt vb 3 [.int .i64 (vs.getD 5 0 : Nat)] :: ptI s 159 [.int .i64 (sh.blocks : Nat), .int .i64 (sh.size : Nat), .int .i64 (sh.clients : Nat), .int .i64 (sh.slots : Nat), P0 d] :: roB w0 tv t :: stI s d sh :: dkH w0 d n D :: F) (by (repeat (first | refine Imp.pick 0 rfl ?_ | refine Imp.pick 1 rfl ?_ | refine Imp.pick 2 rfl ?_ | refine Imp.pick 4 rfl ?_ | refine Imp.pick 5 rfl ?_)); exact Imp.drop1) ?_
  (repeat refine ent_q (run_field0 _) ?_)
  refine ent_st0 htv (by simp) rfl ?_
  unfold rdV
  refine ent_draw [pt wb 161 [.int .i64 (vs.getD 0 0 : Nat), .int .i64 (vs.getD 1 0 : Nat), .int .i64 (vs.getD 2 0 : Nat), .int .i64 (vs.getD 3 0 : Nat), .int .i64 (vs.getD 4 0 : Nat), tv], pt x.1 226 [x.2, .int .i64 (z.pos : Nat), .bool z.ok], pt vb 3 [.int .i64 (vs.getD 5 0 : Nat)], ptI s 159 [.int .i64 (sh.blocks : Nat), .int .i64 (sh.size : Nat), .int .i64 (sh.clients : Nat), .int .i64 (sh.slots : Nat), P0 d]] (by (repeat refine Imp.pick 0 rfl ?_); exact Imp.nil) ?_
  refine ent_m (run_loadA (vs := [.int .i64 (vs.getD 0 0 : Nat), .int .i64 (vs.getD 1 0 : Nat), .int .i64 (vs.getD 2 0 : Nat), .int .i64 (vs.getD 3 0 : Nat), .int .i64 (vs.getD 4 0 : Nat), tv]) rfl (cells_all 0 rfl)) ?_
  (repeat (first | refine ent_p (fun _ => run_nil _) ?_ | refine ent_p (fun _ => run_field0 _) ?_ | refine ent_j ?_ | refine ent_m (run_load (cell_own 1 rfl rfl)) ?_ | refine ent_m (run_load (cell_own 2 rfl rfl)) ?_))
  by_cases c1 : z.ok = true
  rotate_left
  · have hz : q = false := by
      cases q with
      | false => rfl
      | true => exact absurd (hjI.1 rfl).1 c1
    have c1 : z.ok = false := by simpa using c1
    rw [c1]
    (repeat (first | refine ent_gF ?_ | refine ent_pF ?_ | refine ent_j ?_))
    refine ent_sa0 (vs := [.int .i64 (vs.getD 0 0 : Nat), .int .i64 (vs.getD 1 0 : Nat), .int .i64 (vs.getD 2 0 : Nat), .int .i64 (vs.getD 3 0 : Nat), .int .i64 (vs.getD 4 0 : Nat), tv]) rfl (wone htv) (by simp) rfl ?_
    refine ent_st2 rfl (by simp) rfl ?_
    refine ent_r (run_loadA (vs := [.int .i64 (vs.getD 0 0 : Nat), .int .i64 (vs.getD 1 0 : Nat), .int .i64 (vs.getD 2 0 : Nat), .int .i64 (vs.getD 3 0 : Nat), .int .i64 (vs.getD 4 0 : Nat), tv]) rfl (cells_all 0 rfl)) ?_
    (repeat refine ent_r (run_load (cell_own 2 rfl rfl)) ?_)
    refine ent_ret tv ?_ ?_
    · rw [hjW, hjV, hz]
    · rw [hjD]; exact (by (repeat refine Imp.pick 4 rfl ?_); exact Imp.trans Imp.drop1 (Imp.trans Imp.drop1 (Imp.trans Imp.drop1 (Imp.drop1))))
  rw [c1]
  (repeat (first | refine ent_p (fun _ => run_nil _) ?_ | refine ent_p (fun _ => run_fieldZ _ _) ?_ | refine ent_gT ?_))
  refine ent_m (run_loadA (vs := shL sh) rfl (cells_immP (rest := [P0 d]) 3 rfl)) ?_
  refine ent_m (run_loadA (vs := [.int .i64 (vs.getD 0 0 : Nat), .int .i64 (vs.getD 1 0 : Nat), .int .i64 (vs.getD 2 0 : Nat), .int .i64 (vs.getD 3 0 : Nat), .int .i64 (vs.getD 4 0 : Nat), tv]) rfl (cells_all 0 rfl)) ?_
  have hS := st_fits (w0 := w0) sh W tv
  rw [hjW] at hS
  refine ent_call hS (Imp.refl _) fun _ => ?_
  refine ent_and (by (repeat refine Imp.pick 0 rfl ?_); exact Imp.nil) ?_
  by_cases c2 : sh.fits W
  rotate_left
  · have hz : q = false := by
      cases q with
      | false => rfl
      | true => exact absurd (hjI.1 rfl).2.1 c2
    rw [decide_eq_false c2]
    (repeat (first | refine ent_gF ?_ | refine ent_pT ?_ | refine ent_pF ?_ | refine ent_j ?_))
    refine ent_sa0 (vs := [.int .i64 (vs.getD 0 0 : Nat), .int .i64 (vs.getD 1 0 : Nat), .int .i64 (vs.getD 2 0 : Nat), .int .i64 (vs.getD 3 0 : Nat), .int .i64 (vs.getD 4 0 : Nat), tv]) rfl (wone htv) (by simp) rfl ?_
    refine ent_st2 rfl (by simp) rfl ?_
    refine ent_r (run_loadA (vs := [.int .i64 (vs.getD 0 0 : Nat), .int .i64 (vs.getD 1 0 : Nat), .int .i64 (vs.getD 2 0 : Nat), .int .i64 (vs.getD 3 0 : Nat), .int .i64 (vs.getD 4 0 : Nat), tv]) rfl (cells_all 0 rfl)) ?_
    (repeat refine ent_r (run_load (cell_own 2 rfl rfl)) ?_)
    refine ent_ret tv ?_ ?_
    · rw [hjW, hjV, hz]
    · rw [hjD]; exact (by (repeat refine Imp.pick 4 rfl ?_); exact Imp.trans Imp.drop1 (Imp.trans Imp.drop1 (Imp.trans Imp.drop1 (Imp.drop1))))
  rw [decide_eq_true c2]
  (repeat (first | refine ent_p (fun _ => run_nil _) ?_ | refine ent_p (fun _ => run_fieldZ _ _) ?_ | refine ent_p (fun _ => run_field0 _) ?_ | refine ent_gT ?_ | refine ent_pT ?_ | refine ent_j ?_ | refine ent_m (run_load (cell_own 0 rfl rfl)) ?_ | refine ent_m (run_load (cell_imm 3 rfl rfl)) ?_))
  by_cases c3 : W.block < sh.blocks
  rotate_left
  · have hz : q = false := by
      cases q with
      | false => rfl
      | true => exact absurd (hjI.1 rfl).2.2.1 c3
    refine ent_p (fun _ => (run_lt _ _).F (by rw [hjB] at c3; exact c3)) ?_
    (repeat (first | refine ent_gF ?_ | refine ent_pT ?_ | refine ent_pF ?_ | refine ent_j ?_))
    refine ent_sa0 (vs := [.int .i64 (vs.getD 0 0 : Nat), .int .i64 (vs.getD 1 0 : Nat), .int .i64 (vs.getD 2 0 : Nat), .int .i64 (vs.getD 3 0 : Nat), .int .i64 (vs.getD 4 0 : Nat), tv]) rfl (wone htv) (by simp) rfl ?_
    refine ent_st2 rfl (by simp) rfl ?_
    refine ent_r (run_loadA (vs := [.int .i64 (vs.getD 0 0 : Nat), .int .i64 (vs.getD 1 0 : Nat), .int .i64 (vs.getD 2 0 : Nat), .int .i64 (vs.getD 3 0 : Nat), .int .i64 (vs.getD 4 0 : Nat), tv]) rfl (cells_all 0 rfl)) ?_
    (repeat refine ent_r (run_load (cell_own 2 rfl rfl)) ?_)
    refine ent_ret tv ?_ ?_
    · rw [hjW, hjV, hz]
    · rw [hjD]; exact (by (repeat refine Imp.pick 4 rfl ?_); exact Imp.trans Imp.drop1 (Imp.trans Imp.drop1 (Imp.trans Imp.drop1 (Imp.drop1))))
  refine ent_p (fun _ => (run_lt _ _).T (by rw [hjB] at c3; exact c3)) ?_
  (repeat (first | refine ent_gT ?_ | refine ent_pT ?_ | refine ent_j ?_ | refine ent_m (run_load (cell_own 2 rfl rfl)) ?_))
  by_cases c4 : 1 ≤ V
  rotate_left
  · have hz : q = false := by
      cases q with
      | false => rfl
      | true => exact absurd (hjI.1 rfl).2.2.2.1 c4
    refine ent_p (fun _ => (run_ge _ _).F (by omega)) ?_
    (repeat (first | refine ent_gF ?_ | refine ent_pT ?_ | refine ent_pF ?_ | refine ent_j ?_))
    refine ent_sa0 (vs := [.int .i64 (vs.getD 0 0 : Nat), .int .i64 (vs.getD 1 0 : Nat), .int .i64 (vs.getD 2 0 : Nat), .int .i64 (vs.getD 3 0 : Nat), .int .i64 (vs.getD 4 0 : Nat), tv]) rfl (wone htv) (by simp) rfl ?_
    refine ent_st2 rfl (by simp) rfl ?_
    refine ent_r (run_loadA (vs := [.int .i64 (vs.getD 0 0 : Nat), .int .i64 (vs.getD 1 0 : Nat), .int .i64 (vs.getD 2 0 : Nat), .int .i64 (vs.getD 3 0 : Nat), .int .i64 (vs.getD 4 0 : Nat), tv]) rfl (cells_all 0 rfl)) ?_
    (repeat refine ent_r (run_load (cell_own 2 rfl rfl)) ?_)
    refine ent_ret tv ?_ ?_
    · rw [hjW, hjV, hz]
    · rw [hjD]; exact (by (repeat refine Imp.pick 4 rfl ?_); exact Imp.trans Imp.drop1 (Imp.trans Imp.drop1 (Imp.trans Imp.drop1 (Imp.drop1))))
  refine ent_p (fun _ => (run_ge _ _).T (by omega)) ?_
  (repeat (first | refine ent_gT ?_ | refine ent_pT ?_ | refine ent_j ?_ | refine ent_m (run_load (cell_own 2 rfl rfl)) ?_))
  by_cases c5 : V ≤ 1000
  rotate_left
  · have hz : q = false := by
      cases q with
      | false => rfl
      | true => exact absurd (hjI.1 rfl).2.2.2.2 c5
    refine ent_p (fun _ => (run_le _ _).F (by omega)) ?_
    (repeat refine ent_pT ?_)
    refine ent_sa0 (vs := [.int .i64 (vs.getD 0 0 : Nat), .int .i64 (vs.getD 1 0 : Nat), .int .i64 (vs.getD 2 0 : Nat), .int .i64 (vs.getD 3 0 : Nat), .int .i64 (vs.getD 4 0 : Nat), tv]) rfl (wone htv) (by simp) rfl ?_
    refine ent_st2 rfl (by simp) rfl ?_
    refine ent_r (run_loadA (vs := [.int .i64 (vs.getD 0 0 : Nat), .int .i64 (vs.getD 1 0 : Nat), .int .i64 (vs.getD 2 0 : Nat), .int .i64 (vs.getD 3 0 : Nat), .int .i64 (vs.getD 4 0 : Nat), tv]) rfl (cells_all 0 rfl)) ?_
    (repeat refine ent_r (run_load (cell_own 2 rfl rfl)) ?_)
    refine ent_ret tv ?_ ?_
    · rw [hjW, hjV, hz]
    · rw [hjD]; exact (by (repeat refine Imp.pick 4 rfl ?_); exact Imp.trans Imp.drop1 (Imp.trans Imp.drop1 (Imp.trans Imp.drop1 (Imp.drop1))))
  refine ent_p (fun _ => (run_le _ _).T (by omega)) ?_
  have hz : q = true := hjI.2 ⟨c1, c2, c3, c4, c5⟩
  (repeat refine ent_pT ?_)
  refine ent_sa0 (vs := [.int .i64 (vs.getD 0 0 : Nat), .int .i64 (vs.getD 1 0 : Nat), .int .i64 (vs.getD 2 0 : Nat), .int .i64 (vs.getD 3 0 : Nat), .int .i64 (vs.getD 4 0 : Nat), tv]) rfl (wone htv) (by simp) rfl ?_
  refine ent_st2 rfl (by simp) rfl ?_
  refine ent_r (run_loadA (vs := [.int .i64 (vs.getD 0 0 : Nat), .int .i64 (vs.getD 1 0 : Nat), .int .i64 (vs.getD 2 0 : Nat), .int .i64 (vs.getD 3 0 : Nat), .int .i64 (vs.getD 4 0 : Nat), tv]) rfl (cells_all 0 rfl)) ?_
  (repeat refine ent_r (run_load (cell_own 2 rfl rfl)) ?_)
  refine ent_ret tv ?_ ?_
  · rw [hjW, hjV, hz]
  · rw [hjD]; exact (by (repeat refine Imp.pick 4 rfl ?_); exact Imp.trans Imp.drop1 (Imp.trans Imp.drop1 (Imp.trans Imp.drop1 (Imp.drop1))))
end
end Go.Gd
