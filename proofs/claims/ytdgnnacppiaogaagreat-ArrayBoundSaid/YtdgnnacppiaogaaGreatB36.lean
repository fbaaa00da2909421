/- The contracts of package array, first part: what is told, put, keep. Conditions: those in the theorems. The contracts of package array, second part: put, keep. Conditions: those in the theorems. The contracts of package array, third part: reads, what is handed down and dropped. Conditions: those in the theorems. -/
import Derived.Test.YtdgnnacppiaogaaGreatB29
import Derived.Test.YtdgnnacppiaogaaGreatB33
import Derived.Test.YtdgnnacppiaogaaGreatB34
import Derived.Test.YtdgnnacppiaogaaGreatB35
set_option linter.unusedVariables false
set_option linter.unusedSimpArgs false
namespace Go.Gd
open Go.Instr
attribute [local irreducible] loadAt storeAt fieldAt indexAt alloc box build buildSlice hNil eqG binOp Op.unary extract makeSlice makeInterface makeFunc convert hV mV pV hU hF hFV hI hIf hGuard hPick hJ hDraw hLoop ro Instr.index planI spaceH ptH mqH lruH lookup mapUpdate typeAssert mpI ordH stI dkH caH
def msgsV (xs : List (Msg × Value)) : List Value := xs.flatMap fun x => msgL x.1 x.2
theorem msgsV_len (xs : List (Msg × Value)) : (msgsV xs).length = xs.length * 11 := by
  induction xs with
  | nil => rfl
  | cons x xs ih => unfold msgsV at *; rw [List.flatMap_cons, List.length_append, ih, List.length_cons]; simp [msgL]; omega
theorem msgL_one {m : Msg} {dv : Value} (h : dv.oneCell' = true) : ∀ u ∈ msgL m dv, u.oneCell' = true := by
  intro u hu
  unfold msgL at hu
  simp only [List.mem_cons, List.not_mem_nil, or_false] at hu
  rcases hu with rfl | rfl | rfl | rfl | rfl | rfl | rfl | rfl | rfl | rfl | rfl <;> first | rfl | exact h
def datH (w0 : World) : List (Msg × Value) → HP
  | [] => pureH True
  | x :: t => star [roB w0 x.2 x.1.data, datH w0 t]
def outH (w0 : World) (v : Value) (l : List Msg) : HP := exH fun xs : List (Msg × Value) => star [pureH (xs.map (·.1) = l), vec v 37 11 (msgsV xs) xs.length, datH w0 xs]
section
variable {w0 : World} {L L' : List HP} {X : World → Prop}
theorem Imp.dat_app {xs ys : List (Msg × Value)} {L : List HP} : Imp (datH w0 xs :: datH w0 ys :: L) (datH w0 (xs ++ ys) :: L) := by
  induction xs with
  | nil => exact Imp.drop1
  | cons x t ih =>
    refine Imp.starE ?_
    show Imp (roB w0 x.2 x.1.data :: datH w0 t :: datH w0 ys :: L) _
    exact (Imp.cons ih).trans (Imp.starI (M := [roB w0 x.2 x.1.data, datH w0 (t ++ ys)]) (Imp.refl _))
theorem Ent.out {v : Value} {l : List Msg} (h : ∀ xs : List (Msg × Value), xs.map (·.1) = l → Ent w0 (Gd.vec v 37 11 (msgsV xs) xs.length :: datH w0 xs :: L) X) : Ent w0 (outH w0 v l :: L) X := by
  unfold outH
  exact Ent.ex fun xs => Ent.star (Ent.pure fun hx => h xs hx)
theorem Imp.out {v : Value} {l : List Msg} (xs : List (Msg × Value)) (hx : xs.map (·.1) = l) (h : Imp L (vec v 37 11 (msgsV xs) xs.length :: datH w0 xs :: L')) : Imp L (outH w0 v l :: L') := by
  unfold outH
  exact Imp.exI xs (Imp.starI (Imp.pureI hx h))
theorem Imp.out0 {v : Value} {a : Option Addr} (hv : v = .slice a 0 0) (h : Imp L L') : Imp L (outH w0 v [] :: L') := Imp.out [] rfl (Imp.vec0 hv (Imp.pureI trivial h))
def zM : List Value := [.int .i64 0, .int .i64 0, .int .i64 0, .int .i64 0, .int .i64 0, .int .i64 0, .int .i64 0, .int .i64 0, .int .i64 0, .bool false, .slice none 0 0]
theorem fillM (m : Msg) (dv : Value) : fill (fun i => some (i * 11, 11)) ((List.replicate 1 zM).flatten).toArray [(0, .agg (msgL m dv).toArray)] = some (msgL m dv).toArray := by
  unfold msgL zM
  simp [fill, agg_cells]
theorem ent_out1 {m : Msg} {dv : Value} {K : Value → World → Prop} (h : ∀ v, Ent w0 (outH w0 v [m] :: L) (K v)) : Ent w0 (roB w0 dv m.data :: L) (hV P (buildSlice 43 1 #[(0, .agg (msgL m dv).toArray)]) K) := by
  refine ent_bs (zs := zM) rfl (n := 1) (parts := [(0, .agg (msgL m dv).toArray)]) (cs := msgL m dv) (by simp [zM]) (fillM m dv) fun b => ?_
  refine Ent.imp ?_ (h _)
  refine Imp.out [(m, dv)] rfl ?_
  refine Imp.trans ?_ (Imp.trans (Imp.vecN (sz := 11) (n := 1) (l := msgL m dv) rfl (Imp.refl (pt b 37 (msgL m dv) :: roB w0 dv m.data :: L))) ?_)
  · exact Imp.refl _
  · have e : msgL m dv = msgsV [(m, dv)] := by simp [msgsV]
    rw [e]
    exact Imp.cons (Imp.starI (Imp.cons (Imp.pureI trivial (Imp.refl _))))
theorem ent_outApp {m : Msg} {dv v : Value} {l : List Msg} {K : Value → World → Prop} (hl : l.length ≤ 1000000) (h : ∀ v', Ent w0 (outH w0 v' (l ++ [m]) :: L) (K v')) :
    Ent w0 (outH w0 v l :: roB w0 dv m.data :: L) (hV P (buildSlice 43 1 #[(0, .agg (msgL m dv).toArray)]) fun t => hV P (Builtin.append_ #[43, 43] 43 #[v, t]) K) := by
  refine Ent.out fun xs hx => ?_
  refine Ent.at 2 rfl (Ent.ro1 fun hdv => ?_)
  refine ent_bs (zs := zM) rfl (n := 1) (parts := [(0, .agg (msgL m dv).toArray)]) (cs := msgL m dv) (by simp [zM]) (fillM m dv) fun b => ?_
  have hxl : xs.length = l.length := by rw [← hx]; simp
  refine ent_append (zs := zM) (lx := msgL m dv) 2 rfl (RdS.all 0 rfl rfl) rfl (msgL_one hdv) (by omega) (by omega) fun v' => ?_
  refine Ent.imp ?_ (h v')
  have e : msgsV xs ++ msgL m dv = msgsV (xs ++ [(m, dv)]) := by simp [msgsV]
  refine Imp.out (xs ++ [(m, dv)]) (by rw [List.map_append, hx]; rfl) ?_
  rw [e, List.length_append]
  refine Imp.cons ?_
  refine Imp.trans (L2 := datH w0 xs :: roB w0 dv m.data :: L) (by (repeat (first | refine Imp.pick 1 rfl ?_ | refine Imp.pick 2 rfl ?_)); exact Imp.drop1) ?_
  refine Imp.trans ?_ (Imp.dat_app (xs := xs) (ys := [(m, dv)]))
  exact Imp.cons (Imp.starI (Imp.cons (Imp.pureI trivial (Imp.refl _))))
end
end Go.Gd
namespace Go.Gd
open Go.Instr
attribute [local irreducible] loadAt storeAt fieldAt indexAt alloc box build buildSlice hNil eqG binOp Op.unary extract makeSlice makeInterface makeFunc convert hV mV pV hU hF hFV hI hIf hGuard hPick hJ hDraw hLoop ro Instr.index planI spaceH ptH mqH lruH lookup mapUpdate typeAssert mpI ordH stI dkH caH outH
structure Ar where
  S : Ca
  D : Dk
  down : Bool
  reads : Nat
structure ArN where
  ar : Nat
  k : Nat
  a : Nat
  p : Nat
  mb : Nat
  s : Nat
  d : Nat
  lm : Nat
def shOf (c : Cfg) : Shp := ⟨c.blocks.toNat, c.size.toNat, c.clients.toNat, c.slots.toNat⟩
def arL (x : ArN) (c : Cfg) (A : Ar) : List Value := cfgL c ++ [P0 x.s, P0 x.k, .bool A.down, .int .i64 (A.reads : Nat), .map (some x.lm)]
def arH (w0 : World) (x : ArN) (c : Cfg) (A : Ar) : HP := star [pt x.ar 105 (arL x c A), stI x.s x.d (shOf c), caH w0 x.k x.a x.p x.mb c 3 A.S]
def mInv (b : Int) : Msg := ⟨14, 0, 0, 0, 0, b, 0, 0, 0, false, []⟩
def mData (b : Int) (d : List UInt8) : Msg := ⟨12, 0, 0, 0, 0, b, 0, 0, 0, false, d⟩
def mDataE (b e : Int) : Msg := ⟨12, 0, 0, 0, 0, b, 0, 0, e, false, []⟩
def mDone (m : Msg) (code : Int) (g : Bool) : Msg := ⟨13, m.client, m.slot, m.boot, m.op, m.block, 0, 0, code, g, []⟩
noncomputable def Ar.put (c : Cfg) (A : Ar) (b level : Int) (d : List UInt8) : Ar × List Msg :=
  ({ A with S := (A.S.put c 3 b d level).1 }, if (A.S.put c 3 b d level).2.1.isSome = true ∧ c.mode = 1 then [mInv (vicV (A.S.put c 3 b d level).2.1)] else [])
noncomputable def Ar.keep (c : Cfg) (A : Ar) (b level : Int) (d : List UInt8) : Ar × List Msg := by
  classical
  exact if c.mode ≠ 2 ∨ level = 3 ∧ Ca.takes c 3 A.S b level then A.put c b level d else ({ A with S := (A.S.drop b).1 }, [])
structure CaOk (c : Cfg) (k : Nat) (S : Ca) : Prop where
  right : cfgRight c = true
  fine : S.o.Fine k
  kb : k < 4611686018427387904
  size : ∀ i d, S.m i = some d → d.length ≤ 64
  part : c.place = 2 → ∃ pc, S.o.isPart = some pc ∧ pc.Ok
  npart : c.place ≠ 2 → S.o.isPart = none
theorem CaOk.parts {c : Cfg} {k : Nat} {S : Ca} (h : CaOk c k S) (hp : c.place = 2) : ∃ pc M, S.o = .part pc M ∧ pc.Ok := by
  obtain ⟨pc, h1, h2⟩ := h.part hp
  obtain ⟨M, hM⟩ := isPart_some h1
  exact ⟨pc, M, hM, h2⟩
theorem CaOk.takes {c : Cfg} {k : Nat} {S : Ca} (h : CaOk c k S) (hp : c.place ≠ 2) (b : Nat) : S.o.takes b := isPart_none (h.npart hp) b
theorem CaOk.mono {c : Cfg} {k j : Nat} {S : Ca} (h : CaOk c k S) (hkj : k ≤ j) (hj : j < 4611686018427387904) : CaOk c j S := ⟨h.right, h.fine.mono hkj, hj, h.size, h.part, h.npart⟩
theorem CaOk.use {c : Cfg} {k : Nat} {S : Ca} (h : CaOk c k S) (hk : k + 1 < 4611686018427387904) (b : Int) : CaOk c (k + 1) (S.use b).1 := by
  unfold Ca.use
  cases hh : S.o.has b with
  | false => exact h.mono (Nat.le_succ _) hk
  | true =>
    have hb := Ord.has_lt hh
    exact ⟨h.right, h.fine.use (by omega), hk, h.size, fun hp => by rw [show (Ca.o (_, _).1).isPart = S.o.isPart from isPart_use _ _]; exact h.part hp, fun hp => by rw [show (Ca.o (_, _).1).isPart = S.o.isPart from isPart_use _ _]; exact h.npart hp⟩
theorem CaOk.drop {c : Cfg} {k : Nat} {S : Ca} (h : CaOk c k S) (b : Int) : CaOk c k (S.drop b).1 := by
  unfold Ca.drop
  cases hh : S.o.has b with
  | false => exact h
  | true =>
    refine ⟨h.right, h.fine.remove _, h.kb, fun i d hd => ?_, fun hp => by rw [show (Ca.o (_, _).1).isPart = S.o.isPart from isPart_remove _ _]; exact h.part hp, fun hp => by rw [show (Ca.o (_, _).1).isPart = S.o.isPart from isPart_remove _ _]; exact h.npart hp⟩
    have hd' : upF S.m b.toNat none i = some d := hd
    unfold upF at hd'
    split at hd'
    · cases hd'
    · exact h.size i d hd'
theorem CaOk.add {c : Cfg} {k : Nat} {S : Ca} (h : CaOk c k S) (hk : k + 1 < 4611686018427387904) {b : Nat} (hb : b < 64) {d : List UInt8} (hd : d.length ≤ 64) : CaOk c (k + 1) (S.add b d).1 := by
  unfold Ca.add
  have hput : ∀ (m : Nat → Option (List UInt8)), (∀ i e, m i = some e → e.length ≤ 64) → ∀ i e, upF m b (some d) i = some e → e.length ≤ 64 := by
    intro m hm i e he
    unfold upF at he
    split at he
    · simp only [Option.some.injEq] at he; subst he; exact hd
    · exact hm i e he
  split
  · refine ⟨h.right, h.fine.add hb, hk, hput _ fun i e he => ?_, fun hp => ?_, fun hp => ?_⟩
    · unfold upF at he
      split at he
      · cases he
      · exact h.size i e he
    · rw [show ((S.o.add b).1).isPart = S.o.isPart from isPart_add _ _]; exact h.part hp
    · rw [show ((S.o.add b).1).isPart = S.o.isPart from isPart_add _ _]; exact h.npart hp
  · refine ⟨h.right, h.fine.add hb, hk, hput _ h.size, fun hp => ?_, fun hp => ?_⟩
    · rw [show ((S.o.add b).1).isPart = S.o.isPart from isPart_add _ _]; exact h.part hp
    · rw [show ((S.o.add b).1).isPart = S.o.isPart from isPart_add _ _]; exact h.npart hp
theorem CaOk.put {c : Cfg} {k : Nat} {S : Ca} (h : CaOk c k S) (hk : k + 1 < 4611686018427387904) (tier b : Int) {d : List UInt8} (hd : d.length ≤ 64) (level : Int) : CaOk c (k + 1) (S.put c tier b d level).1 := by
  classical
  have hP := (cfg_facts h.right).1
  unfold Ca.put
  split
  · exact h.mono (Nat.le_succ _) hk
  · rename_i hth
    split
    · exact h.mono (Nat.le_succ _) hk
    · split
      · exact h.mono (Nat.le_succ _) hk
      · have hb : Ca.there c b := by simpa using hth
        obtain ⟨h1, h2⟩ := hb
        have := hP.2.2.2.1
        exact h.add hk (by omega) hd
section
variable {w0 : World} {L : List HP} {x : ArN} {c : Cfg} {A : Ar} {k : Nat}
theorem Ent.ar {X : World → Prop} (h : Ent w0 (pt x.ar 105 (arL x c A) :: stI x.s x.d (shOf c) :: caH w0 x.k x.a x.p x.mb c 3 A.S :: L) X) : Ent w0 (arH w0 x c A :: L) X := Ent.star h
theorem Imp.ar {L' : List HP} (h : Imp L (pt x.ar 105 (arL x c A) :: stI x.s x.d (shOf c) :: caH w0 x.k x.a x.p x.mb c 3 A.S :: L')) : Imp L (arH w0 x c A :: L') := Imp.starI h
theorem ar_put (hS : CaOk c k A.S) (b level : Int) (dv : Value) (d : List UInt8) (hd : d.length ≤ 64) :
    Spec w0 105 [P0 x.ar, .int .i64 b, .int .i64 level, dv] [arH w0 x c A, roB w0 dv d] (fun v : Value => v) (fun v => [outH w0 v (A.put c b level d).2, arH w0 x c (A.put c b level d).1]) := by
  have hP := (cfg_facts hS.right).1
  refine spec_go (fun R w => H105) fun F => ?_
  show Ent w0 (arH w0 x c A :: roB w0 dv d :: F) _
  refine Ent.at 1 rfl (Ent.ro1 fun hdv => Ent.to1 (Ent.ar ?_))
  unfold F105 Ar.put
  (repeat (first | refine ent_q (run_nil _) ?_ | refine ent_q (run_field0 _) ?_))
  refine ent_q (run_load (v := P0 x.k) (cell_own 0 rfl rfl)) ?_
  refine ent_q (bd141_0_1 rfl hdv) ?_
  refine ent_call (ca_put k b level dv d (by omega) hS.fine hS.kb (by have := hP.2.2.2.1; omega) hS.parts hS.takes) (by (repeat refine Imp.pick 2 rfl ?_); exact Imp.refl _) fun gv => ?_
  generalize A.S.put c 3 b d level = W
  obtain ⟨S', vic, e⟩ := W
  dsimp only
  refine Ent.ro1 fun hgv => ?_
  (repeat refine ent_q (run_ex rfl) ?_)
  refine ent_alloc fun vb => ?_
  refine ent_sa0 (vs := [.int .i64 (vicV vic), gv]) rfl (two_one hgv) (by simp) rfl ?_
  refine Ent.imp (L' := pt x.ar 105 (arL x c A) :: pt vb 141 [.int .i64 (vicV vic), gv] :: stI x.s x.d (shOf c) :: caH w0 x.k x.a x.p x.mb c 3 S' :: F) (by (repeat (first | refine Imp.pick 0 rfl ?_ | refine Imp.pick 1 rfl ?_ | refine Imp.pick 2 rfl ?_ | refine Imp.pick 3 rfl ?_)); exact Imp.drop1) ?_
  have back : ∀ {M : List HP}, Imp (pt x.ar 105 (arL x c A) :: pt vb 141 [.int .i64 (vicV vic), gv] :: stI x.s x.d (shOf c) :: caH w0 x.k x.a x.p x.mb c 3 S' :: M) (arH w0 x c { A with S := S' } :: M) := fun {M} => Imp.ar (A := { A with S := S' }) (by (repeat (first | refine Imp.pick 0 rfl ?_ | refine Imp.pick 1 rfl ?_)); exact Imp.drop1)
  cases hv : vic.isSome with
  | false =>
    (repeat (first | refine ent_ifF ?_ | refine ent_gF ?_ | refine ent_pF ?_ | refine ent_j ?_))
    rw [if_neg (by simp)]
    exact ent_ret (.slice none 0 0) rfl (Imp.out0 rfl back)
  | true =>
    (repeat (first | refine ent_q (run_nil _) ?_ | refine ent_q (run_fieldZ _ _) ?_ | refine ent_q (run_field0 _) ?_ | refine ent_gT ?_ | refine ent_j ?_))
    refine ent_q (run_load (v := .int .i64 c.mode) (cell_own 0 rfl rfl)) ?_
    refine ent_qb (run_eq _ _) (fun h1 => ?_) (fun h1 => ?_)
    · rw [if_pos ⟨rfl, h1⟩]
      (repeat (first | refine ent_q (run_fieldZ _ _) ?_ | refine ent_ifT ?_ | refine ent_pT ?_))
      refine ent_q (run_load (v := .int .i64 (vicV vic)) (cell_own 1 rfl rfl)) ?_
      refine ent_q (bd37_0_5 rfl rfl) ?_
      refine Ent.imp (Imp.ro0 (a := none) (cap := 0) (sz := 1) (w0 := w0) rfl (Imp.refl _)) ?_
      refine ent_out1 (m := mInv (vicV vic)) (dv := .slice none 0 0) fun v => ?_
      exact ent_ret v rfl (Imp.cons back)
    · rw [if_neg (fun h => h1 h.2)]
      (repeat (first | refine ent_ifF ?_ | refine ent_pT ?_))
      exact ent_ret (.slice none 0 0) rfl (Imp.out0 rfl back)
theorem ar_keep (hS : CaOk c k A.S) (b level : Int) (dv : Value) (d : List UInt8) (hd : d.length ≤ 64) :
    Spec w0 103 [P0 x.ar, .int .i64 b, .int .i64 level, dv] [arH w0 x c A, roB w0 dv d] (fun v : Value => v) (fun v => [outH w0 v (A.keep c b level d).2, arH w0 x c (A.keep c b level d).1]) := by
  classical
  refine spec_go (fun R w => H103) fun F => ?_
  show Ent w0 (arH w0 x c A :: roB w0 dv d :: F) _
  generalize hW : A.keep c b level d = W
  unfold Ar.keep at hW
  have yes : (c.mode ≠ 2 ∨ level = 3 ∧ Ca.takes c 3 A.S b level) → Ent w0 (arH w0 x c A :: roB w0 dv d :: F) (hF P 105 #[P0 x.ar, .int .i64 b, .int .i64 level, dv] fun t32 => (fun v w' => ∃ i : Value, v = i ∧ Sat w0 ([outH w0 i W.2, arH w0 x c W.1] ++ F) w') t32) := by
    intro h
    rw [if_pos h] at hW
    subst hW
    refine ent_call (ar_put hS b level dv d hd) (Imp.refl _) fun v => ?_
    exact ent_ret v rfl (Imp.refl _)
  have no : ¬ (c.mode ≠ 2 ∨ level = 3 ∧ Ca.takes c 3 A.S b level) → Ent w0 (arH w0 x c A :: roB w0 dv d :: F) (hV P (loadAt 95 (.pointer (some ⟨x.ar, 18, none⟩))) fun t36 => hF P 106 #[t36, .int .i64 b] fun t38 => (fun v w' => ∃ i : Value, v = i ∧ Sat w0 ([outH w0 i W.2, arH w0 x c W.1] ++ F) w') (.slice none 0 0)) := by
    intro h
    rw [if_neg h] at hW
    subst hW
    refine Ent.ar ?_
    refine ent_q (run_load (v := P0 x.k) (cell_own 0 rfl rfl)) ?_
    refine ent_call (ca_drop b) (by (repeat refine Imp.pick 2 rfl ?_); exact Imp.refl _) fun dv' => ?_
    refine ent_ret (.slice none 0 0) rfl (Imp.out0 rfl ?_)
    exact Imp.ar (A := { A with S := (A.S.drop b).1 }) (by (repeat (first | refine Imp.pick 1 rfl ?_ | refine Imp.pick 2 rfl ?_)); exact Imp.trans Imp.drop1 (Imp.drop1))
  unfold F103
  refine Ent.ar ?_
  (repeat (first | refine ent_q (run_nil _) ?_ | refine ent_q (run_fieldZ _ _) ?_ | refine ent_q (run_field0 _) ?_))
  refine ent_q (run_load (v := .int .i64 c.mode) (cell_own 0 rfl rfl)) ?_
  have back : ∀ {M : List HP}, Imp (pt x.ar 105 (arL x c A) :: stI x.s x.d (shOf c) :: caH w0 x.k x.a x.p x.mb c 3 A.S :: M) (arH w0 x c A :: M) := fun {M} => Imp.ar (Imp.refl _)
  by_cases h1 : c.mode = 2
  · refine ent_q ((run_ne _ _).F (by simpa using h1)) ?_
    (repeat (first | refine ent_gT ?_ | refine ent_j ?_))
    refine ent_qb (run_eq _ _) (fun h2 => ?_) (fun h2 => ?_)
    · (repeat (first | refine ent_q (run_nil _) ?_ | refine ent_q (run_field0 _) ?_ | refine ent_gT ?_ | refine ent_j ?_))
      refine ent_q (run_load (v := P0 x.k) (cell_own 0 rfl rfl)) ?_
      refine ent_call (ca_takes b level hS.parts (decide (Ca.takes c 3 A.S b level)) decide_eq_true_iff) (by (repeat refine Imp.pick 2 rfl ?_); exact Imp.refl _) fun _ => ?_
      refine Ent.imp (L' := pt x.ar 105 (arL x c A) :: stI x.s x.d (shOf c) :: caH w0 x.k x.a x.p x.mb c 3 A.S :: roB w0 dv d :: F) (by (repeat (first | refine Imp.pick 0 rfl ?_ | refine Imp.pick 1 rfl ?_)); exact Imp.refl _) ?_
      refine Ent.imp back ?_
      by_cases h3 : Ca.takes c 3 A.S b level
      · rw [decide_eq_true h3]
        (repeat (first | refine ent_ifT ?_ | refine ent_gT ?_ | refine ent_pT ?_ | refine ent_pF ?_))
        exact yes (.inr ⟨h2, h3⟩)
      · rw [decide_eq_false h3]
        (repeat (first | refine ent_q (run_nil _) ?_ | refine ent_q (run_field0 _) ?_ | refine ent_ifF ?_ | refine ent_gT ?_ | refine ent_pT ?_ | refine ent_pF ?_))
        exact no (fun h => h.elim (fun h => h h1) (fun h => h3 h.2))
    · refine Ent.imp back ?_
      (repeat (first | refine ent_q (run_nil _) ?_ | refine ent_q (run_field0 _) ?_ | refine ent_ifF ?_ | refine ent_gT ?_ | refine ent_gF ?_ | refine ent_pF ?_ | refine ent_j ?_))
      exact no (fun h => h.elim (fun h => h h1) (fun h => h2 h.1))
  · refine ent_q ((run_ne _ _).T h1) ?_
    refine Ent.imp back ?_
    (repeat (first | refine ent_ifT ?_ | refine ent_gF' ?_ | refine ent_gU ?_ | refine ent_pT ?_ | refine ent_j ?_))
    exact yes (.inl h1)
end
end Go.Gd
namespace Go.Gd
open Go.Instr
attribute [local irreducible] loadAt storeAt fieldAt indexAt alloc box build buildSlice hNil eqG binOp Op.unary extract makeSlice makeInterface makeFunc convert hV mV pV hU hF hFV hI hIf hGuard hPick hJ hDraw hLoop ro Instr.index planI spaceH ptH mqH lruH lookup mapUpdate typeAssert mpI ordH stI dkH caH outH arH
theorem Shp.does_ok {s : Shp} (hs : s.Ok) {w : Wr} (hf : s.fits w) {v : Nat} (hv : v ≤ 1001) (hd : w.data.length ≤ 16) {D : Dk} (hD : D.Ok) : (s.does w v D).2.Ok := by
  obtain ⟨h1, h2, h3, h4⟩ := hf.small hs
  refine Dk.Ok.seq (fun x hx => ?_) hD
  simp only [List.mem_cons, List.not_mem_nil, or_false] at hx
  rcases hx with rfl | rfl | rfl
  · exact len_blk hv hd
  · exact len_slot h3 h4 (by omega)
  · simp
theorem Shp.write_ok {s : Shp} (hs : s.Ok) (w : Wr) {D : Dk} (hD : D.Ok) : (s.write w D).2.2.Ok := by
  have h16 := hs.size
  have hb32 := hs.blocks
  unfold Shp.write
  split
  · exact hD
  · rename_i c1
    split
    · exact hD
    · rename_i c2
      have hlen : w.data.length = s.size := by simpa using c2
      split
      · exact hD
      · rename_i c3
        have hf : s.fits w := by simpa using c3
        obtain ⟨h1, h2, h3, h4⟩ := hf.small hs
        have hsl : (nums [w.boot.toNat, w.op.toNat, 11]).length ≤ 64 := len_slot h3 h4 (by omega)
        have hver := blk_ver (sh := s) D w.block.toNat
        have hjl : (jrnB w ((s.blk D w.block.toNat).1 + 1)).length ≤ 64 := len_jrn hs hf (by omega) (by omega) (by omega)
        split
        · exact hD
        · split
          · exact hD
          · split
            · split
              · exact hD.write hsl
              · exact hD.write hsl
            · split
              · exact hD.write hjl
              · exact Shp.does_ok hs hf (by omega) (by omega) (hD.write hjl)
theorem Shp.open_ok {s : Shp} (hs : s.Ok) {D : Dk} (hD : D.Ok) : (s.open D).2.Ok := by
  unfold Shp.open
  split
  · rename_i h
    have hdl := jrn_data h
    have h16 := hs.size
    exact Shp.does_ok hs h.2.1 (by have := h.2.2.2.2; omega) (by omega) hD
  · exact hD
theorem shOf_ok {c : Cfg} (h : cfgRight c = true) : (shOf c).Ok := by
  obtain ⟨h1, h2, h3, h4, h5, h6, h7, h8, h9, h10, h11, h12, h13⟩ := (cfg_facts h).1
  unfold shOf
  exact ⟨by dsimp only; omega, by dsimp only; omega, by dsimp only; omega, by dsimp only; omega⟩
theorem read_len {s : Shp} (hs : s.Ok) (D : Dk) (b : Int) : (s.read D b).1.length ≤ 16 := by
  have := hs.size
  unfold Shp.read
  split
  · rw [blk_len hs]; omega
  · simp
structure ArOk (c : Cfg) (n k : Nat) (A : Ar) : Prop where
  S : CaOk c k A.S
  need : (shOf c).need ≤ n
  D : A.D.Ok
  reads : A.reads ≤ k
noncomputable def Ar.read (c : Cfg) (A : Ar) (m : Msg) : Ar × List Msg :=
  if (A.S.use m.block).2.2 = true then
    (if c.mode = 2 then ((Ar.keep c { A with S := (A.S.use m.block).1 } m.block m.level (A.S.use m.block).2.1).1, (Ar.keep c { A with S := (A.S.use m.block).1 } m.block m.level (A.S.use m.block).2.1).2 ++ [mData m.block (A.S.use m.block).2.1])
     else ({ A with S := (A.S.use m.block).1 }, [mData m.block (A.S.use m.block).2.1]))
  else if ((shOf c).read A.D m.block).2.2 ≠ 0 then (A, [mDataE m.block ((shOf c).read A.D m.block).2.2])
  else ((Ar.keep c { A with reads := A.reads + 1 } m.block m.level ((shOf c).read A.D m.block).1).1, (Ar.keep c { A with reads := A.reads + 1 } m.block m.level ((shOf c).read A.D m.block).1).2 ++ [mData m.block ((shOf c).read A.D m.block).1])
theorem out_len_put (c : Cfg) (A : Ar) (b level : Int) (d : List UInt8) : (A.put c b level d).2.length ≤ 1 := by
  unfold Ar.put; dsimp only; split <;> simp
theorem out_len_keep (c : Cfg) (A : Ar) (b level : Int) (d : List UInt8) : (A.keep c b level d).2.length ≤ 1 := by
  unfold Ar.keep; split
  · exact out_len_put c A b level d
  · simp
theorem keep_reads (c : Cfg) (A : Ar) (b level : Int) (d : List UInt8) : (A.keep c b level d).1.D = A.D ∧ (A.keep c b level d).1.down = A.down ∧ (A.keep c b level d).1.reads = A.reads := by
  unfold Ar.keep Ar.put; split <;> exact ⟨rfl, rfl, rfl⟩
section
variable {w0 : World} {L : List HP} {x : ArN} {c : Cfg} {A : Ar} {n k : Nat}
set_option maxHeartbeats 1000000 in
theorem ar_read (hok : ArOk c n k A) (hk : k + 2 < 4611686018427387904) (m : Msg) (mv : Value) :
    Spec w0 50 [P0 x.ar, .agg (msgL m mv).toArray] [arH w0 x c A, dkH w0 x.d n A.D] (fun v : Value => v) (fun v => [outH w0 v (A.read c m).2, arH w0 x c (A.read c m).1, dkH w0 x.d n A.D]) := by
  have hsh := shOf_ok hok.S.right
  refine spec_go (fun R w => H50) fun F => ?_
  show Ent w0 (arH w0 x c A :: dkH w0 x.d n A.D :: F) _
  generalize hW : A.read c m = W
  unfold Ar.read at hW
  unfold F50
  refine ent_box fun mb => ?_
  rw [agg_cells, List.toList_toArray]
  refine Ent.at 1 rfl (Ent.ar ?_)
  refine ent_draw [pt x.ar 105 (arL x c A), pt mb 37 (msgL m mv)] (by (repeat (first | refine Imp.pick 0 rfl ?_ | refine Imp.pick 2 rfl ?_)); exact Imp.nil) ?_
  (repeat (first | refine ent_p (fun _ => run_nil _) ?_ | refine ent_p (fun _ => run_field0 _) ?_))
  refine ent_m (run_load (v := P0 x.k) (cell_own 0 rfl rfl)) ?_
  (repeat refine ent_p (fun _ => run_field0 _) ?_)
  refine ent_m (run_load (v := .int .i64 m.block) (cell_own 1 rfl rfl)) ?_
  have hulen : (A.S.use m.block).2.1.length ≤ 64 := by
    unfold Ca.use
    split
    · cases hx : A.S.m m.block.toNat with
      | none => simp
      | some d => exact hok.S.size _ d hx
    · simp
  refine ent_call (ca_use k m.block hok.S.fine hok.S.kb (fun i d h => by have := hok.S.size i d h; omega)) (by (repeat refine Imp.pick 2 rfl ?_); exact Imp.refl _) fun dv => ?_
  have hSu := hok.S.use (by omega) m.block
  have tail : ∀ (A1 : Ar) (j : Nat) (is : Bool) (dv : Value) (d : List UInt8), CaOk c j A1.S → d.length ≤ 64 → W = (if is = false ∨ c.mode = 2 then ((A1.keep c m.block m.level d).1, (A1.keep c m.block m.level d).2 ++ [mData m.block d]) else (A1, [mData m.block d])) →
      Ent w0 (arH w0 x c A1 :: pt mb 37 (msgL m mv) :: roB w0 dv d :: dkH w0 x.d n A.D :: F) (
 hV P (Op.unary .not (.bool is)) fun t50 =>
 hJ (fun (j57_33 : Value) =>
 hPick t50 (.bool true) j57_33 fun t58 =>
 hJ (fun (j10_34 : Value) =>
 hV P (fieldAt 37 (P0 mb) 5) fun t67 =>
 hV P (loadAt 3 t67) fun t68 =>
 hV P (build 37 #[(0, (.int .i64 12)), (5, t68), (10, dv)]) fun t70 =>
 hV P (buildSlice 43 1 #[(0, t70)]) fun t71 =>
 hV P (Builtin.append_ #[43, 43] 43 #[j10_34, t71]) fun t72 =>
(fun v w' => ∃ i : Value, v = i ∧ Sat w0 ([outH w0 i W.2, arH w0 x c W.1, dkH w0 x.d n A.D] ++ F) w') t72) fun J42 =>
 hIf t58 (hV P (fieldAt 37 (P0 mb) 5) fun t60 =>
 hV P (loadAt 3 t60) fun t61 =>
 hV P (fieldAt 37 (P0 mb) 6) fun t62 =>
 hV P (loadAt 3 t62) fun t63 =>
 hF P 103 #[P0 x.ar, t61, t63, dv] fun t65 =>
 J42 t65) (J42 (.slice none 0 0))) fun J43 =>
 hGuard t50 false (hV P (hNil (P0 x.ar)) fun t53 =>
 hV P (fieldAt 105 t53 0) fun t54 =>
 hV P (fieldAt 25 t54 4) fun t55 =>
 hV P (loadAt 3 t55) fun t56 =>
 hV P (eqG true .eql 3 t56 (.int .i64 2)) fun t57 =>
 J43 t57) (J43 undef)) := by
    intro A1 j is dv d hA1 hd hw
    have fin : ∀ (v : Value) (l : List Msg) (B : Ar), l.length ≤ 1 → W = (B, l ++ [mData m.block d]) → Ent w0 (outH w0 v l :: arH w0 x c B :: pt mb 37 (msgL m mv) :: roB w0 dv d :: dkH w0 x.d n A.D :: F) (
 hV P (fieldAt 37 (P0 mb) 5) fun t67 =>
 hV P (loadAt 3 t67) fun t68 =>
 hV P (build 37 #[(0, (.int .i64 12)), (5, t68), (10, dv)]) fun t70 =>
 hV P (buildSlice 43 1 #[(0, t70)]) fun t71 =>
 hV P (Builtin.append_ #[43, 43] 43 #[v, t71]) fun t72 =>
(fun v w' => ∃ i : Value, v = i ∧ Sat w0 ([outH w0 i W.2, arH w0 x c W.1, dkH w0 x.d n A.D] ++ F) w') t72) := by
      intro v l B hl hw
      rw [hw]
      (repeat refine ent_q (run_field0 _) ?_)
      refine ent_q (run_load (v := .int .i64 m.block) (cell_own 2 rfl rfl)) ?_
      refine Ent.at 3 rfl (Ent.ro1 fun hdv => ?_)
      refine ent_q (bd37_0_5_10 rfl rfl hdv) ?_
      refine Ent.to1 ?_
      refine ent_outApp (m := mData m.block d) (dv := dv) (l := l) (by omega) fun v' => ?_
      exact ent_ret v' rfl (by (repeat (first | refine Imp.pick 0 rfl ?_ | refine Imp.pick 1 rfl ?_)); exact Imp.drop1)
    cases is with
    | false =>
      rw [if_pos (.inl rfl)] at hw
      (repeat (first | refine ent_q (run_field0 _) ?_ | refine ent_ifT ?_ | refine ent_gF' ?_ | refine ent_pT ?_ | refine ent_q (run_notF) ?_ | refine ent_j ?_))
      refine ent_q (run_load (v := .int .i64 m.block) (cell_own 1 rfl rfl)) ?_
      (repeat refine ent_q (run_field0 _) ?_)
      refine ent_q (run_load (v := .int .i64 m.level) (cell_own 1 rfl rfl)) ?_
      refine Ent.at 2 rfl (Ent.roDup ?_)
      refine ent_call (ar_keep hA1 m.block m.level dv d hd) (by (repeat (first | refine Imp.pick 0 rfl ?_ | refine Imp.pick 2 rfl ?_)); exact Imp.refl _) fun v => ?_
      refine Ent.imp ?_ (fin v _ _ (out_len_keep c A1 m.block m.level d) hw)
      exact (by (repeat (first | refine Imp.pick 0 rfl ?_ | refine Imp.pick 1 rfl ?_)); exact Imp.refl _)
    | true =>
      (repeat (first | refine ent_q (run_nil _) ?_ | refine ent_q (run_fieldZ _ _) ?_ | refine ent_q (run_field0 _) ?_ | refine ent_gT ?_ | refine ent_q (run_notT) ?_ | refine ent_j ?_))
      refine Ent.ar ?_
      refine ent_q (run_load (v := .int .i64 c.mode) (cell_own 0 rfl rfl)) ?_
      refine Ent.imp (Imp.ar (w0 := w0) (x := x) (c := c) (A := A1) (Imp.refl _)) ?_
      by_cases hm : c.mode = 2
      · rw [if_pos (.inr hm)] at hw
        refine ent_q ((run_eq _ _).T hm) ?_
        (repeat (first | refine ent_q (run_field0 _) ?_ | refine ent_ifT ?_ | refine ent_pF ?_ | refine ent_j ?_))
        refine ent_q (run_load (v := .int .i64 m.block) (cell_own 1 rfl rfl)) ?_
        (repeat refine ent_q (run_field0 _) ?_)
        refine ent_q (run_load (v := .int .i64 m.level) (cell_own 1 rfl rfl)) ?_
        refine Ent.at 2 rfl (Ent.roDup ?_)
        refine ent_call (ar_keep hA1 m.block m.level dv d hd) (by (repeat (first | refine Imp.pick 0 rfl ?_ | refine Imp.pick 2 rfl ?_)); exact Imp.refl _) fun v => ?_
        refine Ent.imp ?_ (fin v _ _ (out_len_keep c A1 m.block m.level d) hw)
        exact (by (repeat (first | refine Imp.pick 0 rfl ?_ | refine Imp.pick 1 rfl ?_)); exact Imp.refl _)
      · rw [if_neg (by simpa using hm)] at hw
        refine ent_q ((run_eq _ _).F hm) ?_
        refine ent_pF ?_
        refine ent_j ?_
        refine ent_ifF ?_
        refine Ent.imp (Imp.out0 (w0 := w0) (v := .slice none 0 0) rfl (Imp.refl _)) ?_
        exact fin (.slice none 0 0) [] A1 (by simp) hw
  have hdrop : (A.S.use m.block).2.2 = false → (A.S.use m.block).1 = A.S := by
    unfold Ca.use
    split
    · intro h; cases h
    · exact fun _ => rfl
  refine Ent.vecRo ?_
  generalize A.S.use m.block = U at *
  obtain ⟨S', ud, is⟩ := U
  dsimp only at hW hulen hSu hdrop ⊢
  cases is with
  | true =>
    rw [if_pos rfl] at hW
    (refine ent_p (fun _ => run_ex rfl) ?_)
    (refine ent_p (fun _ => run_ex rfl) ?_)
    (refine ent_q (run_notT) ?_)
    (refine ent_j ?_)
    (refine ent_ifF ?_)
    refine Ent.imp ?_ (tail { A with S := S' } (k + 1) true dv ud hSu hulen ?_)
    · exact Imp.trans (L2 := pt x.ar 105 (arL x c A) :: stI x.s x.d (shOf c) :: caH w0 x.k x.a x.p x.mb c 3 S' :: pt mb 37 (msgL m mv) :: roB w0 dv ud :: dkH w0 x.d n A.D :: F) (by (repeat (first | refine Imp.pick 0 rfl ?_ | refine Imp.pick 1 rfl ?_ | refine Imp.pick 2 rfl ?_)); exact Imp.refl _) (Imp.ar (x := x) (c := c) (A := { A with S := S' }) (Imp.refl _))
    · rw [← hW]
      by_cases hm : c.mode = 2
      · rw [if_pos hm, if_pos (.inr hm)]
      · rw [if_neg hm, if_neg (by simpa using hm)]
  | false =>
    have hS' := hdrop rfl
    subst hS'
    rw [if_neg (by simp)] at hW
    (repeat (first | refine ent_ifT ?_ | refine ent_q (run_notF) ?_ | refine ent_p (fun _ => run_ex rfl) ?_ | refine ent_j ?_))
    refine Ent.imp (L' := pt x.ar 105 (arL x c A) :: stI x.s x.d (shOf c) :: caH w0 x.k x.a x.p x.mb c 3 A.S :: pt mb 37 (msgL m mv) :: dkH w0 x.d n A.D :: F) (by (repeat (first | refine Imp.pick 1 rfl ?_ | refine Imp.pick 2 rfl ?_)); exact Imp.drop1) ?_
    refine ent_draw [pt x.ar 105 (arL x c A), pt mb 37 (msgL m mv)] (by (repeat (first | refine Imp.pick 0 rfl ?_ | refine Imp.pick 2 rfl ?_)); exact Imp.nil) ?_
    (repeat (first | refine ent_p (fun _ => run_nil _) ?_ | refine ent_p (fun _ => run_field0 _) ?_))
    refine ent_m (run_load (v := P0 x.s) (cell_own 0 rfl rfl)) ?_
    (repeat refine ent_p (fun _ => run_field0 _) ?_)
    refine ent_m (run_load (v := .int .i64 m.block) (cell_own 1 rfl rfl)) ?_
    refine Ent.at 1 rfl (Ent.dup (Pers.st _ _ _) ?_)
    refine ent_call (st_read x.s x.d (shOf c) n A.D hsh m.block hok.need hok.D) (by (repeat (first | refine Imp.pick 0 rfl ?_ | refine Imp.pick 4 rfl ?_)); exact Imp.refl _) fun sv => ?_
    have hrl := read_len hsh A.D m.block
    generalize (shOf c).read A.D m.block = rr at *
    obtain ⟨rd, rv, re⟩ := rr
    dsimp only at hW hrl ⊢
    (repeat refine ent_p (fun _ => run_ex rfl) ?_)
    by_cases he : re = 0
    · rw [if_neg (by simpa using he)] at hW
      refine ent_q ((run_ne _ _).F (by omega)) ?_
      (repeat (first | refine ent_q (run_nil _) ?_ | refine ent_q (run_field0 _) ?_ | refine ent_ifF ?_))
      have hreads := hok.reads
      refine Ent.imp (L' := pt x.ar 105 (arL x c A) :: stI x.s x.d (shOf c) :: caH w0 x.k x.a x.p x.mb c 3 A.S :: vecB sv 5 rd :: pt mb 37 (msgL m mv) :: dkH w0 x.d n A.D :: F) (by (repeat (first | refine Imp.pick 0 rfl ?_ | refine Imp.pick 1 rfl ?_ | refine Imp.pick 2 rfl ?_ | refine Imp.pick 3 rfl ?_ | refine Imp.pick 4 rfl ?_)); exact Imp.drop1) ?_
      refine ent_q (run_load (v := .int .i64 (A.reads : Nat)) (cell_own 0 rfl rfl)) ?_
      refine ent_q (run_add64 (by omega)) ?_
      (repeat (first | refine ent_q (run_nil _) ?_ | refine ent_q (run_field0 _) ?_))
      refine ent_st0 rfl (by show 20 < 22; omega) (l' := arL x c { A with reads := A.reads + 1 }) rfl ?_
      refine Ent.at 3 rfl (Ent.vecRo ?_)
      refine Ent.imp ?_ (tail { A with reads := A.reads + 1 } k false sv rd hok.S (by omega) ?_)
      · exact Imp.trans (L2 := pt x.ar 105 (arL x c { A with reads := A.reads + 1 }) :: stI x.s x.d (shOf c) :: caH w0 x.k x.a x.p x.mb c 3 A.S :: pt mb 37 (msgL m mv) :: roB w0 sv rd :: dkH w0 x.d n A.D :: F) (by (repeat (first | refine Imp.pick 0 rfl ?_ | refine Imp.pick 1 rfl ?_)); exact Imp.refl _) (Imp.ar (x := x) (c := c) (A := { A with reads := A.reads + 1 }) (Imp.refl _))
      · rw [← hW, if_pos (.inl rfl)]
    · rw [if_pos he] at hW
      refine ent_q ((run_ne _ _).T (by omega)) ?_
      (repeat (first | refine ent_q (run_field0 _) ?_ | refine ent_ifT ?_))
      refine Ent.imp (L' := pt x.ar 105 (arL x c A) :: stI x.s x.d (shOf c) :: caH w0 x.k x.a x.p x.mb c 3 A.S :: pt mb 37 (msgL m mv) :: dkH w0 x.d n A.D :: F) (by (repeat (first | refine Imp.pick 1 rfl ?_ | refine Imp.pick 3 rfl ?_ | refine Imp.pick 4 rfl ?_)); exact Imp.trans Imp.drop1 (Imp.drop1)) ?_
      refine ent_q (run_load (v := .int .i64 m.block) (cell_own 3 rfl rfl)) ?_
      refine ent_q (bd37_0_5_8 rfl rfl rfl) ?_
      refine Ent.imp (Imp.ro0 (a := none) (cap := 0) (sz := 1) (w0 := w0) rfl (Imp.refl _)) ?_
      refine ent_out1 (m := mDataE m.block re) (dv := .slice none 0 0) fun v => ?_
      rw [← hW]
      exact ent_ret v rfl (Imp.cons (Imp.ar (x := x) (c := c) (A := A) (by (repeat (first | refine Imp.pick 0 rfl ?_ | refine Imp.pick 1 rfl ?_)); exact Imp.drop1)))
end
end Go.Gd
