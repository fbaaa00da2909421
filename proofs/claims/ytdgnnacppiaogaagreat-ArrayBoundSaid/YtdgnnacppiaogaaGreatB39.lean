/- The example of the arrays statements. Conditions: none beyond those in the theorems. The statement ArrayTrue, of the program. Conditions: those in the theorems. The statement ArrayTrue, of the program: all acts. Conditions: those in the theorems. How the two arguments of a statement about an array read: a configuration, and acts. Conditions: those in the theorems. The statement ArrayTrue. Conditions: none. The plain law of ArrayBound: how many an order has. Conditions: those in the theorems. -/
import Derived.Test.YtdgnnacppiaogaaGreatB38
import Derived.WalkKit
import Derived.ProofKit
import Derived.OpenShut
import Derived.Carry
import Derived.Test.YtdgnnacppiaogaaGreatRows
set_option linter.unusedVariables false
set_option linter.unusedSimpArgs false
namespace Go.Gd
open Go.Instr
attribute [local irreducible] loadAt storeAt fieldAt indexAt alloc box build buildSlice hNil eqG binOp Op.unary extract makeSlice makeInterface makeFunc convert hV mV pV hU hF hFV hI hIf hGuard hPick hJ hDraw hLoop ro Instr.index dkH arH outH
def leastC : Cfg := { clients := 1, slots := 1, blocks := 4, size := 1, mode := 2, place := 0, pol := fun _ => 1, cap := fun _ => 1, queues := 1, life := 1, ghost := 0, demote := 1, hints := [], hv := .slice none 0 0 }
theorem least_right : cfgRight leastC = true := by
  rw [cfgRight_yes]
  · rfl
  · refine ⟨fun i _ => ?_, ?_⟩
    · show ((1 : Int) ≤ 1 ∧ (1 : Int) ≤ 2) ∧ (1 : Int) ≤ 1 ∧ (1 : Int) ≤ 16
      decide
    · decide
def freshD : Dk := { l := fun _ => [], fuse := -1, down := false }
theorem fresh_ok : freshD.Ok := ⟨fun _ => by show 0 ≤ 64; omega, by decide⟩
theorem jrn_nil (s : Shp) : ¬ s.jrnIs [] := by
  rintro ⟨h, _⟩
  have : (rText [] s.size (rNums [] 6 rd0).2).2.ok = false := rfl
  rw [this] at h; cases h
theorem open_fresh (s : Shp) : s.open freshD = (0, freshD) := by
  exact if_neg (jrn_nil s)
def wakeM : Msg := ⟨8, 0, 0, 0, 0, 1, 0, 0, 0, false, []⟩
theorem wake_hear (y : CaN) : ∃ A', (Ar.new leastC freshD y).hear leastC wakeM = (A', [mData 1 [0]]) ∧ A'.reads = 1 := by
  have hu : ((Ar.new leastC freshD y).S.use 1).2.2 = false := by
    unfold Ca.use
    rw [if_neg]
    have := new_hasNot leastC 3 y 1
    show ¬ (Ord.new leastC 3 y).has ((1 : Nat) : Int) = true
    rw [this]; simp
  have hD : (Ar.new leastC freshD y).D = freshD := by show ((shOf leastC).open freshD).2 = _; rw [open_fresh]
  have hr : (shOf leastC).read freshD 1 = ([0], 0, 0) := by decide
  have hread : (Ar.new leastC freshD y).read leastC wakeM = ((Ar.keep leastC { (Ar.new leastC freshD y) with reads := 1 } 1 0 [0]).1, (Ar.keep leastC { (Ar.new leastC freshD y) with reads := 1 } 1 0 [0]).2 ++ [mData 1 [0]]) := by
    unfold Ar.read
    show (if ((Ar.new leastC freshD y).S.use 1).2.2 = true then _ else _) = _
    rw [hu, if_neg (by simp), hD]
    show (if ((shOf leastC).read freshD 1).2.2 ≠ 0 then _ else (Ar.keep leastC _ 1 0 ((shOf leastC).read freshD 1).1 |>.1, _)) = _
    rw [hr, if_neg (by simp)]
    show _ = _
    rw [show (shOf leastC).read freshD wakeM.block = ([0], 0, 0) from hr]
    rfl
  have hk2 : (Ar.keep leastC { (Ar.new leastC freshD y) with reads := 1 } 1 0 [0]).2 = [] := by
    classical
    unfold Ar.keep
    rw [if_neg (by intro h; rcases h with h | h; exact h rfl; exact absurd h.1 (by decide))]
  refine ⟨(Ar.keep leastC { (Ar.new leastC freshD y) with reads := 1 } 1 0 [0]).1, ?_, ?_⟩
  · unfold Ar.hear
    rw [if_neg (by intro h; rcases h with h | h; cases h; exact absurd h (by decide)), if_pos (show wakeM.kind = 8 from rfl), hread, hk2]
    rfl
  · exact (keep_reads leastC { (Ar.new leastC freshD y) with reads := 1 } 1 0 [0]).2.2
section
variable {w0 : World} {L : List HP}
theorem rf_least : Spec w0 44 [] [] (fun _ : Unit => cfgV leastC) (fun _ => []) := by
  refine spec_go (fun R w => H44) fun F => ?_
  show Ent w0 F _
  unfold F44
  refine ent_alloc fun t0 => ?_
  refine ent_q (run_buildA (parts := [(0, .int .i64 1), (1, .int .i64 1), (2, .int .i64 1)]) (cs := [.int .i64 1, .int .i64 1, .int .i64 1]) rfl) ?_
  refine ent_q (run_buildA (parts := [(0, .int .i64 1), (1, .int .i64 1), (2, .int .i64 1)]) (cs := [.int .i64 1, .int .i64 1, .int .i64 1]) rfl) ?_
  refine ent_q (bd25_0_1_2_3_4_6_7_8_9_11 rfl rfl rfl rfl rfl rfl rfl rfl) ?_
  refine ent_sa0 (vs := cfgL leastC) rfl (cfgL_one rfl) (Nat.le_refl 17) (l' := cfgL leastC) rfl ?_
  refine ent_r (run_loadA (vs := cfgL leastC) rfl (cells_all 0 rfl)) ?_
  exact ent_ret () rfl (by exact Imp.drop1)
theorem rf_wakes : Spec w0 10 [] [] (fun _ : Unit => .bool true) (fun _ => []) := by
  refine spec_go (fun R w => H10) fun F => ?_
  show Ent w0 F _
  unfold F10
  refine ent_call rf_least (Imp.refl _) fun _ => ?_
  refine ent_call sec_new (Imp.refl _) fun d => ?_
  have hneed : (shOf leastC).need ≤ 64 := by decide
  refine Ent.imp (L' := ro w0 leastC.hv 4 leastC.hints.length (hintsV leastC.hints) :: dkH w0 d 64 freshD :: F) (Imp.ro0 rfl (Imp.refl _)) ?_
  refine ent_call (ar_new least_right d freshD hneed fresh_ok (by rw [open_fresh])) (Imp.refl _) fun z => ?_
  obtain ⟨x, y⟩ := z
  dsimp only
  show Ent w0 (arH w0 x leastC (Ar.new leastC freshD y) :: dkH w0 x.d 64 (Ar.new leastC freshD y).D :: pureH (x.d = d) :: F) _
  (repeat refine ent_q (run_ex rfl) ?_)
  refine ent_q ((run_ne _ _).F (by omega)) ?_
  (repeat refine ent_ifF ?_)
  refine ent_q (bd37_0_5 rfl rfl) ?_
  have hok : ArOk leastC 64 0 (Ar.new leastC freshD y) := ⟨CaOk.new least_right (by omega) y, hneed, by show ((shOf leastC).open freshD).2.Ok; rw [open_fresh]; exact fresh_ok, Nat.le_refl _⟩
  refine Ent.imp (Imp.ro0 (a := none) (cap := 0) (sz := 1) (w0 := w0) rfl (Imp.refl _)) ?_
  refine ent_call (ar_hear hok (by omega) wakeM (.slice none 0 0)) (by (repeat (first | refine Imp.pick 0 rfl ?_ | refine Imp.pick 1 rfl ?_)); exact Imp.refl _) fun v => ?_
  obtain ⟨A', e1, e2⟩ := wake_hear y
  rw [e1]
  dsimp only
  refine Ent.out fun xs hxs => ?_
  obtain ⟨dv, rfl⟩ : ∃ dv, xs = [(mData 1 [0], dv)] := by
    match xs, hxs with
    | [(m, dv)], h => simp only [List.map_cons, List.map_nil, List.cons.injEq, and_true] at h; subst h; exact ⟨dv, rfl⟩
    | a :: b :: t, h => simp at h
  refine Ent.vec (fun a hv hl hn => by simp at hn) fun b cap junk hv hl hc => ?_
  subst hv
  refine ent_q run_len ?_
  refine ent_q ((run_eq _ _).T (by simp)) ?_
  (repeat (first | refine ent_gT ?_ | refine ent_j ?_))
  refine ent_q (run_indexS0 0 rfl (by simp)) ?_
  have hmv : msgsV [(mData 1 [0], dv)] = msgL (mData 1 [0]) dv := by simp [msgsV]
  rw [hmv]
  refine ent_q (run_loadA (vs := msgL (mData 1 [0]) dv) rfl (cells_ownP (rest := junk) 0 rfl)) ?_
  refine ent_bs (zs := [.int .u8 0]) rfl (n := 1) (parts := [(0, .int .u8 0)]) (cs := by8 [0]) (by simp) rfl fun b8 => ?_
  refine ent_q (bd37_0_5_10 rfl rfl rfl) ?_
  refine Ent.freeze ?_
  refine Ent.imp (L' := ro w0 (.slice (some ⟨b8, 0, none⟩) 1 1) 1 1 (by8 [0]) :: roB w0 dv [0] :: arH w0 x leastC A' :: F) ?_ ?_
  · refine Imp.trans (L2 := ptI b8 5 (by8 [0] ++ []) :: datH w0 [(mData 1 [0], dv)] :: arH w0 x leastC A' :: F) ?_ ?_
    · rw [List.append_nil]; exact (by (repeat (first | refine Imp.pick 0 rfl ?_ | refine Imp.pick 1 rfl ?_)); exact Imp.trans Imp.drop1 (Imp.trans Imp.drop1 (Imp.drop1)))
    · refine Imp.trans (Imp.roI (w0 := w0) (cap := 1) (n := 1) (sz := 1) rfl (Nat.le_refl _)) (Imp.cons ?_)
      exact Imp.trans (Imp.datGet (i := 0) rfl) (by (repeat (first | refine Imp.pick 0 rfl ?_ | refine Imp.pick 1 rfl ?_)); exact Imp.drop1)
  refine ent_call (rf_sameMsg (mData 1 [0]) (mData 1 [0]) dv (.slice (some ⟨b8, 0, none⟩) 1 1) true (by simp) (by decide) (by decide)) (by (repeat (first | refine Imp.pick 0 rfl ?_ | refine Imp.pick 1 rfl ?_)); exact Imp.refl _) fun _ => ?_
  (repeat (first | refine ent_gT ?_ | refine ent_pT ?_))
  refine ent_call ar_reads (Imp.refl _) fun _ => ?_
  rw [e2]
  refine ent_q ((run_eq _ _).T rfl) ?_
  (repeat refine ent_pT ?_)
  exact ent_ret () rfl (by exact Imp.drop1)
end
end Go.Gd
set_option linter.unusedVariables false
namespace Go.Gd
open Go.Instr
attribute [local irreducible] loadAt storeAt fieldAt indexAt alloc box build buildSlice hNil eqG binOp Op.unary extract makeSlice makeInterface makeFunc convert hV mV pV hU hF hFV hI hIf hGuard hPick hJ hDraw hLoop ro Instr.index dkH arH outH caH ordH stI
theorem Ent.arLk {w0 : World} {x : ArN} {c : Cfg} {A : Ar} {L : List HP} {X : World → Prop} (h : A.S.o.Lk → Ent w0 (arH w0 x c A :: L) X) : Ent w0 (arH w0 x c A :: L) X := by
  refine Ent.ar ?_
  refine Ent.at 2 rfl (Ent.ca fun cv vs => ?_)
  refine Ent.at 1 rfl (Ent.ordOk fun hk => ?_)
  refine Ent.imp ?_ (h hk)
  refine Imp.trans (L2 := caH w0 x.k x.a x.p x.mb c 3 A.S :: pt x.ar 105 (arL x c A) :: stI x.s x.d (shOf c) :: L) (Imp.ca (cv := cv) (vs := vs) (by (repeat (first | refine Imp.pick 0 rfl ?_ | refine Imp.pick 1 rfl ?_)); exact Imp.refl _)) (Imp.ar (by (repeat (first | refine Imp.pick 0 rfl ?_ | refine Imp.pick 1 rfl ?_)); exact Imp.refl _))
theorem RdS.cellM {w0 : World} {L : List HP} {a : Option Addr} {n cap : Nat} {xs : List (Msg × Value)} (h : RdS w0 L (.slice a n cap) 11 n (msgsV xs)) {i : Nat} {x : Msg × Value} (hx : xs[i]? = some x) :
    ∃ b o, a = some ⟨b, o, none⟩ ∧ ∀ j u, (msgL x.1 x.2)[j]? = some u → Cell w0 L ⟨b, o + i * 11 + j, none⟩ u := by
  obtain ⟨a', c', e1, e2, e3⟩ := h
  cases e1
  rcases e3 with e3 | ⟨b, o, rfl, hc⟩
  · have := congrArg List.length e3
    rw [msgsV_len] at this
    have := (List.getElem?_eq_some_iff.1 hx).1
    simp at *; omega
  · exact ⟨b, o, rfl, fun j u hj => by rw [Nat.add_assoc]; exact hc _ _ (msgsV_get hx j u hj)⟩
theorem hear_len (c : Cfg) (A : Ar) (m : Msg) : (A.hear c m).2.length ≤ 2 := by
  unfold Ar.hear
  split
  · simp
  · split
    · unfold Ar.read
      split
      · split
        · have := out_len_keep c { A with S := (A.S.use m.block).1 } m.block m.level (A.S.use m.block).2.1
          simp only [List.length_append, List.length_cons, List.length_nil]; omega
        · simp
      · split
        · simp
        · have := out_len_keep c { A with reads := A.reads + 1 } m.block m.level ((shOf c).read A.D m.block).1
          simp only [List.length_append, List.length_cons, List.length_nil]; omega
    · split
      · unfold Ar.write
        dsimp only
        split
        · split
          · have := out_len_keep c { A with D := ((shOf c).write (msgW m) A.D).2.2 } m.block m.level m.data
            simp only [List.length_append, List.length_cons, List.length_nil]; omega
          · simp
        · split
          · simp
          · split <;> simp
      · split
        · simp
        · split <;> simp
section
variable {w0 : World} {L : List HP}
end
end Go.Gd
set_option linter.unusedVariables false
namespace Go.Gd
open Go.Instr
attribute [local irreducible] loadAt storeAt fieldAt indexAt alloc box build buildSlice hNil eqG binOp Op.unary extract makeSlice makeInterface makeFunc convert hV mV pV hU hF hFV hI hIf hGuard hPick hJ hDraw hLoop ro Instr.index dkH arH outH caH ordH stI
theorem new_ok {c : Cfg} (hr : cfgRight c = true) {D : Dk} (hD : D.Ok) (hn : (shOf c).need ≤ 64) (y : CaN) : ArOk c 64 0 (Ar.new c D y) :=
  ⟨CaOk.new hr (by omega) y, hn, Shp.open_ok (shOf_ok hr) hD, Nat.le_refl _⟩
theorem need64 {c : Cfg} (hr : cfgRight c = true) : (shOf c).need ≤ 64 := by
  have h := shOf_ok hr
  have h1 := h.blocks; have h2 := h.clients; have h3 := h.slots
  have h4 : (shOf c).clients * (shOf c).slots ≤ 4 * 4 := Nat.mul_le_mul h2.2 h3.2
  unfold Shp.need; omega
section
variable {w0 : World} {L : List HP}
end
end Go.Gd
set_option linter.unusedVariables false
namespace Go.Gd
open Go
section
variable {H : Type} (enc : TypeId × Value → H) (W : World)
def Rdz (t : TypeId) (cs : List Value) : Prop := ∃ fuel x, DataW.trod enc P W 0 (fun _ => true) true fuel t cs = some x
variable {enc W}
theorem Rdz.int {t : TypeId} {k : IntKind} [h : IntT t k] {cs : List Value} (hr : Rdz enc W t cs) : ∃ n, cs = [.int k n] ∧ (Lit.int k n).wf = true := by
  obtain ⟨f, x, hx⟩ := hr
  have hu : P.underlying t = some (.int k) := by
    have := h.h
    unfold intT at this
    split at this
    · rename_i e; rw [e]; simp only [Option.some.injEq] at this; rw [this]
    · cases this
  obtain ⟨n, h1, -, h3⟩ := DataW.trod_int hu hx
  exact ⟨n, h1, h3⟩
theorem Rdz.bool {cs : List Value} (hr : Rdz enc W 4 cs) : ∃ b, cs = [.bool b] := by
  obtain ⟨f, x, hx⟩ := hr
  obtain ⟨b, h1, -⟩ := DataW.trod_bool und4 hx
  exact ⟨b, h1⟩
theorem cellsOf_siz {t : TypeId} {n : Nat} [h : Siz t n] : P.cellsOf t = n := by
  have := h.h
  unfold sizeN at this
  unfold Program.cellsOf
  rw [this]; rfl
theorem Rdz.struct {t : TypeId} {n : Nat} [Siz t n] {fs : Array Field} (hu : P.underlying t = some (.struct fs)) {cs : List Value} (hr : Rdz enc W t cs) :
    cs.length = n ∧ ∀ (i : Nat) (f : Field), fs[i]? = some f → Rdz enc W f.type ((cs.drop f.offset).take (P.cellsOf f.type)) := by
  obtain ⟨f, x, hx⟩ := hr
  obtain ⟨xs, m, -, -, hl, hn, hf⟩ := DataW.trod_struct hu hx
  refine ⟨by rw [hl, cellsOf_siz], fun i f hi => ?_⟩
  have hlt : i < xs.length := by rw [hn]; exact (Array.getElem?_eq_some_iff.1 hi).1
  exact ⟨m, xs[i], (hf i f hi).trans (List.getElem?_eq_getElem hlt)⟩
theorem Rdz.array {t e : TypeId} {n k : Nat} (hu : P.underlying t = some (.array n e)) [Siz e k] {cs : List Value} (hr : Rdz enc W t cs) :
    ∀ i, i < n → Rdz enc W e ((cs.drop (i * k)).take k) := by
  obtain ⟨f, x, hx⟩ := hr
  obtain ⟨xs, m, -, -, hl, hn, hf⟩ := DataW.trod_array hu hx
  intro i hi
  have hlt : i < xs.length := by rw [hn]; exact hi
  have := hf i hi
  rw [cellsOf_siz (t := e) (n := k)] at this
  exact ⟨m, xs[i], this.trans (List.getElem?_eq_getElem hlt)⟩
theorem cells_get {a : Addr} : ∀ {n : Nat} {l : List Value}, W.cells? 0 a n = some l → l.length = n ∧ ∀ (j : Nat) u, l[j]? = some u → W.cell? (a.add j) = some u := by
  intro n l h
  unfold World.cells? at h
  rw [if_pos (Nat.zero_le _)] at h
  refine ⟨by simpa using mapM_some_length h, fun j u hj => ?_⟩
  have hlt : j < n := by have := (List.getElem?_eq_some_iff.1 hj).1; rw [mapM_some_length h] at this; simpa using this
  have := mapM_some_get h j j (by simp [hlt])
  rw [this, hj]
theorem cell_nospot {a : Addr} {u : Value} (h : W.cell? a = some u) : a.spot = none := by
  unfold World.cell? at h
  split at h
  · split at h
    · cases h
    · rename_i hs
      cases hx : a.spot with
      | none => rfl
      | some s => rw [hx] at hs; simp at hs
  · cases h
theorem add_at (b o n : Nat) : (Addr.mk b o none).add n = ⟨b, o + n, none⟩ := by
  unfold Addr.add
  split
  · rename_i h; rw [h]; rfl
  · rfl
theorem flat_get {α : Type} (f : α → List Value) {sz : Nat} (hsz : 0 < sz) (hf : ∀ y, (f y).length = sz) : ∀ (ys : List α) (k : Nat), (ys.flatMap f)[k]? = (ys[k / sz]?).bind fun y => (f y)[k % sz]?
  | [], k => by simp
  | y :: t, k => by
    rw [List.flatMap_cons]
    by_cases hk : k < sz
    · rw [List.getElem?_append_left (by rw [hf]; exact hk), Nat.div_eq_of_lt hk, Nat.mod_eq_of_lt hk]; rfl
    · have hk : sz ≤ k := Nat.le_of_not_lt hk
      rw [List.getElem?_append_right (by rw [hf]; exact hk), hf, flat_get f hsz hf t, Nat.div_eq_sub_div hsz hk, Nat.mod_eq_sub_mod hk]
      rfl
theorem flat_len {α : Type} (f : α → List Value) {sz : Nat} (hf : ∀ y, (f y).length = sz) : ∀ (ys : List α), (ys.flatMap f).length = ys.length * sz
  | [] => by simp
  | y :: t => by rw [List.flatMap_cons, List.length_append, hf, flat_len f hf t, List.length_cons, Nat.add_mul, Nat.one_mul, Nat.add_comm]
theorem list_of {α : Type} (Q : Nat → α → Prop) : ∀ n : Nat, (∀ i, i < n → ∃ y, Q i y) → ∃ ys : List α, ys.length = n ∧ ∀ (i : Nat) y, ys[i]? = some y → Q i y
  | 0, _ => ⟨[], rfl, fun i y h => by simp at h⟩
  | n + 1, h => by
    obtain ⟨ys, hl, hq⟩ := list_of Q n fun i hi => h i (by omega)
    obtain ⟨y, hy⟩ := h n (by omega)
    refine ⟨ys ++ [y], by simp [hl], fun i z hz => ?_⟩
    by_cases hi : i < n
    · rw [List.getElem?_append_left (by omega)] at hz; exact hq i z hz
    · rw [List.getElem?_append_right (by omega)] at hz
      have : i - ys.length = 0 := by have := (List.getElem?_eq_some_iff.1 hz).1; simp at this; omega
      rw [this] at hz
      have hin : i = n := by omega
      simp only [List.getElem?_cons_zero, Option.some.injEq] at hz
      subst hz; subst hin; exact hy
theorem Rdz.slice {t e : TypeId} {sz : Nat} [h : ElS t e sz] (hsz : 0 < sz) {α : Type} (f : α → List Value) (hf : ∀ y, (f y).length = sz) (Good : α → Prop)
    (hel : ∀ l, l.length = sz → Rdz enc W e l → ∃ y, l = f y ∧ Good y) {cs : List Value} (hr : Rdz enc W t cs) :
    ∃ (v : Value) (ys : List α), cs = [v] ∧ (∀ y ∈ ys, Good y) ∧ ∀ {L L' : List HP}, Imp L L' → Imp L (ro W v sz ys.length (ys.flatMap f) :: L') := by
  obtain ⟨fu, x, hx⟩ := hr
  have hh := h.h
  unfold elS at hh
  split at hh
  next e' hu =>
    obtain ⟨n, hn, hen⟩ := Option.map_eq_some_iff.1 hh
    simp only [Prod.mk.injEq] at hen
    obtain ⟨rfl, rfl⟩ := hen
    have hc : P.cellsOf e' = n := by unfold sizeN at hn; unfold Program.cellsOf; rw [hn]; rfl
    rcases DataW.trod_slice hu hx with ⟨h1, -⟩ | ⟨a, len, cap, elems, rest, m, -, h1, -, -, hlc, -, hel', hg, -⟩
    · exact ⟨_, [], h1, fun y hy => by simp at hy, fun hi => Imp.ro0 rfl hi⟩
    · rw [hc] at hg
      obtain ⟨ys, hyl, hy⟩ := list_of (fun i y => Good y ∧ ∀ (j : Nat) u, (f y)[j]? = some u → W.cell? ((a.add (i * n)).add j) = some u) len fun i hi => by
        have hlt : i < elems.length := by rw [hel']; exact hi
        have := (hg i hi).trans (List.getElem?_eq_getElem hlt)
        obtain ⟨l, hl, ht⟩ := Option.bind_eq_some_iff.1 this
        obtain ⟨hl1, hl2⟩ := cells_get hl
        obtain ⟨y, rfl, hgd⟩ := hel l hl1 ⟨m, _, ht⟩
        exact ⟨y, hgd, hl2⟩
      refine ⟨_, ys, h1, fun y hyy => ?_, fun hi => ?_⟩
      · obtain ⟨i, hi⟩ := List.getElem?_of_mem hyy
        exact (hy i y hi).1
      · rw [hyl]
        cases len with
        | zero =>
          cases ys with
          | nil => exact Imp.ro0 rfl hi
          | cons _ _ => simp at hyl
        | succ len =>
          have hsp : a.spot = none := by
            obtain ⟨y, hy0⟩ : ∃ y, ys[0]? = some y := ⟨_, List.getElem?_eq_getElem (by omega)⟩
            obtain ⟨u, hu0⟩ : ∃ u, (f y)[0]? = some u := ⟨_, List.getElem?_eq_getElem (by rw [hf]; exact hsz)⟩
            have := cell_nospot ((hy 0 y hy0).2 0 u hu0)
            rw [Nat.zero_mul] at this
            exact this
          obtain ⟨b, o, s⟩ := a
          dsimp only at hsp
          subst hsp
          refine Imp.roOld (by rw [flat_len f hf, hyl]) hlc (fun j u hj => ?_) hi
          rw [flat_get f hsz hf] at hj
          obtain ⟨y, hy1, hy2⟩ := Option.bind_eq_some_iff.1 hj
          have := (hy _ y hy1).2 _ u hy2
          have ho : o + j / n * n + j % n = o + j := by rw [Nat.add_assoc, Nat.div_add_mod']
          rw [← ho]
          rwa [add_at, add_at] at this
  next => cases hh
theorem wf_i64 {n : Int} (h : (Lit.int .i64 n).wf = true) : n ≤ 9223372036854775807 := by
  have h2 := of_decide_eq_true (Bool.and_eq_true_iff.1 h).2
  have e : IntKind.i64.max = 9223372036854775807 := rfl
  rwa [e] at h2
theorem wf_u8 {n : Int} (h : (Lit.int .u8 n).wf = true) : 0 ≤ n ∧ n ≤ 255 := by
  have h1 := of_decide_eq_true (Bool.and_eq_true_iff.1 h).1
  have h2 := of_decide_eq_true (Bool.and_eq_true_iff.1 h).2
  have e : IntKind.u8.max = 255 := rfl
  have e' : IntKind.u8.min = 0 := rfl
  rw [e] at h2; rw [e'] at h1
  exact ⟨h1, h2⟩
theorem flat_map (l : List UInt8) : l.flatMap (fun x : UInt8 => [Value.int .u8 (x.toNat : Nat)]) = by8 l := by
  induction l with
  | nil => rfl
  | cons a t ih => rw [List.flatMap_cons, ih]; rfl
theorem rd_data {cs : List Value} (hr : Rdz enc W 35 cs) : ∃ (v : Value) (l : List UInt8), cs = [v] ∧ ∀ {L L' : List HP}, Imp L L' → Imp L (roB W v l :: L') := by
  obtain ⟨v, ys, h1, -, h3⟩ := hr.slice (sz := 1) (by omega) (fun x : UInt8 => [.int .u8 (x.toNat : Nat)]) (fun _ => rfl) (fun _ => True) fun l hl hr => by
    obtain ⟨n, rfl, hw⟩ := hr.int (k := .u8)
    have hn := wf_u8 hw
    refine ⟨UInt8.ofNat n.toNat, ?_, trivial⟩
    show [Value.int .u8 n] = [Value.int .u8 _]
    congr 2
    rw [UInt8.toNat_ofNat_of_lt' (by show n.toNat < 256; omega)]
    omega
  refine ⟨v, ys, h1, fun {L L'} h => ?_⟩
  have := h3 h
  rwa [flat_map] at this
def RdL (enc : TypeId × Value → H) (W : World) : List (TypeId × Nat) → List Value → Prop
  | [], cs => cs = []
  | x :: r, cs => Rdz enc W x.1 (cs.take x.2) ∧ RdL enc W r (cs.drop x.2)
def contig : Nat → List (TypeId × Nat × Nat) → Nat → Bool
  | o, [], n => decide (o = n)
  | o, x :: r, n => decide (x.2.1 = o) && contig (o + x.2.2) r n
def fieldsO (P : Program) (t : TypeId) : Option (List (TypeId × Nat × Nat)) := match P.underlying t with
  | some (.struct fs) => some (fs.toList.map fun f => (f.type, f.offset, P.cellsOf f.type))
  | _ => none
theorem RdL.of {n : Nat} {cs : List Value} (hl : cs.length = n) : ∀ {l : List (TypeId × Nat × Nat)} {o : Nat}, contig o l n = true → (∀ x ∈ l, Rdz enc W x.1 ((cs.drop x.2.1).take x.2.2)) → RdL enc W (l.map fun x => (x.1, x.2.2)) (cs.drop o)
  | [], o, hc, _ => by
    have : o = n := of_decide_eq_true hc
    exact List.drop_eq_nil_of_le (by omega)
  | x :: r, o, hc, h => by
    obtain ⟨h1, h2⟩ := Bool.and_eq_true_iff.1 hc
    have h1 : x.2.1 = o := of_decide_eq_true h1
    refine ⟨by have := h x List.mem_cons_self; rwa [h1] at this, ?_⟩
    rw [List.drop_drop]
    exact RdL.of hl h2 fun y hy => h y (List.mem_cons_of_mem _ hy)
theorem Rdz.fields {t : TypeId} {n : Nat} [Siz t n] {l : List (TypeId × Nat × Nat)} (hu : fieldsO P t = some l) (hc : contig 0 l n = true) {cs : List Value} (hr : Rdz enc W t cs) : RdL enc W (l.map fun x => (x.1, x.2.2)) cs := by
  unfold fieldsO at hu
  split at hu
  · next fs hfs =>
    simp only [Option.some.injEq] at hu
    obtain ⟨h1, h2⟩ := hr.struct hfs
    refine RdL.of (o := 0) h1 hc fun x hx => ?_
    rw [← hu] at hx
    obtain ⟨f, hf, rfl⟩ := List.mem_map.1 hx
    obtain ⟨i, hi⟩ := List.getElem?_of_mem hf
    exact h2 i f (by rw [← Array.getElem?_toList]; exact hi)
  · cases hu
theorem take1 {cs : List Value} {v : Value} (h : cs.take 1 = [v]) : cs = v :: cs.drop 1 := by
  cases cs with
  | nil => cases h
  | cons a t => simp only [List.take_succ_cons, List.take_zero, List.cons.injEq, and_true] at h; rw [h]; rfl
theorem RdL.int {t : TypeId} [IntT t .i64] {r : List (TypeId × Nat)} {cs : List Value} (h : RdL enc W ((t, 1) :: r) cs) : ∃ n c, cs = .int .i64 n :: c ∧ n ≤ 9223372036854775807 ∧ RdL enc W r c := by
  obtain ⟨n, h1, h2⟩ := h.1.int (k := .i64)
  exact ⟨n, _, take1 h1, wf_i64 h2, h.2⟩
theorem RdL.bool {r : List (TypeId × Nat)} {cs : List Value} (h : RdL enc W ((4, 1) :: r) cs) : ∃ b c, cs = .bool b :: c ∧ RdL enc W r c := by
  obtain ⟨b, h1⟩ := h.1.bool
  exact ⟨b, _, take1 h1, h.2⟩
theorem rd_hint {l : List Value} (hr : Rdz enc W 114 l) : ∃ y, l = hintV y := by
  have h := hr.fields (l := [(3, 0, 1), (3, 1, 1), (3, 2, 1), (4, 3, 1)]) (by unfold P; kernel_rfl) rfl
  obtain ⟨a, _, rfl, -, h⟩ := RdL.int h
  obtain ⟨b, _, rfl, -, h⟩ := RdL.int h
  obtain ⟨c, _, rfl, -, h⟩ := RdL.int h
  obtain ⟨d, c2, h1, h2⟩ := RdL.bool h
  have h2 : c2 = [] := h2
  subst h2; subst h1
  exact ⟨⟨a, b, c, d⟩, rfl⟩
theorem rd_msg {l : List Value} (hr : Rdz enc W 37 l) : ∃ m v, l = msgL m v ∧ ∀ {L L' : List HP}, Imp L L' → Imp L (roB W v m.data :: L') := by
  have h := hr.fields (l := [(3, 0, 1), (3, 1, 1), (3, 2, 1), (3, 3, 1), (3, 4, 1), (3, 5, 1), (3, 6, 1), (3, 7, 1), (32, 8, 1), (4, 9, 1), (35, 10, 1)]) (by unfold P; kernel_rfl) rfl
  obtain ⟨a, _, rfl, -, h⟩ := RdL.int h
  obtain ⟨b, _, rfl, -, h⟩ := RdL.int h
  obtain ⟨c, _, rfl, -, h⟩ := RdL.int h
  obtain ⟨d, _, rfl, -, h⟩ := RdL.int h
  obtain ⟨e, _, rfl, -, h⟩ := RdL.int h
  obtain ⟨f, _, rfl, -, h⟩ := RdL.int h
  obtain ⟨g, _, rfl, -, h⟩ := RdL.int h
  obtain ⟨i, _, rfl, -, h⟩ := RdL.int h
  obtain ⟨j, _, rfl, -, h⟩ := RdL.int h
  obtain ⟨k, c2, h1, h2⟩ := RdL.bool h
  obtain ⟨h3, h4⟩ := h2
  obtain ⟨v, bs, h5, h6⟩ := rd_data h3
  have h7 := take1 h5
  rw [show List.drop 1 c2 = [] from h4] at h7
  subst h7; subst h1
  exact ⟨⟨a, b, c, d, e, f, g, i, j, k, bs⟩, v, rfl, h6⟩
theorem rd_act {l : List Value} (hr : Rdz enc W 39 l) : ∃ y : ActS × Value, l = actL y ∧ y.1.fuse ≤ 9223372036854775807 ∧ ∀ {L L' : List HP}, Imp L L' → Imp L (roB W y.2 y.1.m.data :: L') := by
  have h := hr.fields (l := [(3, 0, 1), (37, 1, 11)]) (by unfold P; kernel_rfl) rfl
  obtain ⟨a, c, h1, hle, h2⟩ := RdL.int h
  obtain ⟨h3, h4⟩ := h2
  obtain ⟨m, v, h5, h6⟩ := rd_msg h3
  have h4 : c.drop 11 = [] := h4
  have h7 : c = msgL m v := by
    have := List.take_append_drop 11 c
    rw [h4, List.append_nil] at this
    exact this.symm.trans h5
  subst h7; subst h1
  exact ⟨(⟨a, m⟩, v), rfl, hle, h6⟩
theorem rd_acts {cs : List Value} (hr : Rdz enc W 26 cs) : ∃ (v : Value) (xs : List (ActS × Value)), cs = [v] ∧ (∀ x ∈ xs, x.1.fuse ≤ 9223372036854775807) ∧ (∀ {L L' : List HP}, Imp L L' → Imp L (ro W v 12 xs.length (actsV xs) :: L')) ∧
    ∀ {L L' : List HP}, Imp L L' → Imp L (adatH W xs :: L') := by
  obtain ⟨v, xs, h1, h2, h3⟩ := hr.slice (by omega) actL (fun _ => rfl) (fun y => y.1.fuse ≤ 9223372036854775807 ∧ ∀ (L L' : List HP), Imp L L' → Imp L (roB W y.2 y.1.m.data :: L')) fun l _ hr => by
    obtain ⟨y, h1, h2, h3⟩ := rd_act hr
    exact ⟨y, h1, h2, fun L L' h => h3 h⟩
  refine ⟨v, xs, h1, fun x hx => (h2 x hx).1, h3, ?_⟩
  clear h3 h1
  induction xs with
  | nil => exact fun h => Imp.pureI trivial h
  | cons x t ih => exact fun h => Imp.starI ((h2 x List.mem_cons_self).2 _ _ (ih (fun y hy => h2 y (List.mem_cons_of_mem _ hy)) h))
theorem rd_ints3 {cs : List Value} (hr : Rdz enc W 22 cs) : ∃ f : Nat → Int, cs = [.int .i64 (f 0), .int .i64 (f 1), .int .i64 (f 2)] := by
  obtain ⟨fu, x, hx⟩ := hr
  have hu : P.underlying 22 = some (.array 3 3) := by unfold P; kernel_rfl
  have hl : cs.length = 3 := by
    obtain ⟨xs, m, -, -, hl, -, -⟩ := DataW.trod_array hu hx
    rw [hl]; exact cellsOf_siz (n := 3)
  have h := Rdz.array hu (k := 1) (cs := cs) ⟨fu, x, hx⟩
  obtain ⟨a, ha, -⟩ := (h 0 (by omega)).int (k := .i64)
  obtain ⟨b, hb, -⟩ := (h 1 (by omega)).int (k := .i64)
  obtain ⟨c, hc, -⟩ := (h 2 (by omega)).int (k := .i64)
  match cs, hl with
  | [x, y, z], _ =>
    have ha : [x] = [Value.int .i64 a] := ha
    have hb : [y] = [Value.int .i64 b] := hb
    have hc : [z] = [Value.int .i64 c] := hc
    refine ⟨fun i => match i with | 0 => a | 1 => b | _ => c, ?_⟩
    simp only [List.cons.injEq, and_true] at ha hb hc
    rw [ha, hb, hc]
    rfl
theorem rd_cfg {cs : List Value} (hr : Rdz enc W 25 cs) : ∃ c : Cfg, cs = cfgL c ∧ ∀ {L L' : List HP}, Imp L L' → Imp L (ro W c.hv 4 c.hints.length (hintsV c.hints) :: L') := by
  have h := hr.fields (l := [(3, 0, 1), (3, 1, 1), (3, 2, 1), (3, 3, 1), (3, 4, 1), (3, 5, 1), (22, 6, 3), (22, 9, 3), (3, 12, 1), (3, 13, 1), (3, 14, 1), (3, 15, 1), (23, 16, 1)]) (by unfold P; kernel_rfl) rfl
  obtain ⟨a1, r1, e1, -, h⟩ := RdL.int h
  obtain ⟨a2, r2, e2, -, h⟩ := RdL.int h
  obtain ⟨a3, r3, e3, -, h⟩ := RdL.int h
  obtain ⟨a4, r4, e4, -, h⟩ := RdL.int h
  obtain ⟨a5, r5, e5, -, h⟩ := RdL.int h
  obtain ⟨a6, r6, e6, -, h⟩ := RdL.int h
  obtain ⟨hp, h⟩ := h
  obtain ⟨p, hp⟩ := rd_ints3 hp
  obtain ⟨hq, h⟩ := h
  obtain ⟨q, hq⟩ := rd_ints3 hq
  obtain ⟨b1, s1, g1, -, h⟩ := RdL.int h
  obtain ⟨b2, s2, g2, -, h⟩ := RdL.int h
  obtain ⟨b3, s3, g3, -, h⟩ := RdL.int h
  obtain ⟨b4, s4, g4, -, h⟩ := RdL.int h
  obtain ⟨h5, h6⟩ := h
  obtain ⟨v, hs, h7, -, h8⟩ := h5.slice (by omega) hintV (fun _ => rfl) (fun _ => True) fun l _ hr => by
    obtain ⟨y, hy⟩ := rd_hint hr
    exact ⟨y, hy, trivial⟩
  have h9 := take1 h7
  rw [show List.drop 1 s4 = [] from h6] at h9
  have w1 : r6 = [.int .i64 (p 0), .int .i64 (p 1), .int .i64 (p 2)] ++ r6.drop 3 := by have := List.take_append_drop 3 r6; rw [← hp]; exact this.symm
  have w2 : r6.drop 3 = [.int .i64 (q 0), .int .i64 (q 1), .int .i64 (q 2)] ++ (r6.drop 3).drop 3 := by have := List.take_append_drop 3 (r6.drop 3); rw [← hq]; exact this.symm
  have g1 : (r6.drop 3).drop 3 = .int .i64 b1 :: s1 := g1
  refine ⟨⟨a1, a2, a3, a4, a5, a6, p, q, b1, b2, b3, b4, hs, v⟩, ?_, h8⟩
  rw [e1, e2, e3, e4, e5, e6, w1, w2, g1, g2, g3, g4, h9]
  rfl
end
end Go.Gd
set_option linter.unusedVariables false
set_option maxRecDepth 100000
namespace Go.Proofs.YtdgnnacppiaogaaGreat
open Go.ChangeShapes Go.WideShapes Go.ChangeAt Go.RowKit
theorem own : ownKnob Tryz.prog.godebug = none := by kernel_rfl
theorem laidOut : laidOutB Tryz.prog = true := by kernel_rfl
open Go.Gd in
theorem calls_true {f : FuncId} (hk : isOur P f = true) {args : List Value} {Pre : List HP} {W : World} (hs : Go.Gd.Spec W f args Pre (fun _ : Unit => .bool true) (fun _ => [])) (hp : Imp [] Pre) :
    Calls Tryz.prog f args.toArray W (fun e W' => e = .returned (.bool true) ∧ Below W.heap.size W W') := by
  have h0 : Sat W Pre W := by
    obtain ⟨o, r, h, a⟩ := Sat.nil (Old.refl W)
    exact ⟨o, r, hp r h, a⟩
  have h1 := hs [] W (by rw [List.append_nil]; exact h0)
  unfold hF hX at h1
  rw [callFunc_run hk] at h1
  have h2 : Calls P f args.toArray W (fun e W' => ∃ v, e = .returned v ∧ ∃ i : Unit, v = .bool true ∧ Sat W ([] ++ []) W') := h1
  unfold P at h2
  refine h2.mono fun e W' ⟨v, h3, i, h4, h5⟩ => ?_
  subst h4
  obtain ⟨o1, o2, o3, o4, o5⟩ := h5.old
  exact ⟨h3, o3, o5, o4, o1, o2⟩
open Go.Gd in
theorem reads {H : Type} {enc : TypeId × Value → H} {W : World} {t : TypeId} {v : Value} {d : DataW H} {ps : List MemPlace} (h : DataW.Trod enc Tryz.prog W 0 (fun _ => true) true t v d ps) : Rdz enc W t v.cells.toList := by
  obtain ⟨fu, h⟩ := h
  refine ⟨fu, (d, ps), ?_⟩
  unfold P
  exact h
theorem agg_of {W : World} {b : Nat} {t : TypeId} {fs : Array Field} (hu : Tryz.prog.underlying t = some (.struct fs)) {v : Value} (h : Value.okWide Tryz.prog W .any b t v) : ∃ cs, v = .agg cs := by
  unfold Value.okWide at h
  rw [hu] at h
  obtain ⟨cs, h, -⟩ := h
  exact ⟨cs, h⟩
theorem one_of {W : World} {b : Nat} {t e : TypeId} (hu : Tryz.prog.underlying t = some (.slice e)) {v : Value} (h : Value.okWide Tryz.prog W .any b t v) : v.cells.toList = [v] := by
  unfold Value.okWide at h
  rw [hu] at h
  unfold Cell.okWide at h
  dsimp only at h
  rw [hu] at h
  dsimp only at h
  unfold Cell.ok at h
  rw [hu] at h
  cases v <;> first | rfl | exact absurd h (by simp)
open Go.Gd in
theorem read_cfg {H : Type} {enc : TypeId × Value → H} {W : World} {b : Nat} {v : Value} {d : DataW H} {ps : List MemPlace} (hv : Value.okWide Tryz.prog W .any b 25 v) (h : DataW.Trod enc Tryz.prog W 0 (fun _ => true) true 25 v d ps) :
    ∃ c : Cfg, v = cfgV c ∧ ∀ {L L' : List HP}, Imp L L' → Imp L (ro W c.hv 4 c.hints.length (hintsV c.hints) :: L') := by
  obtain ⟨cs, rfl⟩ := agg_of Tryz.underlying25 hv
  obtain ⟨c, h1, h2⟩ := rd_cfg (reads h)
  exact ⟨c, by show Value.agg cs = .agg (cfgL c).toArray; rw [← h1]; rfl, h2⟩
open Go.Gd in
theorem read_acts {H : Type} {enc : TypeId × Value → H} {W : World} {b : Nat} {v : Value} {d : DataW H} {ps : List MemPlace} (hv : Value.okWide Tryz.prog W .any b 26 v) (h : DataW.Trod enc Tryz.prog W 0 (fun _ => true) true 26 v d ps) :
    ∃ xs : List (ActS × Value), (∀ x ∈ xs, x.1.fuse ≤ 9223372036854775807) ∧ (∀ {L L' : List HP}, Imp L L' → Imp L (ro W v 12 xs.length (actsV xs) :: L')) ∧
    ∀ {L L' : List HP}, Imp L L' → Imp L (adatH W xs :: L') := by
  have e := one_of Tryz.underlying26 hv
  obtain ⟨v', xs, h1, h2, h3, h4⟩ := rd_acts (reads h)
  rw [e] at h1
  simp only [List.cons.injEq, and_true] at h1
  subst h1
  exact ⟨xs, h2, h3, h4⟩
end Go.Proofs.YtdgnnacppiaogaaGreat
namespace Go.Gd
def sumP (f : Nat → Nat) : Nat → Nat
  | 0 => 0
  | n + 1 => sumP f n + f n
theorem sumP_up {p : Nat → Nat → Nat} {i t : Nat} {x : Nat → Nat} : ∀ n : Nat, sumP (fun r => upF p i x r t) n ≤ sumP (fun r => p r t) n + x t ∧ (n ≤ i → sumP (fun r => upF p i x r t) n = sumP (fun r => p r t) n)
  | 0 => ⟨Nat.zero_le _, fun _ => rfl⟩
  | n + 1 => by
    obtain ⟨h1, h2⟩ := sumP_up (p := p) (i := i) (t := t) (x := x) n
    simp only [sumP]
    by_cases hn : n = i
    · subst hn
      have := h2 (Nat.le_refl _)
      rw [upF_same]
      exact ⟨by omega, fun h => by omega⟩
    · rw [upF_ne _ _ hn]
      exact ⟨by omega, fun h => by rw [h2 (by omega)]⟩
theorem rowN_room (sz : Nat) (c r : Nat → Nat) : ∀ k t, (t < k → (rowN sz c r k).2.1 t + (rowN sz c r k).2.2 t = c t) ∧ (k ≤ t → (rowN sz c r k).2.1 t = c t)
  | 0, t => ⟨fun h => by omega, fun _ => rfl⟩
  | k + 1, t => by
    obtain ⟨h1, h2⟩ := rowN_room sz c r k t
    simp only [rowN]
    by_cases ht : t = k
    · subst ht
      rw [upF_same, upF_same]
      have := h2 (Nat.le_refl _)
      exact ⟨fun _ => by omega, fun h => by omega⟩
    · rw [upF_ne _ _ ht, upF_ne _ _ ht]
      exact ⟨fun h => h1 (by omega), fun h => h2 (by omega)⟩
theorem allocS_room {sz : Nat → Nat} {s : (Nat → Nat) × (Nat → Nat → Nat)} {i t n : Nat} (ht : t < 3) : (allocS sz s i).1 t + sumP (fun r => (allocS sz s i).2 r t) n ≤ s.1 t + sumP (fun r => s.2 r t) n := by
  unfold allocS
  dsimp only
  have h := (rowN_room (sz i) s.1 (s.2 i) 3 t).1 ht
  have h2 := (sumP_up (p := s.2) (i := i) (t := t) (x := upF (rowN (sz i) s.1 (s.2 i) 3).2.2 3 (rowN (sz i) s.1 (s.2 i) 3).1) n).1
  rw [upF_ne _ _ (show t ≠ 3 by omega)] at h2
  omega
theorem alloc_room (l : List Hint) (caps : Nat → Nat) (n : Nat) {t : Nat} (ht : t < 3) : sumP (fun r => allocP l caps r t) n ≤ caps t := by
  have key : ∀ (o : List Nat) (s : (Nat → Nat) × (Nat → Nat → Nat)), (o.foldl (allocS (sizesOf l)) s).1 t + sumP (fun r => (o.foldl (allocS (sizesOf l)) s).2 r t) n ≤ s.1 t + sumP (fun r => s.2 r t) n := by
    intro o
    induction o with
    | nil => intro s; exact Nat.le_refl _
    | cons i o ih => intro s; exact Nat.le_trans (ih _) (allocS_room ht)
  have h := key (orderF (fracsOf l)) (caps, fun _ _ => 0)
  have h0 : sumP (fun _ => 0) n = 0 := by
    clear h key
    induction n with
    | zero => rfl
    | succ n ih => simp [sumP, ih]
  unfold allocP allocN
  dsimp only at h
  rw [h0] at h
  omega
theorem sub_len : ∀ {l m : List Nat}, l.Nodup → (∀ x ∈ l, x ∈ m) → l.length ≤ m.length
  | [], _, _, _ => Nat.zero_le _
  | a :: t, m, hn, hs => by
    have ha := hs a List.mem_cons_self
    have h1 := List.length_erase_of_mem ha
    have hn' := List.nodup_cons.1 hn
    have h2 := sub_len (l := t) (m := m.erase a) hn'.2 fun x hx => (List.mem_erase_of_ne (fun e => hn'.1 (by subst e; exact hx))).2 (hs x (List.mem_cons_of_mem _ hx))
    have : 0 < m.length := List.length_pos_of_mem ha
    simp only [List.length_cons]; omega
theorem allN_mem {L : List (List Nat)} {x : Nat} : ∀ {n : Nat}, x ∈ allN L n ↔ hasQ L n x
  | 0 => by simp [allN, hasQ]
  | n + 1 => by
    simp only [allN, List.mem_append, allN_mem (n := n), hasQ]
    constructor
    · rintro h
      rcases h with h | h
      all_goals first | exact ⟨n, by omega, h⟩ | (obtain ⟨k, h1, h2⟩ := h; exact ⟨k, by omega, h2⟩)
    · rintro ⟨k, h1, h2⟩
      by_cases hk : k = n
      · subst hk; first | exact .inl h2 | exact .inr h2
      · first | exact .inl ⟨k, by omega, h2⟩ | exact .inr ⟨k, by omega, h2⟩
theorem rowsN_mem {L : List (List Nat)} {x : Nat} : ∀ {n : Nat}, x ∈ rowsN L n ↔ hasQ L n x
  | 0 => by simp [rowsN, hasQ]
  | n + 1 => by
    simp only [rowsN, List.mem_append, rowsN_mem (n := n), hasQ]
    constructor
    · rintro h
      rcases h with h | h
      all_goals first | exact ⟨n, by omega, h⟩ | (obtain ⟨k, h1, h2⟩ := h; exact ⟨k, by omega, h2⟩)
    · rintro ⟨k, h1, h2⟩
      by_cases hk : k = n
      · subst hk; first | exact .inl h2 | exact .inr h2
      · first | exact .inl ⟨k, by omega, h2⟩ | exact .inr ⟨k, by omega, h2⟩
theorem getD_nodup {L : List (List Nat)} (h : LkOk L) (k : Nat) : (L.getD k []).Nodup := by
  rcases Nat.lt_or_ge k L.length with h1 | h1
  · exact h.nodup _ _ (lkAt_some h1)
  · rw [List.getD_eq_getElem?_getD, List.getElem?_eq_none h1]; simp
theorem getD_apart {L : List (List Nat)} (h : LkOk L) {k j x : Nat} (h1 : x ∈ L.getD k []) (h2 : x ∈ L.getD j []) : k = j :=
  h.apart k j _ _ x (lkAt_some (getD_lt h1)) (lkAt_some (getD_lt h2)) h1 h2
theorem allN_nodup {L : List (List Nat)} (h : LkOk L) : ∀ n, (allN L n).Nodup
  | 0 => by simp [allN]
  | n + 1 => by
    have hd : ∀ x, x ∈ L.getD n [] → x ∈ allN L n → False := fun x h1 h2 => by
      obtain ⟨k, h3, h4⟩ := allN_mem.1 h2
      have := getD_apart h h1 h4
      omega
    simp only [allN, List.nodup_append]
    refine ⟨?_, ?_, ?_⟩
    · first | exact allN_nodup h n | exact getD_nodup h n
    · first | exact allN_nodup h n | exact getD_nodup h n
    · intro a ha b hb e
      subst e
      first | exact hd a ha hb | exact hd a hb ha
end Go.Gd
