/- How the two arguments of a statement about an array read: a configuration, and acts. Conditions: those in the theorems. The statement ArrayTrue. Conditions: none. The plain law of ArrayOnce: a write that a store has taken is taken again as it was, and changes nothing. Conditions: those in the theorems. The plain law of ArrayOnce, of an array: a write that is heard again. Conditions: those in the theorems. The statement ArrayOnce: what comes behind the acts. Conditions: those in the theorems. -/
import Derived.Test.YtdgnnacppiaogaaGreatO38
import Derived.WalkKit
import Derived.ProofKit
import Derived.OpenShut
import Derived.Carry
import Derived.Test.YtdgnnacppiaogaaGreatRows
set_option linter.unusedVariables false
set_option linter.unusedSimpArgs false
set_option linter.unusedVariables false
namespace Go.Gd
open Go
section
variable {H : Type} (enc : TypeId × Value → H) (W : World)
def Rdz (t : TypeId) (cs : List Value) : Prop := ∃ fuel x, DataW.trod enc P W 0 (fun _ => true) true fuel t cs = some x
variable {enc W}
theorem Rdz.int {t : TypeId} {k : IntKind} [h : IntT t k] {cs : List Value} (hr : Rdz enc W t cs) : ∃ n, cs = [.int k n] ∧ (Lit.int k n).wf = true := by
  obtain ⟨f, x, hx⟩ := hr
  have hu : P.underlying t = some (.int k) := by
    have := h.h
    unfold intT at this
    split at this
    · rename_i e; rw [e]; simp only [Option.some.injEq] at this; rw [this]
    · cases this
  obtain ⟨n, h1, -, h3⟩ := DataW.trod_int hu hx
  exact ⟨n, h1, h3⟩
theorem Rdz.bool {cs : List Value} (hr : Rdz enc W 4 cs) : ∃ b, cs = [.bool b] := by
  obtain ⟨f, x, hx⟩ := hr
  obtain ⟨b, h1, -⟩ := DataW.trod_bool und4 hx
  exact ⟨b, h1⟩
theorem cellsOf_siz {t : TypeId} {n : Nat} [h : Siz t n] : P.cellsOf t = n := by
  have := h.h
  unfold sizeN at this
  unfold Program.cellsOf
  rw [this]; rfl
theorem Rdz.struct {t : TypeId} {n : Nat} [Siz t n] {fs : Array Field} (hu : P.underlying t = some (.struct fs)) {cs : List Value} (hr : Rdz enc W t cs) :
    cs.length = n ∧ ∀ (i : Nat) (f : Field), fs[i]? = some f → Rdz enc W f.type ((cs.drop f.offset).take (P.cellsOf f.type)) := by
  obtain ⟨f, x, hx⟩ := hr
  obtain ⟨xs, m, -, -, hl, hn, hf⟩ := DataW.trod_struct hu hx
  refine ⟨by rw [hl, cellsOf_siz], fun i f hi => ?_⟩
  have hlt : i < xs.length := by rw [hn]; exact (Array.getElem?_eq_some_iff.1 hi).1
  exact ⟨m, xs[i], (hf i f hi).trans (List.getElem?_eq_getElem hlt)⟩
theorem Rdz.array {t e : TypeId} {n k : Nat} (hu : P.underlying t = some (.array n e)) [Siz e k] {cs : List Value} (hr : Rdz enc W t cs) :
    ∀ i, i < n → Rdz enc W e ((cs.drop (i * k)).take k) := by
  obtain ⟨f, x, hx⟩ := hr
  obtain ⟨xs, m, -, -, hl, hn, hf⟩ := DataW.trod_array hu hx
  intro i hi
  have hlt : i < xs.length := by rw [hn]; exact hi
  have := hf i hi
  rw [cellsOf_siz (t := e) (n := k)] at this
  exact ⟨m, xs[i], this.trans (List.getElem?_eq_getElem hlt)⟩
theorem cells_get {a : Addr} : ∀ {n : Nat} {l : List Value}, W.cells? 0 a n = some l → l.length = n ∧ ∀ (j : Nat) u, l[j]? = some u → W.cell? (a.add j) = some u := by
  intro n l h
  unfold World.cells? at h
  rw [if_pos (Nat.zero_le _)] at h
  refine ⟨by simpa using mapM_some_length h, fun j u hj => ?_⟩
  have hlt : j < n := by have := (List.getElem?_eq_some_iff.1 hj).1; rw [mapM_some_length h] at this; simpa using this
  have := mapM_some_get h j j (by simp [hlt])
  rw [this, hj]
theorem cell_nospot {a : Addr} {u : Value} (h : W.cell? a = some u) : a.spot = none := by
  unfold World.cell? at h
  split at h
  · split at h
    · cases h
    · rename_i hs
      cases hx : a.spot with
      | none => rfl
      | some s => rw [hx] at hs; simp at hs
  · cases h
theorem add_at (b o n : Nat) : (Addr.mk b o none).add n = ⟨b, o + n, none⟩ := by
  unfold Addr.add
  split
  · rename_i h; rw [h]; rfl
  · rfl
theorem flat_get {α : Type} (f : α → List Value) {sz : Nat} (hsz : 0 < sz) (hf : ∀ y, (f y).length = sz) : ∀ (ys : List α) (k : Nat), (ys.flatMap f)[k]? = (ys[k / sz]?).bind fun y => (f y)[k % sz]?
  | [], k => by simp
  | y :: t, k => by
    rw [List.flatMap_cons]
    by_cases hk : k < sz
    · rw [List.getElem?_append_left (by rw [hf]; exact hk), Nat.div_eq_of_lt hk, Nat.mod_eq_of_lt hk]; rfl
    · have hk : sz ≤ k := Nat.le_of_not_lt hk
      rw [List.getElem?_append_right (by rw [hf]; exact hk), hf, flat_get f hsz hf t, Nat.div_eq_sub_div hsz hk, Nat.mod_eq_sub_mod hk]
      rfl
theorem flat_len {α : Type} (f : α → List Value) {sz : Nat} (hf : ∀ y, (f y).length = sz) : ∀ (ys : List α), (ys.flatMap f).length = ys.length * sz
  | [] => by simp
  | y :: t => by rw [List.flatMap_cons, List.length_append, hf, flat_len f hf t, List.length_cons, Nat.add_mul, Nat.one_mul, Nat.add_comm]
theorem list_of {α : Type} (Q : Nat → α → Prop) : ∀ n : Nat, (∀ i, i < n → ∃ y, Q i y) → ∃ ys : List α, ys.length = n ∧ ∀ (i : Nat) y, ys[i]? = some y → Q i y
  | 0, _ => ⟨[], rfl, fun i y h => by simp at h⟩
  | n + 1, h => by
    obtain ⟨ys, hl, hq⟩ := list_of Q n fun i hi => h i (by omega)
    obtain ⟨y, hy⟩ := h n (by omega)
    refine ⟨ys ++ [y], by simp [hl], fun i z hz => ?_⟩
    by_cases hi : i < n
    · rw [List.getElem?_append_left (by omega)] at hz; exact hq i z hz
    · rw [List.getElem?_append_right (by omega)] at hz
      have : i - ys.length = 0 := by have := (List.getElem?_eq_some_iff.1 hz).1; simp at this; omega
      rw [this] at hz
      have hin : i = n := by omega
      simp only [List.getElem?_cons_zero, Option.some.injEq] at hz
      subst hz; subst hin; exact hy
theorem Rdz.slice {t e : TypeId} {sz : Nat} [h : ElS t e sz] (hsz : 0 < sz) {α : Type} (f : α → List Value) (hf : ∀ y, (f y).length = sz) (Good : α → Prop)
    (hel : ∀ l, l.length = sz → Rdz enc W e l → ∃ y, l = f y ∧ Good y) {cs : List Value} (hr : Rdz enc W t cs) :
    ∃ (v : Value) (ys : List α), cs = [v] ∧ (∀ y ∈ ys, Good y) ∧ ∀ {L L' : List HP}, Imp L L' → Imp L (ro W v sz ys.length (ys.flatMap f) :: L') := by
  obtain ⟨fu, x, hx⟩ := hr
  have hh := h.h
  unfold elS at hh
  split at hh
  next e' hu =>
    obtain ⟨n, hn, hen⟩ := Option.map_eq_some_iff.1 hh
    simp only [Prod.mk.injEq] at hen
    obtain ⟨rfl, rfl⟩ := hen
    have hc : P.cellsOf e' = n := by unfold sizeN at hn; unfold Program.cellsOf; rw [hn]; rfl
    rcases DataW.trod_slice hu hx with ⟨h1, -⟩ | ⟨a, len, cap, elems, rest, m, -, h1, -, -, hlc, -, hel', hg, -⟩
    · exact ⟨_, [], h1, fun y hy => by simp at hy, fun hi => Imp.ro0 rfl hi⟩
    · rw [hc] at hg
      obtain ⟨ys, hyl, hy⟩ := list_of (fun i y => Good y ∧ ∀ (j : Nat) u, (f y)[j]? = some u → W.cell? ((a.add (i * n)).add j) = some u) len fun i hi => by
        have hlt : i < elems.length := by rw [hel']; exact hi
        have := (hg i hi).trans (List.getElem?_eq_getElem hlt)
        obtain ⟨l, hl, ht⟩ := Option.bind_eq_some_iff.1 this
        obtain ⟨hl1, hl2⟩ := cells_get hl
        obtain ⟨y, rfl, hgd⟩ := hel l hl1 ⟨m, _, ht⟩
        exact ⟨y, hgd, hl2⟩
      refine ⟨_, ys, h1, fun y hyy => ?_, fun hi => ?_⟩
      · obtain ⟨i, hi⟩ := List.getElem?_of_mem hyy
        exact (hy i y hi).1
      · rw [hyl]
        cases len with
        | zero =>
          cases ys with
          | nil => exact Imp.ro0 rfl hi
          | cons _ _ => simp at hyl
        | succ len =>
          have hsp : a.spot = none := by
            obtain ⟨y, hy0⟩ : ∃ y, ys[0]? = some y := ⟨_, List.getElem?_eq_getElem (by omega)⟩
            obtain ⟨u, hu0⟩ : ∃ u, (f y)[0]? = some u := ⟨_, List.getElem?_eq_getElem (by rw [hf]; exact hsz)⟩
            have := cell_nospot ((hy 0 y hy0).2 0 u hu0)
            rw [Nat.zero_mul] at this
            exact this
          obtain ⟨b, o, s⟩ := a
          dsimp only at hsp
          subst hsp
          refine Imp.roOld (by rw [flat_len f hf, hyl]) hlc (fun j u hj => ?_) hi
          rw [flat_get f hsz hf] at hj
          obtain ⟨y, hy1, hy2⟩ := Option.bind_eq_some_iff.1 hj
          have := (hy _ y hy1).2 _ u hy2
          have ho : o + j / n * n + j % n = o + j := by rw [Nat.add_assoc, Nat.div_add_mod']
          rw [← ho]
          rwa [add_at, add_at] at this
  next => cases hh
theorem wf_i64 {n : Int} (h : (Lit.int .i64 n).wf = true) : n ≤ 9223372036854775807 := by
  have h2 := of_decide_eq_true (Bool.and_eq_true_iff.1 h).2
  have e : IntKind.i64.max = 9223372036854775807 := rfl
  rwa [e] at h2
theorem wf_u8 {n : Int} (h : (Lit.int .u8 n).wf = true) : 0 ≤ n ∧ n ≤ 255 := by
  have h1 := of_decide_eq_true (Bool.and_eq_true_iff.1 h).1
  have h2 := of_decide_eq_true (Bool.and_eq_true_iff.1 h).2
  have e : IntKind.u8.max = 255 := rfl
  have e' : IntKind.u8.min = 0 := rfl
  rw [e] at h2; rw [e'] at h1
  exact ⟨h1, h2⟩
theorem flat_map (l : List UInt8) : l.flatMap (fun x : UInt8 => [Value.int .u8 (x.toNat : Nat)]) = by8 l := by
  induction l with
  | nil => rfl
  | cons a t ih => rw [List.flatMap_cons, ih]; rfl
theorem rd_data {cs : List Value} (hr : Rdz enc W 35 cs) : ∃ (v : Value) (l : List UInt8), cs = [v] ∧ ∀ {L L' : List HP}, Imp L L' → Imp L (roB W v l :: L') := by
  obtain ⟨v, ys, h1, -, h3⟩ := hr.slice (sz := 1) (by omega) (fun x : UInt8 => [.int .u8 (x.toNat : Nat)]) (fun _ => rfl) (fun _ => True) fun l hl hr => by
    obtain ⟨n, rfl, hw⟩ := hr.int (k := .u8)
    have hn := wf_u8 hw
    refine ⟨UInt8.ofNat n.toNat, ?_, trivial⟩
    show [Value.int .u8 n] = [Value.int .u8 _]
    congr 2
    rw [UInt8.toNat_ofNat_of_lt' (by show n.toNat < 256; omega)]
    omega
  refine ⟨v, ys, h1, fun {L L'} h => ?_⟩
  have := h3 h
  rwa [flat_map] at this
def RdL (enc : TypeId × Value → H) (W : World) : List (TypeId × Nat) → List Value → Prop
  | [], cs => cs = []
  | x :: r, cs => Rdz enc W x.1 (cs.take x.2) ∧ RdL enc W r (cs.drop x.2)
def contig : Nat → List (TypeId × Nat × Nat) → Nat → Bool
  | o, [], n => decide (o = n)
  | o, x :: r, n => decide (x.2.1 = o) && contig (o + x.2.2) r n
def fieldsO (P : Program) (t : TypeId) : Option (List (TypeId × Nat × Nat)) := match P.underlying t with
  | some (.struct fs) => some (fs.toList.map fun f => (f.type, f.offset, P.cellsOf f.type))
  | _ => none
theorem RdL.of {n : Nat} {cs : List Value} (hl : cs.length = n) : ∀ {l : List (TypeId × Nat × Nat)} {o : Nat}, contig o l n = true → (∀ x ∈ l, Rdz enc W x.1 ((cs.drop x.2.1).take x.2.2)) → RdL enc W (l.map fun x => (x.1, x.2.2)) (cs.drop o)
  | [], o, hc, _ => by
    have : o = n := of_decide_eq_true hc
    exact List.drop_eq_nil_of_le (by omega)
  | x :: r, o, hc, h => by
    obtain ⟨h1, h2⟩ := Bool.and_eq_true_iff.1 hc
    have h1 : x.2.1 = o := of_decide_eq_true h1
    refine ⟨by have := h x List.mem_cons_self; rwa [h1] at this, ?_⟩
    rw [List.drop_drop]
    exact RdL.of hl h2 fun y hy => h y (List.mem_cons_of_mem _ hy)
theorem Rdz.fields {t : TypeId} {n : Nat} [Siz t n] {l : List (TypeId × Nat × Nat)} (hu : fieldsO P t = some l) (hc : contig 0 l n = true) {cs : List Value} (hr : Rdz enc W t cs) : RdL enc W (l.map fun x => (x.1, x.2.2)) cs := by
  unfold fieldsO at hu
  split at hu
  · next fs hfs =>
    simp only [Option.some.injEq] at hu
    obtain ⟨h1, h2⟩ := hr.struct hfs
    refine RdL.of (o := 0) h1 hc fun x hx => ?_
    rw [← hu] at hx
    obtain ⟨f, hf, rfl⟩ := List.mem_map.1 hx
    obtain ⟨i, hi⟩ := List.getElem?_of_mem hf
    exact h2 i f (by rw [← Array.getElem?_toList]; exact hi)
  · cases hu
theorem take1 {cs : List Value} {v : Value} (h : cs.take 1 = [v]) : cs = v :: cs.drop 1 := by
  cases cs with
  | nil => cases h
  | cons a t => simp only [List.take_succ_cons, List.take_zero, List.cons.injEq, and_true] at h; rw [h]; rfl
theorem RdL.int {t : TypeId} [IntT t .i64] {r : List (TypeId × Nat)} {cs : List Value} (h : RdL enc W ((t, 1) :: r) cs) : ∃ n c, cs = .int .i64 n :: c ∧ n ≤ 9223372036854775807 ∧ RdL enc W r c := by
  obtain ⟨n, h1, h2⟩ := h.1.int (k := .i64)
  exact ⟨n, _, take1 h1, wf_i64 h2, h.2⟩
theorem RdL.bool {r : List (TypeId × Nat)} {cs : List Value} (h : RdL enc W ((4, 1) :: r) cs) : ∃ b c, cs = .bool b :: c ∧ RdL enc W r c := by
  obtain ⟨b, h1⟩ := h.1.bool
  exact ⟨b, _, take1 h1, h.2⟩
theorem rd_hint {l : List Value} (hr : Rdz enc W 114 l) : ∃ y, l = hintV y := by
  have h := hr.fields (l := [(3, 0, 1), (3, 1, 1), (3, 2, 1), (4, 3, 1)]) (by unfold P; kernel_rfl) rfl
  obtain ⟨a, _, rfl, -, h⟩ := RdL.int h
  obtain ⟨b, _, rfl, -, h⟩ := RdL.int h
  obtain ⟨c, _, rfl, -, h⟩ := RdL.int h
  obtain ⟨d, c2, h1, h2⟩ := RdL.bool h
  have h2 : c2 = [] := h2
  subst h2; subst h1
  exact ⟨⟨a, b, c, d⟩, rfl⟩
theorem rd_msg {l : List Value} (hr : Rdz enc W 37 l) : ∃ m v, l = msgL m v ∧ ∀ {L L' : List HP}, Imp L L' → Imp L (roB W v m.data :: L') := by
  have h := hr.fields (l := [(3, 0, 1), (3, 1, 1), (3, 2, 1), (3, 3, 1), (3, 4, 1), (3, 5, 1), (3, 6, 1), (3, 7, 1), (32, 8, 1), (4, 9, 1), (35, 10, 1)]) (by unfold P; kernel_rfl) rfl
  obtain ⟨a, _, rfl, -, h⟩ := RdL.int h
  obtain ⟨b, _, rfl, -, h⟩ := RdL.int h
  obtain ⟨c, _, rfl, -, h⟩ := RdL.int h
  obtain ⟨d, _, rfl, -, h⟩ := RdL.int h
  obtain ⟨e, _, rfl, -, h⟩ := RdL.int h
  obtain ⟨f, _, rfl, -, h⟩ := RdL.int h
  obtain ⟨g, _, rfl, -, h⟩ := RdL.int h
  obtain ⟨i, _, rfl, -, h⟩ := RdL.int h
  obtain ⟨j, _, rfl, -, h⟩ := RdL.int h
  obtain ⟨k, c2, h1, h2⟩ := RdL.bool h
  obtain ⟨h3, h4⟩ := h2
  obtain ⟨v, bs, h5, h6⟩ := rd_data h3
  have h7 := take1 h5
  rw [show List.drop 1 c2 = [] from h4] at h7
  subst h7; subst h1
  exact ⟨⟨a, b, c, d, e, f, g, i, j, k, bs⟩, v, rfl, h6⟩
theorem rd_act {l : List Value} (hr : Rdz enc W 39 l) : ∃ y : ActS × Value, l = actL y ∧ y.1.fuse ≤ 9223372036854775807 ∧ ∀ {L L' : List HP}, Imp L L' → Imp L (roB W y.2 y.1.m.data :: L') := by
  have h := hr.fields (l := [(3, 0, 1), (37, 1, 11)]) (by unfold P; kernel_rfl) rfl
  obtain ⟨a, c, h1, hle, h2⟩ := RdL.int h
  obtain ⟨h3, h4⟩ := h2
  obtain ⟨m, v, h5, h6⟩ := rd_msg h3
  have h4 : c.drop 11 = [] := h4
  have h7 : c = msgL m v := by
    have := List.take_append_drop 11 c
    rw [h4, List.append_nil] at this
    exact this.symm.trans h5
  subst h7; subst h1
  exact ⟨(⟨a, m⟩, v), rfl, hle, h6⟩
theorem rd_acts {cs : List Value} (hr : Rdz enc W 26 cs) : ∃ (v : Value) (xs : List (ActS × Value)), cs = [v] ∧ (∀ x ∈ xs, x.1.fuse ≤ 9223372036854775807) ∧ (∀ {L L' : List HP}, Imp L L' → Imp L (ro W v 12 xs.length (actsV xs) :: L')) ∧
    ∀ {L L' : List HP}, Imp L L' → Imp L (adatH W xs :: L') := by
  obtain ⟨v, xs, h1, h2, h3⟩ := hr.slice (by omega) actL (fun _ => rfl) (fun y => y.1.fuse ≤ 9223372036854775807 ∧ ∀ (L L' : List HP), Imp L L' → Imp L (roB W y.2 y.1.m.data :: L')) fun l _ hr => by
    obtain ⟨y, h1, h2, h3⟩ := rd_act hr
    exact ⟨y, h1, h2, fun L L' h => h3 h⟩
  refine ⟨v, xs, h1, fun x hx => (h2 x hx).1, h3, ?_⟩
  clear h3 h1
  induction xs with
  | nil => exact fun h => Imp.pureI trivial h
  | cons x t ih => exact fun h => Imp.starI ((h2 x List.mem_cons_self).2 _ _ (ih (fun y hy => h2 y (List.mem_cons_of_mem _ hy)) h))
theorem rd_ints3 {cs : List Value} (hr : Rdz enc W 22 cs) : ∃ f : Nat → Int, cs = [.int .i64 (f 0), .int .i64 (f 1), .int .i64 (f 2)] := by
  obtain ⟨fu, x, hx⟩ := hr
  have hu : P.underlying 22 = some (.array 3 3) := by unfold P; kernel_rfl
  have hl : cs.length = 3 := by
    obtain ⟨xs, m, -, -, hl, -, -⟩ := DataW.trod_array hu hx
    rw [hl]; exact cellsOf_siz (n := 3)
  have h := Rdz.array hu (k := 1) (cs := cs) ⟨fu, x, hx⟩
  obtain ⟨a, ha, -⟩ := (h 0 (by omega)).int (k := .i64)
  obtain ⟨b, hb, -⟩ := (h 1 (by omega)).int (k := .i64)
  obtain ⟨c, hc, -⟩ := (h 2 (by omega)).int (k := .i64)
  match cs, hl with
  | [x, y, z], _ =>
    have ha : [x] = [Value.int .i64 a] := ha
    have hb : [y] = [Value.int .i64 b] := hb
    have hc : [z] = [Value.int .i64 c] := hc
    refine ⟨fun i => match i with | 0 => a | 1 => b | _ => c, ?_⟩
    simp only [List.cons.injEq, and_true] at ha hb hc
    rw [ha, hb, hc]
    rfl
theorem rd_cfg {cs : List Value} (hr : Rdz enc W 25 cs) : ∃ c : Cfg, cs = cfgL c ∧ ∀ {L L' : List HP}, Imp L L' → Imp L (ro W c.hv 4 c.hints.length (hintsV c.hints) :: L') := by
  have h := hr.fields (l := [(3, 0, 1), (3, 1, 1), (3, 2, 1), (3, 3, 1), (3, 4, 1), (3, 5, 1), (22, 6, 3), (22, 9, 3), (3, 12, 1), (3, 13, 1), (3, 14, 1), (3, 15, 1), (23, 16, 1)]) (by unfold P; kernel_rfl) rfl
  obtain ⟨a1, r1, e1, -, h⟩ := RdL.int h
  obtain ⟨a2, r2, e2, -, h⟩ := RdL.int h
  obtain ⟨a3, r3, e3, -, h⟩ := RdL.int h
  obtain ⟨a4, r4, e4, -, h⟩ := RdL.int h
  obtain ⟨a5, r5, e5, -, h⟩ := RdL.int h
  obtain ⟨a6, r6, e6, -, h⟩ := RdL.int h
  obtain ⟨hp, h⟩ := h
  obtain ⟨p, hp⟩ := rd_ints3 hp
  obtain ⟨hq, h⟩ := h
  obtain ⟨q, hq⟩ := rd_ints3 hq
  obtain ⟨b1, s1, g1, -, h⟩ := RdL.int h
  obtain ⟨b2, s2, g2, -, h⟩ := RdL.int h
  obtain ⟨b3, s3, g3, -, h⟩ := RdL.int h
  obtain ⟨b4, s4, g4, -, h⟩ := RdL.int h
  obtain ⟨h5, h6⟩ := h
  obtain ⟨v, hs, h7, -, h8⟩ := h5.slice (by omega) hintV (fun _ => rfl) (fun _ => True) fun l _ hr => by
    obtain ⟨y, hy⟩ := rd_hint hr
    exact ⟨y, hy, trivial⟩
  have h9 := take1 h7
  rw [show List.drop 1 s4 = [] from h6] at h9
  have w1 : r6 = [.int .i64 (p 0), .int .i64 (p 1), .int .i64 (p 2)] ++ r6.drop 3 := by have := List.take_append_drop 3 r6; rw [← hp]; exact this.symm
  have w2 : r6.drop 3 = [.int .i64 (q 0), .int .i64 (q 1), .int .i64 (q 2)] ++ (r6.drop 3).drop 3 := by have := List.take_append_drop 3 (r6.drop 3); rw [← hq]; exact this.symm
  have g1 : (r6.drop 3).drop 3 = .int .i64 b1 :: s1 := g1
  refine ⟨⟨a1, a2, a3, a4, a5, a6, p, q, b1, b2, b3, b4, hs, v⟩, ?_, h8⟩
  rw [e1, e2, e3, e4, e5, e6, w1, w2, g1, g2, g3, g4, h9]
  rfl
end
end Go.Gd
set_option linter.unusedVariables false
set_option maxRecDepth 100000
namespace Go.Proofs.YtdgnnacppiaogaaGreat
open Go.ChangeShapes Go.WideShapes Go.ChangeAt Go.RowKit
theorem own : ownKnob Tryz.prog.godebug = none := by kernel_rfl
theorem laidOut : laidOutB Tryz.prog = true := by kernel_rfl
open Go.Gd in
theorem calls_true {f : FuncId} (hk : isOur P f = true) {args : List Value} {Pre : List HP} {W : World} (hs : Go.Gd.Spec W f args Pre (fun _ : Unit => .bool true) (fun _ => [])) (hp : Imp [] Pre) :
    Calls Tryz.prog f args.toArray W (fun e W' => e = .returned (.bool true) ∧ Below W.heap.size W W') := by
  have h0 : Sat W Pre W := by
    obtain ⟨o, r, h, a⟩ := Sat.nil (Old.refl W)
    exact ⟨o, r, hp r h, a⟩
  have h1 := hs [] W (by rw [List.append_nil]; exact h0)
  unfold hF hX at h1
  rw [callFunc_run hk] at h1
  have h2 : Calls P f args.toArray W (fun e W' => ∃ v, e = .returned v ∧ ∃ i : Unit, v = .bool true ∧ Sat W ([] ++ []) W') := h1
  unfold P at h2
  refine h2.mono fun e W' ⟨v, h3, i, h4, h5⟩ => ?_
  subst h4
  obtain ⟨o1, o2, o3, o4, o5⟩ := h5.old
  exact ⟨h3, o3, o5, o4, o1, o2⟩
open Go.Gd in
theorem reads {H : Type} {enc : TypeId × Value → H} {W : World} {t : TypeId} {v : Value} {d : DataW H} {ps : List MemPlace} (h : DataW.Trod enc Tryz.prog W 0 (fun _ => true) true t v d ps) : Rdz enc W t v.cells.toList := by
  obtain ⟨fu, h⟩ := h
  refine ⟨fu, (d, ps), ?_⟩
  unfold P
  exact h
theorem agg_of {W : World} {b : Nat} {t : TypeId} {fs : Array Field} (hu : Tryz.prog.underlying t = some (.struct fs)) {v : Value} (h : Value.okWide Tryz.prog W .any b t v) : ∃ cs, v = .agg cs := by
  unfold Value.okWide at h
  rw [hu] at h
  obtain ⟨cs, h, -⟩ := h
  exact ⟨cs, h⟩
theorem one_of {W : World} {b : Nat} {t e : TypeId} (hu : Tryz.prog.underlying t = some (.slice e)) {v : Value} (h : Value.okWide Tryz.prog W .any b t v) : v.cells.toList = [v] := by
  unfold Value.okWide at h
  rw [hu] at h
  unfold Cell.okWide at h
  dsimp only at h
  rw [hu] at h
  dsimp only at h
  unfold Cell.ok at h
  rw [hu] at h
  cases v <;> first | rfl | exact absurd h (by simp)
open Go.Gd in
theorem read_cfg {H : Type} {enc : TypeId × Value → H} {W : World} {b : Nat} {v : Value} {d : DataW H} {ps : List MemPlace} (hv : Value.okWide Tryz.prog W .any b 25 v) (h : DataW.Trod enc Tryz.prog W 0 (fun _ => true) true 25 v d ps) :
    ∃ c : Cfg, v = cfgV c ∧ ∀ {L L' : List HP}, Imp L L' → Imp L (ro W c.hv 4 c.hints.length (hintsV c.hints) :: L') := by
  obtain ⟨cs, rfl⟩ := agg_of Tryz.underlying25 hv
  obtain ⟨c, h1, h2⟩ := rd_cfg (reads h)
  exact ⟨c, by show Value.agg cs = .agg (cfgL c).toArray; rw [← h1]; rfl, h2⟩
open Go.Gd in
theorem read_acts {H : Type} {enc : TypeId × Value → H} {W : World} {b : Nat} {v : Value} {d : DataW H} {ps : List MemPlace} (hv : Value.okWide Tryz.prog W .any b 26 v) (h : DataW.Trod enc Tryz.prog W 0 (fun _ => true) true 26 v d ps) :
    ∃ xs : List (ActS × Value), (∀ x ∈ xs, x.1.fuse ≤ 9223372036854775807) ∧ (∀ {L L' : List HP}, Imp L L' → Imp L (ro W v 12 xs.length (actsV xs) :: L')) ∧
    ∀ {L L' : List HP}, Imp L L' → Imp L (adatH W xs :: L') := by
  have e := one_of Tryz.underlying26 hv
  obtain ⟨v', xs, h1, h2, h3, h4⟩ := rd_acts (reads h)
  rw [e] at h1
  simp only [List.cons.injEq, and_true] at h1
  subst h1
  exact ⟨xs, h2, h3, h4⟩
end Go.Proofs.YtdgnnacppiaogaaGreat
namespace Go.Gd
theorem slot_pos {s : Shp} {c k : Nat} : s.slotAt c k ≠ 0 := by unfold Shp.slotAt; omega
theorem write_last {s : Shp} (w : Wr) (D : Dk) (a b c : Nat) (hb : w.block < 0 ∨ s.blocks ≤ w.block → False) (hl : w.data.length = s.size) (hf : s.fits w) (hs : s.Ok)
    (h : D.l (s.slotAt w.client.toNat w.slot.toNat) = nums [w.boot.toNat, w.op.toNat, c]) (hc : c ≤ 16) : s.write w D = ((c : Int), 0, D) := by
  obtain ⟨h1, h2, h3, h4⟩ := hf.small hs
  have e : s.last D w.client.toNat w.slot.toNat = (w.boot.toNat, w.op.toNat, c) := by
    unfold Shp.last
    rw [h]
    exact lastF_enc h3 h4 hc
  have f1 : 1 ≤ w.boot := hf.2.2.2.2.1
  have f2 : 1 ≤ w.op := hf.2.2.2.2.2.2.1
  unfold Shp.write
  rw [e, if_neg (fun x => hb x), if_neg (by simpa using hl), if_neg (by simpa using hf)]
  dsimp only
  rw [if_neg (by omega), if_pos (by omega)]
theorem write_again {s : Shp} (hs : s.Ok) (w : Wr) (D : Dk) (h : (s.write w D).2.1 = 0) :
    s.write w (s.write w D).2.2 = ((s.write w D).1, 0, (s.write w D).2.2) ∧ ((s.blk (s.write w D).2.2 w.block.toNat).1 ≠ (s.blk D w.block.toNat).1 → (s.write w D).1 = 0) := by
  have h16 := hs.size
  generalize hW : s.write w D = W at h ⊢
  have hW0 := hW
  unfold Shp.write at hW
  split at hW
  · subst hW; cases h
  · rename_i c1
    have hbl : 0 ≤ w.block ∧ w.block < s.blocks := by omega
    split at hW
    · subst hW; cases h
    · rename_i c2
      have hlen : w.data.length = s.size := by simpa using c2
      split at hW
      · subst hW; cases h
      · rename_i c3
        have hf : s.fits w := by simpa using c3
        obtain ⟨hc, hk, hbo, hop⟩ := hf.small hs
        have hsl : ∀ b, b < s.blocks → 1 + b ≠ s.slotAt w.client.toNat w.slot.toNat := fun b hb => by unfold Shp.slotAt; omega
        have hz : s.slotAt w.client.toNat w.slot.toNat ≠ 0 := slot_pos
        split at hW
        · subst hW; cases h
        · rename_i c4
          split at hW
          · subst hW
            exact ⟨hW0, fun hne => absurd rfl hne⟩
          · rename_i c5
            split at hW
            · rename_i c6
              split at hW
              · rename_i c7; subst hW; exact absurd h c7
              · rename_i c7
                have h0 : (D.write (s.slotAt w.client.toNat w.slot.toNat) (nums [w.boot.toNat, w.op.toNat, 11])).1 = 0 := by simpa using c7
                obtain ⟨e1, d1⟩ := dwrite_ok h0
                subst hW
                dsimp only at h ⊢
                refine ⟨write_last w _ 0 0 11 (fun x => c1 x) hlen hf hs (by rw [e1, upF_same]) (by omega), fun hne => absurd ?_ hne⟩
                show (blkF s.size ((D.write _ _).2.l (1 + w.block.toNat))).1 = _
                rw [e1, upF_ne _ _ (hsl _ (by omega))]
                rfl
            · rename_i c6
              split at hW
              · rename_i c7; subst hW; exact absurd h c7
              · rename_i c7
                have h0 : (D.write 0 (jrnB w ((s.blk D w.block.toNat).1 + 1))).1 = 0 := by simpa using c7
                generalize hD1 : (D.write 0 (jrnB w ((s.blk D w.block.toNat).1 + 1))).2 = D1 at *
                subst hW
                have hd : (s.does w ((s.blk D w.block.toNat).1 + 1) D1).1 = 0 := h
                obtain ⟨e2, d2⟩ := seq3 hd
                dsimp only
                refine ⟨?_, fun _ => rfl⟩
                refine write_last w _ 0 0 0 (fun x => c1 x) hlen hf hs ?_ (by omega)
                show (wrSeq _ D1).2.l _ = _
                rw [e2, upF_ne _ _ hz, upF_same]
end Go.Gd
namespace Go.Gd
theorem last_eq {l l' : List Msg} {z z' : Msg} (h : l ++ [z] = l' ++ [z']) : z = z' := by
  have := congrArg List.getLast? h
  rwa [List.getLast?_append, List.getLast?_append, List.getLast?_singleton, List.getLast?_singleton, Option.some_or, Option.some_or, Option.some.injEq] at this
theorem last_one {l : List Msg} {z z' : Msg} (h : [z] = l ++ [z']) : z = z' := last_eq (l := []) h
theorem once_law {c : Cfg} {A : Ar} (hr : cfgRight c = true) (m : Msg) (h9 : m.kind = 9) {l : List Msg} {z : Msg} (ho : (A.hear c m).2 = l ++ [z]) :
    (A.hear c m).1.hear c m = ((A.hear c m).1, [mDone m z.code false]) ∧ (z.grant = true → z.code = 0) := by
  have hsh := shOf_ok hr
  have hlast : ∀ l z, (A.hear c m).2 = l ++ [z] → A.down = false ∧ m.right = true ∧ A.hear c m = A.write c m := by
    intro l z ho
    have hz : ¬ (A.down = true ∨ m.right = false) := fun hh => by
      unfold Ar.hear at ho; rw [if_pos hh] at ho; simp at ho
    refine ⟨by cases h : A.down <;> simp_all, by cases h : m.right <;> simp_all, ?_⟩
    unfold Ar.hear
    rw [if_neg hz, if_neg (by omega), if_pos h9]
  obtain ⟨hd, hm, he⟩ := hlast l z ho
  rw [he] at ho ⊢
  have again : ∀ A1 : Ar, A1.down = false → A1.hear c m = A1.write c m := fun A1 h1 => by
    unfold Ar.hear
    rw [if_neg (by rw [h1, hm]; simp), if_neg (by omega), if_pos h9]
  have two : ∀ (A1 : Ar) (D' : Dk) (code : Int), A1.down = false → A1.D = D' → (shOf c).write (msgW m) D' = (code, 0, D') → A1.hear c m = (A1, [mDone m code false]) := fun A1 D' code h1 h2 h3 => by
    rw [again A1 h1]
    subst h2
    unfold Ar.write
    dsimp only
    rw [h3, if_pos rfl, if_neg (by simp)]
  have two' : ∀ (A1 : Ar) (code : Int), A1.down = false → ((shOf c).write (msgW m) A1.D).2.1 ≠ 0 → ((shOf c).write (msgW m) A1.D).2.1 ≠ 8 → ((shOf c).write (msgW m) A1.D).2.1 ≠ 12 → ((shOf c).write (msgW m) A1.D).2.2 = A1.D → ((shOf c).write (msgW m) A1.D).2.1 = code →
      A1.hear c m = (A1, [mDone m code false]) := fun A1 code h1 h2 h3 h4 h5 h6 => by
    rw [again A1 h1]
    unfold Ar.write
    dsimp only
    rw [if_neg h2, if_neg h3, if_neg h4, h5, h6]
  generalize hW : A.write c m = W at ho ⊢
  unfold Ar.write at hW
  dsimp only at hW
  split at hW
  · rename_i h0
    obtain ⟨g1, g2⟩ := write_again hsh (msgW m) A.D h0
    split at hW
    · rename_i hv
      subst hW
      dsimp only at ho ⊢
      have hz := last_eq ho
      subst hz
      have hblk : 0 ≤ m.block ∧ m.block < (shOf c).blocks := (write_law hsh (msgW m) A.D h0).blk
      rw [read_in hblk, read_in hblk] at hv
      have hc0 : ((shOf c).write (msgW m) A.D).1 = 0 := g2 hv
      refine ⟨?_, fun _ => hc0⟩
      obtain ⟨k1, k2, k3⟩ := keep_reads c { A with D := ((shOf c).write (msgW m) A.D).2.2 } m.block m.level m.data
      exact two _ ((shOf c).write (msgW m) A.D).2.2 _ (by first | exact k2.trans hd | exact k1.trans hd | exact k3.trans hd) (by first | exact k1 | exact k2 | exact k3) g1
    · subst hW
      dsimp only at ho ⊢
      have hz := last_one ho
      subst hz
      exact ⟨two _ _ _ hd rfl g1, fun hh => by cases hh⟩
  · rename_i h0
    split at hW
    · subst hW; simp at ho
    · rename_i h8
      split at hW
      · subst hW; simp at ho
      · rename_i h12
        subst hW
        dsimp only at ho ⊢
        have hz := last_one ho
        subst hz
        have hD := write_same h0 h8
        refine ⟨?_, fun hh => by cases hh⟩
        have hA : ({ A with D := ((shOf c).write (msgW m) A.D).2.2 } : Ar) = A := by rw [hD]
        rw [hA]
        exact two' A _ hd h0 h8 h12 hD rfl
end Go.Gd
set_option linter.unusedVariables false
namespace Go.Gd
open Go.Instr
theorem lkget_len {L : List (List Nat)} (h : LkOk L) (k : Nat) : (L.getD k []).length ≤ 64 := by
  rcases Nat.lt_or_ge k L.length with h1 | h1
  · exact h.len _ _ (lkAt_some h1)
  · rw [List.getD_eq_getElem?_getD, List.getElem?_eq_none h1]; simp
theorem allN_small {L : List (List Nat)} (h : LkOk L) : ∀ n, (allN L n).length ≤ 64 * n
  | 0 => by simp [allN]
  | n + 1 => by
    have := allN_small h n
    have := lkget_len h n
    simp only [allN, List.length_append]; omega
theorem rowsN_small {L : List (List Nat)} (h : LkOk L) : ∀ n, (rowsN L n).length ≤ 64 * n
  | 0 => by simp [rowsN]
  | n + 1 => by
    have := rowsN_small h n
    have := lkget_len h n
    simp only [rowsN, List.length_append]; omega
theorem all_small {k : Nat} {o : Ord} (hf : o.Fine k) (h : o.Lk) : o.all.length ≤ 4096 := by
  cases o with
  | lru cap l => have := lkget_len h 0; simpa [Ord.all] using Nat.le_trans this (by omega)
  | mq c s =>
    have h1 := allN_small h c.q
    have h2 : LkOk s.L := h
    have h3 := h2.many
    have h4 : s.L.length = c.q + 1 := hf.2.1
    show (allN s.L c.q).length ≤ _
    omega
  | part c L =>
    have h1 := rowsN_small h c.l.length
    have h8 := hf.1.h8
    show (rowsN L c.l.length).length ≤ _
    omega
section
variable {w0 : World} {L : List HP}
attribute [local irreducible] loadAt storeAt fieldAt indexAt alloc box build buildSlice hNil eqG binOp Op.unary extract makeSlice makeInterface makeFunc convert hV mV pV hU hF hFV hI hIf hGuard hPick hJ hDraw hLoop ro Instr.index dkH arH outH caH ordH stI
set_option maxHeartbeats 2000000 in
theorem once_tail (c : Cfg) (hr : cfgRight c = true) (d mb k : Nat) (x : ArN) (A : Ar) (hok : ArOk c 64 k A) (hk : k + 6 < 4611686018427387904) (hxd : x.d = d) (m : Msg) (mv : Value) (F : List HP) (R : Value → World → Prop) (hR : Ent w0 F (R (.bool true))) :
    Ent w0 (pt mb 37 (msgL m mv) :: roB w0 mv m.data :: arH w0 x c A :: dkH w0 d 64 A.D :: F) (
  hV P (fieldAt 37 (P0 mb) 0) fun t51 =>
  hU P (storeAt 3 t51 (.int .i64 9)) <|
  hV P (loadAt 37 (P0 mb)) fun t53 =>
  hF P 17 #[(P0 x.ar), t53] fun t54 =>
  hV P (Builtin.len_ #[43] 3 #[t54]) fun t56 =>
  hV P (eqG true .eql 3 t56 (.int .i64 0)) fun t57 =>
  hIf t57 (R (.bool true)) (hV P (Builtin.len_ #[43] 3 #[t54]) fun t60 =>
  hV P (binOp .sub 3 t60 (.int .i64 1)) fun t61 =>
  hV P (indexAt 43 t54 t61) fun t62 =>
  hV P (loadAt 37 t62) fun t63 =>
  hV P (alloc 37 true (.tuple #[])) fun done_12 =>
  hU P (storeAt 37 done_12 t63) <|
  hF P 33 #[(P0 x.ar)] fun t65 =>
  hV P (fieldAt 37 (P0 mb) 5) fun t68 =>
  hV P (loadAt 3 t68) fun t69 =>
  hF P 16 #[(P0 x.ar), t69] fun t70 =>
  hV P (extract t70 0) fun t71 =>
  hV P (extract t70 1) fun t72 =>
  hV P (extract t70 2) fun t73 =>
  hV P (loadAt 37 (P0 mb)) fun t75 =>
  hF P 17 #[(P0 x.ar), t75] fun t76 =>
  hV P (fieldAt 37 (P0 mb) 5) fun t79 =>
  hV P (loadAt 3 t79) fun t80 =>
  hF P 16 #[(P0 x.ar), t80] fun t81 =>
  hV P (extract t81 0) fun t82 =>
  hV P (extract t81 1) fun t83 =>
  hV P (extract t81 2) fun t84 =>
  hDraw fun C9 =>
  mV P C9 (Builtin.len_ #[43] 3 #[t76]) fun t86 =>
  pV P (eqG true .neq 3 t86 (.int .i64 1)) fun t87 =>
  hJ (fun (j92_13 : Value) =>
  hPick t87 (.bool true) j92_13 fun t93 =>
  hJ (fun (j101_20 : Value) =>
  hPick t93 (.bool true) j101_20 fun t102 =>
  hJ (fun (j108_25 : Value) =>
  hPick t102 (.bool true) j108_25 fun t109 =>
  hIf t109 (R (.bool false)) (hV P (eqG false .eql 3 t83 t72) fun t112 =>
  hGuard t112 true (hV P (fieldAt 37 done_12 9) fun t114 =>
  hV P (loadAt 4 t114) fun t115 =>
  hV P (Op.unary .not t115) fun t116 =>
  hJ (fun (j120_28 : Value) =>
  hGuard t112 true (hPick t116 (.bool true) j120_28 fun t121 =>
  hPick t112 t121 (.bool false) fun t122 =>
  R t122) (hPick t112 undef (.bool false) fun t122 =>
  R t122)) fun J30 =>
  hGuard t116 false (hV P (fieldAt 37 done_12 8) fun t118 =>
  hV P (loadAt 32 t118) fun t119 =>
  hV P (eqG true .eql 32 t119 (.int .i64 0)) fun t120 =>
  J30 t120) (J30 undef)) (hJ (fun (j120_33 : Value) =>
  hGuard t112 true (hPick undef (.bool true) j120_33 fun t121 =>
  hPick t112 t121 (.bool false) fun t122 =>
  R t122) (hPick t112 undef (.bool false) fun t122 =>
  R t122)) fun J35 =>
  hGuard undef false (hV P (fieldAt 37 done_12 8) fun t118 =>
  hV P (loadAt 32 t118) fun t119 =>
  hV P (eqG true .eql 32 t119 (.int .i64 0)) fun t120 =>
  J35 t120) (J35 undef)))) fun J44 =>
  hGuard t102 false (hF P 33 #[(P0 x.ar)] fun t105 =>
  hAnd C9 <| hF P 34 #[t105, t65] fun t107 =>
  hAnd C9 <| pV P (Op.unary .not t107) fun t108 =>
  J44 t108) (J44 undef)) fun J45 =>
  hGuard t93 false (pV P (indexAt 43 t76 (.int .i64 0)) fun t96 =>
  pV P (fieldAt 37 t96 8) fun t97 =>
  mV P C9 (loadAt 32 t97) fun t98 =>
  pV P (fieldAt 37 done_12 8) fun t99 =>
  mV P C9 (loadAt 32 t99) fun t100 =>
  pV P (eqG false .neq 32 t98 t100) fun t101 =>
  J45 t101) (J45 undef)) fun J46 =>
  hGuard t87 false (pV P (indexAt 43 t76 (.int .i64 0)) fun t90 =>
  pV P (fieldAt 37 t90 9) fun t91 =>
  mV P C9 (loadAt 4 t91) fun t92 =>
  J46 t92) (J46 undef))) := by
  have hsh := shOf_ok hr
  have hok1 := hear_ok hok (by omega) { m with kind := 9 }
  have hml0 := hear_len c A { m with kind := 9 }
  have hone := fun l z => once_law (A := A) hr { m with kind := 9 } rfl (l := l) (z := z)
  refine Ent.at 1 rfl (Ent.ro1 fun hmv => ?_)
  refine Ent.roDup ?_
  refine Ent.imp (L' := pt mb 37 (msgL m mv) :: roB w0 mv m.data :: roB w0 mv m.data :: arH w0 x c A :: dkH w0 d 64 A.D :: F) (by (repeat (first | refine Imp.pick 0 rfl ?_ | refine Imp.pick 2 rfl ?_)); exact Imp.refl _) ?_
  (repeat refine ent_q (run_fieldZ _ _) ?_)
  refine ent_st0 rfl (Nat.succ_pos 10) (l' := msgL { m with kind := 9 } mv) rfl ?_
  refine ent_q (run_loadA (vs := msgL { m with kind := 9 } mv) rfl (cells_all 0 rfl)) ?_
  have hH := ar_hear (w0 := w0) (x := x) hok (by omega) { m with kind := 9 } mv
  rw [hxd] at hH
  refine ent_call hH (by (repeat (first | refine Imp.pick 1 rfl ?_ | refine Imp.pick 3 rfl ?_)); exact Imp.refl _) fun ov => ?_
  generalize A.hear c { m with kind := 9 } = W at *
  obtain ⟨A1, msgs⟩ := W
  dsimp only at hok1 hone hml0 ⊢
  refine Ent.out fun ms hms => ?_
  refine Ent.vecRo ?_
  refine Ent.ro fun oa oc Ro hov hol hord => ?_
  subst hov
  refine ent_q run_len ?_
  by_cases he : ms.length = 0
  · refine ent_q ((run_eq _ _).T (by omega)) ?_
    refine ent_ifT ?_
    exact Ent.imp (by exact Imp.trans Imp.drop1 (Imp.trans Imp.drop1 (Imp.trans Imp.drop1 (Imp.trans Imp.drop1 (Imp.trans Imp.drop1 (Imp.trans Imp.drop1 (Imp.drop1))))))) hR
  refine ent_q ((run_eq _ _).F (by omega)) ?_
  refine ent_ifF ?_
  refine ent_q run_len ?_
  obtain ⟨l0, zz, rfl⟩ : ∃ l z, ms = l ++ [z] := ⟨ms.dropLast, ms.getLast (fun h => he (by rw [h]; rfl)), (List.dropLast_concat_getLast _).symm⟩
  obtain ⟨z, zv⟩ := zz
  have ga : (l0 ++ [(z, zv)])[l0.length]? = some (z, zv) := by simp
  have hlen : (l0 ++ [(z, zv)]).length = l0.length + 1 := by simp
  have hml : l0.length ≤ 1000 := by
    have h1 := congrArg List.length hms
    rw [List.length_map, hlen] at h1
    omega
  refine ent_q (run_sub64 (by omega)) ?_
  obtain ⟨hlaw, hg⟩ := hone (l0.map (·.1)) z (by rw [← hms]; simp)
  refine Ent.imp (L' := datH w0 (l0 ++ [(z, zv)]) :: Ro :: arH w0 x c A1 :: dkH w0 d 64 A1.D :: pt mb 37 (msgL { m with kind := 9 } mv) :: roB w0 mv m.data :: F) (by (repeat (first | refine Imp.pick 0 rfl ?_ | refine Imp.pick 1 rfl ?_ | refine Imp.pick 2 rfl ?_)); exact Imp.drop1) ?_
  refine Ent.imp (Imp.datGet ga) ?_
  refine Ent.ro1 fun hzv => ?_
  obtain ⟨b1, o1, rfl, hc1⟩ := RdS.cellM (hord (roB w0 zv z.data :: datH w0 (l0 ++ [(z, zv)]) :: Ro :: arH w0 x c A1 :: dkH w0 d 64 A1.D :: pt mb 37 (msgL { m with kind := 9 } mv) :: roB w0 mv m.data :: F) 2 rfl) ga
  refine ent_q (run_indexS l0.length (by omega) (by omega)) ?_
  refine ent_q (run_loadA (vs := msgL z zv) rfl (fun j' v hj' => hc1 j' v hj')) ?_
  refine ent_alloc fun db => ?_
  refine ent_sa0 (vs := msgL z zv) rfl (msgL_one hzv) (Nat.le_refl 11) (l' := msgL z zv) rfl ?_
  have hEl : (A1.S.o.all.map (fun n : Nat => (n : Int))).length = A1.S.o.all.length := by simp
  have hB := ar_blocks (w0 := w0) (x := x) (c := c) (A := A1) hok1.S
  rw [inV_nat, ← hEl] at hB
  refine Ent.at 4 rfl (Ent.arLk fun hlk => ?_)
  have hall := all_small hok1.S.fine hlk
  rw [← hEl] at hall
  generalize A1.S.o.all.map (fun n : Nat => (n : Int)) = E at *
  refine ent_call hB (by (repeat refine Imp.pick 0 rfl ?_); exact Imp.refl _) fun v1 => ?_
  refine Ent.imp (L' := pt mb 37 (msgL { m with kind := 9 } mv) :: pt db 37 (msgL z zv) :: vec v1 3 1 (inV E) E.length :: roB w0 mv m.data :: arH w0 x c A1 :: dkH w0 d 64 A1.D :: F) (by (repeat (first | refine Imp.pick 0 rfl ?_ | refine Imp.pick 2 rfl ?_ | refine Imp.pick 3 rfl ?_ | refine Imp.pick 5 rfl ?_ | refine Imp.pick 7 rfl ?_)); exact Imp.trans Imp.drop1 (Imp.trans Imp.drop1 (Imp.drop1))) ?_
  (repeat refine ent_q (run_field0 _) ?_)
  refine ent_q (run_load (v := .int .i64 m.block) (cell_own 0 rfl rfl)) ?_
  have hst := ar_stored (w0 := w0) (x := x) (A := A1) hr hok1.need hok1.D m.block
  rw [hxd] at hst
  refine ent_call hst (by (repeat refine Imp.pick 4 rfl ?_); exact Imp.refl _) fun sv => ?_
  refine Ent.imp (L' := pt mb 37 (msgL { m with kind := 9 } mv) :: pt db 37 (msgL z zv) :: vec v1 3 1 (inV E) E.length :: roB w0 mv m.data :: arH w0 x c A1 :: dkH w0 d 64 A1.D :: F) (by (repeat (first | refine Imp.pick 1 rfl ?_ | refine Imp.pick 3 rfl ?_)); exact Imp.drop1) ?_
  (repeat refine ent_q (run_ex rfl) ?_)
  refine ent_q (run_loadA (vs := msgL { m with kind := 9 } mv) rfl (cells_all 0 rfl)) ?_
  have hH2 := ar_hear (w0 := w0) (x := x) hok1 (by omega) { m with kind := 9 } mv
  rw [hxd, hlaw] at hH2
  refine ent_call hH2 (by (repeat (first | refine Imp.pick 3 rfl ?_ | refine Imp.pick 4 rfl ?_)); exact Imp.refl _) fun ov2 => ?_
  dsimp only
  refine Ent.out fun ms2 hms2 => ?_
  obtain ⟨dv2, rfl⟩ : ∃ dv, ms2 = [(mDone { m with kind := 9 } z.code false, dv)] := by
    match ms2, hms2 with
    | [(y, dv)], h => simp only [List.map_cons, List.map_nil, List.cons.injEq, and_true] at h; subst h; exact ⟨dv, rfl⟩
    | a :: b :: t, h => simp at h
  refine Ent.vecRo ?_
  refine Ent.ro fun a2 c2 R2 hv2 hl2 hr2 => ?_
  subst hv2
  refine Ent.imp (L' := pt mb 37 (msgL { m with kind := 9 } mv) :: pt db 37 (msgL z zv) :: R2 :: vec v1 3 1 (inV E) E.length :: arH w0 x c A1 :: dkH w0 d 64 A1.D :: F) (by (repeat (first | refine Imp.pick 0 rfl ?_ | refine Imp.pick 2 rfl ?_ | refine Imp.pick 4 rfl ?_ | refine Imp.pick 5 rfl ?_)); exact Imp.trans Imp.drop1 (Imp.drop1)) ?_
  (repeat refine ent_q (run_field0 _) ?_)
  refine ent_q (run_load (v := .int .i64 m.block) (cell_own 0 rfl rfl)) ?_
  refine ent_call hst (by (repeat refine Imp.pick 4 rfl ?_); exact Imp.refl _) fun sv2 => ?_
  refine Ent.imp (L' := pt db 37 (msgL z zv) :: R2 :: vec v1 3 1 (inV E) E.length :: arH w0 x c A1 :: F) (by (repeat (first | refine Imp.pick 1 rfl ?_ | refine Imp.pick 4 rfl ?_)); exact Imp.trans Imp.drop1 (Imp.trans Imp.drop1 (Imp.drop1))) ?_
  (repeat refine ent_q (run_ex rfl) ?_)
  refine ent_draw [pt db 37 (msgL z zv), R2] (by (repeat refine Imp.pick 0 rfl ?_); exact Imp.nil) ?_
  obtain ⟨b2, o2, rfl, hc2⟩ := RdS.cellM (hr2 [pt db 37 (msgL z zv), R2] 1 rfl) (i := 0) rfl
  refine ent_m run_len ?_
  refine ent_p (fun _ => (run_ne _ _).F (by simp)) ?_
  (repeat (first | refine ent_gT ?_ | refine ent_j ?_))
  refine ent_p (fun _ => run_indexS 0 rfl (by simp)) ?_
  (refine ent_p (fun _ => run_field _ _) ?_)
  refine ent_m (run_load (v := .bool false) (hc2 9 (.bool false) rfl)) ?_
  (repeat (first | refine ent_gT ?_ | refine ent_pF ?_ | refine ent_j ?_))
  refine ent_p (fun _ => run_indexS 0 rfl (by simp)) ?_
  (refine ent_p (fun _ => run_field _ _) ?_)
  refine ent_m (run_load (v := .int .i64 z.code) (hc2 8 (.int .i64 z.code) rfl)) ?_
  (refine ent_p (fun _ => run_field0 _) ?_)
  refine ent_m (run_load (v := .int .i64 z.code) (cell_own 0 rfl rfl)) ?_
  refine ent_p (fun _ => (run_ne _ _).F (by simp)) ?_
  (repeat (first | refine ent_gT ?_ | refine ent_pF ?_ | refine ent_j ?_))
  refine ent_call hB (by (repeat refine Imp.pick 3 rfl ?_); exact Imp.refl _) fun v2 => ?_
  refine ent_and (by (repeat refine Imp.pick 2 rfl ?_); exact Imp.nil) ?_
  refine Ent.imp (L' := vec v1 3 1 (inV E) E.length :: vec v2 3 1 (inV E) E.length :: pt db 37 (msgL z zv) :: R2 :: F) (by (repeat (first | refine Imp.pick 0 rfl ?_ | refine Imp.pick 1 rfl ?_ | refine Imp.pick 4 rfl ?_)); exact Imp.drop1) ?_
  refine Ent.vecRo ?_
  refine Ent.at 1 rfl (Ent.vecRo ?_)
  refine ent_call (rf_sameInts v2 v1 E E (by omega) (by omega)) (by (repeat refine Imp.pick 0 rfl ?_); exact Imp.refl _) fun _ => ?_
  rw [decide_eq_true rfl]
  refine ent_and (by (repeat refine Imp.pick 0 rfl ?_); exact Imp.nil) ?_
  refine Ent.imp (L' := pt db 37 (msgL z zv) :: F) (by (repeat refine Imp.pick 0 rfl ?_); exact Imp.drop1) ?_
  (repeat (first | refine ent_ifF ?_ | refine ent_pF ?_ | refine ent_p (fun _ => run_notT) ?_))
  refine ent_q ((run_eq _ _).T rfl) ?_
  (repeat (first | refine ent_q (run_field0 _) ?_ | refine ent_gT ?_))
  refine ent_q (run_load (v := .bool z.grant) (cell_own 0 rfl rfl)) ?_
  cases hzg : z.grant with
  | false =>
    (repeat (first | refine ent_gT ?_ | refine ent_gF' ?_ | refine ent_pT ?_ | refine ent_q (run_notF) ?_ | refine ent_j ?_))
    exact Ent.imp (by exact Imp.drop1) hR
  | true =>
    (repeat (first | refine ent_q (run_field0 _) ?_ | refine ent_gT ?_ | refine ent_q (run_notT) ?_ | refine ent_j ?_))
    refine ent_q (run_load (v := .int .i64 z.code) (cell_own 0 rfl rfl)) ?_
    refine ent_q ((run_eq _ _).T (hg hzg)) ?_
    (repeat (first | refine ent_gT ?_ | refine ent_pT ?_ | refine ent_pF ?_))
    exact Ent.imp (by exact Imp.drop1) hR
end
end Go.Gd
