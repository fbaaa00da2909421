/- How the two arguments of a statement about an array read: a configuration, and acts. Conditions: those in the theorems. -/
import Derived.Test.YtdgnnacppiaogaaGreatK39
import Derived.WalkKit
import Derived.ProofKit
import Derived.OpenShut
import Derived.Carry
set_option linter.unusedVariables false
set_option linter.unusedSimpArgs false
set_option linter.unusedVariables false
namespace Go.Gd
open Go
section
variable {H : Type} (enc : TypeId × Value → H) (W : World)
def Rdz (t : TypeId) (cs : List Value) : Prop := ∃ fuel x, DataW.trod enc P W 0 (fun _ => true) true fuel t cs = some x
variable {enc W}
theorem Rdz.int {t : TypeId} {k : IntKind} [h : IntT t k] {cs : List Value} (hr : Rdz enc W t cs) : ∃ n, cs = [.int k n] ∧ (Lit.int k n).wf = true := by
  obtain ⟨f, x, hx⟩ := hr
  have hu : P.underlying t = some (.int k) := by
    have := h.h
    unfold intT at this
    split at this
    · rename_i e; rw [e]; simp only [Option.some.injEq] at this; rw [this]
    · cases this
  obtain ⟨n, h1, -, h3⟩ := DataW.trod_int hu hx
  exact ⟨n, h1, h3⟩
theorem Rdz.bool {cs : List Value} (hr : Rdz enc W 4 cs) : ∃ b, cs = [.bool b] := by
  obtain ⟨f, x, hx⟩ := hr
  obtain ⟨b, h1, -⟩ := DataW.trod_bool und4 hx
  exact ⟨b, h1⟩
theorem cellsOf_siz {t : TypeId} {n : Nat} [h : Siz t n] : P.cellsOf t = n := by
  have := h.h
  unfold sizeN at this
  unfold Program.cellsOf
  rw [this]; rfl
theorem Rdz.struct {t : TypeId} {n : Nat} [Siz t n] {fs : Array Field} (hu : P.underlying t = some (.struct fs)) {cs : List Value} (hr : Rdz enc W t cs) :
    cs.length = n ∧ ∀ (i : Nat) (f : Field), fs[i]? = some f → Rdz enc W f.type ((cs.drop f.offset).take (P.cellsOf f.type)) := by
  obtain ⟨f, x, hx⟩ := hr
  obtain ⟨xs, m, -, -, hl, hn, hf⟩ := DataW.trod_struct hu hx
  refine ⟨by rw [hl, cellsOf_siz], fun i f hi => ?_⟩
  have hlt : i < xs.length := by rw [hn]; exact (Array.getElem?_eq_some_iff.1 hi).1
  exact ⟨m, xs[i], (hf i f hi).trans (List.getElem?_eq_getElem hlt)⟩
theorem Rdz.array {t e : TypeId} {n k : Nat} (hu : P.underlying t = some (.array n e)) [Siz e k] {cs : List Value} (hr : Rdz enc W t cs) :
    ∀ i, i < n → Rdz enc W e ((cs.drop (i * k)).take k) := by
  obtain ⟨f, x, hx⟩ := hr
  obtain ⟨xs, m, -, -, hl, hn, hf⟩ := DataW.trod_array hu hx
  intro i hi
  have hlt : i < xs.length := by rw [hn]; exact hi
  have := hf i hi
  rw [cellsOf_siz (t := e) (n := k)] at this
  exact ⟨m, xs[i], this.trans (List.getElem?_eq_getElem hlt)⟩
theorem cells_get {a : Addr} : ∀ {n : Nat} {l : List Value}, W.cells? 0 a n = some l → l.length = n ∧ ∀ (j : Nat) u, l[j]? = some u → W.cell? (a.add j) = some u := by
  intro n l h
  unfold World.cells? at h
  rw [if_pos (Nat.zero_le _)] at h
  refine ⟨by simpa using mapM_some_length h, fun j u hj => ?_⟩
  have hlt : j < n := by have := (List.getElem?_eq_some_iff.1 hj).1; rw [mapM_some_length h] at this; simpa using this
  have := mapM_some_get h j j (by simp [hlt])
  rw [this, hj]
theorem cell_nospot {a : Addr} {u : Value} (h : W.cell? a = some u) : a.spot = none := by
  unfold World.cell? at h
  split at h
  · split at h
    · cases h
    · rename_i hs
      cases hx : a.spot with
      | none => rfl
      | some s => rw [hx] at hs; simp at hs
  · cases h
theorem add_at (b o n : Nat) : (Addr.mk b o none).add n = ⟨b, o + n, none⟩ := by
  unfold Addr.add
  split
  · rename_i h; rw [h]; rfl
  · rfl
theorem flat_get {α : Type} (f : α → List Value) {sz : Nat} (hsz : 0 < sz) (hf : ∀ y, (f y).length = sz) : ∀ (ys : List α) (k : Nat), (ys.flatMap f)[k]? = (ys[k / sz]?).bind fun y => (f y)[k % sz]?
  | [], k => by simp
  | y :: t, k => by
    rw [List.flatMap_cons]
    by_cases hk : k < sz
    · rw [List.getElem?_append_left (by rw [hf]; exact hk), Nat.div_eq_of_lt hk, Nat.mod_eq_of_lt hk]; rfl
    · have hk : sz ≤ k := Nat.le_of_not_lt hk
      rw [List.getElem?_append_right (by rw [hf]; exact hk), hf, flat_get f hsz hf t, Nat.div_eq_sub_div hsz hk, Nat.mod_eq_sub_mod hk]
      rfl
theorem flat_len {α : Type} (f : α → List Value) {sz : Nat} (hf : ∀ y, (f y).length = sz) : ∀ (ys : List α), (ys.flatMap f).length = ys.length * sz
  | [] => by simp
  | y :: t => by rw [List.flatMap_cons, List.length_append, hf, flat_len f hf t, List.length_cons, Nat.add_mul, Nat.one_mul, Nat.add_comm]
theorem list_of {α : Type} (Q : Nat → α → Prop) : ∀ n : Nat, (∀ i, i < n → ∃ y, Q i y) → ∃ ys : List α, ys.length = n ∧ ∀ (i : Nat) y, ys[i]? = some y → Q i y
  | 0, _ => ⟨[], rfl, fun i y h => by simp at h⟩
  | n + 1, h => by
    obtain ⟨ys, hl, hq⟩ := list_of Q n fun i hi => h i (by omega)
    obtain ⟨y, hy⟩ := h n (by omega)
    refine ⟨ys ++ [y], by simp [hl], fun i z hz => ?_⟩
    by_cases hi : i < n
    · rw [List.getElem?_append_left (by omega)] at hz; exact hq i z hz
    · rw [List.getElem?_append_right (by omega)] at hz
      have : i - ys.length = 0 := by have := (List.getElem?_eq_some_iff.1 hz).1; simp at this; omega
      rw [this] at hz
      have hin : i = n := by omega
      simp only [List.getElem?_cons_zero, Option.some.injEq] at hz
      subst hz; subst hin; exact hy
theorem Rdz.slice {t e : TypeId} {sz : Nat} [h : ElS t e sz] (hsz : 0 < sz) {α : Type} (f : α → List Value) (hf : ∀ y, (f y).length = sz) (Good : α → Prop)
    (hel : ∀ l, l.length = sz → Rdz enc W e l → ∃ y, l = f y ∧ Good y) {cs : List Value} (hr : Rdz enc W t cs) :
    ∃ (v : Value) (ys : List α), cs = [v] ∧ (∀ y ∈ ys, Good y) ∧ ∀ {L L' : List HP}, Imp L L' → Imp L (ro W v sz ys.length (ys.flatMap f) :: L') := by
  obtain ⟨fu, x, hx⟩ := hr
  have hh := h.h
  unfold elS at hh
  split at hh
  next e' hu =>
    obtain ⟨n, hn, hen⟩ := Option.map_eq_some_iff.1 hh
    simp only [Prod.mk.injEq] at hen
    obtain ⟨rfl, rfl⟩ := hen
    have hc : P.cellsOf e' = n := by unfold sizeN at hn; unfold Program.cellsOf; rw [hn]; rfl
    rcases DataW.trod_slice hu hx with ⟨h1, -⟩ | ⟨a, len, cap, elems, rest, m, -, h1, -, -, hlc, -, hel', hg, -⟩
    · exact ⟨_, [], h1, fun y hy => by simp at hy, fun hi => Imp.ro0 rfl hi⟩
    · rw [hc] at hg
      obtain ⟨ys, hyl, hy⟩ := list_of (fun i y => Good y ∧ ∀ (j : Nat) u, (f y)[j]? = some u → W.cell? ((a.add (i * n)).add j) = some u) len fun i hi => by
        have hlt : i < elems.length := by rw [hel']; exact hi
        have := (hg i hi).trans (List.getElem?_eq_getElem hlt)
        obtain ⟨l, hl, ht⟩ := Option.bind_eq_some_iff.1 this
        obtain ⟨hl1, hl2⟩ := cells_get hl
        obtain ⟨y, rfl, hgd⟩ := hel l hl1 ⟨m, _, ht⟩
        exact ⟨y, hgd, hl2⟩
      refine ⟨_, ys, h1, fun y hyy => ?_, fun hi => ?_⟩
      · obtain ⟨i, hi⟩ := List.getElem?_of_mem hyy
        exact (hy i y hi).1
      · rw [hyl]
        cases len with
        | zero =>
          cases ys with
          | nil => exact Imp.ro0 rfl hi
          | cons _ _ => simp at hyl
        | succ len =>
          have hsp : a.spot = none := by
            obtain ⟨y, hy0⟩ : ∃ y, ys[0]? = some y := ⟨_, List.getElem?_eq_getElem (by omega)⟩
            obtain ⟨u, hu0⟩ : ∃ u, (f y)[0]? = some u := ⟨_, List.getElem?_eq_getElem (by rw [hf]; exact hsz)⟩
            have := cell_nospot ((hy 0 y hy0).2 0 u hu0)
            rw [Nat.zero_mul] at this
            exact this
          obtain ⟨b, o, s⟩ := a
          dsimp only at hsp
          subst hsp
          refine Imp.roOld (by rw [flat_len f hf, hyl]) hlc (fun j u hj => ?_) hi
          rw [flat_get f hsz hf] at hj
          obtain ⟨y, hy1, hy2⟩ := Option.bind_eq_some_iff.1 hj
          have := (hy _ y hy1).2 _ u hy2
          have ho : o + j / n * n + j % n = o + j := by rw [Nat.add_assoc, Nat.div_add_mod']
          rw [← ho]
          rwa [add_at, add_at] at this
  next => cases hh
theorem wf_i64 {n : Int} (h : (Lit.int .i64 n).wf = true) : n ≤ 9223372036854775807 := by
  have h2 := of_decide_eq_true (Bool.and_eq_true_iff.1 h).2
  have e : IntKind.i64.max = 9223372036854775807 := rfl
  rwa [e] at h2
theorem wf_u8 {n : Int} (h : (Lit.int .u8 n).wf = true) : 0 ≤ n ∧ n ≤ 255 := by
  have h1 := of_decide_eq_true (Bool.and_eq_true_iff.1 h).1
  have h2 := of_decide_eq_true (Bool.and_eq_true_iff.1 h).2
  have e : IntKind.u8.max = 255 := rfl
  have e' : IntKind.u8.min = 0 := rfl
  rw [e] at h2; rw [e'] at h1
  exact ⟨h1, h2⟩
theorem flat_map (l : List UInt8) : l.flatMap (fun x : UInt8 => [Value.int .u8 (x.toNat : Nat)]) = by8 l := by
  induction l with
  | nil => rfl
  | cons a t ih => rw [List.flatMap_cons, ih]; rfl
theorem rd_data {cs : List Value} (hr : Rdz enc W 35 cs) : ∃ (v : Value) (l : List UInt8), cs = [v] ∧ ∀ {L L' : List HP}, Imp L L' → Imp L (roB W v l :: L') := by
  obtain ⟨v, ys, h1, -, h3⟩ := hr.slice (sz := 1) (by omega) (fun x : UInt8 => [.int .u8 (x.toNat : Nat)]) (fun _ => rfl) (fun _ => True) fun l hl hr => by
    obtain ⟨n, rfl, hw⟩ := hr.int (k := .u8)
    have hn := wf_u8 hw
    refine ⟨UInt8.ofNat n.toNat, ?_, trivial⟩
    show [Value.int .u8 n] = [Value.int .u8 _]
    congr 2
    rw [UInt8.toNat_ofNat_of_lt' (by show n.toNat < 256; omega)]
    omega
  refine ⟨v, ys, h1, fun {L L'} h => ?_⟩
  have := h3 h
  rwa [flat_map] at this
def RdL (enc : TypeId × Value → H) (W : World) : List (TypeId × Nat) → List Value → Prop
  | [], cs => cs = []
  | x :: r, cs => Rdz enc W x.1 (cs.take x.2) ∧ RdL enc W r (cs.drop x.2)
def contig : Nat → List (TypeId × Nat × Nat) → Nat → Bool
  | o, [], n => decide (o = n)
  | o, x :: r, n => decide (x.2.1 = o) && contig (o + x.2.2) r n
def fieldsO (P : Program) (t : TypeId) : Option (List (TypeId × Nat × Nat)) := match P.underlying t with
  | some (.struct fs) => some (fs.toList.map fun f => (f.type, f.offset, P.cellsOf f.type))
  | _ => none
theorem RdL.of {n : Nat} {cs : List Value} (hl : cs.length = n) : ∀ {l : List (TypeId × Nat × Nat)} {o : Nat}, contig o l n = true → (∀ x ∈ l, Rdz enc W x.1 ((cs.drop x.2.1).take x.2.2)) → RdL enc W (l.map fun x => (x.1, x.2.2)) (cs.drop o)
  | [], o, hc, _ => by
    have : o = n := of_decide_eq_true hc
    exact List.drop_eq_nil_of_le (by omega)
  | x :: r, o, hc, h => by
    obtain ⟨h1, h2⟩ := Bool.and_eq_true_iff.1 hc
    have h1 : x.2.1 = o := of_decide_eq_true h1
    refine ⟨by have := h x List.mem_cons_self; rwa [h1] at this, ?_⟩
    rw [List.drop_drop]
    exact RdL.of hl h2 fun y hy => h y (List.mem_cons_of_mem _ hy)
theorem Rdz.fields {t : TypeId} {n : Nat} [Siz t n] {l : List (TypeId × Nat × Nat)} (hu : fieldsO P t = some l) (hc : contig 0 l n = true) {cs : List Value} (hr : Rdz enc W t cs) : RdL enc W (l.map fun x => (x.1, x.2.2)) cs := by
  unfold fieldsO at hu
  split at hu
  · next fs hfs =>
    simp only [Option.some.injEq] at hu
    obtain ⟨h1, h2⟩ := hr.struct hfs
    refine RdL.of (o := 0) h1 hc fun x hx => ?_
    rw [← hu] at hx
    obtain ⟨f, hf, rfl⟩ := List.mem_map.1 hx
    obtain ⟨i, hi⟩ := List.getElem?_of_mem hf
    exact h2 i f (by rw [← Array.getElem?_toList]; exact hi)
  · cases hu
theorem take1 {cs : List Value} {v : Value} (h : cs.take 1 = [v]) : cs = v :: cs.drop 1 := by
  cases cs with
  | nil => cases h
  | cons a t => simp only [List.take_succ_cons, List.take_zero, List.cons.injEq, and_true] at h; rw [h]; rfl
theorem RdL.int {t : TypeId} [IntT t .i64] {r : List (TypeId × Nat)} {cs : List Value} (h : RdL enc W ((t, 1) :: r) cs) : ∃ n c, cs = .int .i64 n :: c ∧ n ≤ 9223372036854775807 ∧ RdL enc W r c := by
  obtain ⟨n, h1, h2⟩ := h.1.int (k := .i64)
  exact ⟨n, _, take1 h1, wf_i64 h2, h.2⟩
theorem RdL.bool {r : List (TypeId × Nat)} {cs : List Value} (h : RdL enc W ((4, 1) :: r) cs) : ∃ b c, cs = .bool b :: c ∧ RdL enc W r c := by
  obtain ⟨b, h1⟩ := h.1.bool
  exact ⟨b, _, take1 h1, h.2⟩
theorem rd_hint {l : List Value} (hr : Rdz enc W 114 l) : ∃ y, l = hintV y := by
  have h := hr.fields (l := [(3, 0, 1), (3, 1, 1), (3, 2, 1), (4, 3, 1)]) (by unfold P; kernel_rfl) rfl
  obtain ⟨a, _, rfl, -, h⟩ := RdL.int h
  obtain ⟨b, _, rfl, -, h⟩ := RdL.int h
  obtain ⟨c, _, rfl, -, h⟩ := RdL.int h
  obtain ⟨d, c2, h1, h2⟩ := RdL.bool h
  have h2 : c2 = [] := h2
  subst h2; subst h1
  exact ⟨⟨a, b, c, d⟩, rfl⟩
theorem rd_msg {l : List Value} (hr : Rdz enc W 37 l) : ∃ m v, l = msgL m v ∧ ∀ {L L' : List HP}, Imp L L' → Imp L (roB W v m.data :: L') := by
  have h := hr.fields (l := [(3, 0, 1), (3, 1, 1), (3, 2, 1), (3, 3, 1), (3, 4, 1), (3, 5, 1), (3, 6, 1), (3, 7, 1), (32, 8, 1), (4, 9, 1), (35, 10, 1)]) (by unfold P; kernel_rfl) rfl
  obtain ⟨a, _, rfl, -, h⟩ := RdL.int h
  obtain ⟨b, _, rfl, -, h⟩ := RdL.int h
  obtain ⟨c, _, rfl, -, h⟩ := RdL.int h
  obtain ⟨d, _, rfl, -, h⟩ := RdL.int h
  obtain ⟨e, _, rfl, -, h⟩ := RdL.int h
  obtain ⟨f, _, rfl, -, h⟩ := RdL.int h
  obtain ⟨g, _, rfl, -, h⟩ := RdL.int h
  obtain ⟨i, _, rfl, -, h⟩ := RdL.int h
  obtain ⟨j, _, rfl, -, h⟩ := RdL.int h
  obtain ⟨k, c2, h1, h2⟩ := RdL.bool h
  obtain ⟨h3, h4⟩ := h2
  obtain ⟨v, bs, h5, h6⟩ := rd_data h3
  have h7 := take1 h5
  rw [show List.drop 1 c2 = [] from h4] at h7
  subst h7; subst h1
  exact ⟨⟨a, b, c, d, e, f, g, i, j, k, bs⟩, v, rfl, h6⟩
theorem rd_act {l : List Value} (hr : Rdz enc W 39 l) : ∃ y : ActS × Value, l = actL y ∧ y.1.fuse ≤ 9223372036854775807 ∧ ∀ {L L' : List HP}, Imp L L' → Imp L (roB W y.2 y.1.m.data :: L') := by
  have h := hr.fields (l := [(3, 0, 1), (37, 1, 11)]) (by unfold P; kernel_rfl) rfl
  obtain ⟨a, c, h1, hle, h2⟩ := RdL.int h
  obtain ⟨h3, h4⟩ := h2
  obtain ⟨m, v, h5, h6⟩ := rd_msg h3
  have h4 : c.drop 11 = [] := h4
  have h7 : c = msgL m v := by
    have := List.take_append_drop 11 c
    rw [h4, List.append_nil] at this
    exact this.symm.trans h5
  subst h7; subst h1
  exact ⟨(⟨a, m⟩, v), rfl, hle, h6⟩
theorem rd_acts {cs : List Value} (hr : Rdz enc W 26 cs) : ∃ (v : Value) (xs : List (ActS × Value)), cs = [v] ∧ (∀ x ∈ xs, x.1.fuse ≤ 9223372036854775807) ∧ (∀ {L L' : List HP}, Imp L L' → Imp L (ro W v 12 xs.length (actsV xs) :: L')) ∧
    ∀ {L L' : List HP}, Imp L L' → Imp L (adatH W xs :: L') := by
  obtain ⟨v, xs, h1, h2, h3⟩ := hr.slice (by omega) actL (fun _ => rfl) (fun y => y.1.fuse ≤ 9223372036854775807 ∧ ∀ (L L' : List HP), Imp L L' → Imp L (roB W y.2 y.1.m.data :: L')) fun l _ hr => by
    obtain ⟨y, h1, h2, h3⟩ := rd_act hr
    exact ⟨y, h1, h2, fun L L' h => h3 h⟩
  refine ⟨v, xs, h1, fun x hx => (h2 x hx).1, h3, ?_⟩
  clear h3 h1
  induction xs with
  | nil => exact fun h => Imp.pureI trivial h
  | cons x t ih => exact fun h => Imp.starI ((h2 x List.mem_cons_self).2 _ _ (ih (fun y hy => h2 y (List.mem_cons_of_mem _ hy)) h))
theorem rd_ints3 {cs : List Value} (hr : Rdz enc W 22 cs) : ∃ f : Nat → Int, cs = [.int .i64 (f 0), .int .i64 (f 1), .int .i64 (f 2)] := by
  obtain ⟨fu, x, hx⟩ := hr
  have hu : P.underlying 22 = some (.array 3 3) := by unfold P; kernel_rfl
  have hl : cs.length = 3 := by
    obtain ⟨xs, m, -, -, hl, -, -⟩ := DataW.trod_array hu hx
    rw [hl]; exact cellsOf_siz (n := 3)
  have h := Rdz.array hu (k := 1) (cs := cs) ⟨fu, x, hx⟩
  obtain ⟨a, ha, -⟩ := (h 0 (by omega)).int (k := .i64)
  obtain ⟨b, hb, -⟩ := (h 1 (by omega)).int (k := .i64)
  obtain ⟨c, hc, -⟩ := (h 2 (by omega)).int (k := .i64)
  match cs, hl with
  | [x, y, z], _ =>
    have ha : [x] = [Value.int .i64 a] := ha
    have hb : [y] = [Value.int .i64 b] := hb
    have hc : [z] = [Value.int .i64 c] := hc
    refine ⟨fun i => match i with | 0 => a | 1 => b | _ => c, ?_⟩
    simp only [List.cons.injEq, and_true] at ha hb hc
    rw [ha, hb, hc]
    rfl
theorem rd_cfg {cs : List Value} (hr : Rdz enc W 25 cs) : ∃ c : Cfg, cs = cfgL c ∧ ∀ {L L' : List HP}, Imp L L' → Imp L (ro W c.hv 4 c.hints.length (hintsV c.hints) :: L') := by
  have h := hr.fields (l := [(3, 0, 1), (3, 1, 1), (3, 2, 1), (3, 3, 1), (3, 4, 1), (3, 5, 1), (22, 6, 3), (22, 9, 3), (3, 12, 1), (3, 13, 1), (3, 14, 1), (3, 15, 1), (23, 16, 1)]) (by unfold P; kernel_rfl) rfl
  obtain ⟨a1, r1, e1, -, h⟩ := RdL.int h
  obtain ⟨a2, r2, e2, -, h⟩ := RdL.int h
  obtain ⟨a3, r3, e3, -, h⟩ := RdL.int h
  obtain ⟨a4, r4, e4, -, h⟩ := RdL.int h
  obtain ⟨a5, r5, e5, -, h⟩ := RdL.int h
  obtain ⟨a6, r6, e6, -, h⟩ := RdL.int h
  obtain ⟨hp, h⟩ := h
  obtain ⟨p, hp⟩ := rd_ints3 hp
  obtain ⟨hq, h⟩ := h
  obtain ⟨q, hq⟩ := rd_ints3 hq
  obtain ⟨b1, s1, g1, -, h⟩ := RdL.int h
  obtain ⟨b2, s2, g2, -, h⟩ := RdL.int h
  obtain ⟨b3, s3, g3, -, h⟩ := RdL.int h
  obtain ⟨b4, s4, g4, -, h⟩ := RdL.int h
  obtain ⟨h5, h6⟩ := h
  obtain ⟨v, hs, h7, -, h8⟩ := h5.slice (by omega) hintV (fun _ => rfl) (fun _ => True) fun l _ hr => by
    obtain ⟨y, hy⟩ := rd_hint hr
    exact ⟨y, hy, trivial⟩
  have h9 := take1 h7
  rw [show List.drop 1 s4 = [] from h6] at h9
  have w1 : r6 = [.int .i64 (p 0), .int .i64 (p 1), .int .i64 (p 2)] ++ r6.drop 3 := by have := List.take_append_drop 3 r6; rw [← hp]; exact this.symm
  have w2 : r6.drop 3 = [.int .i64 (q 0), .int .i64 (q 1), .int .i64 (q 2)] ++ (r6.drop 3).drop 3 := by have := List.take_append_drop 3 (r6.drop 3); rw [← hq]; exact this.symm
  have g1 : (r6.drop 3).drop 3 = .int .i64 b1 :: s1 := g1
  refine ⟨⟨a1, a2, a3, a4, a5, a6, p, q, b1, b2, b3, b4, hs, v⟩, ?_, h8⟩
  rw [e1, e2, e3, e4, e5, e6, w1, w2, g1, g2, g3, g4, h9]
  rfl
end
end Go.Gd
