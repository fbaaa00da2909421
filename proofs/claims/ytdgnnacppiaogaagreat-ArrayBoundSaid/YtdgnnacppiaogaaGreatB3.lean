/- Rules of the logic for the words of the plain reading. Conditions: none beyond those in the theorems. Rules of the logic: stores, new memory, indexes, arithmetic, comparisons. Conditions: none beyond those in the theorems. -/
import Derived.Test.YtdgnnacppiaogaaGreatB2
import Derived.Laws.Sem
import Derived.Laws.World
import Derived.Laws.Entries
set_option linter.unusedVariables false
set_option linter.unusedSimpArgs false
namespace Go.Gd
open Go.Instr
def scalT (P : Program) (t : TypeId) : Bool := match P.underlying t with | some (.struct _) => false | some (.array _ _) => false | some _ => true | none => false
def aggN (P : Program) (t : TypeId) : Option Nat := match P.underlying t with | some (.struct _) => (P.info? t).map (·.size) | some (.array _ _) => (P.info? t).map (·.size) | _ => none
def sizeN (P : Program) (t : TypeId) : Option Nat := (P.info? t).map (·.size)
def byteN (P : Program) (t : TypeId) : Option Nat := (P.info? t).map (·.bytes)
def zeroL (P : Program) (t : TypeId) : Option (List Value) := ((P.info? t).bind (·.zero)).map (fun v => v.cells.toList)
def zeroV (P : Program) (t : TypeId) : Option Value := (P.info? t).bind (·.zero)
def fldO (P : Program) (t : TypeId) (i : Nat) : Option Nat := match P.underlying t with
  | some (.struct fs) => (match fs[i]? with | some f => (match sizeN P f.type with | some 0 => none | some _ => some f.offset | none => none) | none => none)
  | _ => none
def elS (P : Program) (t : TypeId) : Option (TypeId × Nat) := match P.underlying t with | some (.slice e) => (sizeN P e).map fun n => (e, n) | _ => none
def elA (P : Program) (t : TypeId) : Option (Nat × TypeId × Nat) := match P.underlying t with | some (.array l e) => (sizeN P e).map fun n => (l, e, n) | _ => none
def intT (P : Program) (t : TypeId) : Option IntKind := match P.underlying t with | some (.int k) => some k | _ => none
class Scal (t : TypeId) : Prop where h : scalT P t = true
class AggT (t : TypeId) (n : outParam Nat) : Prop where h : aggN P t = some n
class FldO (t : TypeId) (i : Nat) (o : outParam Nat) : Prop where h : fldO P t i = some o
class ElS (t : TypeId) (e : outParam TypeId) (n : outParam Nat) : Prop where h : elS P t = some (e, n)
class ElA (t : TypeId) (l : outParam Nat) (e : outParam TypeId) (n : outParam Nat) : Prop where h : elA P t = some (l, e, n)
class Siz (t : TypeId) (n : outParam Nat) : Prop where h : sizeN P t = some n
class Byt (t : TypeId) (n : outParam Nat) : Prop where h : byteN P t = some n
class Zer (t : TypeId) (l : outParam (List Value)) : Prop where h : zeroL P t = some l
class ZeV (t : TypeId) (v : outParam Value) : Prop where h : zeroV P t = some v
class IntT (t : TypeId) (k : outParam IntKind) : Prop where h : intT P t = some k
def Ent (w0 : World) (L : List HP) (X : World → Prop) : Prop := ∀ w, Sat w0 L w → X w
def Imp (L L' : List HP) : Prop := ∀ r, sepL L r → sepL L' r
def Run (w0 : World) (L : List HP) (s : Sem Value) (v : Value) : Prop := ∀ w, Sat w0 L w → s.run P w = .ok v w
def Cell (w0 : World) (L : List HP) (a : Addr) (v : Value) : Prop := ∀ w, Sat w0 L w → w.cell? a = some v
def Cells (w0 : World) (L : List HP) (b o : Nat) (vs : List Value) : Prop := ∀ j v, vs[j]? = some v → Cell w0 L ⟨b, o + j, none⟩ v
def Spec {ι : Type} (w0 : World) (f : FuncId) (args : List Value) (Pre : List HP) (val : ι → Value) (post : ι → List HP) : Prop :=
  ∀ F w, Sat w0 (Pre ++ F) w → hF P f args.toArray (fun v w' => ∃ i, v = val i ∧ Sat w0 (post i ++ F) w') w
section
variable {w0 : World} {L L' : List HP} {X : World → Prop}
theorem Imp.refl (L : List HP) : Imp L L := fun _ h => h
theorem Imp.trans {L1 L2 L3 : List HP} (a : Imp L1 L2) (b : Imp L2 L3) : Imp L1 L3 := fun r h => b r (a r h)
theorem Imp.sat (h : Imp L L') {w : World} (hs : Sat w0 L w) : Sat w0 L' w := ⟨hs.1, hs.2.choose, h _ hs.2.choose_spec.1, hs.2.choose_spec.2⟩
theorem Imp.cons {A : HP} (h : Imp L L') : Imp (A :: L) (A :: L') := fun r ⟨a, b, j, hA, hL⟩ => ⟨a, b, j, hA, h _ hL⟩
theorem Imp.head {A B : HP} (h : ∀ r, A r → B r) : Imp (A :: L) (B :: L) := fun r ⟨a, b, j, hA, hL⟩ => ⟨a, b, j, h _ hA, hL⟩
theorem Imp.perm (h : L.Perm L') : Imp L L' := fun _ hr => sepL_perm h hr
theorem Imp.nil : Imp L [] := fun _ _ => trivial
theorem Imp.pick {A : HP} (i : Nat) (hi : L[i]? = some A) (h : Imp (L.eraseIdx i) L') : Imp L (A :: L') := (Imp.perm (pick_perm hi)).trans h.cons
theorem sepL_grow : ∀ (L : List HP) (b r a : Res), Join a b r → sepL L b → sepL L r := fun L b r a j h => by
  have : sepL ([] ++ L) r := sepL_append.2 ⟨a, b, j, trivial, h⟩
  exact this
theorem Imp.drop1 {A : HP} : Imp (A :: L) L := fun r ⟨a, b, j, _, hL⟩ => sepL_grow _ _ _ _ j hL
theorem Imp.drop (i : Nat) : Imp L (L.eraseIdx i) := by
  cases hi : L[i]? with
  | none =>
    have : L.eraseIdx i = L := List.eraseIdx_of_length_le (by simpa using hi)
    rw [this]; exact Imp.refl _
  | some A => exact (Imp.perm (pick_perm hi)).trans Imp.drop1
theorem Imp.exI {α : Sort _} {f : α → HP} (x : α) (h : Imp L (f x :: L')) : Imp L (exH f :: L') := h.trans (Imp.head fun _ hx => ⟨x, hx⟩)
theorem Imp.exE {α : Sort _} {f : α → HP} (h : ∀ x, Imp (f x :: L) L') : Imp (exH f :: L) L' := fun r ⟨a, b, j, ⟨x, hA⟩, hL⟩ => h x r ⟨a, b, j, hA, hL⟩
theorem Imp.pureI {φ : Prop} (hp : φ) (h : Imp L L') : Imp L (pureH φ :: L') := fun r hr => ⟨fun _ => none, r, (Join.none r).comm, hp, h r hr⟩
theorem Imp.pureE {φ : Prop} (h : φ → Imp L L') : Imp (pureH φ :: L) L' := fun r ⟨a, b, j, hA, hL⟩ => h hA r (sepL_grow _ _ _ _ j hL)
theorem Imp.starI {M : List HP} (h : Imp L (M ++ L')) : Imp L (star M :: L') := h.trans fun r hr => sepL_append.1 hr
theorem Imp.starE {M : List HP} (h : Imp (M ++ L) L') : Imp (star M :: L) L' := Imp.trans (fun r hr => sepL_append.2 hr) h
theorem Imp.at (i : Nat) {A : HP} (hi : L[i]? = some A) (h : Imp (A :: L.eraseIdx i) L') : Imp L L' := (Imp.perm (pick_perm hi)).trans h
theorem Imp.dup1 {A : HP} (hA : Pers A) : Imp (A :: L) (A :: A :: L) := fun r ⟨a, b, j, ha, hL⟩ => by
  refine ⟨immPart a, r, fun n => ?_, hA _ ha, a, b, j, ha, hL⟩
  have := j n
  unfold immPart
  cases hx : a n with
  | none => simp [joinO]
  | some x =>
    cases x with
    | own o => simp [joinO]
    | imm o =>
      rw [hx] at this
      cases hb : b n with
      | none => rw [hb] at this; simp only [joinO] at this; rw [this]; simp [joinO]
      | some y => rw [hb] at this; cases y with
        | own => exact this.elim
        | imm => rw [this.2]; simp [joinO]
theorem Imp.dup {A : HP} (hA : Pers A) (i : Nat) (hi : L[i]? = some A) (h : Imp L L') : Imp L (A :: L') := by
  have h1 : Imp L (A :: A :: L.eraseIdx i) := (Imp.perm (pick_perm hi)).trans (Imp.dup1 hA)
  refine h1.trans (Imp.cons (Imp.trans (Imp.perm (pick_perm hi).symm) h))
theorem Ent.imp (hi : Imp L L') (h : Ent w0 L' X) : Ent w0 L X := fun w hs => h w (hi.sat hs)
theorem Ent.at (i : Nat) {A : HP} (hi : L[i]? = some A) (h : Ent w0 (A :: L.eraseIdx i) X) : Ent w0 L X := h.imp (Imp.perm (pick_perm hi))
theorem Ent.ex {α : Sort _} {f : α → HP} (h : ∀ x, Ent w0 (f x :: L) X) : Ent w0 (exH f :: L) X := fun w hs => let ⟨x, hx⟩ := hs.exE; h x w hx
theorem Ent.pure {φ : Prop} (h : φ → Ent w0 L X) : Ent w0 (pureH φ :: L) X := fun w hs => h hs.pureE.1 w hs.pureE.2
theorem Ent.star {M : List HP} (h : Ent w0 (M ++ L) X) : Ent w0 (star M :: L) X := fun w hs => h w hs.starE
theorem Ent.freeze {b : Nat} {T : TypeId} {l : List Value} (h : Ent w0 (ptI b T l :: L) X) : Ent w0 (pt b T l :: L) X := fun w hs => h w hs.freeze
theorem spec_go {ι : Type} {f : FuncId} {args : List Value} {Pre : List HP} {val : ι → Value} {post : ι → List HP} {X : (Value → World → Prop) → World → Prop}
    (hX : ∀ (R : Value → World → Prop) (w : World), X R w → hF P f args.toArray R w) (h : ∀ F, Ent w0 (Pre ++ F) (X (fun v w' => ∃ i, v = val i ∧ Sat w0 (post i ++ F) w'))) : Spec w0 f args Pre val post :=
  fun F w hs => hX _ w (h F w hs)
theorem ent_ret {ι : Type} {v : Value} {val : ι → Value} {post : ι → List HP} {F : List HP} (i : ι) (hv : v = val i) (hI : Imp L (post i ++ F)) : Ent w0 L (fun w' => ∃ i, v = val i ∧ Sat w0 (post i ++ F) w') :=
  fun w hs => ⟨i, hv, hI.sat hs⟩
theorem ent_call {ι : Type} {f : FuncId} {args : List Value} {Pre F : List HP} {val : ι → Value} {post : ι → List HP} {K : Value → World → Prop}
    (hS : Spec w0 f args Pre val post) (hI : Imp L (Pre ++ F)) (h : ∀ i, Ent w0 (post i ++ F) (K (val i))) : Ent w0 L (hF P f args.toArray K) := by
  intro w hs
  have := hS F w (hI.sat hs)
  unfold hF at *
  refine hX_mono (fun v w' => ?_) this
  rintro ⟨i, rfl, hs'⟩
  exact h i w' hs'
theorem ent_q {s : Sem Value} {v : Value} {K : Value → World → Prop} (hr : Run w0 L s v) (h : Ent w0 L (K v)) : Ent w0 L (hV P s K) := fun w hs => ⟨v, w, hr w hs, h w hs⟩
theorem ent_r {s : Sem Value} {v : Value} {K : Value → World → Prop} (hr : Run w0 L s v) (h : Ent w0 L (K v)) : Ent w0 L (hR P s K) := fun w hs => ⟨v, hr w hs, h w hs⟩
theorem ent_m {s : Sem Value} {v : Value} {K : Value → World → Prop} {L0 : List HP} (hr : Run w0 L0 s v) (h : Ent w0 L (K v)) : Ent w0 L (mV P (Sat w0 L0) s K) := fun w hs => ⟨v, hr, h w hs⟩
theorem ent_p {s : Sem Value} {v : Value} {K : Value → World → Prop} (hr : ∀ w0, Run w0 [] s v) (h : Ent w0 L (K v)) : Ent w0 L (pV P s K) := fun w hs => ⟨v, fun w' _ => hr w' w' (Sat.nil (Old.refl w')), h w hs⟩
theorem ent_draw {body : (World → Prop) → World → Prop} (L0 : List HP) (hi : Imp L L0) (h : Ent w0 L (body (Sat w0 L0))) : Ent w0 L (hDraw body) := fun w hs => ⟨Sat w0 L0, hi.sat hs.drew, h _ hs.drew⟩
theorem ent_and {L0 : List HP} (hi : Imp L L0) (h : Ent w0 L X) : Ent w0 L (hAnd (Sat w0 L0) X) := fun w hs => ⟨hi.sat hs, h w hs⟩
theorem ent_and2 {Y : World → Prop} (h1 : Ent w0 L Y) (h : Ent w0 L X) : Ent w0 L (hAnd Y X) := fun w hs => ⟨h1 w hs, h w hs⟩
theorem ent_j {α : Type} {j : α} {b : α → World → Prop} (h : Ent w0 L (b j)) : Ent w0 L (hJ j b) := h
theorem ent_if {c : Bool} {A B : World → Prop} (h1 : c = true → Ent w0 L A) (h2 : c = false → Ent w0 L B) : Ent w0 L (hIf (.bool c) A B) := fun w hs => ⟨c, rfl, fun e => h1 e w hs, fun e => h2 e w hs⟩
theorem ent_ifT {A B : World → Prop} (h : Ent w0 L A) : Ent w0 L (hIf (.bool true) A B) := ent_if (fun _ => h) (fun e => by cases e)
theorem ent_ifF {A B : World → Prop} (h : Ent w0 L B) : Ent w0 L (hIf (.bool false) A B) := ent_if (fun e => by cases e) (fun _ => h)
theorem ent_gT {A B : World → Prop} {t : Bool} (h : Ent w0 L A) : Ent w0 L (hGuard (.bool t) t A B) := fun w hs => ⟨fun _ => h w hs, fun e => absurd rfl e⟩
theorem ent_gF {A B : World → Prop} (h : Ent w0 L B) : Ent w0 L (hGuard (.bool false) true A B) := fun w hs => ⟨fun e => (by cases e), fun _ => h w hs⟩
theorem ent_gF' {A B : World → Prop} (h : Ent w0 L B) : Ent w0 L (hGuard (.bool true) false A B) := fun w hs => ⟨fun e => (by cases e), fun _ => h w hs⟩
theorem ent_gU {A B : World → Prop} {t : Bool} (h : Ent w0 L B) : Ent w0 L (hGuard undef t A B) := fun w hs => ⟨fun e => (by cases e), fun _ => h w hs⟩
theorem ent_pT {a b : Value} {K : Value → World → Prop} (h : Ent w0 L (K a)) : Ent w0 L (hPick (.bool true) a b K) := fun w hs => ⟨true, rfl, h w hs⟩
theorem ent_pF {a b : Value} {K : Value → World → Prop} (h : Ent w0 L (K b)) : Ent w0 L (hPick (.bool false) a b K) := fun w hs => ⟨false, rfl, h w hs⟩
theorem least {p : Nat → Prop} (h : ∃ n, p n) : ∃ n, p n ∧ ∀ m, p m → n ≤ m := by
  classical
  obtain ⟨n, hn⟩ := h
  induction n using Nat.strongRecOn with
  | _ n ih =>
    by_cases hx : ∃ m, m < n ∧ p m
    · obtain ⟨m, hm, hp⟩ := hx; exact ih m hm hp
    · refine ⟨n, hn, fun m hm => ?_⟩
      rcases Nat.lt_or_ge m n with h1 | h1
      · exact absurd ⟨m, h1, hm⟩ hx
      · exact h1
theorem ent_loop {ι : Type} {init : List Value} {body : List Value → Frm → (List Value → World → Prop) → World → Prop} (Inv : ι → Prop) (vals : ι → List Value) (Ls : ι → List HP) (μ : ι → Nat)
    (i0 : ι) (h0 : Inv i0) (hv : init = vals i0) (hI : Imp L (Ls i0))
    (step : ∀ i, Inv i → ∀ (g : Frm) (next : List Value → World → Prop), (∀ j, Inv j → μ j < μ i → Ent w0 (Ls j) (next (vals j))) → Ent w0 (Ls i) (body (vals i) g next)) : Ent w0 L (hLoop init body) := by
  classical
  intro w hs
  let p : List Value → World → Nat → Prop := fun vs w n => ∃ i, Inv i ∧ vs = vals i ∧ Sat w0 (Ls i) w ∧ μ i = n
  refine ⟨fun vs w => ∃ i, Inv i ∧ vs = vals i ∧ Sat w0 (Ls i) w, fun vs w => if h : ∃ n, p vs w n then (least h).choose else 0, ⟨i0, h0, hv, hI.sat hs⟩, fun vs g w hlen' hI' => ?_⟩
  have hex : ∃ n, p vs w n := let ⟨i, a, b, c⟩ := hI'; ⟨_, i, a, b, c, rfl⟩
  obtain ⟨i, hi, hvs, hs', hn⟩ := (least hex).choose_spec.1
  subst hvs
  refine step i hi g _ (fun j hj hlt w' hs2 => ?_) w hs'
  refine ⟨⟨j, hj, rfl, hs2⟩, ?_⟩
  have hex2 : ∃ n, p (vals j) w' n := ⟨_, j, hj, rfl, hs2, rfl⟩
  simp only []
  rw [dif_pos hex2, dif_pos hex]
  have h1 := (least hex2).choose_spec.2 (μ j) ⟨j, hj, rfl, hs2, rfl⟩
  omega
theorem cell_own {b o : Nat} {T : TypeId} {l : List Value} {v : Value} (i : Nat) (hi : L[i]? = some (pt b T l)) (hv : l[o]? = some v) : Cell w0 L ⟨b, o, none⟩ v := fun w hs => by
  have := (hs.mem i hi).2
  simp only [World.cell?, this]
  simpa using hv
theorem cell_imm {b o : Nat} {T : TypeId} {l : List Value} {v : Value} (i : Nat) (hi : L[i]? = some (ptI b T l)) (hv : l[o]? = some v) : Cell w0 L ⟨b, o, none⟩ v := fun w hs => by
  have := (hs.memI i hi).2
  simp only [World.cell?, this]
  simpa using hv
theorem cell_old {a : Addr} {v : Value} (h : w0.cell? a = some v) : Cell w0 L a v := fun w hs => by
  have hlt : a.block < w0.heap.size := by
    rcases Nat.lt_or_ge a.block w0.heap.size with h1 | h1
    · exact h1
    · simp [World.cell?, Array.getElem?_eq_none h1] at h
  have := hs.old.2.1 _ hlt
  simp only [World.cell?, this] at h ⊢
  exact h
theorem cells_own {b o : Nat} {T : TypeId} {l vs : List Value} (i : Nat) (hi : L[i]? = some (pt b T l)) (hv : ∀ j v, vs[j]? = some v → l[o + j]? = some v) : Cells w0 L b o vs := fun j v hj => cell_own i hi (hv j v hj)
theorem cells_all {b : Nat} {T : TypeId} {l : List Value} (i : Nat) (hi : L[i]? = some (pt b T l)) : Cells w0 L b 0 l := cells_own i hi (fun j v h => by simpa using h)
theorem run_load {t : TypeId} [hT : Scal t] {a : Addr} {v : Value} (hc : Cell w0 L a v) : Run w0 L (loadAt t (.pointer (some a))) v := fun w hs => by
  have h := hT.h
  unfold scalT at h
  have hcell := hc w hs
  unfold loadAt sureAddr loadVar isAgg underlying
  cases hu : P.underlying t with
  | none => rw [hu] at h; cases h
  | some d =>
    rw [hu] at h
    cases d <;> first | (cases h; done) | simp [hu, hcell]
theorem add_none (b o n : Nat) : (⟨b, o, none⟩ : Addr).add n = ⟨b, o + n, none⟩ := by
  unfold Addr.add; split
  · rename_i h; subst h; rfl
  · rfl
theorem run_loadCells {b o : Nat} (w : World) : ∀ (vs : List Value) (i : Nat) (acc : Array Value), (∀ j v, vs[j]? = some v → w.cell? ⟨b, o + (i + j), none⟩ = some v) →
    (loadCellsFrom ⟨b, o, none⟩ i vs.length acc).run P w = .ok (acc ++ vs.toArray) w
  | [], i, acc, _ => by simp [loadCellsFrom]
  | v :: vs, i, acc, h => by
    have h0 := h 0 v rfl
    have hr := run_loadCells w vs (i + 1) (acc.push v) (fun j u hj => by
      have := h (j + 1) u (by simpa using hj)
      rw [show i + 1 + j = i + (j + 1) by omega]; exact this)
    simp only [List.length_cons, loadCellsFrom, Sem.run_bind, add_none]
    simp only [Nat.add_zero] at h0
    rw [Go.run_load]
    simp only [h0, Result.andThen_ok]
    rw [hr]
    simp
theorem run_loadA {t : TypeId} {n : Nat} [hT : AggT t n] {b o : Nat} {vs : List Value} (hn : vs.length = n) (hc : Cells w0 L b o vs) : Run w0 L (loadAt t (.pointer (some ⟨b, o, none⟩))) (.agg vs.toArray) := fun w hs => by
  have h := hT.h
  unfold aggN at h
  have hl := run_loadCells (b := b) (o := o) w vs 0 #[] (fun j v hj => by rw [Nat.zero_add]; exact hc j v hj w hs)
  unfold loadAt sureAddr loadVar isAgg underlying sizeOf typeInfo loadCells
  cases hu : P.underlying t with
  | none => rw [hu] at h; cases h
  | some d =>
    rw [hu] at h
    cases hi : P.info? t with
    | none => rw [hi] at h; cases d <;> simp at h
    | some i =>
      rw [hi] at h
      cases d <;> simp only [Option.map_some, Option.some.injEq, reduceCtorEq] at h <;> (subst hn; simp only [Sem.run_bind, run_program, Result.andThen_ok, hu, hi, Sem.run_pure, h, hl, if_true]; simp)
theorem run_nil (a : Addr) : Run w0 L (hNil (.pointer (some a))) (.pointer (some a)) := fun w _ => rfl
theorem run_field {t : TypeId} {i off : Nat} [hT : FldO t i off] (b o : Nat) : Run w0 L (fieldAt t (.pointer (some ⟨b, o, none⟩)) i) (.pointer (some ⟨b, o + off, none⟩)) := fun w _ => by
  have h := hT.h
  unfold fldO at h
  unfold fieldAt underlying fieldPlace sizeOf typeInfo sureAddr
  cases hu : P.underlying t with
  | none => rw [hu] at h; cases h
  | some d =>
    rw [hu] at h
    cases d <;> simp only [reduceCtorEq] at h
    rename_i fs
    cases hf : fs[i]? with
    | none => rw [hf] at h; cases h
    | some f =>
      rw [hf] at h
      unfold sizeN at h
      dsimp only at h
      cases hi : P.info? f.type with
      | none => rw [hi] at h; simp at h
      | some x =>
        rw [hi] at h
        simp only [Option.map_some] at h
        cases hx : x.size with
        | zero => rw [hx] at h; simp at h
        | succ k =>
          rw [hx] at h
          simp only [Option.some.injEq] at h
          subst h
          simp [hu, hf, hi, hx, add_none]
end
end Go.Gd
namespace Go.Gd
open Go.Instr
section
variable {w0 : World} {L L' : List HP} {X : World → Prop}
theorem elS_und {t e : TypeId} {n : Nat} [h : ElS t e n] : P.underlying t = some (.slice e) ∧ ∃ i, P.info? e = some i ∧ i.size = n := by
  have h := h.h
  unfold elS sizeN at h
  cases hu : P.underlying t with
  | none => rw [hu] at h; cases h
  | some d =>
    rw [hu] at h
    cases d <;> simp only [reduceCtorEq] at h
    rename_i e'
    cases hi : P.info? e' with
    | none => rw [hi] at h; simp at h
    | some i =>
      rw [hi] at h
      simp only [Option.map_some, Option.some.injEq, Prod.mk.injEq] at h
      obtain ⟨rfl, rfl⟩ := h
      exact ⟨rfl, i, hi, rfl⟩
theorem elA_und {t e : TypeId} {l n : Nat} [h : ElA t l e n] : P.underlying t = some (.array l e) ∧ ∃ i, P.info? e = some i ∧ i.size = n := by
  have h := h.h
  unfold elA sizeN at h
  cases hu : P.underlying t with
  | none => rw [hu] at h; cases h
  | some d =>
    rw [hu] at h
    cases d <;> simp only [reduceCtorEq] at h
    rename_i l' e'
    cases hi : P.info? e' with
    | none => rw [hi] at h; simp at h
    | some i =>
      rw [hi] at h
      simp only [Option.map_some, Option.some.injEq, Prod.mk.injEq] at h
      obtain ⟨rfl, rfl, rfl⟩ := h
      exact ⟨rfl, i, hi, rfl⟩
theorem siz_info {t : TypeId} {n : Nat} [h : Siz t n] : ∃ i, P.info? t = some i ∧ i.size = n := by
  have h := h.h
  unfold sizeN at h
  cases hi : P.info? t with
  | none => rw [hi] at h; cases h
  | some i => rw [hi] at h; exact ⟨i, rfl, by simpa using h⟩
theorem run_sizeOf {t : TypeId} {i : TypeInfo} (h : P.info? t = some i) (w : World) : (sizeOf t).run P w = .ok i.size w := by simp [sizeOf, typeInfo, h]
theorem run_typeInfo {t : TypeId} {i : TypeInfo} (h : P.info? t = some i) (w : World) : (typeInfo t).run P w = .ok i w := by simp [typeInfo, h]
theorem zer_run {t : TypeId} {l : List Value} [h : Zer t l] : ∃ v, (∀ w, (zeroValue t).run P w = .ok v w) ∧ v.cells.toList = l := by
  have h := h.h
  unfold zeroL at h
  cases hi : P.info? t with
  | none => rw [hi] at h; cases h
  | some i =>
    rw [hi] at h
    simp only [Option.bind_some] at h
    cases hz : i.zero with
    | none => rw [hz] at h; cases h
    | some v =>
      rw [hz] at h
      exact ⟨v, fun w => by simp [zeroValue, typeInfo, hi, hz], by simpa using h⟩
theorem heap_setCell {w : World} {b o : Nat} {l : List Value} {T : TypeId} {fr : Nat × Nat} (h : w.heap[b]? = some (.cells l.toArray T fr)) (v : Value) :
    ∀ n, (w.setCell ⟨b, o, none⟩ v).heap[n]? = if n = b then some (.cells (l.set o v).toArray T fr) else w.heap[n]? := by
  intro n
  unfold World.setCell
  simp only [Array.getElem?_modify]
  by_cases hn : b = n
  · subst hn
    rw [if_pos rfl, if_pos rfl, h]
    simp
  · rw [if_neg hn, if_neg (Ne.symm hn)]
theorem run_store1 {w : World} {b o : Nat} {l : List Value} {T : TypeId} (h : w.heap[b]? = some (.cells l.toArray T (0, 0))) (ho : o < l.length) {v : Value} (hv : v.oneCell' = true) :
    (store ⟨b, o, none⟩ v).run P w = .ok () (w.setCell ⟨b, o, none⟩ v) := by
  rw [run_store P w _ v _ hv]
  have hc : w.cell? ⟨b, o, none⟩ = some (l[o]) := by simp [World.cell?, h, ho]
  have hf : w.frozen? ⟨b, o, none⟩ = false := by simp [World.frozen?, h]
  simp [hc, hf]
theorem one_cells {v : Value} (hv : v.oneCell' = true) : v.cells = #[v] := by cases v <;> first | rfl | (simp [Value.oneCell'] at hv)
def setL (l : List Value) (o : Nat) : List Value → List Value
  | [] => l
  | v :: vs => setL (l.set o v) (o + 1) vs
theorem run_storeCells {b o : Nat} {T : TypeId} : ∀ (vs : List Value) (i : Nat) (w : World) (l : List Value), w.heap[b]? = some (.cells l.toArray T (0, 0)) → o + i + vs.length ≤ l.length → (∀ v ∈ vs, v.oneCell' = true) →
    ∃ w', (storeCells ⟨b, o, none⟩ vs i).run P w = .ok () w' ∧ (∀ n, w'.heap[n]? = if n = b then some (.cells (setL l (o + i) vs).toArray T (0, 0)) else w.heap[n]?) ∧ w'.heap.size = w.heap.size ∧ w'.os = w.os ∧ w'.output = w.output ∧ w'.tape = w.tape
  | [], i, w, l, h, _, _ => ⟨w, rfl, fun n => by by_cases hn : n = b <;> simp [hn, setL, h], rfl, rfl, rfl, rfl⟩
  | v :: vs, i, w, l, h, hl, hv => by
    simp only [List.length_cons] at hl
    have h1 := run_store1 (o := o + i) h (by omega) (hv v List.mem_cons_self)
    have h2 := heap_setCell (o := o + i) h v
    obtain ⟨w', e1, e2, e3, e4, e5, e6⟩ := run_storeCells (b := b) (o := o) vs (i + 1) (w.setCell ⟨b, o + i, none⟩ v) (l.set (o + i) v) (by rw [h2, if_pos rfl]) (by simp; omega) (fun u hu => hv u (List.mem_cons_of_mem _ hu))
    refine ⟨w', ?_, fun n => ?_, ?_, e4, e5, e6⟩
    · simp only [storeCells, Sem.run_bind, add_none]
      rw [h1]; exact e1
    · rw [e2, h2]
      by_cases hn : n = b
      · simp [hn, setL, Nat.add_assoc]
      · simp [hn]
    · rw [e3]; simp [World.setCell]
theorem ent_storeL {t : TypeId} {n : Nat} [Siz t n] {b o : Nat} {T : TypeId} {l : List Value} {v : Value} {K : World → Prop} (i : Nat) (hi : L[i]? = some (pt b T l)) (hn : v.cells.toList.length = n) (hv : ∀ u ∈ v.cells.toList, u.oneCell' = true)
    (ho : o + n ≤ l.length) (h : Ent w0 (L.set i (pt b T (setL l o v.cells.toList))) K) : Ent w0 L (hU P (storeAt t (.pointer (some ⟨b, o, none⟩)) v) K) := by
  intro w hs
  obtain ⟨x, hx, hsz⟩ := siz_info (t := t)
  have hm := (hs.mem i hi).2
  obtain ⟨w', e1, e2, e3, e4, e5, e6⟩ := run_storeCells (o := o) v.cells.toList 0 w l hm (by omega) hv
  refine ⟨w', ?_, h w' (hs.put i hi e2 e3 e4 e5 e6)⟩
  unfold storeAt sureAddr storeVar
  simp only [Sem.run_bind, Sem.run_pure, Result.andThen_ok]
  rw [run_sizeOf hx]
  have : v.cells.size = x.size := by rw [hsz, ← hn]; simp
  simp [this, e1]
theorem ent_store {t : TypeId} [Siz t 1] {b o : Nat} {T : TypeId} {l : List Value} {v : Value} {K : World → Prop} (i : Nat) (hi : L[i]? = some (pt b T l)) (hv : v.oneCell' = true)
    (ho : o < l.length) (h : Ent w0 (L.set i (pt b T (l.set o v))) K) : Ent w0 L (hU P (storeAt t (.pointer (some ⟨b, o, none⟩)) v) K) := by
  refine ent_storeL i hi (by rw [one_cells hv]; rfl) (by rw [one_cells hv]; simpa using hv) (by omega) ?_
  rw [one_cells hv]; exact h
theorem ent_newRow {e : TypeId} {l : List Value} {s : Sem Value} {f : Addr → Value} {K : Value → World → Prop} (hs : ∀ w, s.run P w = ((newRow e l.toArray).run P w).andThen fun a w' => .ok (f a) w')
    (h : ∀ b, Ent w0 (pt b e l :: L) (K (f ⟨b, 0, none⟩))) : Ent w0 L (hV P s K) := by
  intro w hw
  refine ⟨f ⟨w.heap.size, 0, none⟩, { w with heap := w.heap.push (.cells l.toArray e) }, ?_, ?_⟩
  · rw [hs]; simp [newRow]
  · exact h _ _ (hw.new rfl rfl rfl rfl)
theorem ent_alloc {t : TypeId} {zs : List Value} [Zer t zs] {K : Value → World → Prop} (h : ∀ b, Ent w0 (pt b t zs :: L) (K (.pointer (some ⟨b, 0, none⟩)))) : Ent w0 L (hV P (alloc t true (.tuple #[])) K) := by
  obtain ⟨z, hz, hzl⟩ := zer_run (t := t) (l := zs)
  refine ent_newRow (e := t) (l := zs) (f := fun a => .pointer (some a)) (fun w => ?_) h
  unfold alloc newVar
  simp only [Sem.run_bind, hz, Result.andThen_ok]
  have : z.cells = zs.toArray := by rw [← hzl]
  rw [this]; rfl
theorem ent_box {t : TypeId} {v : Value} {K : Value → World → Prop} (h : ∀ b, Ent w0 (pt b t v.cells.toList :: L) (K (.pointer (some ⟨b, 0, none⟩)))) : Ent w0 L (hV P (box t v) K) := by
  refine ent_newRow (e := t) (l := v.cells.toList) (f := fun a => .pointer (some a)) (fun w => ?_) h
  unfold box newVar
  simp only [Sem.run_bind]
  rfl
theorem run_indexS {t e : TypeId} {n : Nat} [ElS t e n] {b o len cap : Nat} {k : IntKind} {i : Int} (m : Nat) (hi : i = m) (hl : m < len) : Run w0 L (indexAt t (.slice (some ⟨b, o, none⟩) len cap) (.int k i)) (.pointer (some ⟨b, o + m * n, none⟩)) := fun w _ => by
  obtain ⟨hu, x, hx, hsz⟩ := elS_und (t := t) (e := e) (n := n)
  subst hi
  unfold indexAt asIntOf
  simp only [Sem.run_bind, Sem.run_pure, Result.andThen_ok]
  rw [run_underlying hu]
  simp only [Result.andThen_ok, Sem.run_pure]
  have h0 : (0 : Int) ≤ m ∧ (m : Int) < len := by omega
  simp only [h0, and_self, if_true, Sem.run_bind, run_underlying hu, Result.andThen_ok, run_sizeOf hx, Int.toNat_natCast, add_none, hsz, Sem.run_pure]
theorem run_indexA {t e : TypeId} {n len : Nat} [ElA t len e n] {b o : Nat} {k : IntKind} {i : Int} (m : Nat) (hi : i = m) (hl : m < len) : Run w0 L (indexAt t (.pointer (some ⟨b, o, none⟩)) (.int k i)) (.pointer (some ⟨b, o + m * n, none⟩)) := fun w _ => by
  obtain ⟨hu, x, hx, hsz⟩ := elA_und (t := t) (l := len) (e := e) (n := n)
  subst hi
  unfold indexAt asIntOf sureAddr
  simp only [Sem.run_bind, Sem.run_pure, Result.andThen_ok]
  rw [run_underlying hu]
  simp only [Result.andThen_ok, Sem.run_pure, Sem.run_bind]
  have h0 : (0 : Int) ≤ m ∧ (m : Int) < len := by omega
  simp only [h0, and_self, if_true, Sem.run_bind, run_underlying hu, Result.andThen_ok, run_sizeOf hx, Int.toNat_natCast, add_none, hsz, Sem.run_pure]
theorem run_add {t : TypeId} {k : IntKind} (a b : Int) : Run w0 L (binOp .add t (.int k a) (.int k b)) (.int k (k.wrap (a + b))) := fun w _ => by simp [binOp, Op.intArith]
theorem run_sub {t : TypeId} {k : IntKind} (a b : Int) : Run w0 L (binOp .sub t (.int k a) (.int k b)) (.int k (k.wrap (a - b))) := fun w _ => by simp [binOp, Op.intArith]
theorem run_mul {t : TypeId} {k : IntKind} (a b : Int) : Run w0 L (binOp .mul t (.int k a) (.int k b)) (.int k (k.wrap (a * b))) := fun w _ => by simp [binOp, Op.intArith]
theorem wrap_i64 {n : Int} (h : -9223372036854775808 ≤ n ∧ n ≤ 9223372036854775807) : IntKind.i64.wrap n = n := by
  have e : IntKind.i64.wrap n = if n % 18446744073709551616 ≥ 9223372036854775808 then n % 18446744073709551616 - 18446744073709551616 else n % 18446744073709551616 := by
    unfold IntKind.wrap
    simp [IntKind.bits, IntKind.signed]
  rw [e]
  split <;> omega
theorem run_add64 {t : TypeId} {a b : Int} (h : -9223372036854775808 ≤ a + b ∧ a + b ≤ 9223372036854775807) : Run w0 L (binOp .add t (.int .i64 a) (.int .i64 b)) (.int .i64 (a + b)) := fun w hw => by rw [run_add a b w hw, wrap_i64 h]
theorem run_sub64 {t : TypeId} {a b : Int} (h : -9223372036854775808 ≤ a - b ∧ a - b ≤ 9223372036854775807) : Run w0 L (binOp .sub t (.int .i64 a) (.int .i64 b)) (.int .i64 (a - b)) := fun w hw => by rw [run_sub a b w hw, wrap_i64 h]
theorem run_mul64 {t : TypeId} {a b : Int} (h : -9223372036854775808 ≤ a * b ∧ a * b ≤ 9223372036854775807) : Run w0 L (binOp .mul t (.int .i64 a) (.int .i64 b)) (.int .i64 (a * b)) := fun w hw => by rw [run_mul a b w hw, wrap_i64 h]
theorem run_lt {t : TypeId} {k : IntKind} (a b : Int) : Run w0 L (binOp .lss t (.int k a) (.int k b)) (.bool (decide (a < b))) := fun w _ => by simp [binOp, Op.intCmp]
theorem run_le {t : TypeId} {k : IntKind} (a b : Int) : Run w0 L (binOp .leq t (.int k a) (.int k b)) (.bool (decide (a ≤ b))) := fun w _ => by simp [binOp, Op.intCmp]
theorem run_gt {t : TypeId} {k : IntKind} (a b : Int) : Run w0 L (binOp .gtr t (.int k a) (.int k b)) (.bool (decide (a > b))) := fun w _ => by simp [binOp, Op.intCmp]
theorem run_ge {t : TypeId} {k : IntKind} (a b : Int) : Run w0 L (binOp .geq t (.int k a) (.int k b)) (.bool (decide (a ≥ b))) := fun w _ => by simp [binOp, Op.intCmp]
theorem run_eq {lit : Bool} {t : TypeId} {k : IntKind} (a b : Int) : Run w0 L (eqG lit .eql t (.int k a) (.int k b)) (.bool (decide (a = b))) := fun w _ => by
  simp only [eqG, eqGd, binOp, Op.intCmp, Sem.run_bind, Sem.run_pure, Result.andThen_ok, ne_eq, not_true_eq_false, if_false]
  congr 2
theorem run_ne {lit : Bool} {t : TypeId} {k : IntKind} (a b : Int) : Run w0 L (eqG lit .neq t (.int k a) (.int k b)) (.bool (decide (a ≠ b))) := fun w _ => by
  simp only [eqG, eqGd, binOp, Op.intCmp, Sem.run_bind, Sem.run_pure, Result.andThen_ok, ne_eq, not_true_eq_false, if_false]
  congr 2
  by_cases h : a = b <;> simp [h]
theorem ent_qb {s : Sem Value} {φ : Prop} [Decidable φ] {K : Value → World → Prop} (hr : Run w0 L s (.bool (decide φ))) (h1 : φ → Ent w0 L (K (.bool true))) (h2 : ¬ φ → Ent w0 L (K (.bool false))) : Ent w0 L (hV P s K) := by
  refine ent_q hr ?_
  by_cases h : φ
  · rw [decide_eq_true h]; exact h1 h
  · rw [decide_eq_false h]; exact h2 h
theorem Run.T {s : Sem Value} {φ : Prop} [Decidable φ] (hr : Run w0 L s (.bool (decide φ))) (h : φ) : Run w0 L s (.bool true) := by rw [decide_eq_true h] at hr; exact hr
theorem Run.F {s : Sem Value} {φ : Prop} [Decidable φ] (hr : Run w0 L s (.bool (decide φ))) (h : ¬ φ) : Run w0 L s (.bool false) := by rw [decide_eq_false h] at hr; exact hr
theorem run_not (b : Bool) : Run w0 L (Op.unary .not (.bool b)) (.bool (!b)) := fun w _ => by simp [Op.unary]
theorem run_notT : Run w0 L (Op.unary .not (.bool true)) (.bool false) := run_not true
theorem run_notF : Run w0 L (Op.unary .not (.bool false)) (.bool true) := run_not false
theorem run_ex {vs : Array Value} {v : Value} {i : Nat} (h : vs[i]? = some v) : Run w0 L (extract (.tuple vs) i) v := fun w _ => by simp [extract, h]
theorem run_len {t ty : TypeId} {e : TypeId} {n : Nat} [ElS t e n] {a : Option Addr} {len cap : Nat} : Run w0 L (Builtin.len_ #[t] ty #[.slice a len cap]) (.int .i64 len) := fun w _ => by
  obtain ⟨hu, _⟩ := elS_und (t := t) (e := e) (n := n)
  simp [Builtin.len_, underlying, hu, goInt]
theorem run_max {ats : Array TypeId} {ty : TypeId} {k : IntKind} (a b : Int) : Run w0 L (Builtin.max_ ats ty #[.int k a, .int k b]) (.int k (max a b)) := fun w _ => by
  simp only [Builtin.max_, Builtin.max2, List.foldlM_cons, List.foldlM_nil, Sem.run_bind, Sem.run_pure, Result.andThen_ok]
  congr 2
  rw [Int.max_def]; split <;> split <;> omega
theorem run_min {ats : Array TypeId} {ty : TypeId} {k : IntKind} (a b : Int) : Run w0 L (Builtin.min_ ats ty #[.int k a, .int k b]) (.int k (min a b)) := fun w _ => by
  simp only [Builtin.min_, Builtin.min2, List.foldlM_cons, List.foldlM_nil, Sem.run_bind, Sem.run_pure, Result.andThen_ok]
  congr 2
  rw [Int.min_def]; split <;> split <;> omega
end
end Go.Gd
