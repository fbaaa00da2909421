/- Rules of the logic: pointers against nil, struct values, interface values, slices, append, make. Conditions: none beyond those in the theorems. Rules of the logic: struct values and slices that are written out. Conditions: none beyond those in the theorems. PRINTED by a program of mine (types.py): facts about the types that the functions name. Conditions: none. -/
import Derived.Test.YtdgnnacppiaogaaGreatB3
import Derived.Deep.AppendSrc
set_option linter.unusedVariables false
set_option linter.unusedSimpArgs false
namespace Go.Gd
open Go.Instr
def ptrT (P : Program) (t : TypeId) : Bool := match P.underlying t with | some (.pointer _) => true | _ => false
def noIfc (P : Program) (t : TypeId) : Bool := match P.underlying t with | some (.interface _) => false | some _ => true | none => false
def fnT (P : Program) (t : TypeId) : Bool := match P.underlying t with | some (.func ..) => true | _ => false
def mapT (P : Program) (t : TypeId) : Option (TypeId × TypeId) := match P.underlying t with | some (.map k e) => some (k, e) | _ => none
class PtrT (t : TypeId) : Prop where h : ptrT P t = true
class NoIfc (t : TypeId) : Prop where h : noIfc P t = true
class FnT (t : TypeId) : Prop where h : fnT P t = true
class MapT (t : TypeId) (k e : outParam TypeId) : Prop where h : mapT P t = some (k, e)
section
variable {w0 : World} {L L' : List HP} {X : World → Prop}
theorem run_equalIn_ptr {t : TypeId} [hT : PtrT t] (d : Nat) (a : Option Addr) (w : World) : (Op.equalIn (d + 1) t (.pointer a) (.pointer none)).run P w = .ok (decide (a = none)) w := by
  have h := hT.h
  unfold ptrT at h
  cases hu : P.underlying t with
  | none => rw [hu] at h; cases h
  | some x =>
    rw [hu] at h
    cases x <;> simp only [Bool.false_eq_true] at h
    unfold Op.equalIn
    simp only [Sem.run_bind, run_underlying hu, Result.andThen_ok]
    cases a with
    | none => rfl
    | some a => rfl
theorem run_eqp {lit : Bool} {t : TypeId} [PtrT t] (a : Option Addr) : Run w0 L (eqG lit .eql t (.pointer a) (.pointer none)) (.bool (decide (a = none))) := fun w _ => by
  have h := run_equalIn_ptr (t := t) 9999 a w
  have e : (eqG lit .eql t (.pointer a) (.pointer none)).run P w = ((Op.equalIn (9999 + 1) t (.pointer a) (.pointer none)).run P w).andThen fun b w => .ok (.bool b) w := by
    cases a <;> simp [eqG, eqGd, binOp, Op.equal, Op.maxDepth]
  rw [e, h]; rfl
theorem run_nep {lit : Bool} {t : TypeId} [PtrT t] (a : Option Addr) : Run w0 L (eqG lit .neq t (.pointer a) (.pointer none)) (.bool (decide (a ≠ none))) := fun w _ => by
  have h := run_equalIn_ptr (t := t) 9999 a w
  have e : (eqG lit .neq t (.pointer a) (.pointer none)).run P w = ((Op.equalIn (9999 + 1) t (.pointer a) (.pointer none)).run P w).andThen fun b w => .ok (.bool !b) w := by
    cases a <;> simp [eqG, eqGd, binOp, Op.equal, Op.maxDepth]
  rw [e, h]
  cases a <;> simp
theorem run_eqpS {lit : Bool} {t : TypeId} [PtrT t] (a : Addr) : Run w0 L (eqG lit .eql t (.pointer (some a)) (.pointer none)) (.bool false) := (run_eqp (some a)).F (by simp)
theorem run_nepS {lit : Bool} {t : TypeId} [PtrT t] (a : Addr) : Run w0 L (eqG lit .neq t (.pointer (some a)) (.pointer none)) (.bool true) := (run_nep (some a)).T (by simp)
theorem run_neqB {t : TypeId} (a b : Bool) (h : P.underlying t = some .bool) : Run w0 L (eqG false .neq t (.bool a) (.bool b)) (.bool (a != b)) := fun w _ => by
  have e : (Op.equalIn (9999 + 1) t (.bool a) (.bool b)).run P w = .ok (a == b) w := by
    unfold Op.equalIn; simp only [Sem.run_bind, run_underlying h, Result.andThen_ok]; rfl
  simp only [eqG, eqGd, binOp, Op.equal, Op.maxDepth, Sem.run_bind, Sem.run_pure, Result.andThen_ok]
  rw [show (10000 : Nat) = 9999 + 1 from rfl, e]; rfl
theorem run_eqfS {lit : Bool} {t : TypeId} [hT : FnT t] (fn : Fn) (a b : Array Value) : Run w0 L (eqG lit .eql t (.func fn a b) .nilFunc) (.bool false) := fun w _ => by
  have h := hT.h
  unfold fnT at h
  cases hu : P.underlying t with
  | none => rw [hu] at h; cases h
  | some x =>
    rw [hu] at h
    cases x <;> simp only [Bool.false_eq_true] at h
    have e : (Op.equalIn (9999 + 1) t (.func fn a b) .nilFunc).run P w = .ok false w := by
      unfold Op.equalIn; simp only [Sem.run_bind, run_underlying hu, Result.andThen_ok]; rfl
    simp only [eqG, eqGd, binOp, Op.equal, Op.maxDepth, Sem.run_bind, Sem.run_pure, Result.andThen_ok]
    rw [show (10000 : Nat) = 9999 + 1 from rfl, e]; rfl
theorem run_eqfN {lit : Bool} {t : TypeId} [hT : FnT t] : Run w0 L (eqG lit .eql t .nilFunc .nilFunc) (.bool true) := fun w _ => by
  have h := hT.h
  unfold fnT at h
  cases hu : P.underlying t with
  | none => rw [hu] at h; cases h
  | some x =>
    rw [hu] at h
    cases x <;> simp only [Bool.false_eq_true] at h
    have e : (Op.equalIn (9999 + 1) t .nilFunc .nilFunc).run P w = .ok true w := by
      unfold Op.equalIn; simp only [Sem.run_bind, run_underlying hu, Result.andThen_ok]; rfl
    simp only [eqG, eqGd, binOp, Op.equal, Op.maxDepth, Sem.run_bind, Sem.run_pure, Result.andThen_ok]
    rw [show (10000 : Nat) = 9999 + 1 from rfl, e]; rfl
theorem run_mi {t : TypeId} [hT : NoIfc t] (v : Value) : Run w0 L (makeInterface t v) (.iface t v) := fun w _ => by
  have h := hT.h
  unfold noIfc at h
  unfold makeInterface underlying
  cases hu : P.underlying t with
  | none => rw [hu] at h; cases h
  | some x => rw [hu] at h; cases x <;> first | (cases h; done) | simp [hu]
theorem run_mf (fn : Fn) (a b : Array Value) : Run w0 L (makeFunc fn a b) (.func fn a b) := fun w _ => rfl
theorem scal_run {t : TypeId} [hT : Scal t] (w : World) : (isAgg t).run P w = .ok false w := by
  have h := hT.h
  unfold scalT at h
  unfold isAgg underlying
  cases hu : P.underlying t with
  | none => rw [hu] at h; cases h
  | some d => rw [hu] at h; cases d <;> first | (cases h; done) | simp [hu]
theorem run_ixA {t e : TypeId} {len : Nat} [ElA t len e 1] [Scal e] {l : List Value} {v : Value} {k : IntKind} {i : Int} (m : Nat) (hi : i = m) (hl : m < len) (h : l[m]? = some v) : Run w0 L (Instr.index t (.agg l.toArray) (.int k i)) v := fun w _ => by
  obtain ⟨hu, x, hx, hsz⟩ := elA_und (t := t) (l := len) (e := e) (n := 1)
  subst hi
  unfold Instr.index asIntOf
  simp only [Sem.run_bind, Sem.run_pure, Result.andThen_ok, run_underlying hu]
  have h0 : (0 : Int) ≤ m ∧ (m : Int) < len := by omega
  simp only [h0, and_self, if_true, Sem.run_bind, run_sizeOf hx, Result.andThen_ok, hsz, Int.toNat_natCast, Nat.mul_one]
  unfold part
  simp only [Sem.run_bind, scal_run, Result.andThen_ok, Bool.false_eq_true, if_false]
  simp [h]
def vec (v : Value) (e : TypeId) (sz : Nat) (l : List Value) (n : Nat) : HP := exH fun (x : Option (Nat × Nat × List Value)) => match x with
  | none => pureH ((∃ a, v = .slice a 0 0) ∧ l = [] ∧ n = 0)
  | some (b, cap, junk) => star [pt b e (l ++ junk), pureH (v = .slice (some ⟨b, 0, none⟩) n cap ∧ l.length = n * sz ∧ (l ++ junk).length = cap * sz)]
theorem Imp.vec0 {v : Value} {e : TypeId} {sz : Nat} {a : Option Addr} (hv : v = .slice a 0 0) (h : Imp L L') : Imp L (vec v e sz [] 0 :: L') := by
  unfold vec
  exact Imp.exI none (Imp.pureI ⟨⟨a, hv⟩, rfl, rfl⟩ h)
theorem Imp.vec1 {e : TypeId} {sz : Nat} {b n cap : Nat} {l junk : List Value} (h1 : l.length = n * sz) (h2 : (l ++ junk).length = cap * sz) (h : Imp L (pt b e (l ++ junk) :: L')) :
    Imp L (vec (.slice (some ⟨b, 0, none⟩) n cap) e sz l n :: L') := by
  unfold vec
  refine Imp.exI (some (b, cap, junk)) (Imp.starI (h.trans (Imp.cons ?_)))
  exact Imp.pureI ⟨rfl, h1, h2⟩ (Imp.refl _)
theorem Imp.vecN {e : TypeId} {sz : Nat} {b n : Nat} {l : List Value} (h1 : l.length = n * sz) (h : Imp L (pt b e l :: L')) :
    Imp L (vec (.slice (some ⟨b, 0, none⟩) n n) e sz l n :: L') := Imp.vec1 (junk := []) h1 (by simpa using h1) (by simpa using h)
theorem Ent.vec {v : Value} {e : TypeId} {sz : Nat} {l : List Value} {n : Nat}
    (h0 : ∀ a, v = .slice a 0 0 → l = [] → n = 0 → Ent w0 L X)
    (h1 : ∀ b cap junk, v = .slice (some ⟨b, 0, none⟩) n cap → l.length = n * sz → (l ++ junk).length = cap * sz → Ent w0 (pt b e (l ++ junk) :: L) X) : Ent w0 (vec v e sz l n :: L) X := by
  unfold Gd.vec
  refine Ent.ex fun x => ?_
  match x with
  | none => exact Ent.pure fun ⟨⟨a, hv⟩, hl, hn⟩ => h0 a hv hl hn
  | some (b, cap, junk) =>
    refine Ent.star ?_
    show Ent w0 (pt b e (l ++ junk) :: pureH _ :: L) X
    refine Ent.at 1 rfl (Ent.pure fun ⟨hv, hl, hc⟩ => h1 b cap junk hv hl hc)
def RdS (w0 : World) (L : List HP) (v : Value) (sz m : Nat) (l : List Value) : Prop := ∃ a cap, v = .slice a m cap ∧ l.length = m * sz ∧ (l = [] ∨ ∃ b o, a = some ⟨b, o, none⟩ ∧ Cells w0 L b o l)
theorem RdS.at {b m cap sz : Nat} {l rest : List Value} {e : TypeId} (i : Nat) (hi : L[i]? = some (pt b e (l ++ rest))) (h : l.length = m * sz) : RdS w0 L (.slice (some ⟨b, 0, none⟩) m cap) sz m l :=
  ⟨_, _, rfl, h, .inr ⟨b, 0, rfl, cells_own i hi fun j v hj => by
    rw [Nat.zero_add, List.getElem?_append_left]
    · exact hj
    · exact (List.getElem?_eq_some_iff.1 hj).1⟩⟩
theorem RdS.all {b m cap sz : Nat} {l : List Value} {e : TypeId} (i : Nat) (hi : L[i]? = some (pt b e l)) (h : l.length = m * sz) : RdS w0 L (.slice (some ⟨b, 0, none⟩) m cap) sz m l :=
  RdS.at (rest := []) i (by simpa using hi) h
theorem RdS.nil {a : Option Addr} {cap sz : Nat} : RdS w0 L (.slice a 0 cap) sz 0 [] := ⟨_, _, rfl, by simp, .inl rfl⟩
theorem zer_info {t : TypeId} {l : List Value} [h : Zer t l] : ∃ i v, P.info? t = some i ∧ i.zero = some v ∧ v.cells.toList = l := by
  have h := h.h
  unfold zeroL at h
  cases hi : P.info? t with
  | none => rw [hi] at h; cases h
  | some i =>
    rw [hi] at h
    simp only [Option.bind_some] at h
    cases hz : i.zero with
    | none => rw [hz] at h; cases h
    | some v => rw [hz] at h; exact ⟨i, v, rfl, hz, by simpa using h⟩
theorem RdS.src {v : Value} {sz m : Nat} {l : List Value} (h : RdS w0 L v sz m l) {xt e : TypeId} [ElS xt e sz] (hone : ∀ v ∈ l, v.oneCell' = true) {w : World} (hs : Sat w0 L w) : Src P sz xt v m l w := by
  obtain ⟨hux, _⟩ := elS_und (t := xt) (e := e) (n := sz)
  obtain ⟨a, cap, rfl, hl, hc⟩ := h
  rcases hc with rfl | ⟨b, o, rfl, hcl⟩
  · have hz : m * sz = 0 := by simpa using hl.symm
    refine ⟨.inl ⟨e, hux⟩, fun _ => rfl, ?_, ?_, hl, hone⟩ <;> (cases a <;> simp [Builtin.firstCells, loadCells, hz, loadCellsFrom])
  · exact Src.ofSlice w hux ⟨b, o, none⟩ m cap l hl (fun j u hj => by rw [add_none]; exact hcl j u hj w hs) hone
theorem grownCap_ge' (w : World) (need old : Nat) (e : TypeId) : need ≤ grownCap w need old e := by simp [grownCap, Question.cut]
theorem setL_append (junk : List Value) : ∀ (vs l : List Value), setL (l ++ junk) l.length vs = l ++ setL junk 0 vs ∨ junk.length < vs.length := by
  intro vs l
  have key : ∀ (vs junk : List Value) (o : Nat), setL (l ++ junk) (l.length + o) vs = l ++ setL junk o vs := by
    intro vs
    induction vs with
    | nil => intro junk o; rfl
    | cons v vs ih =>
      intro junk o
      simp only [setL]
      rw [List.set_append_right _ _ (by omega), Nat.add_sub_cancel_left, Nat.add_assoc, ih]
  exact .inl (by simpa using key vs junk 0)
theorem setL_take : ∀ (vs junk : List Value), vs.length ≤ junk.length → setL junk 0 vs = vs ++ junk.drop vs.length := by
  have key : ∀ (vs pre junk : List Value), vs.length ≤ junk.length → setL (pre ++ junk) pre.length vs = pre ++ vs ++ junk.drop vs.length := by
    intro vs
    induction vs with
    | nil => intro pre junk _; simp [setL]
    | cons v vs ih =>
      intro pre junk h
      cases junk with
      | nil => simp at h
      | cons x junk =>
        simp only [setL]
        have e1 : (pre ++ x :: junk).set pre.length v = (pre ++ [v]) ++ junk := by simp
        have := ih (pre ++ [v]) junk (by simpa using h)
        rw [e1]
        simp only [List.length_append, List.length_cons, List.length_nil, Nat.zero_add] at this
        rw [this]
        simp
  intro vs junk h
  simpa using key vs [] junk h
theorem ent_append {st xt ty e : TypeId} {sz : Nat} [ElS st e sz] [ElS xt e sz] {by_ : Nat} [hB : Byt e by_] {zs : List Value} [Zer e zs] {s x : Value} {ls lx : List Value} {n m : Nat} {K : Value → World → Prop}
    (i : Nat) (hi : L[i]? = some (vec s e sz ls n)) (hx : RdS w0 (L.eraseIdx i) x sz m lx) (hzs : zs.length = sz) (hone : ∀ v ∈ lx, v.oneCell' = true) (hbd : (n + m) * by_ ≤ 140737488355328)
    (hsmall : n + m ≤ 9223372036854775807) (h : ∀ v', Ent w0 (vec v' e sz (ls ++ lx) (n + m) :: L.eraseIdx i) (K v')) : Ent w0 L (hV P (Builtin.append_ #[st, xt] ty #[s, x]) K) := by
  refine Ent.at i hi ?_
  obtain ⟨hu, _⟩ := elS_und (t := st) (e := e) (n := sz)
  obtain ⟨hux, xe', hxe', hsz'⟩ := elS_und (t := xt) (e := e) (n := sz)
  obtain ⟨xe, z, hxe, hz, hzl⟩ := zer_info (t := e) (l := zs)
  have hsz : xe.size = sz := by rw [hxe] at hxe'; cases hxe'; exact hsz'
  have hbytes : xe.bytes = by_ := by
    have h := hB.h
    unfold byteN at h; rw [hxe] at h; simpa using h
  have hlx : lx.length = m * sz := by obtain ⟨_, _, _, h, _⟩ := hx; exact h
  have hzc : z.cells.size = sz := by rw [← hzs, ← hzl]; simp
  have grow : ∀ (L1 : List HP) (base : Option Addr) (cap : Nat), s = .slice base n cap → cap < n + m → ls.length = n * sz → Imp L1 (L.eraseIdx i) → (∀ w, Sat w0 L1 w → (Builtin.firstCells sz n s).run P w = .ok ls.toArray w) →
      Ent w0 L1 (hV P (Builtin.append_ #[st, xt] ty #[s, x]) K) := by
    intro L1 base cap hs hlt hls hI hf w hw
    have hsrc : Src P xe.size xt x m lx w := by rw [hsz]; exact hx.src (e := e) hone (hI.sat hw)
    subst hs
    have hr := run_append_grow_src (P := P) w st xt ty e xe z hu hxe hz base n cap ls (by rw [hsz]; exact hf _ hw.drew) x m lx hsrc hlt (by omega) (growslice_fits hlt (by rw [hbytes]; exact hbd))
    have hge := grownCap_ge' w (n + m) cap e
    refine ⟨_, _, hr, h _ _ ?_⟩
    have hnew := (hI.sat hw).drew.new (o := .cells ((ls ++ lx).toArray ++ Builtin.zeroCells z.cells (grownCap w (n + m) cap e - (n + m))) e) (w' := w.drew.alloc (.cells ((ls ++ lx).toArray ++ Builtin.zeroCells z.cells (grownCap w (n + m) cap e - (n + m))) e)) rfl rfl rfl rfl
    have hpt : blk w.heap.size (.cells ((ls ++ lx).toArray ++ Builtin.zeroCells z.cells (grownCap w (n + m) cap e - (n + m))) e) = pt w.heap.size e (ls ++ lx ++ (Builtin.zeroCells z.cells (grownCap w (n + m) cap e - (n + m))).toList) := by
      unfold pt; congr 2; apply Array.ext'; simp
    have hnew' : Sat w0 (pt w.heap.size e (ls ++ lx ++ (Builtin.zeroCells z.cells (grownCap w (n + m) cap e - (n + m))).toList) :: L.eraseIdx i) (w.drew.alloc (.cells ((ls ++ lx).toArray ++ Builtin.zeroCells z.cells (grownCap w (n + m) cap e - (n + m))) e)) := by
      rw [← hpt]; exact hnew
    refine (Imp.vec1 (by rw [List.length_append, hls, hlx, Nat.add_mul]) ?_ (Imp.refl _)).sat hnew'
    rw [List.length_append, List.length_append, hls, hlx, Array.length_toList]
    simp only [Builtin.zeroCells, Array.size_map, Array.size_range, hzc]
    rw [← Nat.add_mul, ← Nat.add_mul]; congr 1; omega
  refine Ent.vec (fun a hs hl hn => ?_) (fun b cap junk hs hl hc => ?_)
  · subst hl; subst hn
    by_cases hm : m = 0
    · subst hm
      have hlx0 : lx = [] := List.eq_nil_of_length_eq_zero (by simpa using hlx)
      subst hlx0
      intro w hw
      subst hs
      refine ⟨.slice a 0 0, w, ?_, h _ w ((Imp.vec0 rfl (Imp.refl _)).sat hw)⟩
      have hsrc : Src P sz xt x 0 [] w := hx.src (e := e) hone hw
      unfold Builtin.append_
      simp [run_underlying hu, run_underlying hux, run_sizeOf hxe, hsz, hsrc.len, hsrc.cells]
      cases a <;> simp [storeCells]
    · exact grow _ a 0 hs (by omega) (by simp) (Imp.refl _) (fun w hw => by subst hs; cases a <;> simp [Builtin.firstCells, loadCells, loadCellsFrom])
  · by_cases hroom : n + m ≤ cap
    · intro w hw
      have hm0 := hw.mem 0 rfl
      have hsrc : Src P sz xt x m lx w := hx.src (e := e) hone hw.tail
      have hjl : lx.length ≤ junk.length := by
        have h1 : (n + m) * sz ≤ cap * sz := Nat.mul_le_mul_right _ hroom
        rw [List.length_append, hl] at hc
        rw [Nat.add_mul] at h1
        omega
      obtain ⟨w', e1, e2, e3, e4, e5, e6⟩ := run_storeCells (b := b) (o := n * sz) (T := e) lx 0 w (ls ++ junk) hm0.2 (by rw [List.length_append, hl]; omega) hone
      subst hs
      refine ⟨.slice (some ⟨b, 0, none⟩) (n + m) cap, w', ?_, h _ w' ?_⟩
      · unfold Builtin.append_
        simp [run_underlying hu, run_underlying hux, run_sizeOf hxe, hsz, hsrc.len, hsrc.cells, hroom, add_none, e1]
      · have hput := hw.put 0 rfl e2 e3 e4 e5 e6
        have hset : setL (ls ++ junk) (n * sz + 0) lx = (ls ++ lx) ++ junk.drop lx.length := by
          rw [Nat.add_zero, ← hl]
          rcases setL_append junk lx ls with h1 | h1
          · rw [h1, setL_take lx junk hjl, List.append_assoc]
          · omega
        rw [hset] at hput
        refine (Imp.vec1 (by rw [List.length_append, hl, hlx, Nat.add_mul]) ?_ (Imp.refl _)).sat hput
        rw [List.length_append] at hc
        simp only [List.length_append, List.length_drop]
        omega
    · exact grow _ (some ⟨b, 0, none⟩) cap hs (by omega) hl Imp.drop1 (fun w hw => by
        subst hs
        have := run_firstCells_some (P := P) w sz n ⟨b, 0, none⟩ n cap ls hl (fun j v hj => by
          rw [add_none]
          exact cell_own (L := _ :: L.eraseIdx i) (T := e) (l := ls ++ junk) 0 rfl (by rw [Nat.zero_add, List.getElem?_append_left (List.getElem?_eq_some_iff.1 hj).1]; exact hj) w hw)
        exact this)
theorem zeros_eq (zs : List Value) : ∀ c : Nat, (List.range (c * zs.length)).map (fun i => zs.toArray[i % zs.toArray.size]!) = (List.replicate c zs).flatten
  | 0 => by simp
  | c + 1 => by
    rw [Nat.add_mul, Nat.one_mul, List.range_add, List.map_append, zeros_eq zs c, List.replicate_succ', List.flatten_append]
    congr 1
    rw [List.map_map]
    simp only [List.flatten_cons, List.flatten_nil, List.append_nil]
    apply List.ext_getElem
    · simp
    · intro j h1 h2
      have hj : j < zs.length := by simpa using h2
      simp only [List.getElem_map, List.getElem_range, Function.comp, List.size_toArray]
      rw [Nat.add_comm (c * zs.length) j, Nat.add_mul_mod_self_right, Nat.mod_eq_of_lt hj]
      simp [hj]
theorem zeros_arr (z : Array Value) (zs : List Value) (h : z.toList = zs) (c : Nat) : (Array.range (c * zs.length)).map (z[· % z.size]!) = ((List.replicate c zs).flatten).toArray := by
  subst h
  apply Array.ext'
  rw [Array.toList_map, Array.toList_range]
  have := zeros_eq z.toList c
  simpa using this
theorem ent_make {t e : TypeId} {sz : Nat} [ElS t e sz] {by_ : Nat} [hB : Byt e by_] {zs : List Value} [Zer e zs] (hzs : zs.length = sz) {k k2 : IntKind} {a b : Int} {K : Value → World → Prop} (n c : Nat) (ha : a = n) (hb : b = c) (hnc : n ≤ c) (hc : c * by_ ≤ 281474976710656) (hc2 : c ≤ 9223372036854775807)
    (h : ∀ v, Ent w0 (vec v e sz ((List.replicate n zs).flatten) n :: L) (K v)) : Ent w0 L (hV P (makeSlice t (.int k a) (.int k2 b)) K) := by
  obtain ⟨hu, _⟩ := elS_und (t := t) (e := e) (n := sz)
  obtain ⟨xe, z, hxe, hz, hzl⟩ := zer_info (t := e) (l := zs)
  obtain ⟨_, xe', hxe', hsz'⟩ := elS_und (t := t) (e := e) (n := sz)
  have hsz : xe.size = sz := by rw [hxe] at hxe'; cases hxe'; exact hsz'
  have hbytes : xe.bytes = by_ := by
    have h := hB.h
    unfold byteN at h; rw [hxe] at h; simpa using h
  subst ha; subst hb
  have hw1 : IntKind.i64.wrap (n : Int) = n := wrap_i64 (by omega)
  have hw2 : IntKind.i64.wrap (c : Int) = c := wrap_i64 (by omega)
  have hrow : ∀ w, (makeSlice t (.int k (n : Int)) (.int k2 (c : Int))).run P w = ((newRow e ((List.replicate c zs).flatten).toArray).run P w).andThen fun a w' => .ok (.slice (some a) n c) w' := by
    intro w
    unfold makeSlice asInt asIntOf
    have h1 : ¬ ((xe.bytes : Int) * c > 2 ^ 48) := by
      rw [hbytes]
      have h5 : ((c : Int) * (by_ : Int)) ≤ 281474976710656 := by
        have := Int.ofNat_le.2 hc
        rw [← Int.natCast_mul]; exact this
      rw [Int.mul_comm, show (2 : Int) ^ 48 = 281474976710656 from rfl]
      omega
    simp only [Sem.run_bind, run_underlying hu, Result.andThen_ok, Sem.run_pure, run_typeInfo hxe, hw1, hw2, h1, decide_false, Bool.or_false]
    have h2 : decide ((c : Int) < 0) = false := by simp
    have h3 : decide ((n : Int) < 0) = false := by simp
    have h4 : decide ((n : Int) > c) = false := by simp; omega
    simp only [h2, h3, h4, Bool.or_false, Bool.false_eq_true, if_false, Sem.run_bind, run_askRoom, Result.andThen_ok, run_sizeOf hxe, hsz, Int.toNat_natCast]
    by_cases h0 : c * sz = 0
    · have hf : (List.replicate c zs).flatten = [] := List.eq_nil_of_length_eq_zero (by simp [hzs, h0])
      have he : Array.map (fun x : Nat => (default : Value)) (Array.range 0) = #[] := by apply Array.ext'; simp
      simp [h0, hf, newRow, he]
    · have hzr : (zeroValue e).run P w = .ok z w := by simp [zeroValue, typeInfo, hxe, hz]
      simp only [h0, if_false, Sem.run_bind, hzr, Result.andThen_ok, Sem.run_pure]
      rw [← hzs, zeros_arr z.cells zs hzl c]
  refine ent_newRow (e := e) (l := (List.replicate c zs).flatten) (f := fun a => .slice (some a) n c) hrow fun b => ?_
  refine (h (.slice (some ⟨b, 0, none⟩) n c)).imp ?_
  have hsplit : (List.replicate c zs).flatten = (List.replicate n zs).flatten ++ (List.replicate (c - n) zs).flatten := by
    rw [← List.flatten_append, List.replicate_append_replicate]; congr 2; omega
  rw [hsplit]
  refine Imp.vec1 (by simp [hzs]) ?_ (Imp.refl _)
  rw [← hsplit]; simp [hzs]
end
end Go.Gd
namespace Go.Gd
open Go.Instr
theorem agg_cells (cs : Array Value) : (Value.agg cs).cells = cs := rfl
def layL (P : Program) (t : TypeId) : Option (List (Nat × Nat)) := match P.underlying t with
  | some (.struct fs) => fs.toList.mapM fun f => (sizeN P f.type).map fun n => (f.offset, n)
  | _ => none
class Lay (t : TypeId) (l : outParam (List (Nat × Nat))) : Prop where h : layL P t = some l
section
variable {w0 : World} {L : List HP}
theorem lay_run {fs : List Field} {pl : List (Nat × Nat)} (h : (fs.mapM fun f => (sizeN P f.type).map fun n => (f.offset, n)) = some pl) (w : World) :
    ((fs.mapM (m := Sem) fun f => do pure (f.offset, ← sizeOf f.type)).run P w) = .ok pl w := by
  induction fs generalizing pl with
  | nil => simp at h; subst h; rfl
  | cons f fs ih =>
    rw [List.mapM_cons] at h ⊢
    unfold sizeN at h
    cases hi : P.info? f.type with
    | none => rw [hi] at h; simp at h
    | some i =>
      rw [hi] at h
      cases hm : (fs.mapM fun f => (sizeN P f.type).map fun n => (f.offset, n)) with
      | none => unfold sizeN at hm; rw [hm] at h; simp at h
      | some l =>
        have hm' := hm
        unfold sizeN at hm'
        rw [hm'] at h
        simp at h
        subst h
        simp only [Sem.run_bind, run_sizeOf hi, Result.andThen_ok, Sem.run_pure, ih hm]
theorem run_build {t : TypeId} {pl : List (Nat × Nat)} [hL : Lay t pl] {zs : List Value} [Zer t zs] {parts : List (Nat × Value)} {cs : List Value} (h : fill (pl[·]?) zs.toArray parts = some cs.toArray) : Run w0 L (build t parts.toArray) (.agg cs.toArray) := fun w _ => by
  have hl := hL.h
  obtain ⟨z, hz, hzl⟩ := zer_run (t := t) (l := zs)
  unfold layL at hl
  cases hu : P.underlying t with
  | none => rw [hu] at hl; cases hl
  | some d =>
    rw [hu] at hl
    cases d <;> simp only [reduceCtorEq] at hl
    rename_i fs
    have hr := lay_run hl w
    have hzc : z.cells = zs.toArray := by rw [← hzl]
    unfold build
    simp only [Sem.run_bind, hz, Result.andThen_ok, run_underlying hu]
    have hfs : fs = fs.toList.toArray := rfl
    rw [hfs, List.mapM_toArray]
    simp only [Sem.run_map, hr, Result.andThen_ok, hzc, List.getElem?_toArray, h, Sem.run_pure]
theorem ent_bs {t e : TypeId} {sz : Nat} [ElS t e sz] {zs : List Value} [Zer e zs] (hzs : zs.length = sz) {n : Nat} (hn : n * sz ≤ 16777216) {parts : List (Nat × Value)} {cs : List Value} {K : Value → World → Prop}
    (h : fill (fun i => some (i * sz, sz)) ((List.replicate n zs).flatten).toArray parts = some cs.toArray)
    (hk : ∀ b, Ent w0 (pt b e cs :: L) (K (.slice (some ⟨b, 0, none⟩) n n))) : Ent w0 L (hV P (buildSlice t n parts.toArray) K) := by
  obtain ⟨hu, _⟩ := elS_und (t := t) (e := e) (n := sz)
  obtain ⟨_, xe, hxe, hsz⟩ := elS_und (t := t) (e := e) (n := sz)
  obtain ⟨z, hz, hzl⟩ := zer_run (t := e) (l := zs)
  refine ent_newRow (e := e) (l := cs) (f := fun a => .slice (some a) n n) (fun w => ?_) hk
  unfold buildSlice
  simp only [Sem.run_bind, run_underlying hu, Result.andThen_ok, run_sizeOf hxe, hsz]
  have h1 : ¬ (n * sz > 2 ^ 24) := by have : (2 : Nat) ^ 24 = 16777216 := rfl; omega
  rw [if_neg h1]
  by_cases h0 : n * sz = 0
  · have hf : (List.replicate n zs).flatten = [] := List.eq_nil_of_length_eq_zero (by simp [hzs, h0])
    rw [hf] at h
    have he : Array.map (fun x : Nat => (#[] : Array Value)[x % (#[] : Array Value).size]!) (Array.range 0) = #[] := by apply Array.ext'; simp
    simp only [h0, if_true, Sem.run_bind, Sem.run_pure, Result.andThen_ok, he, List.toList_toArray]
    rw [h]; rfl
  · have hzc : z.cells.toList = zs := hzl
    simp only [h0, if_false, Sem.run_bind, hz, Sem.run_pure, Result.andThen_ok, List.toList_toArray]
    rw [← hzs, zeros_arr z.cells zs hzl n]
    rw [← hzs] at h
    rw [h]; rfl
end
end Go.Gd
set_option maxRecDepth 100000
namespace Go.Gd
instance : Scal 3 := ⟨by unfold P; kernel_rfl⟩
instance : Scal 4 := ⟨by unfold P; kernel_rfl⟩
instance : Scal 5 := ⟨by unfold P; kernel_rfl⟩
instance : Scal 23 := ⟨by unfold P; kernel_rfl⟩
instance : Scal 29 := ⟨by unfold P; kernel_rfl⟩
instance : Scal 32 := ⟨by unfold P; kernel_rfl⟩
instance : Scal 35 := ⟨by unfold P; kernel_rfl⟩
instance : Scal 88 := ⟨by unfold P; kernel_rfl⟩
instance : Scal 95 := ⟨by unfold P; kernel_rfl⟩
instance : Scal 98 := ⟨by unfold P; kernel_rfl⟩
instance : Scal 107 := ⟨by unfold P; kernel_rfl⟩
instance : Scal 153 := ⟨by unfold P; kernel_rfl⟩
instance : Scal 155 := ⟨by unfold P; kernel_rfl⟩
instance : Scal 168 := ⟨by unfold P; kernel_rfl⟩
instance : Scal 207 := ⟨by unfold P; kernel_rfl⟩
instance : Scal 223 := ⟨by unfold P; kernel_rfl⟩
instance : Scal 253 := ⟨by unfold P; kernel_rfl⟩
instance : Scal 257 := ⟨by unfold P; kernel_rfl⟩
instance : Scal 288 := ⟨by unfold P; kernel_rfl⟩
instance : Scal 302 := ⟨by unfold P; kernel_rfl⟩
instance : AggT 22 3 := ⟨by unfold P; kernel_rfl⟩
instance : AggT 25 17 := ⟨by unfold P; kernel_rfl⟩
instance : AggT 37 11 := ⟨by unfold P; kernel_rfl⟩
instance : AggT 39 12 := ⟨by unfold P; kernel_rfl⟩
instance : AggT 102 4 := ⟨by unfold P; kernel_rfl⟩
instance : AggT 114 4 := ⟨by unfold P; kernel_rfl⟩
instance : AggT 141 2 := ⟨by unfold P; kernel_rfl⟩
instance : AggT 161 6 := ⟨by unfold P; kernel_rfl⟩
instance : AggT 217 4 := ⟨by unfold P; kernel_rfl⟩
instance : AggT 232 15 := ⟨by unfold P; kernel_rfl⟩
instance : AggT 290 3 := ⟨by unfold P; kernel_rfl⟩
instance : AggT 304 2 := ⟨by unfold P; kernel_rfl⟩
instance : Siz 3 1 := ⟨by unfold P; kernel_rfl⟩
instance : Siz 4 1 := ⟨by unfold P; kernel_rfl⟩
instance : Siz 22 3 := ⟨by unfold P; kernel_rfl⟩
instance : Siz 23 1 := ⟨by unfold P; kernel_rfl⟩
instance : Siz 25 17 := ⟨by unfold P; kernel_rfl⟩
instance : Siz 32 1 := ⟨by unfold P; kernel_rfl⟩
instance : Siz 35 1 := ⟨by unfold P; kernel_rfl⟩
instance : Siz 37 11 := ⟨by unfold P; kernel_rfl⟩
instance : Siz 39 12 := ⟨by unfold P; kernel_rfl⟩
instance : Siz 114 4 := ⟨by unfold P; kernel_rfl⟩
instance : Siz 141 2 := ⟨by unfold P; kernel_rfl⟩
instance : Siz 161 6 := ⟨by unfold P; kernel_rfl⟩
instance : Siz 232 15 := ⟨by unfold P; kernel_rfl⟩
instance : Siz 253 1 := ⟨by unfold P; kernel_rfl⟩
instance : Siz 290 3 := ⟨by unfold P; kernel_rfl⟩
instance : Siz 295 3 := ⟨by unfold P; kernel_rfl⟩
instance : Byt 3 8 := ⟨by unfold P; kernel_rfl⟩
instance : Byt 5 1 := ⟨by unfold P; kernel_rfl⟩
instance : Byt 35 24 := ⟨by unfold P; kernel_rfl⟩
instance : Byt 37 104 := ⟨by unfold P; kernel_rfl⟩
instance : Byt 114 32 := ⟨by unfold P; kernel_rfl⟩
instance : Byt 295 24 := ⟨by unfold P; kernel_rfl⟩
instance : Byt 298 32 := ⟨by unfold P; kernel_rfl⟩
instance : Byt 304 16 := ⟨by unfold P; kernel_rfl⟩
instance : FldO 25 0 0 := ⟨by unfold P; kernel_rfl⟩
instance : FldO 25 1 1 := ⟨by unfold P; kernel_rfl⟩
instance : FldO 25 2 2 := ⟨by unfold P; kernel_rfl⟩
instance : FldO 25 3 3 := ⟨by unfold P; kernel_rfl⟩
instance : FldO 25 4 4 := ⟨by unfold P; kernel_rfl⟩
instance : FldO 25 5 5 := ⟨by unfold P; kernel_rfl⟩
instance : FldO 25 6 6 := ⟨by unfold P; kernel_rfl⟩
instance : FldO 25 7 9 := ⟨by unfold P; kernel_rfl⟩
instance : FldO 25 8 12 := ⟨by unfold P; kernel_rfl⟩
instance : FldO 25 9 13 := ⟨by unfold P; kernel_rfl⟩
instance : FldO 25 10 14 := ⟨by unfold P; kernel_rfl⟩
instance : FldO 25 11 15 := ⟨by unfold P; kernel_rfl⟩
instance : FldO 25 12 16 := ⟨by unfold P; kernel_rfl⟩
instance : FldO 37 0 0 := ⟨by unfold P; kernel_rfl⟩
instance : FldO 37 1 1 := ⟨by unfold P; kernel_rfl⟩
instance : FldO 37 2 2 := ⟨by unfold P; kernel_rfl⟩
instance : FldO 37 3 3 := ⟨by unfold P; kernel_rfl⟩
instance : FldO 37 4 4 := ⟨by unfold P; kernel_rfl⟩
instance : FldO 37 5 5 := ⟨by unfold P; kernel_rfl⟩
instance : FldO 37 6 6 := ⟨by unfold P; kernel_rfl⟩
instance : FldO 37 7 7 := ⟨by unfold P; kernel_rfl⟩
instance : FldO 37 8 8 := ⟨by unfold P; kernel_rfl⟩
instance : FldO 37 9 9 := ⟨by unfold P; kernel_rfl⟩
instance : FldO 37 10 10 := ⟨by unfold P; kernel_rfl⟩
instance : FldO 39 1 1 := ⟨by unfold P; kernel_rfl⟩
instance : FldO 94 0 0 := ⟨by unfold P; kernel_rfl⟩
instance : FldO 94 1 1 := ⟨by unfold P; kernel_rfl⟩
instance : FldO 94 2 2 := ⟨by unfold P; kernel_rfl⟩
instance : FldO 102 0 0 := ⟨by unfold P; kernel_rfl⟩
instance : FldO 102 1 1 := ⟨by unfold P; kernel_rfl⟩
instance : FldO 102 2 2 := ⟨by unfold P; kernel_rfl⟩
instance : FldO 102 3 3 := ⟨by unfold P; kernel_rfl⟩
instance : FldO 105 0 0 := ⟨by unfold P; kernel_rfl⟩
instance : FldO 105 1 17 := ⟨by unfold P; kernel_rfl⟩
instance : FldO 105 2 18 := ⟨by unfold P; kernel_rfl⟩
instance : FldO 105 3 19 := ⟨by unfold P; kernel_rfl⟩
instance : FldO 105 4 20 := ⟨by unfold P; kernel_rfl⟩
instance : FldO 114 0 0 := ⟨by unfold P; kernel_rfl⟩
instance : FldO 114 1 1 := ⟨by unfold P; kernel_rfl⟩
instance : FldO 114 2 2 := ⟨by unfold P; kernel_rfl⟩
instance : FldO 114 3 3 := ⟨by unfold P; kernel_rfl⟩
instance : FldO 141 0 0 := ⟨by unfold P; kernel_rfl⟩
instance : FldO 141 1 1 := ⟨by unfold P; kernel_rfl⟩
instance : FldO 157 0 0 := ⟨by unfold P; kernel_rfl⟩
instance : FldO 157 1 17 := ⟨by unfold P; kernel_rfl⟩
instance : FldO 157 2 18 := ⟨by unfold P; kernel_rfl⟩
instance : FldO 157 3 19 := ⟨by unfold P; kernel_rfl⟩
instance : FldO 159 0 0 := ⟨by unfold P; kernel_rfl⟩
instance : FldO 159 1 4 := ⟨by unfold P; kernel_rfl⟩
instance : FldO 161 0 0 := ⟨by unfold P; kernel_rfl⟩
instance : FldO 161 1 1 := ⟨by unfold P; kernel_rfl⟩
instance : FldO 161 2 2 := ⟨by unfold P; kernel_rfl⟩
instance : FldO 161 3 3 := ⟨by unfold P; kernel_rfl⟩
instance : FldO 161 4 4 := ⟨by unfold P; kernel_rfl⟩
instance : FldO 161 5 5 := ⟨by unfold P; kernel_rfl⟩
instance : FldO 217 0 0 := ⟨by unfold P; kernel_rfl⟩
instance : FldO 217 1 1 := ⟨by unfold P; kernel_rfl⟩
instance : FldO 217 2 2 := ⟨by unfold P; kernel_rfl⟩
instance : FldO 217 3 3 := ⟨by unfold P; kernel_rfl⟩
instance : FldO 226 0 0 := ⟨by unfold P; kernel_rfl⟩
instance : FldO 226 1 1 := ⟨by unfold P; kernel_rfl⟩
instance : FldO 226 2 2 := ⟨by unfold P; kernel_rfl⟩
instance : FldO 255 0 0 := ⟨by unfold P; kernel_rfl⟩
instance : FldO 255 1 1 := ⟨by unfold P; kernel_rfl⟩
instance : FldO 255 2 4 := ⟨by unfold P; kernel_rfl⟩
instance : FldO 255 3 5 := ⟨by unfold P; kernel_rfl⟩
instance : FldO 261 0 0 := ⟨by unfold P; kernel_rfl⟩
instance : FldO 263 0 0 := ⟨by unfold P; kernel_rfl⟩
instance : FldO 263 1 1 := ⟨by unfold P; kernel_rfl⟩
instance : FldO 263 2 2 := ⟨by unfold P; kernel_rfl⟩
instance : FldO 264 0 0 := ⟨by unfold P; kernel_rfl⟩
instance : FldO 267 0 0 := ⟨by unfold P; kernel_rfl⟩
instance : FldO 267 1 1 := ⟨by unfold P; kernel_rfl⟩
instance : FldO 267 2 5 := ⟨by unfold P; kernel_rfl⟩
instance : FldO 267 3 6 := ⟨by unfold P; kernel_rfl⟩
instance : FldO 267 4 70 := ⟨by unfold P; kernel_rfl⟩
instance : FldO 268 0 0 := ⟨by unfold P; kernel_rfl⟩
instance : FldO 270 0 0 := ⟨by unfold P; kernel_rfl⟩
instance : FldO 270 1 1 := ⟨by unfold P; kernel_rfl⟩
instance : FldO 290 0 0 := ⟨by unfold P; kernel_rfl⟩
instance : FldO 290 1 1 := ⟨by unfold P; kernel_rfl⟩
instance : FldO 290 2 2 := ⟨by unfold P; kernel_rfl⟩
instance : FldO 293 0 0 := ⟨by unfold P; kernel_rfl⟩
instance : FldO 293 1 192 := ⟨by unfold P; kernel_rfl⟩
instance : FldO 295 0 0 := ⟨by unfold P; kernel_rfl⟩
instance : FldO 295 1 1 := ⟨by unfold P; kernel_rfl⟩
instance : FldO 295 2 2 := ⟨by unfold P; kernel_rfl⟩
instance : FldO 298 0 0 := ⟨by unfold P; kernel_rfl⟩
instance : FldO 304 0 0 := ⟨by unfold P; kernel_rfl⟩
instance : FldO 304 1 1 := ⟨by unfold P; kernel_rfl⟩
instance : ElS 23 114 4 := ⟨by unfold P; kernel_rfl⟩
instance : ElS 26 39 12 := ⟨by unfold P; kernel_rfl⟩
instance : ElS 35 5 1 := ⟨by unfold P; kernel_rfl⟩
instance : ElS 43 37 11 := ⟨by unfold P; kernel_rfl⟩
instance : ElS 64 3 1 := ⟨by unfold P; kernel_rfl⟩
instance : ElS 88 35 1 := ⟨by unfold P; kernel_rfl⟩
instance : ElS 253 298 4 := ⟨by unfold P; kernel_rfl⟩
instance : ElS 273 223 1 := ⟨by unfold P; kernel_rfl⟩
instance : ElS 288 295 3 := ⟨by unfold P; kernel_rfl⟩
instance : ElS 302 304 2 := ⟨by unfold P; kernel_rfl⟩
instance : ElA 22 3 3 1 := ⟨by unfold P; kernel_rfl⟩
instance : ElA 108 15 107 1 := ⟨by unfold P; kernel_rfl⟩
instance : ElA 116 32 4 1 := ⟨by unfold P; kernel_rfl⟩
instance : ElA 119 4 3 1 := ⟨by unfold P; kernel_rfl⟩
instance : ElA 232 15 168 1 := ⟨by unfold P; kernel_rfl⟩
instance : ElA 265 64 3 1 := ⟨by unfold P; kernel_rfl⟩
instance : ElA 291 64 290 3 := ⟨by unfold P; kernel_rfl⟩
instance : IntT 3 .i64 := ⟨by unfold P; kernel_rfl⟩
instance : IntT 5 .u8 := ⟨by unfold P; kernel_rfl⟩
instance : IntT 32 .i64 := ⟨by unfold P; kernel_rfl⟩
instance : IntT 168 .u64 := ⟨by unfold P; kernel_rfl⟩
instance : PtrT 29 := ⟨by unfold P; kernel_rfl⟩
instance : PtrT 31 := ⟨by unfold P; kernel_rfl⟩
instance : PtrT 95 := ⟨by unfold P; kernel_rfl⟩
instance : PtrT 98 := ⟨by unfold P; kernel_rfl⟩
instance : PtrT 207 := ⟨by unfold P; kernel_rfl⟩
instance : PtrT 210 := ⟨by unfold P; kernel_rfl⟩
instance : PtrT 213 := ⟨by unfold P; kernel_rfl⟩
instance : PtrT 218 := ⟨by unfold P; kernel_rfl⟩
instance : PtrT 257 := ⟨by unfold P; kernel_rfl⟩
instance : FnT 107 := ⟨by unfold P; kernel_rfl⟩
instance : NoIfc 210 := ⟨by unfold P; kernel_rfl⟩
instance : NoIfc 213 := ⟨by unfold P; kernel_rfl⟩
instance : NoIfc 218 := ⟨by unfold P; kernel_rfl⟩
instance : MapT 155 3 35 := ⟨by unfold P; kernel_rfl⟩
instance : Zer 3 [.int .i64 0] := ⟨by unfold P; kernel_rfl⟩
instance : Zer 5 [.int .u8 0] := ⟨by unfold P; kernel_rfl⟩
instance : Zer 22 [.int .i64 0, .int .i64 0, .int .i64 0] := ⟨by unfold P; kernel_rfl⟩
instance : Zer 25 [.int .i64 0, .int .i64 0, .int .i64 0, .int .i64 0, .int .i64 0, .int .i64 0, .int .i64 0, .int .i64 0, .int .i64 0, .int .i64 0, .int .i64 0, .int .i64 0, .int .i64 0, .int .i64 0, .int .i64 0, .int .i64 0, .slice none 0 0] := ⟨by unfold P; kernel_rfl⟩
instance : Zer 35 [.slice none 0 0] := ⟨by unfold P; kernel_rfl⟩
instance : ZeV 35 (.slice none 0 0) := ⟨by unfold P; kernel_rfl⟩
instance : Zer 37 [.int .i64 0, .int .i64 0, .int .i64 0, .int .i64 0, .int .i64 0, .int .i64 0, .int .i64 0, .int .i64 0, .int .i64 0, .bool false, .slice none 0 0] := ⟨by unfold P; kernel_rfl⟩
instance : Zer 39 [.int .i64 0, .int .i64 0, .int .i64 0, .int .i64 0, .int .i64 0, .int .i64 0, .int .i64 0, .int .i64 0, .int .i64 0, .int .i64 0, .bool false, .slice none 0 0] := ⟨by unfold P; kernel_rfl⟩
instance : Zer 94 [.slice none 0 0, .int .i64 0, .bool false] := ⟨by unfold P; kernel_rfl⟩
instance : Zer 102 [.int .i64 0, .int .i64 0, .int .i64 0, .int .i64 0] := ⟨by unfold P; kernel_rfl⟩
instance : Zer 105 [.int .i64 0, .int .i64 0, .int .i64 0, .int .i64 0, .int .i64 0, .int .i64 0, .int .i64 0, .int .i64 0, .int .i64 0, .int .i64 0, .int .i64 0, .int .i64 0, .int .i64 0, .int .i64 0, .int .i64 0, .int .i64 0, .slice none 0 0, .pointer none, .pointer none, .bool false, .int .i64 0, .map none] := ⟨by unfold P; kernel_rfl⟩
instance : Zer 108 [.nilFunc, .nilFunc, .nilFunc, .nilFunc, .nilFunc, .nilFunc, .nilFunc, .nilFunc, .nilFunc, .nilFunc, .nilFunc, .nilFunc, .nilFunc, .nilFunc, .nilFunc] := ⟨by unfold P; kernel_rfl⟩
instance : Zer 114 [.int .i64 0, .int .i64 0, .int .i64 0, .bool false] := ⟨by unfold P; kernel_rfl⟩
def zs116 : List Value := List.replicate 32 (.bool false)
instance : Zer 116 zs116 := ⟨by unfold P; kernel_rfl⟩
instance : Zer 141 [.int .i64 0, .slice none 0 0] := ⟨by unfold P; kernel_rfl⟩
instance : Zer 157 [.int .i64 0, .int .i64 0, .int .i64 0, .int .i64 0, .int .i64 0, .int .i64 0, .int .i64 0, .int .i64 0, .int .i64 0, .int .i64 0, .int .i64 0, .int .i64 0, .int .i64 0, .int .i64 0, .int .i64 0, .int .i64 0, .slice none 0 0, .int .i64 0, .nilIface, .map none] := ⟨by unfold P; kernel_rfl⟩
instance : Zer 159 [.int .i64 0, .int .i64 0, .int .i64 0, .int .i64 0, .pointer none] := ⟨by unfold P; kernel_rfl⟩
instance : Zer 161 [.int .i64 0, .int .i64 0, .int .i64 0, .int .i64 0, .int .i64 0, .slice none 0 0] := ⟨by unfold P; kernel_rfl⟩
instance : Zer 217 [.int .i64 0, .int .i64 0, .int .i64 0, .int .i64 0] := ⟨by unfold P; kernel_rfl⟩
instance : Zer 223 [.pointer none] := ⟨by unfold P; kernel_rfl⟩
instance : Zer 226 [.slice none 0 0, .int .i64 0, .bool false] := ⟨by unfold P; kernel_rfl⟩
instance : Zer 232 [.int .u64 0, .int .u64 0, .int .u64 0, .int .u64 0, .int .u64 0, .int .u64 0, .int .u64 0, .int .u64 0, .int .u64 0, .int .u64 0, .int .u64 0, .int .u64 0, .int .u64 0, .int .u64 0, .int .u64 0] := ⟨by unfold P; kernel_rfl⟩
instance : Zer 255 [.int .i64 0, .int .i64 0, .int .i64 0, .int .i64 0, .slice none 0 0, .slice none 0 0] := ⟨by unfold P; kernel_rfl⟩
instance : Zer 261 [.pointer none] := ⟨by unfold P; kernel_rfl⟩
instance : Zer 263 [.pointer none, .pointer none, .int .i64 0] := ⟨by unfold P; kernel_rfl⟩
instance : Zer 264 [.pointer none] := ⟨by unfold P; kernel_rfl⟩
def zs267 : List Value := [.pointer none] ++ List.replicate 133 (.int .i64 0)
instance : Zer 267 zs267 := ⟨by unfold P; kernel_rfl⟩
instance : Zer 268 [.pointer none] := ⟨by unfold P; kernel_rfl⟩
instance : Zer 270 [.pointer none, .int .i64 0] := ⟨by unfold P; kernel_rfl⟩
instance : Zer 290 [.int .i64 0, .int .i64 0, .int .i64 0] := ⟨by unfold P; kernel_rfl⟩
def zs293 : List Value := List.replicate 192 (.int .i64 0) ++ [.slice none 0 0]
instance : Zer 293 zs293 := ⟨by unfold P; kernel_rfl⟩
instance : Zer 295 [.int .i64 0, .int .i64 0, .int .i64 0] := ⟨by unfold P; kernel_rfl⟩
instance : Zer 298 [.int .i64 0, .int .i64 0, .int .i64 0, .int .i64 0] := ⟨by unfold P; kernel_rfl⟩
instance : Zer 304 [.int .i64 0, .int .i64 0] := ⟨by unfold P; kernel_rfl⟩
end Go.Gd
