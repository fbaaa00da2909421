/- A reading of the models code as a plain predicate transformer (den), proved sound for Calls: frames are functions, regions that draw their order are read in one canonical order. Conditions: none beyond those in the theorems. Regions that draw their order: a run in one canonical order serves every order, where quiet operations yield the same in a class of worlds that the others keep. Conditions: none beyond those in the theorems. -/
import Derived.Orders
import Derived.ScopeJumps
import Derived.KernelRfl
import Derived.Tactics
set_option linter.unusedVariables false
set_option linter.unusedSimpArgs false
namespace Go.Gd
abbrev Frm := Nat → Value
def upd (f : Frm) (d : Nat) (v : Value) : Frm := fun t => bif Nat.beq t d then v else f t
def updO (f : Frm) (d : Option Tmp) (v : Value) : Frm := match d with | some d => upd f d v | none => f
def ev (f : Frm) : Operand → Value
  | .tmp t => f t
  | .const v => v
  | .global g => .pointer (some ⟨g, 0, none⟩)
  | .func g => .func (.func g) #[] #[]
def Agr (n : Nat) (f : Frm) (a : Act) : Prop := a.defers = [] ∧ a.tmps.size = n ∧ ∀ t, a.tmps.getD t undef = f t
theorem Agr.eval {n : Nat} {f : Frm} {a : Act} (h : Agr n f a) : a.eval = ev f := by
  funext x
  cases x <;> simp only [Act.eval, ev]
  exact h.2.2 _
def dstOk (n : Nat) (o : Oper) : Bool := match o.dst with | some d => Nat.ble (d + 1) n | none => true
theorem Agr.put {n : Nat} {f : Frm} {a : Act} (h : Agr n f a) {o : Oper} (ho : dstOk n o = true) (v : Value) : Agr n (updO f o.dst v) (a.put o.dst v) := by
  unfold dstOk at ho
  cases hd : o.dst with
  | none => simpa [updO, Act.put] using h
  | some d =>
    simp only [hd] at ho
    have hlt : d < n := Nat.le_of_ble_eq_true ho
    refine ⟨h.1, by simp [Act.put, h.2.1], fun t => ?_⟩
    simp only [Act.put, updO, upd]
    by_cases ht : t = d
    · subst ht
      have hb : Nat.beq t t = true := Nat.beq_refl t
      simp [hb, h.2.1, hlt]
    · have hb : Nat.beq t d = false := by
        cases hc : Nat.beq t d with
        | false => rfl
        | true => exact absurd (Nat.eq_of_beq_eq_true hc) ht
      have hne : d ≠ t := fun e => ht e.symm
      have := h.2.2 t
      simp only [hb, cond_false]
      rw [← this]
      simp [Array.getElem?_setIfInBounds_ne hne]
section
variable (P : Program)
def hV (s : Sem Value) (K : Value → World → Prop) (w : World) : Prop := ∃ v w', s.run P w = .ok v w' ∧ K v w'
def hU (s : Sem Unit) (K : World → Prop) (w : World) : Prop := ∃ w', s.run P w = .ok () w' ∧ K w'
def hCall (f : FuncId) (args : Array Value) (K : Value → World → Prop) (w : World) : Prop :=
  Calls P f args w (fun e w' => ∃ v, e = .returned v ∧ K v w')
def hXr (K : Value → World → Prop) : Result Next → Prop
  | .ok (.value v) w' => K v w'
  | .ok .skip w' => K undef w'
  | .ok (.enter f args) w' => hCall P f args K w'
  | _ => False
def hX (s : Sem Next) (K : Value → World → Prop) (w : World) : Prop := hXr P K (s.run P w)
def hF (g : FuncId) (args : Array Value) (K : Value → World → Prop) (w : World) : Prop := hX P (callFunc g args) K w
def hFV (v : Value) (args : Array Value) (K : Value → World → Prop) (w : World) : Prop :=
  hX P (do let d ← Deferred.ofValue v args; invoke d.target d.args) K w
def hI (v : Value) (m : String) (args : Array Value) (K : Value → World → Prop) (w : World) : Prop := hX P (callMethod v m args) K w
end
def hIf (c : Value) (A B : World → Prop) (w : World) : Prop := ∃ t, c = .bool t ∧ (t = true → A w) ∧ (t = false → B w)
def hGuard (c : Value) (want : Bool) (A B : World → Prop) (w : World) : Prop := (c = .bool want → A w) ∧ (c ≠ .bool want → B w)
def hPick (c a b : Value) (K : Value → World → Prop) (w : World) : Prop := ∃ t, c = .bool t ∧ K (bif t then a else b) w
def mV (P : Program) (C : World → Prop) (s : Sem Value) (K : Value → World → Prop) (w : World) : Prop := ∃ v, (∀ w', C w' → s.run P w' = .ok v w') ∧ K v w
def isC : Operand → Bool
  | .const _ => true
  | _ => false
def eqGd (lit : Bool) (t : TypeId) (a b : Value) : Sem Unit := do
  match a, b with
  | .nilIface, .nilIface =>
    if lit then return
    if ← Op.eqGuardIn Op.maxDepth t a b then unsupported (.noEntry "binop/eql: two nil values of an interface type with methods, neither of them the literal nil")
  | .agg _, .agg _ =>
    if !(← program).eqGuardType (← program).depth t then return
    if ← Op.eqGuardIn Op.maxDepth t a b then unsupported (.noEntry "binop/eql: two nil values of an interface type with methods, in a part of a struct or an array")
  | _, _ => pure ()
def eqG (lit : Bool) (op : BinOp) (t : TypeId) (a b : Value) : Sem Value := do
  eqGd lit t a b
  binOp op t a b
def vals (f : Frm) (l : List Operand) : Array Value := (l.map (ev f)).toArray
def prts (f : Frm) (l : List (Nat × Operand)) : Array (Nat × Value) := (l.map fun p => (p.1, ev f p.2)).toArray
def hNil (v : Value) : Sem Value :=
  match v with
  | .pointer none | .nilIface | .nilFunc | .func (.method _) _ _ => stuck "gd"
  | x => pure x
section
variable (P : Program) (q l : Sem Value → (Value → World → Prop) → World → Prop) (u : Sem Unit → (World → Prop) → World → Prop) (x : Sem Next → (Value → World → Prop) → World → Prop)
def quietB : Builtin → Bool
  | .len | .cap | .max | .min | .real | .imag | .complex => true
  | _ => false
def isQuiet : Op → Bool
  | .move _ | .assign _ | .pick .. | .build .. | .load .. | .nilCheck _ | .binOp .. | .unOp .. | .convert .. | .makeInterface .. | .makeFunc ..
  | .slice .. | .fieldAddr .. | .field .. | .indexAddr .. | .index .. | .lookup .. | .typeAssert .. | .extract .. => true
  | .call { callee := .builtin b, .. } => quietB b
  | _ => false
def dBuiltin (f : Frm) (b : Builtin) (ats : Array TypeId) (t : TypeId) (args : List Operand) (K : Value → World → Prop) : World → Prop :=
  match b with
  | .len => q (Builtin.len_ ats t (vals f args)) K
  | .cap => q (Builtin.cap_ ats t (vals f args)) K
  | .max => q (Builtin.max_ ats t (vals f args)) K
  | .min => q (Builtin.min_ ats t (vals f args)) K
  | .real => q (Builtin.real_ ats t (vals f args)) K
  | .imag => q (Builtin.imag_ ats t (vals f args)) K
  | .complex => q (Builtin.complex_ ats t (vals f args)) K
  | .append => l (Builtin.append_ ats t (vals f args)) K
  | .copy => l (Builtin.copy_ ats t (vals f args)) K
  | .clear => l (Builtin.clear_ ats t (vals f args)) K
  | .delete => l (Builtin.delete_ ats t (vals f args)) K
  | _ => fun _ => False
def dOp (f : Frm) (o : Oper) (K : Value → World → Prop) : World → Prop :=
  match o.op with
  | .move y | .assign y => K (ev f y)
  | .pick c a b => hPick (ev f c) (ev f a) (ev f b) K
  | .alloc e => l (Instr.alloc e true (.tuple #[])) K
  | .box e y => l (Instr.box e (ev f y)) K
  | .build t ps => q (Instr.build t (prts f ps.toList)) K
  | .buildSlice t n ps => l (Instr.buildSlice t n (prts f ps.toList)) K
  | .load t a => q (Instr.loadAt t (ev f a)) K
  | .store t a y => u (Instr.storeAt t (ev f a) (ev f y)) (K undef)
  | .nilCheck y => q (hNil (ev f y)) K
  | .binOp op t y z _ => (match op with
    | .eql | .neq => q (eqG (isC y || isC z) op t (ev f y) (ev f z)) K
    | _ => q (binOp op t (ev f y) (ev f z)) K)
  | .unOp op _ y => q (Op.unary op (ev f y)) K
  | .convert s d y => q (convert s d (ev f y)) K
  | .makeInterface t y => q (Instr.makeInterface t (ev f y)) K
  | .makeFunc fn a b => q (Instr.makeFunc fn (vals f a.toList) (vals f b.toList)) K
  | .makeMap t r => l (Instr.makeMap t (r.map (ev f))) K
  | .makeSlice t y z => l (Instr.makeSlice t (ev f y) (ev f z)) K
  | .slice t y a b c => q (Instr.sliceAt t (ev f y) (a.map (ev f)) (b.map (ev f)) (c.map (ev f))) K
  | .fieldAddr t y i => q (Instr.fieldAt t (ev f y) i) K
  | .field t y i => q (Instr.field t (ev f y) i) K
  | .indexAddr t y i => q (Instr.indexAt t (ev f y) (ev f i)) K
  | .index t y i => q (Instr.index t (ev f y) (ev f i)) K
  | .lookup t y i ok => q (Instr.lookup t (ev f y) (ev f i) ok) K
  | .mapUpdate t m k y => u (Instr.mapUpdate t (ev f m) (ev f k) (ev f y)) (K undef)
  | .insert t m k y => u (Instr.mapUpdate t (ev f m) (ev f k) (ev f y)) (K undef)
  | .mapEntry t m k => l (Instr.mapEntry t (ev f m) (ev f k)) K
  | .entryStore t m s y => u (Instr.entryStore t (ev f m) (ev f s) (ev f y)) (K undef)
  | .range t y => l (Instr.range t (ev f y)) K
  | .next i s => l (Instr.next (ev f i) s o.type) K
  | .entry i => l (Instr.entry (ev f i)) K
  | .typeAssert y t s ok => q (Instr.typeAssert (ev f y) t s ok) K
  | .extract y i => q (Instr.extract (ev f y) i) K
  | .call { callee := .value (.func g), args, .. } => x (callFunc g (vals f args.toList)) K
  | .call { callee := .value y, args, .. } => x (do let d ← Deferred.ofValue (ev f y) (vals f args.toList); invoke d.target d.args) K
  | .call { callee := .invoke r m, args, .. } => x (callMethod (ev f r) m (vals f args.toList)) K
  | .call { callee := .builtin b, args, argTypes } => dBuiltin q l f b argTypes o.type args.toList K
  | _ => fun _ => False
end
theorem run_v {P : Program} {w : World} (s : Sem Value) : (do pure (Next.value (← s)) : Sem Next).run P w = (s.run P w).andThen fun v w' => .ok (.value v) w' := by simp
theorem run_u {P : Program} {w : World} (s : Sem Unit) : (do s; pure Next.skip : Sem Next).run P w = (s.run P w).andThen fun _ w' => .ok .skip w' := by simp
theorem vals_eq (f : Frm) (l : Array Operand) : l.map (ev f) = vals f l.toList := by
  apply Array.toList_inj.1; simp [vals]
theorem prts_eq (f : Frm) (l : Array (Nat × Operand)) : (l.map fun (i, y) => (i, ev f y)) = prts f l.toList := by
  apply Array.toList_inj.1; simp [prts]
theorem eqG_run (op : BinOp) (t : TypeId) (y z : Operand) (a b : Value) (P : Program) (w : World) (hop : op = .eql ∨ op = .neq) :
    (do eqGuard op t y z a b; binOp op t a b : Sem Value).run P w = (eqG (isC y || isC z) op t a b).run P w := by
  have : eqGuard op t y z a b = eqGd (isC y || isC z) t a b := by
    rcases hop with rfl | rfl <;> cases a <;> cases b <;> first | rfl | (cases y <;> cases z <;> rfl)
  rw [this]; rfl
theorem eqGuard_no (op : BinOp) (t : TypeId) (y z : Operand) (a b : Value) (h : op ≠ .eql) (h' : op ≠ .neq) : eqGuard op t y z a b = pure () := by
  unfold eqGuard; cases op <;> simp_all
theorem run_hV {P : Program} {o : Oper} {a : Act} {next : Act → World → Prop} {Q : Exit → Act → World → Prop} {K : Value → World → Prop} {w : World} {s : Sem Value}
    (h : hV P s K w) (hK : ∀ v w', K v w' → next (a.put o.dst v) w') : o.upon P a next Q ((do pure (Next.value (← s)) : Sem Next).run P w) := by
  obtain ⟨v, w', hr, hk⟩ := h
  rw [run_v, hr]
  exact hK v w' hk
theorem run_hU {P : Program} {o : Oper} {a : Act} {next : Act → World → Prop} {Q : Exit → Act → World → Prop} {K : Value → World → Prop} {w : World} {s : Sem Unit}
    (h : hU P s (K undef) w) (hK : ∀ v w', K v w' → next (a.put o.dst v) w') : o.upon P a next Q ((do s; pure Next.skip : Sem Next).run P w) := by
  obtain ⟨w', hr, hk⟩ := h
  rw [run_u, hr]
  exact hK _ w' hk
theorem run_hX {P : Program} {o : Oper} {a : Act} {next : Act → World → Prop} {Q : Exit → Act → World → Prop} {K : Value → World → Prop} {w : World} {s : Sem Next}
    (h : hX P s K w) (hK : ∀ v w', K v w' → next (a.put o.dst v) w') : o.upon P a next Q (s.run P w) := by
  unfold hX at h
  generalize s.run P w = r at *
  cases r with
  | halt x w' => exact h.elim
  | ok x w' =>
    cases x with
    | value v => exact hK v w' h
    | skip => exact hK _ w' h
    | enter g args =>
      refine Calls.mono h fun e w'' he => ?_
      obtain ⟨v, rfl, hk⟩ := he
      exact hK v w'' hk
    | _ => exact h.elim
theorem inv_run (r : Value) (m : String) (args : Array Value) (P : Program) (w : World) :
    (invoke (.fn (.method m) #[]) (#[r] ++ args)).run P w = (callMethod r m args).run P w := by
  unfold invoke
  have h1 : (#[r] ++ args)[0]? = some r := (Array.getElem?_append_left (by simp)).trans rfl
  have h2 : (#[r] ++ args).extract 1 (#[r] ++ args).size = args := by
    apply Array.toList_inj.1; simp
  rw [h1]; dsimp only; rw [h2]
theorem dOp_sound {P : Program} {o : Oper} {a : Act} {f : Frm} {next : Act → World → Prop} {Q : Exit → Act → World → Prop} {K : Value → World → Prop} {w : World}
    (hA : a.eval = ev f) (h : dOp (hV P) (hV P) (hU P) (hX P) f o K w) (hK : ∀ v w', K v w' → next (a.put o.dst v) w') : o.wp P a w next Q := by
  unfold Oper.wp
  rw [hA]
  obtain ⟨dst, op, type, pos, after, guard⟩ := o
  cases op <;> simp only [dOp] at h <;> simp only [execOp, vals_eq, prts_eq]
  case move y => exact hK _ _ h
  case assign y => exact hK _ _ h
  case pick c y z =>
    obtain ⟨t, ht, hk⟩ := h
    have : (do pure (.value (if ← asBool (ev f c) then ev f y else ev f z)) : Sem Next).run P w = .ok (.value (bif t then ev f y else ev f z)) w := by
      rw [ht]; cases t <;> simp [asBool]
    rw [this]; exact hK _ _ hk
  case nilCheck y =>
    obtain ⟨v, w', hr, hk⟩ := h
    generalize ev f y = X at *
    cases X with
    | pointer p => cases p with
      | none => exact absurd hr (by simp [hNil])
      | some p => injection hr with e1 e2; subst e1; subst e2; exact hK _ _ hk
    | nilIface => exact absurd hr (by simp [hNil])
    | nilFunc => exact absurd hr (by simp [hNil])
    | func fn a b => cases fn <;> first | (injection hr with e1 e2; subst e1; subst e2; exact hK _ _ hk) | (exact absurd hr (by simp [hNil]))
    | _ => injection hr with e1 e2; subst e1; subst e2; exact hK _ _ hk
  case binOp op t y z yt =>
    by_cases hop : op = .eql ∨ op = .neq
    · have hh : hV P (eqG (isC y || isC z) op t (ev f y) (ev f z)) K w := by rcases hop with rfl | rfl <;> exact h
      obtain ⟨v, w', hr, hk⟩ := hh
      rw [← eqG_run op t y z _ _ P w hop] at hr
      exact run_hV ⟨v, w', hr, hk⟩ hK
    · have h1 : op ≠ .eql := fun e => hop (.inl e)
      have h2 : op ≠ .neq := fun e => hop (.inr e)
      have hh : hV P (binOp op t (ev f y) (ev f z)) K w := by cases op <;> first | exact h | exact absurd rfl h1 | exact absurd rfl h2
      rw [eqGuard_no op t y z _ _ h1 h2]
      exact run_hV hh hK
  case call c =>
    obtain ⟨callee, args, ats⟩ := c
    cases callee with
    | value y =>
      cases y with
      | func g =>
        simp only [dOp] at h
        have : (do let d ← resolve (ev f) { callee := .value (.func g), args := args, argTypes := ats } type; invoke d.target d.args : Sem Next) = callFunc g (vals f args.toList) := by
          simp only [resolve, ev, Deferred.ofValue, vals_eq]
          simp [invoke]
        rw [this]; exact run_hX h hK
      | tmp t =>
        simp only [dOp] at h
        have : (do let d ← resolve (ev f) { callee := .value (.tmp t), args := args, argTypes := ats } type; invoke d.target d.args : Sem Next) = (do let d ← Deferred.ofValue (ev f (.tmp t)) (vals f args.toList); invoke d.target d.args) := by
          simp only [resolve, vals_eq]
        rw [this]; exact run_hX h hK
      | const t =>
        simp only [dOp] at h
        have : (do let d ← resolve (ev f) { callee := .value (.const t), args := args, argTypes := ats } type; invoke d.target d.args : Sem Next) = (do let d ← Deferred.ofValue (ev f (.const t)) (vals f args.toList); invoke d.target d.args) := by
          simp only [resolve, vals_eq]
        rw [this]; exact run_hX h hK
      | global t =>
        simp only [dOp] at h
        have : (do let d ← resolve (ev f) { callee := .value (.global t), args := args, argTypes := ats } type; invoke d.target d.args : Sem Next) = (do let d ← Deferred.ofValue (ev f (.global t)) (vals f args.toList); invoke d.target d.args) := by
          simp only [resolve, vals_eq]
        rw [this]; exact run_hX h hK
    | invoke r m =>
      simp only [dOp] at h
      have : (do let d ← resolve (ev f) { callee := .invoke r m, args := args, argTypes := ats } type; invoke d.target d.args : Sem Next).run P w = (callMethod (ev f r) m (vals f args.toList)).run P w := by
        simp only [resolve, vals_eq, pure_bind]
        exact inv_run _ _ _ P w
      rw [this]; exact run_hX h hK
    | builtin b =>
      simp only [dOp] at h
      have : (do let d ← resolve (ev f) { callee := .builtin b, args := args, argTypes := ats } type; invoke d.target d.args : Sem Next) = builtin b ats type (args.map fun | .const _ => true | _ => false) (vals f args.toList) := by
        simp only [resolve, vals_eq, pure_bind, invoke]; rfl
      rw [this]
      cases b <;> simp only [dBuiltin] at h <;> (try exact h.elim) <;> simp only [builtin] <;> exact run_hV h hK
  all_goals first
    | exact h.elim
    | exact run_hV h hK
    | exact run_hU h hK
end Go.Gd
namespace Go.Gd
theorem dOp_quiet {P : Program} {C : World → Prop} {l : Sem Value → (Value → World → Prop) → World → Prop} {u : Sem Unit → (World → Prop) → World → Prop} {x : Sem Next → (Value → World → Prop) → World → Prop}
    {o : Oper} {f : Frm} {K : Value → World → Prop} {w : World} (hq : isQuiet o.op = true) (h : dOp (mV P C) l u x f o K w) :
    ∃ v, (∀ w', C w' → (execOp (ev f) o).run P w' = .ok (.value v) w') ∧ K v w := by
  have base : ∀ (s : Sem Value), mV P C s K w → ∃ v, (∀ w', C w' → (do pure (Next.value (← s)) : Sem Next).run P w' = .ok (.value v) w') ∧ K v w := by
    intro s ⟨v, hv, hk⟩
    exact ⟨v, fun w' hw' => by rw [run_v, hv w' hw']; rfl, hk⟩
  obtain ⟨dst, op, type, pos, after, guard⟩ := o
  cases op <;> simp only [isQuiet, Bool.false_eq_true] at hq <;> simp only [dOp] at h <;> simp only [execOp, vals_eq, prts_eq]
  case move y => exact ⟨_, fun w' _ => rfl, h⟩
  case assign y => exact ⟨_, fun w' _ => rfl, h⟩
  case pick c y z =>
    obtain ⟨t, ht, hk⟩ := h
    refine ⟨_, fun w' _ => ?_, hk⟩
    rw [ht]; cases t <;> simp [asBool]
  case nilCheck y =>
    obtain ⟨v, hr, hk⟩ := h
    refine ⟨v, fun w' hw' => ?_, hk⟩
    have hr := hr w' hw'
    generalize ev f y = X at *
    cases X with
    | pointer p => cases p with
      | none => exact absurd hr (by simp [hNil])
      | some p => injection hr with e1 e2; subst e1; rfl
    | nilIface => exact absurd hr (by simp [hNil])
    | nilFunc => exact absurd hr (by simp [hNil])
    | func fn a b => cases fn <;> first | (injection hr with e1 e2; subst e1; rfl) | (exact absurd hr (by simp [hNil]))
    | _ => injection hr with e1 e2; subst e1; rfl
  case binOp op t y z yt =>
    by_cases hop : op = .eql ∨ op = .neq
    · have hh : mV P C (eqG (isC y || isC z) op t (ev f y) (ev f z)) K w := by rcases hop with rfl | rfl <;> exact h
      obtain ⟨v, hr, hk⟩ := hh
      exact base _ ⟨v, fun w' hw' => (eqG_run op t y z _ _ P w' hop).trans (hr w' hw'), hk⟩
    · have h1 : op ≠ .eql := fun e => hop (.inl e)
      have h2 : op ≠ .neq := fun e => hop (.inr e)
      have hh : mV P C (binOp op t (ev f y) (ev f z)) K w := by cases op <;> first | exact h | exact absurd rfl h1 | exact absurd rfl h2
      rw [eqGuard_no op t y z _ _ h1 h2]
      exact base _ hh
  case call c =>
    obtain ⟨callee, args, ats⟩ := c
    cases callee with
    | value y => exact absurd hq (by cases y <;> simp [isQuiet])
    | invoke r m => exact absurd hq (by simp [isQuiet])
    | builtin b =>
      simp only [dOp] at h
      have : (do let d ← resolve (ev f) { callee := .builtin b, args := args, argTypes := ats } type; invoke d.target d.args : Sem Next) = builtin b ats type (args.map fun | .const _ => true | _ => false) (vals f args.toList) := by
        simp only [resolve, vals_eq, pure_bind, invoke]; rfl
      rw [this]
      cases b <;> simp only [isQuiet, quietB, Bool.false_eq_true] at hq <;> simp only [dBuiltin] at h <;> simp only [builtin] <;> exact base _ h
  all_goals exact base _ h
section
variable {P : Program} {ops : Array Oper} {Q : Exit → Act → World → Prop} {C : World → Prop}
def Yc (P : Program) (ops : Array Oper) (C : World → Prop) (o : Oper) (v : Value) (a : Act) : Prop :=
  (Region.wanted o (yielded ops a.tmps) = true ∧ ∀ w, C w → (execOp a.eval o).run P w = .ok (.value v) w) ∨
  (Region.wanted o (yielded ops a.tmps) = false ∧ v = undef)
theorem Yc.same {o : Oper} {v : Value} {a a' : Act} (hy : Yc P ops C o v a) (he : execOp a'.eval o = execOp a.eval o)
    (hw : Region.wanted o (yielded ops a'.tmps) = Region.wanted o (yielded ops a.tmps)) : Yc P ops C o v a' := by
  unfold Yc at *; rw [he, hw]; exact hy
theorem Yc.op {i : Nat} {o : Oper} {v : Value} {a : Act} (hi : ops[i]? = some o) (hy : Yc P ops C o v a) {K : Act → World → Prop} {w : World} (hC : C w)
    (h : K (a.put o.dst v) w) : wpOp P ops Q i K a w := by
  unfold wpOp
  simp only [hi]
  rcases hy with ⟨hw, hv⟩ | ⟨hw, rfl⟩
  · simp only [hw, if_true]
    refine .inl ?_
    unfold Oper.wp
    rw [hv w hC]
    exact h
  · simp only [hw]
    exact h
def isRead : Op → Bool
  | .load _ _ => true
  | .lookup _ _ _ _ => true
  | .call c => (match c.callee with | .builtin .len => true | .builtin .cap => true | _ => false)
  | _ => false
def Dq (C : World → Prop) (o : Oper) : World → Prop := bif isRead o.op then C else fun _ => True
theorem Dq.of {C : World → Prop} {o : Oper} {w : World} (h : isRead o.op = true → C w) : Dq C o w := by
  unfold Dq
  cases hr : isRead o.op with
  | false => trivial
  | true => exact h hr
def sinkB (ops : Array Oper) (j : Nat) : Bool :=
  match ops[j]? with
  | some oj => (List.range ops.size).all fun i => Nat.beq i j || (match ops[i]? with | some oi => !isRead oi.op | none => true) || oj.after.any fun e => Region.binds .any e && Nat.beq e.on i
  | none => false
theorem sinkB_spec {i j : Nat} {oi oj : Oper} (h : sinkB ops j = true) (hj : ops[j]? = some oj) (hi : ops[i]? = some oi) (hq : isRead oi.op = true) (hne : j ≠ i) : ∃ e ∈ oj.after, Region.binds .any e = true ∧ e.on = i := by
  unfold sinkB at h
  rw [hj] at h
  have hlt : i < ops.size := (Array.getElem?_eq_some_iff.1 hi).1
  have := (List.all_eq_true.1 h) i (List.mem_range.2 hlt)
  rw [hi] at this
  simp only [hq, Bool.not_true, Bool.or_false, Bool.or_eq_true] at this
  rcases this with h1 | h1
  · exact absurd (Nat.eq_of_beq_eq_true h1).symm hne
  · obtain ⟨e, he, hb⟩ := Array.any_eq_true'.1 h1
    simp only [Bool.and_eq_true] at hb
    exact ⟨e, he, hb.1, Nat.eq_of_beq_eq_true hb.2⟩
def anyI (P : Program) (ops : Array Oper) (Q : Exit → Act → World → Prop) (C : World → Prop) : Nat → Array Bool → Act → World → Prop
  | 0, listed, a, w => Region.ready .any ops listed = [] ∧ Q .normal a w
  | n + 1, listed, a, w => (Region.ready .any ops listed = [] → Q .normal a w) ∧
      ∀ i ∈ Region.ready .any ops listed, wpOp P ops Q i (fun a' w' => (C w → sinkB ops i = true ∨ C w') ∧ anyI P ops Q C n (listed.setIfInBounds i true) a' w') a w
theorem any_of_anyI : ∀ (n : Nat) (listed : Array Bool) (a : Act) (w : World), anyI P ops Q C n listed a w → wpAny P .any ops Q n listed a w
  | 0, _, _, _, h => h
  | n + 1, _, _, _, h => ⟨h.1, fun i hi => wpOp_mono (fun _ _ hh => any_of_anyI n _ _ _ hh.2) (h.2 i hi)⟩
theorem op_past {j : Nat} {oi oj : Oper} {v : Value} (hj : ops[j]? = some oj) (hap : oi.apart ops oj = true)
    (hsi : ∀ cs b, oi.op ≠ .select cs b) (hsj : ∀ cs b, oj.op ≠ .select cs b)
    (hQ : ∀ c a w, ¬ Q (.panic c) a w) {K : Act → World → Prop} {a : Act} {w : World}
    (hy : Yc P ops C oi v a) (h : wpOp P ops Q j K (a.put oi.dst v) w) :
    wpOp P ops Q j (fun a' w' => Yc P ops C oi v a' ∧ K (a'.put oi.dst v) w') a w := by
  obtain ⟨h1, h2, h3⟩ := Oper.apart_spec hap
  have keep : ∀ u, Yc P ops C oi v (a.put oj.dst u) := fun u => hy.same (execOp_put oi hsi a oj.dst u h3) (wanted_put oi a oj.dst u h3)
  have comm : ∀ u, (a.put oi.dst v).put oj.dst u = (a.put oj.dst u).put oi.dst v := fun u => Act.put_comm a v u h2
  unfold wpOp at h ⊢
  simp only [hj] at h ⊢
  rw [wanted_put oj a oi.dst v h1] at h
  by_cases hw : Region.wanted oj (yielded ops a.tmps) = true
  · simp only [hw, if_true] at h ⊢
    rcases h with h | ⟨h4, h5⟩
    case inr => exact .inr ⟨by unfold Oper.asks at *; rw [execOp_put oj hsj a oi.dst v h1] at h4; exact h4, h5⟩
    refine .inl ?_
    unfold Oper.wp at h ⊢
    rw [execOp_put oj hsj a oi.dst v h1] at h
    generalize (execOp a.eval oj).run P w = r at h ⊢
    cases r with
    | halt x w' => cases x with
      | panic u => exact absurd h (hQ _ _ _)
      | _ => exact h.elim
    | ok n w' => cases n with
      | value u => exact ⟨keep u, by rw [← comm]; exact h⟩
      | skip => exact ⟨keep _, by rw [← comm]; exact h⟩
      | defer d =>
        refine ⟨(hy.same (a' := { a with defers := d :: a.defers }) rfl rfl).same (execOp_put oi hsi _ oj.dst _ h3) (wanted_put oi _ oj.dst _ h3), ?_⟩
        have := Act.put_comm { a with defers := d :: a.defers } v undef h2
        rw [← this, ← Act.put_defers]
        exact h
      | enter g args =>
        refine Calls.mono h fun e w'' he => ?_
        cases e with
        | returned u => exact ⟨keep u, by rw [← comm]; exact he⟩
        | panicked c => exact absurd he (hQ _ _ _)
        | outgrown => exact he
      | row r args => exact Rows.mono h fun u w'' he => ⟨keep u, by rw [← comm]; exact he⟩
      | _ => exact h.elim
  · simp only [hw] at h ⊢
    exact ⟨keep _, by rw [← comm]; exact h⟩
theorem anyI_first {i : Nat} {oi : Oper} {v : Value} (hi : ops[i]? = some oi) (hsel : ∀ (j : Nat) (o : Oper) cs b, ops[j]? = some o → o.op ≠ .select cs b)
    (hQ : ∀ c a w, ¬ Q (.panic c) a w) :
    ∀ (n : Nat) (listed : Array Bool) (a : Act) (w : World),
      (∀ j oj, ops[j]? = some oj → j ≠ i → listed.getD j true = false → (∀ e ∈ oj.after, Region.binds .any e = true → e.on ≠ i) → oi.apart ops oj = true) →
      i ∈ Region.ready .any ops listed → (isRead oi.op = true → C w) → Yc P ops (Dq C oi) oi v a →
      anyI P ops Q C n (listed.setIfInBounds i true) (a.put oi.dst v) w → anyI P ops Q C (n + 1) listed a w := by
  intro n
  induction n with
  | zero =>
    intro listed a w _ hr hC hy H
    refine ⟨fun h => absurd hr (by rw [h]; exact List.not_mem_nil), fun j hj => ?_⟩
    by_cases hji : j = i
    · subst hji; exact hy.op hi (Dq.of hC) ⟨.inr, H⟩
    · have hm := ready_mono hj hji
      rw [H.1] at hm
      exact absurd hm List.not_mem_nil
  | succ n ih =>
    intro listed a w hfree hr hC hy H
    refine ⟨fun h => absurd hr (by rw [h]; exact List.not_mem_nil), fun j hj => ?_⟩
    by_cases hji : j = i
    · subst hji; exact hy.op hi (Dq.of hC) ⟨.inr, H⟩
    · have hone := H.2 j (ready_mono hj hji)
      obtain ⟨hjun, oj, hoj, hall⟩ := mem_ready.1 hj
      have hnot : ∀ e ∈ oj.after, Region.binds .any e = true → e.on ≠ i := fun e he hb heq => by
        have e1 := hall e he hb
        have e0 := (mem_ready.1 hr).1
        rw [heq] at e1
        rcases Nat.lt_or_ge i listed.size with hlt | hge
        · simp [hlt] at e0 e1; rw [e0] at e1; exact absurd e1 (by decide)
        · simp [Array.getElem?_eq_none hge] at e1
      have hpast := op_past hoj (hfree j oj hoj hji hjun hnot) (fun cs b => hsel i oi cs b hi) (fun cs b => hsel j oj cs b hoj) hQ hy hone
      have hfree' : ∀ k ok, ops[k]? = some ok → k ≠ i → (listed.setIfInBounds j true).getD k true = false →
          (∀ e ∈ ok.after, Region.binds .any e = true → e.on ≠ i) → oi.apart ops ok = true := fun k ok hk hki hun hno => by
        refine hfree k ok hk hki ?_ hno
        by_cases hjk : j = k
        · subst hjk; exact hjun
        · rw [getD_set_ne true hjk] at hun; exact hun
      refine wpOp_mono (fun a' w' h3 => ?_) hpast
      obtain ⟨hy', hC', H'⟩ := h3
      have hC'' : isRead oi.op = true → C w' := fun hq => (hC' (hC hq)).resolve_left fun hs => by
        obtain ⟨e, he, hb, ho⟩ := sinkB_spec hs hoj hi hq hji
        exact hnot e he hb ho
      refine ⟨hC', ih (listed.setIfInBounds j true) a' w' hfree' (ready_mono hr (Ne.symm hji)) hC'' hy' ?_⟩
      rw [Array.setIfInBounds_comm _ _ hji]
      exact H'
end
def nthO {α : Type} : List α → Nat → Option α
  | [], _ => none
  | x :: _, 0 => some x
  | _ :: l, n + 1 => nthO l n
theorem nthO_eq {α : Type} : ∀ (l : List α) (n : Nat), nthO l n = l[n]?
  | [], _ => by simp [nthO]
  | _ :: _, 0 => by simp [nthO]
  | _ :: l, n + 1 => by simp [nthO, nthO_eq l n]
def slotOf (ops : List Oper) (j : Nat) : Option Nat := match nthO ops j with | some o => o.dst | none => none
abbrev Mem := Option (Nat × Bool × Bool)
def known (m : Mem) (t : Nat) (want : Bool) : Option Bool :=
  match m with
  | some (t', w', tr) => bif Nat.beq t t' && (want == w') then some tr else none
  | none => none
def forget (m : Mem) (d : Option Tmp) : Mem :=
  match m with
  | some (t, x) => (match d with | some d => bif Nat.beq t d then none else some (t, x) | none => some (t, x))
  | none => none
def MemOk (m : Mem) (f : Frm) : Prop := ∀ t want tr, m = some (t, want, tr) → (tr = true → f t = .bool want) ∧ (tr = false → f t ≠ .bool want)
theorem MemOk.none (f : Frm) : MemOk none f := fun _ _ _ h => by cases h
theorem MemOk.known {m : Mem} {f : Frm} (h : MemOk m f) {t : Nat} {want tr : Bool} (hk : known m t want = some tr) : (tr = true → f t = .bool want) ∧ (tr = false → f t ≠ .bool want) := by
  unfold Gd.known at hk
  split at hk
  · rename_i t' w' tr'
    cases hb : (Nat.beq t t' && (want == w')) with
    | false => rw [hb] at hk; simp at hk
    | true =>
      rw [hb] at hk
      simp only [cond_true, Option.some.injEq] at hk
      subst hk
      simp only [Bool.and_eq_true, beq_iff_eq] at hb
      have := Nat.eq_of_beq_eq_true hb.1
      obtain ⟨_, rfl⟩ := hb
      subst this
      exact h _ _ _ rfl
  · cases hk
theorem MemOk.forget {m : Mem} {f : Frm} (h : MemOk m f) (d : Option Tmp) (v : Value) : MemOk (forget m d) (updO f d v) := by
  intro t want tr hm
  unfold Gd.forget at hm
  split at hm
  · rename_i t' x
    cases d with
    | none => simp only [updO]; simp only at hm; exact h _ _ _ hm
    | some d =>
      simp only at hm
      cases hb : Nat.beq t' d with
      | true => rw [hb] at hm; simp at hm
      | false =>
        rw [hb] at hm
        simp only [cond_false, Option.some.injEq] at hm
        have e : t' = t := congrArg Prod.fst hm
        subst e
        have : updO f (some d) v t' = f t' := by simp [updO, upd, hb]
        rw [this]
        exact h _ _ _ (congrArg some hm)
  · cases hm
theorem wanted_iff {ops : List Oper} {n : Nat} {f : Frm} {a : Act} (hA : Agr n f a) {o : Oper} {j t : Nat} {want : Bool} (hg : o.guard = some (j, want)) (hs : slotOf ops j = some t) (ht : t < n) :
    Region.wanted o (yielded ops.toArray a.tmps) = true ↔ f t = .bool want := by
  unfold Region.wanted yielded
  rw [hg]
  have h1 : ((ops.toArray[j]?).bind (·.dst)) = some t := by
    unfold slotOf at hs
    rw [nthO_eq] at hs
    rw [List.getElem?_toArray]
    cases hx : ops[j]? with
    | none => rw [hx] at hs; cases hs
    | some o' => rw [hx] at hs; exact hs
  dsimp only
  rw [h1]
  have h2 : a.tmps[t]? = some (f t) := by
    have := hA.2.2 t
    rw [← this]
    have hlt : t < a.tmps.size := by rw [hA.2.1]; exact ht
    simp [hlt]
  simp only [Option.bind_some, h2]
  cases f t <;> simp <;> exact ⟨fun h => h, fun h => h⟩
end Go.Gd
