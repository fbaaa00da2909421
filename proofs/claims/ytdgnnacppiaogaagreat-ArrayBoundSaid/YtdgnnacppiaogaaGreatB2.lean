/- densound and the entry into a function: callsofden. Conditions: none beyond those in the theorems. The words of the plain reading, at this seats program. Conditions: none. A small logic of separate memory: what is held of the heap, atom by atom; blocks that were there at a base world stay as they were. Conditions: none beyond those in the theorems. -/
import Derived.Test.YtdgnnacppiaogaaGreatB1
import Derived.Test.YtdgnnacppiaogaaGreatProg
set_option linter.unusedVariables false
set_option linter.unusedSimpArgs false
namespace Go.Gd
section
variable {P : Program} {scr : Nat → Scr}
theorem memN_wrt (c : Code) : ∀ (acc : List Nat) (t : Nat), memN (wrt c acc) t = (memN (wrt c []) t || memN acc t) := by
  induction c with
  | region id ops d => intro acc t; simp [wrt, memN_append, memN]
  | seq a b iha ihb => intro acc t; simp only [wrt]; rw [ihb (wrt a acc), ihb (wrt a []), iha acc]; simp [Bool.or_assoc]
  | cond x a b iha ihb => intro acc t; simp only [wrt]; rw [ihb (wrt a acc), ihb (wrt a []), iha acc]; simp [Bool.or_assoc]
  | block id b ih => intro acc t; simp only [wrt]; exact ih acc t
  | loop b ih => intro acc t; simp only [wrt]; exact ih acc t
  | scope b ih => intro acc t; simp only [wrt]; exact ih acc t
  | _ => intro acc t; simp [wrt, memN]
def WIn (ws : List Nat) (c : Code) : Prop := ∀ t, memN (wrt c []) t = true → memN ws t = true
theorem WIn.seq {ws : List Nat} {a b : Code} (h : WIn ws (.seq a b)) : WIn ws a ∧ WIn ws b := by
  constructor <;> intro t ht <;> refine h t ?_ <;> simp only [wrt] <;> rw [memN_wrt b] <;> simp [ht]
theorem WIn.cond {ws : List Nat} {x : Operand} {a b : Code} (h : WIn ws (.cond x a b)) : WIn ws a ∧ WIn ws b := by
  constructor <;> intro t ht <;> refine h t ?_ <;> simp only [wrt] <;> rw [memN_wrt b] <;> simp [ht]
theorem WIn.label {ws : List Nat} {l : Nat} : ∀ {b rest : Code}, findLabel b l = some rest → WIn ws b → WIn ws rest := by
  intro b
  induction b with
  | seq a b iha ihb =>
    intro rest h hw
    obtain ⟨h1, h2⟩ := hw.seq
    simp only [findLabel] at h
    cases ha : findLabel a l with
    | none => rw [ha] at h; exact ihb h h2
    | some r =>
      rw [ha] at h
      simp only [Option.some.injEq] at h
      subst h
      have := iha ha h1
      intro t ht
      simp only [wrt] at ht
      rw [memN_wrt b] at ht
      simp only [Bool.or_eq_true] at ht
      rcases ht with ht | ht
      · exact h2 t ht
      · exact this t ht
  | label l' =>
    intro rest h hw
    simp only [findLabel] at h
    split at h
    · simp only [Option.some.injEq] at h; subst h; intro t ht; simp [wrt, memN] at ht
    · cases h
  | _ => intro rest h hw; simp [findLabel] at h
theorem mixF_same (cs ws : List Nat) (vs : List Value) (g f : Frm) : Same ws f (mixF cs ws vs g f) := by
  intro t ht; simp [mixF, ht]
theorem idxN_map {cs : List Nat} {f : Frm} {t k : Nat} (h : idxN cs t = some k) : nthV (cs.map f) k = f t := by
  induction cs generalizing k with
  | nil => simp [idxN] at h
  | cons x l ih =>
    simp only [idxN] at h
    cases hb : Nat.beq t x with
    | true =>
      rw [hb] at h
      simp only [cond_true, Option.some.injEq] at h
      subst h
      have := Nat.eq_of_beq_eq_true hb
      subst this
      rfl
    | false =>
      rw [hb] at h
      simp only [cond_false] at h
      cases hi : idxN l t with
      | none => rw [hi] at h; cases h
      | some j =>
        rw [hi] at h
        simp only [Option.some.injEq] at h
        subst h
        exact ih hi
theorem mixF_id {cs ws : List Nat} {f f' : Frm} (h : Same ws f f') : mixF cs ws (cs.map f') f' f = f' := by
  funext t
  unfold mixF
  cases hb : memN ws t with
  | false => simp [h t hb]
  | true =>
    simp only [cond_true]
    cases hi : idxN cs t with
    | none => rfl
    | some k => exact idxN_map hi
theorem den_mono : ∀ (n : Nat) (c : Code) (ws : List Nat), WIn ws c → ∀ (K K' : Exit → Frm → World → Prop) (f : Frm) (w : World),
    (∀ e f' w', Same ws f f' → K e f' w' → K' e f' w') → den P scr n c K f w → den P scr n c K' f w := by
  intro n
  induction n with
  | zero => intro c ws _ K K' f w _ h; exact h
  | succ n ih =>
    intro c ws hw K K' f w hK h
    cases c with
    | skip => exact hK _ _ _ (Same.refl _ _) h
    | label l => exact hK _ _ _ (Same.refl _ _) h
    | region id ops d =>
      have hl : ∀ o ∈ ops.toList, ∀ t, o.dst = some t → memN ws t = true := fun o ho t hd => hw t (by simp only [wrt, List.append_nil]; exact memN_dsts ho hd)
      cases d with
      | false => exact denOps_mono _ hl _ _ _ (fun f' w' hs hk => hK _ _ _ hs hk) h
      | true =>
        obtain ⟨C, hC, hb⟩ := h
        exact ⟨C, hC, denScr_mono hl _ _ _ _ (fun f' w' hs hk => hK _ _ _ hs hk) hb⟩
    | seq a b =>
      obtain ⟨h1, h2⟩ := hw.seq
      refine ih a ws h1 _ _ f w (fun e f' w' hs hk => ?_) h
      cases e with
      | normal => exact ih b ws h2 _ _ f' w' (fun e f2 w2 hs2 hk2 => hK _ _ _ (hs.trans hs2) hk2) hk
      | _ => exact hK _ _ _ hs hk
    | cond x a b =>
      obtain ⟨h1, h2⟩ := hw.cond
      obtain ⟨t, ht, ha, hb⟩ := h
      exact ⟨t, ht, fun e => ih a ws h1 _ _ f w hK (ha e), fun e => ih b ws h2 _ _ f w hK (hb e)⟩
    | block id b =>
      refine ih b ws hw _ _ f w (fun e f' w' hs hk => ?_) h
      cases e with
      | exit id' =>
        simp only at hk ⊢
        cases hb : Nat.beq id' id <;> rw [hb] at hk <;> exact hK _ _ _ hs hk
      | _ => exact hK _ _ _ hs hk
    | loop b =>
      obtain ⟨I, μ, h0, hr⟩ := h
      refine ⟨I, μ, h0, fun vs g w' hv hI => ?_⟩
      have hws : WIn (wrt b []) b := fun t ht => ht
      refine ih b (wrt b []) hws _ _ _ w' (fun e f' w2 hs hk => ?_) (hr vs g w' hv hI)
      cases e with
      | normal => exact hk
      | _ =>
        refine hK _ _ _ (fun t ht => ?_) hk
        have hb : memN (wrt b []) t = false := by
          cases hx : memN (wrt b []) t with
          | false => rfl
          | true => rw [hw t hx] at ht; cases ht
        rw [hs t hb]; exact mixF_same _ _ _ _ _ t hb
    | scope b =>
      unfold den at h ⊢
      dsimp only at h ⊢
      cases hl : firstLabel b with
      | none =>
        rw [hl] at h
        refine ih b ws hw _ _ f w (fun e f' w' hs hk => ?_) h
        cases e with
        | goto l => exact hk
        | _ => exact hK _ _ _ hs hk
      | some l =>
        rw [hl] at h
        simp only at h ⊢
        cases hf : findLabel b l with
        | none => rw [hf] at h; exact h
        | some rest =>
          rw [hf] at h
          obtain ⟨I, μ, h0, hr⟩ := h
          have hws : WIn (wrt b []) rest := WIn.label hf (fun t ht => ht)
          refine ⟨I, μ, ?_, fun vs g w' hv hI => ?_⟩
          · refine ih b ws hw _ _ f w (fun e f' w' hs hk => ?_) h0
            cases e with
            | goto l' => exact hk
            | _ => exact hK _ _ _ hs hk
          · refine ih rest (wrt b []) hws _ _ _ w' (fun e f' w2 hs hk => ?_) (hr vs g w' hv hI)
            cases e with
            | goto l' => exact hk
            | _ =>
              refine hK _ _ _ (fun t ht => ?_) hk
              have hb : memN (wrt b []) t = false := by
                cases hx : memN (wrt b []) t with
                | false => rfl
                | true => rw [hw t hx] at ht; cases ht
              rw [hs t hb]; exact mixF_same _ _ _ _ _ t hb
    | exit id => exact hK _ _ _ (Same.refl _ _) h
    | goto l => exact hK _ _ _ (Same.refl _ _) h
    | ret => exact hK _ _ _ (Same.refl _ _) h
    | rangeFunc => exact h
    | refuse => exact h
theorem codeOk_label {n l : Nat} : ∀ {b rest : Code}, findLabel b l = some rest → codeOk scr n b = true → codeOk scr n rest = true := by
  intro b
  induction b with
  | seq a b iha ihb =>
    intro rest h hw
    simp only [codeOk, Bool.and_eq_true] at hw
    simp only [findLabel] at h
    cases ha : findLabel a l with
    | none => rw [ha] at h; exact ihb h hw.2
    | some r =>
      rw [ha] at h
      simp only [Option.some.injEq] at h
      subst h
      simp only [codeOk, Bool.and_eq_true]
      exact ⟨iha ha hw.1, hw.2⟩
  | label l' =>
    intro rest h hw
    simp only [findLabel] at h
    split at h
    · simp only [Option.some.injEq] at h; subst h; rfl
    · cases h
  | _ => intro rest h hw; simp [findLabel] at h
def Po (n : Nat) (K : Exit → Frm → World → Prop) : Exit → Act → World → Prop := fun e a w => ∃ f', Agr n f' a ∧ K e f' w
theorem Agr.map {n : Nat} {f : Frm} {a : Act} (h : Agr n f a) (cs : List Nat) : cs.map (fun t => a.tmps.getD t undef) = cs.map f := by
  apply List.map_congr_left; intro t _; exact h.2.2 t
theorem den_sound (hm : P.follows .mixedOrders = true) {n : Nat} : ∀ (fuel : Nat) (c : Code) (K : Exit → Frm → World → Prop) (f : Frm) (a : Act) (w : World),
    codeOk scr n c = true → (∀ ch f w, ¬ K (.panic ch) f w) → Agr n f a → den P scr fuel c K f w → c.wp P (Po n K) a w := by
  intro fuel
  induction fuel with
  | zero => intro c K f a w _ _ _ h; exact h.elim
  | succ fuel ih =>
    intro c K f a w hc hK hA h
    cases c with
    | skip => exact wp_skip ⟨f, hA, h⟩
    | label l => exact wp_label ⟨f, hA, h⟩
    | exit id => exact wp_exit ⟨f, hA, h⟩
    | goto l => exact wp_goto ⟨f, hA, h⟩
    | ret => exact wp_ret ⟨f, hA, h⟩
    | rangeFunc => exact h.elim
    | refuse => exact h.elim
    | region id ops d =>
      simp only [codeOk, Bool.and_eq_true] at hc
      obtain ⟨h1, h2⟩ := hc
      have hn : ∀ f a w, Agr n f a → K .normal f w → Po n K .normal a w := fun f a w hA hk => ⟨f, hA, hk⟩
      cases d with
      | false =>
        refine wp_region_list ?_
        have := denOps_sound (P := P) (Q := Po n K) h1 hn ops.toList (fun o ho => ho) none f a w hA (MemOk.none f) h
        simpa using this
      | true =>
        simp only [Bool.not_true, Bool.false_or, Bool.and_eq_true] at h2
        obtain ⟨⟨⟨s1, s2⟩, s3⟩, s4⟩ := h2
        obtain ⟨C, hC, hb⟩ := h
        refine wp_region_any hm (any_of_anyI (C := C) _ _ _ _ ?_)
        have := (scr_sound (P := P) (Q := Po n K) (ops := ops.toList) h1 (by simpa using s1) (fun c a w ⟨f', _, hk⟩ => hK _ _ _ hk) hn (scr id) ops.size (Array.replicate ops.size false) none f a _ hA (MemOk.none f) (fun _ => hC) (by simpa using s2) hb).1
          (by simpa using s3) (Nat.le_of_ble_eq_true s4)
        simpa using this
    | seq x y =>
      simp only [codeOk, Bool.and_eq_true] at hc
      have h' : den P scr fuel x _ f w := h
      have hw := ih x _ f a w hc.1 ?_ hA h'
      case refine_1 => exact fun ch f w => hK ch f w
      refine wp_seq (wp_mono hw fun e a' w' hq => ?_)
      obtain ⟨f', hA', hk⟩ := hq
      cases e with
      | normal => exact ih y K f' a' w' hc.2 hK hA' hk
      | _ => exact ⟨f', hA', hk⟩
    | cond x y z =>
      simp only [codeOk, Bool.and_eq_true] at hc
      obtain ⟨t, ht, ha, hb⟩ := h
      refine wp_cond (t := t) (by rw [hA.eval]; exact ht) ?_
      cases t with
      | true => exact ih y K f a w hc.1 hK hA (ha rfl)
      | false => exact ih z K f a w hc.2 hK hA (hb rfl)
    | block id b =>
      have h' : den P scr fuel b _ f w := h
      have hw := ih b _ f a w hc ?_ hA h'
      case refine_1 => exact fun ch f w => hK ch f w
      refine wp_block (wp_mono hw fun e a' w' hq => ?_)
      obtain ⟨f', hA', hk⟩ := hq
      cases e with
      | exit id' =>
        simp only [Exit.inBlock] at hk ⊢
        by_cases hid : id' = id
        · subst hid
          simp only [if_true]
          have hb : Nat.beq id' id' = true := Nat.beq_refl _
          rw [hb] at hk
          exact ⟨f', hA', hk⟩
        · rw [if_neg hid]
          have hb : Nat.beq id' id = false := by
            cases hx : Nat.beq id' id with
            | false => rfl
            | true => exact absurd (Nat.eq_of_beq_eq_true hx) hid
          rw [hb] at hk
          exact ⟨f', hA', hk⟩
      | _ => exact ⟨f', hA', hk⟩
    | loop b =>
      obtain ⟨I, μ, h0, hr⟩ := h
      have hws : WIn (wrt b []) b := fun t ht => ht
      refine wp_loop (fun a w => ∃ f', Agr n f' a ∧ Same (wrt b []) f f' ∧ I ((carS scr b).map f') w) (fun a w => μ ((carS scr b).map fun t => a.tmps.getD t undef) w) ⟨f, hA, Same.refl _ _, h0⟩ fun a1 w1 hI => ?_
      obtain ⟨f1, hA1, hs1, hI1⟩ := hI
      have hb : den P scr fuel b _ (mixF (carS scr b) (wrt b []) ((carS scr b).map f1) f1 f) w1 := hr ((carS scr b).map f1) f1 w1 (by simp) hI1
      rw [mixF_id hs1] at hb
      have hb2 := den_mono (P := P) (scr := scr) fuel b (wrt b []) hws _ (fun e f' w' => Same (wrt b []) f1 f' ∧ (match e with | .normal => fun f' w' => (I ((carS scr b).map f') w' ∧ μ ((carS scr b).map f') w' < μ ((carS scr b).map f1) w1) | e => K e : Frm → World → Prop) f' w') f1 w1
        (fun e f' w' hs hk => ⟨hs, by cases e <;> exact hk⟩) hb
      refine wp_mono (ih b _ f1 a1 w1 hc (fun ch f w hh => hK ch f w hh.2) hA1 hb2) fun e a' w' hq => ?_
      obtain ⟨f', hA', hs', hk⟩ := hq
      cases e with
      | normal => exact ⟨⟨f', hA', hs1.trans hs', hk.1⟩, by rw [hA'.map, hA1.map]; exact hk.2⟩
      | _ => exact ⟨f', hA', hk⟩
    | scope b =>
      unfold den at h
      dsimp only at h
      cases hl : firstLabel b with
      | none =>
        rw [hl] at h
        have hw := ih b _ f a w hc ?_ hA h
        case refine_1 => exact fun ch f w => hK ch f w
        refine wp_scope_straight (wp_mono hw fun e a' w' hq => ?_)
        obtain ⟨f', hA', hk⟩ := hq
        cases e with
        | goto l => exact hk.elim
        | _ => exact ⟨f', hA', hk⟩
      | some l =>
        rw [hl] at h
        simp only at h
        cases hf : findLabel b l with
        | none => rw [hf] at h; exact h.elim
        | some rest =>
          rw [hf] at h
          obtain ⟨I, μ, h0, hr⟩ := h
          have hws : WIn (wrt b []) b := fun t ht => ht
          have hwr : WIn (wrt b []) rest := WIn.label hf hws
          have jmp : ∀ {l' : Nat} {X : World → Prop} {w : World}, (bif Nat.beq l' l then X else fun _ => False) w → l' = l ∧ X w := fun {l' X w} hx => by
            cases hb : Nat.beq l' l with
            | false => rw [hb] at hx; exact hx.elim
            | true => rw [hb] at hx; exact ⟨Nat.eq_of_beq_eq_true hb, hx⟩
          refine wp_scope_jumps l (fun a w => ∃ f', Agr n f' a ∧ Same (wrt b []) f f' ∧ I ((carT scr b rest).map f') w) (fun a w => μ ((carT scr b rest).map fun t => a.tmps.getD t undef) w) hf ?_ fun a1 w1 hI => ?_
          · have hb2 := den_mono (P := P) (scr := scr) fuel b (wrt b []) hws _ (fun e f' w' => Same (wrt b []) f f' ∧ (match e with | .goto l' => fun f' => bif Nat.beq l' l then I ((carT scr b rest).map f') else fun _ => False | e => K e : Frm → World → Prop) f' w') f w
              (fun e f' w' hs hk => ⟨hs, by cases e <;> exact hk⟩) h0
            refine wp_mono (ih b _ f a w hc (fun ch f w hh => hK ch f w hh.2) hA hb2) fun e a' w' hq => ?_
            obtain ⟨f', hA', hs', hk⟩ := hq
            cases e with
            | goto l' =>
              obtain ⟨e1, e2⟩ := jmp hk
              exact ⟨e1, f', hA', hs', e2⟩
            | _ => exact ⟨f', hA', hk⟩
          · obtain ⟨f1, hA1, hs1, hI1⟩ := hI
            have hb : den P scr fuel rest _ (mixF (carT scr b rest) (wrt b []) ((carT scr b rest).map f1) f1 f) w1 := hr ((carT scr b rest).map f1) f1 w1 (by simp) hI1
            rw [mixF_id hs1] at hb
            have hb2 := den_mono (P := P) (scr := scr) fuel rest (wrt b []) hwr _ (fun e f' w' => Same (wrt b []) f1 f' ∧ (match e with | .goto l' => fun f' => bif Nat.beq l' l then (fun w' => I ((carT scr b rest).map f') w' ∧ μ ((carT scr b rest).map f') w' < μ ((carT scr b rest).map f1) w1) else fun _ => False | e => K e : Frm → World → Prop) f' w') f1 w1
              (fun e f' w' hs hk => ⟨hs, by cases e <;> exact hk⟩) hb
            refine wp_mono (ih rest _ f1 a1 w1 (codeOk_label hf hc) (fun ch f w hh => hK ch f w hh.2) hA1 hb2) fun e a' w' hq => ?_
            obtain ⟨f', hA', hs', hk⟩ := hq
            cases e with
            | goto l' =>
              obtain ⟨e1, e2, e3⟩ := jmp hk
              exact ⟨e1, ⟨f', hA', hs1.trans hs', e2⟩, by rw [hA'.map, hA1.map]; exact e3⟩
            | _ => exact ⟨f', hA', hk⟩
def hR (P : Program) (s : Sem Value) (K : Value → World → Prop) (w : World) : Prop := ∃ v, s.run P w = .ok v w ∧ K v w
def resK (P : Program) : List ResultVar → Frm → (List Value → World → Prop) → World → Prop
  | [], _, K => K []
  | .tmp t :: rs, f, K => resK P rs f (fun vs => K (f t :: vs))
  | .cell a t :: rs, f, K => hR P (Instr.loadAt t (f a)) (fun v => resK P rs f (fun vs => K (v :: vs)))
def oneV (vs : List Value) : Value := match vs with | [v] => v | vs => .tuple vs.toArray
def retK (P : Program) (rs : List ResultVar) (R : Value → World → Prop) : Exit → Frm → World → Prop
  | .normal, f => resK P rs f (fun vs => R (oneV vs))
  | .ret, f => resK P rs f (fun vs => R (oneV vs))
  | _, _ => fun _ => False
def frm0 (args : List Value) : Frm := fun t => nthV args t
def resF (tmps : Array Value) : ResultVar → Sem Value
  | .tmp t => pure (tmps.getD t undef)
  | .cell a t => do loadVar t (← asAddr (tmps.getD a undef))
theorem resK_run {rs : List ResultVar} {f : Frm} {n : Nat} {a : Act} (hA : Agr n f a) {K : List Value → World → Prop} {w : World} (h : resK P rs f K w) :
    ∃ vs : List Value, (rs.mapM (m := Sem) (resF a.tmps)).run P w = .ok vs w ∧ K vs w := by
  induction rs generalizing K with
  | nil => exact ⟨[], by simp, h⟩
  | cons r rs ih =>
    cases r with
    | tmp t =>
      obtain ⟨vs, h1, h2⟩ := ih h
      refine ⟨f t :: vs, ?_, h2⟩
      rw [List.mapM_cons, Sem.run_bind]
      simp only [resF, Sem.run_pure, Result.andThen_ok, Sem.run_bind]
      rw [h1, hA.2.2 t]; rfl
    | cell x t =>
      obtain ⟨v, hv, h3⟩ := h
      obtain ⟨vs, h1, h2⟩ := ih h3
      refine ⟨v :: vs, ?_, h2⟩
      rw [List.mapM_cons, Sem.run_bind]
      have hrun : (resF a.tmps (.cell x t)).run P w = .ok v w := by
        unfold resF
        dsimp only
        rw [hA.2.2 x]
        unfold Instr.loadAt Instr.sureAddr at hv
        generalize f x = y at *
        cases y with
        | pointer p => cases p with
          | none => exact absurd hv (by simp)
          | some p => exact hv
        | _ => exact absurd hv (by simp)
      rw [hrun]
      simp only [Result.andThen_ok, Sem.run_bind]
      rw [h1]; rfl
theorem calls_of_den (hm : P.follows .mixedOrders = true) {f : FuncId} {fn : Func} {c : Code} {args : List Value} {w : World} {R : Value → World → Prop} {rs : List ResultVar} (fuel : Nat)
    (hf : P.funcs[f]? = some fn) (hb : fn.body = some c) (hr : fn.results = rs.toArray) (hn : Nat.ble args.length fn.ntmps = true) (hok : codeOk scr fn.ntmps c = true)
    (h : den P scr fuel c (retK P rs R) (frm0 args) w) : Calls P f args.toArray w (fun e w' => ∃ v, e = .returned v ∧ R v w') := by
  have hn' : args.length ≤ fn.ntmps := Nat.le_of_ble_eq_true hn
  refine calls_of_wp hf hb ?_
  have hA : Agr fn.ntmps (frm0 args) { tmps := args.toArray ++ Array.replicate (fn.ntmps - args.toArray.size) undef, defers := [] } := by
    refine ⟨rfl, by simp; omega, fun t => ?_⟩
    have : ∀ (l : List Value) (k t : Nat), (l.toArray ++ Array.replicate k undef).getD t undef = nthV l t := by
      intro l
      induction l with
      | nil =>
        intro k t
        simp only [nthV, Array.getD_eq_getD_getElem?]
        by_cases hlt : t < k <;> simp [hlt]
      | cons x l ih =>
        intro k t
        cases t with
        | zero => simp only [nthV, Array.getD_eq_getD_getElem?]; rw [Array.getElem?_append_left (by simp)]; simp
        | succ t =>
          have := ih k t
          simp only [nthV]
          rw [← this]
          simp only [Array.getD_eq_getD_getElem?]
          congr 1
          simp [Array.getElem?_append, List.getElem?_cons_succ]
    exact this _ _ _
  refine wp_mono (den_sound hm fuel c (retK P rs R) (frm0 args) _ w hok (fun ch f w hh => hh) hA h) fun e a' w' hq => ?_
  obtain ⟨f', hA', hk⟩ := hq
  have fin : ∀ K, resK P rs f' (fun vs => R (oneV vs)) w' → (K = Exit.normal ∨ K = Exit.ret) → bodyPost P fn (fun e w' => ∃ v, e = .returned v ∧ R v w') K a' w' := by
    intro K hk hKe
    obtain ⟨vs, h1, h2⟩ := resK_run hA' hk
    have hres : (results fn a'.tmps).run P w' = .ok (oneV vs) w' := by
      have e : results fn a'.tmps = (do let vs ← fn.results.mapM (resF a'.tmps); pure (if h : vs.size = 1 then vs[0] else .tuple vs)) := rfl
      rw [e, hr, List.mapM_toArray]
      simp only [Sem.run_bind, Sem.run_map]
      rw [h1]
      simp only [Result.andThen_ok]
      cases vs with
      | nil => rfl
      | cons v vs => cases vs <;> simp [oneV]
    rcases hKe with rfl | rfl <;> exact ⟨hA'.1, _, hres, _, rfl, h2⟩
  cases e with
  | normal => exact fin _ hk (.inl rfl)
  | ret => exact fin _ hk (.inr rfl)
  | _ => exact hk.elim
end
end Go.Gd
namespace Go.Gd
@[irreducible] noncomputable def P : Program := Go.Proofs.Tryz.prog
theorem wide : P.follows .mixedOrders = true := by kernel_rfl
def bodyOf (f : Func) : Code := match f.body with | some c => c | none => .skip
def scrOf : List (Nat × Scr) → Nat → Scr
  | [], _ => .nil
  | (i, s) :: l, n => bif Nat.beq n i then s else scrOf l n
def isOur (P : Program) (k : FuncId) : Bool := match P.funcs[k]? with | some fn => !(fn.name == "runtime.NumGoroutine") && fn.body.isSome | none => false
theorem callFunc_run {P : Program} {k : FuncId} (h : isOur P k = true) (args : Array Value) (w : World) : (callFunc k args).run P w = .ok (.enter k args) w := by
  unfold isOur at h
  unfold callFunc
  cases hf : P.funcs[k]? with
  | none => rw [hf] at h; cases h
  | some fn =>
    rw [hf] at h
    simp only [Bool.and_eq_true, Bool.not_eq_true'] at h
    obtain ⟨h1, h2⟩ := h
    have h3 : fn.body.isNone = false := by cases hb : fn.body <;> rw [hb] at h2 <;> simp_all
    simp only [Sem.run_bind, run_program, Result.andThen_ok, hf, h1, h3, Bool.false_eq_true, if_false]
    rfl
theorem hF_of {P : Program} {k : FuncId} (hk : isOur P k = true) {args : Array Value} {w : World} {R : Value → World → Prop} (h : Calls P k args w (fun e w' => ∃ v, e = .returned v ∧ R v w')) : hF P k args R w := by
  unfold hF hX
  rw [callFunc_run hk]
  exact h
def hJ {α : Type} (j : α) (b : α → World → Prop) : World → Prop := b j
abbrev hLoop1 (a0 : Value) (body : Value → Frm → (Value → World → Prop) → World → Prop) : World → Prop :=
  hLoop [a0] fun vs g next => body (nthV vs 0) g (fun a0 => next [a0])
abbrev hLoop2 (a0 a1 : Value) (body : Value → Value → Frm → (Value → Value → World → Prop) → World → Prop) : World → Prop :=
  hLoop [a0, a1] fun vs g next => body (nthV vs 0) (nthV vs 1) g (fun a0 a1 => next [a0, a1])
abbrev hLoop3 (a0 a1 a2 : Value) (body : Value → Value → Value → Frm → (Value → Value → Value → World → Prop) → World → Prop) : World → Prop :=
  hLoop [a0, a1, a2] fun vs g next => body (nthV vs 0) (nthV vs 1) (nthV vs 2) g (fun a0 a1 a2 => next [a0, a1, a2])
abbrev hLoop4 (a0 a1 a2 a3 : Value) (body : Value → Value → Value → Value → Frm → (Value → Value → Value → Value → World → Prop) → World → Prop) : World → Prop :=
  hLoop [a0, a1, a2, a3] fun vs g next => body (nthV vs 0) (nthV vs 1) (nthV vs 2) (nthV vs 3) g (fun a0 a1 a2 a3 => next [a0, a1, a2, a3])
end Go.Gd
namespace Go.Gd
inductive Hold where
  | own (o : Obj)
  | imm (o : Obj)
abbrev Res := Nat → Option Hold
def joinO : Option Hold → Option Hold → Option Hold → Prop
  | none, x, y => y = x
  | some a, none, y => y = some a
  | some (.imm a), some (.imm b), y => a = b ∧ y = some (.imm a)
  | _, _, _ => False
def Join (a b c : Res) : Prop := ∀ n, joinO (a n) (b n) (c n)
abbrev HP := Res → Prop
def sepL : List HP → Res → Prop
  | [], _ => True
  | A :: L, r => ∃ a b, Join a b r ∧ A a ∧ sepL L b
theorem joinO_comm {a b c : Option Hold} (h : joinO a b c) : joinO b a c := by
  cases a with
  | none => cases b with
    | none => exact h
    | some b => exact h
  | some a => cases b with
    | none => exact h
    | some b => cases a <;> cases b <;> simp only [joinO] at h ⊢; exact ⟨h.1.symm, by rw [h.2, h.1]⟩
theorem joinO_assoc {a b c ab r : Option Hold} (h1 : joinO a b ab) (h2 : joinO ab c r) : ∃ bc, joinO b c bc ∧ joinO a bc r := by
  cases a with
  | none => simp only [joinO] at h1; subst h1; exact ⟨r, h2, rfl⟩
  | some a => cases b with
    | none => simp only [joinO] at h1; subst h1; exact ⟨c, rfl, h2⟩
    | some b => cases a <;> cases b <;> simp only [joinO] at h1
                obtain ⟨rfl, rfl⟩ := h1
                cases c with
                | none => simp only [joinO] at h2; subst h2; exact ⟨_, rfl, rfl, rfl⟩
                | some c => cases c <;> simp only [joinO] at h2
                            obtain ⟨rfl, rfl⟩ := h2
                            exact ⟨_, ⟨rfl, rfl⟩, rfl, rfl⟩
theorem Join.comm {a b c : Res} (h : Join a b c) : Join b a c := fun n => joinO_comm (h n)
theorem Join.assoc {a b c ab r : Res} (h1 : Join a b ab) (h2 : Join ab c r) : ∃ bc, Join b c bc ∧ Join a bc r :=
  ⟨fun n => (joinO_assoc (h1 n) (h2 n)).choose, fun n => (joinO_assoc (h1 n) (h2 n)).choose_spec.1, fun n => (joinO_assoc (h1 n) (h2 n)).choose_spec.2⟩
theorem Join.assoc' {a b c bc r : Res} (h1 : Join b c bc) (h2 : Join a bc r) : ∃ ab, Join a b ab ∧ Join ab c r := by
  obtain ⟨x, h3, h4⟩ := Join.assoc h1.comm h2.comm
  exact ⟨x, h3.comm, h4.comm⟩
theorem Join.none (r : Res) : Join r (fun _ => none) r := fun n => by cases h : r n <;> simp [joinO]
theorem sepL_perm {L L' : List HP} (h : L.Perm L') : ∀ {r : Res}, sepL L r → sepL L' r := by
  induction h with
  | nil => exact fun h => h
  | cons A _ ih => exact fun ⟨a, b, j, hA, hL⟩ => ⟨a, b, j, hA, ih hL⟩
  | swap A B L =>
    intro r ⟨a, x, j, hA, b, c, j2, hB, hL⟩
    obtain ⟨ab, j3, j4⟩ := Join.assoc' j2 j
    obtain ⟨ac, j5, j6⟩ := Join.assoc j3.comm j4
    exact ⟨b, ac, j6, hB, a, c, j5, hA, hL⟩
  | trans _ _ ih1 ih2 => exact fun h => ih2 (ih1 h)
theorem sepL_append {L M : List HP} {r : Res} : sepL (L ++ M) r ↔ ∃ a b, Join a b r ∧ sepL L a ∧ sepL M b := by
  induction L generalizing r with
  | nil => exact ⟨fun h => ⟨_, _, (Join.none r).comm, trivial, h⟩, fun ⟨a, b, j, _, h⟩ => by
      revert h; revert j
      intro j h
      have : ∀ (L : List HP) (b r a : Res), Join a b r → sepL L b → sepL L r := by
        intro L
        induction L with
        | nil => intro _ _ _ _ _; trivial
        | cons A L ih =>
          intro b r a j ⟨x, y, j2, hA, hL⟩
          obtain ⟨ax, j3, j4⟩ := Join.assoc' j2 j
          obtain ⟨ay, j5, j6⟩ := Join.assoc j3.comm j4
          exact ⟨x, ay, j6, hA, ih _ _ _ j5 hL⟩
      exact this M b r a j h⟩
  | cons A L ih =>
    constructor
    · intro ⟨a, b, j, hA, h⟩
      obtain ⟨c, d, j2, h1, h2⟩ := ih.1 h
      obtain ⟨ac, j3, j4⟩ := Join.assoc' j2 j
      exact ⟨ac, d, j4, ⟨a, c, j3, hA, h1⟩, h2⟩
    · intro ⟨x, d, j, ⟨a, c, j2, hA, h1⟩, h2⟩
      obtain ⟨cd, j3, j4⟩ := Join.assoc j2 j
      exact ⟨a, cd, j4, hA, ih.2 ⟨c, d, j3, h1, h2⟩⟩
def blk (b : Nat) (o : Obj) : HP := fun r => r b = some (.own o)
def imm (b : Nat) (o : Obj) : HP := fun r => r b = some (.imm o)
def pureH (φ : Prop) : HP := fun _ => φ
def exH {α : Sort _} (f : α → HP) : HP := fun r => ∃ x, f x r
def star (L : List HP) : HP := sepL L
def pt (b : Nat) (T : TypeId) (l : List Value) : HP := blk b (.cells l.toArray T (0, 0))
def ptI (b : Nat) (T : TypeId) (l : List Value) : HP := imm b (.cells l.toArray T (0, 0))
def Old (w0 w : World) : Prop := w0.heap.size ≤ w.heap.size ∧ (∀ n, n < w0.heap.size → w.heap[n]? = w0.heap[n]?) ∧ w.os = w0.os ∧ w.output = w0.output ∧ w.tape = w0.tape
def Agree (w0 w : World) (r : Res) : Prop := ∀ n o, r n = some (.own o) ∨ r n = some (.imm o) → w0.heap.size ≤ n ∧ w.heap[n]? = some o
def Sat (w0 : World) (L : List HP) (w : World) : Prop := Old w0 w ∧ ∃ r, sepL L r ∧ Agree w0 w r
theorem Old.refl (w : World) : Old w w := ⟨Nat.le_refl _, fun _ _ => rfl, rfl, rfl, rfl⟩
theorem Agree.left {w0 w : World} {a b r : Res} (j : Join a b r) (h : Agree w0 w r) : Agree w0 w a := fun n o ho => by
  have := j n
  rcases ho with ho | ho <;> rw [ho] at this <;> cases hb : b n <;> rw [hb] at this
  · exact h n o (.inl this)
  · rename_i y; cases y <;> exact this.elim
  · exact h n o (.inr this)
  · rename_i y; cases y with
    | own => exact this.elim
    | imm => exact h n o (.inr this.2)
theorem Agree.right {w0 w : World} {a b r : Res} (j : Join a b r) (h : Agree w0 w r) : Agree w0 w b := Agree.left j.comm h
section
variable {w0 : World}
theorem Sat.nil {w : World} (h : Old w0 w) : Sat w0 [] w := ⟨h, fun _ => none, trivial, fun n o ho => by rcases ho with h | h <;> cases h⟩
theorem Sat.old {L : List HP} {w : World} (h : Sat w0 L w) : Old w0 w := h.1
theorem Sat.perm {L L' : List HP} {w : World} (hp : L.Perm L') (h : Sat w0 L w) : Sat w0 L' w := ⟨h.1, h.2.choose, sepL_perm hp h.2.choose_spec.1, h.2.choose_spec.2⟩
theorem Sat.tail {A : HP} {L : List HP} {w : World} (h : Sat w0 (A :: L) w) : Sat w0 L w := by
  obtain ⟨h1, r, ⟨a, b, j, _, hL⟩, hr⟩ := h
  exact ⟨h1, b, hL, hr.right j⟩
theorem Sat.exE {α : Sort _} {f : α → HP} {L : List HP} {w : World} (h : Sat w0 (exH f :: L) w) : ∃ x, Sat w0 (f x :: L) w := by
  obtain ⟨h1, r, ⟨a, b, j, ⟨x, hA⟩, hL⟩, hr⟩ := h
  exact ⟨x, h1, r, ⟨a, b, j, hA, hL⟩, hr⟩
theorem Sat.pureE {φ : Prop} {L : List HP} {w : World} (h : Sat w0 (pureH φ :: L) w) : φ ∧ Sat w0 L w := by
  refine ⟨?_, h.tail⟩
  obtain ⟨h1, r, ⟨a, b, j, hA, hL⟩, hr⟩ := h
  exact hA
theorem Sat.starE {M L : List HP} {w : World} (h : Sat w0 (star M :: L) w) : Sat w0 (M ++ L) w := by
  obtain ⟨h1, r, ⟨a, b, j, hA, hL⟩, hr⟩ := h
  exact ⟨h1, r, sepL_append.2 ⟨a, b, j, hA, hL⟩, hr⟩
theorem Sat.mem0 {b : Nat} {o : Obj} {L : List HP} {w : World} (h : Sat w0 (blk b o :: L) w) : w0.heap.size ≤ b ∧ w.heap[b]? = some o := by
  obtain ⟨h1, r, ⟨a, c, j, hA, hL⟩, hr⟩ := h
  exact (hr.left j) b o (.inl hA)
theorem Sat.memI0 {b : Nat} {o : Obj} {L : List HP} {w : World} (h : Sat w0 (imm b o :: L) w) : w0.heap.size ≤ b ∧ w.heap[b]? = some o := by
  obtain ⟨h1, r, ⟨a, c, j, hA, hL⟩, hr⟩ := h
  exact (hr.left j) b o (.inr hA)
theorem pick_perm {α : Type _} : ∀ {L : List α} {i : Nat} {A : α}, L[i]? = some A → L.Perm (A :: L.eraseIdx i)
  | [], i, A, h => by simp at h
  | x :: L, 0, A, h => by simp at h; subst h; exact List.Perm.refl _
  | x :: L, i + 1, A, h => by
    have := pick_perm (L := L) (i := i) (A := A) (by simpa using h)
    simp only [List.eraseIdx_cons_succ]
    exact (List.Perm.cons x this).trans (List.Perm.swap A x _)
theorem set_perm {α : Type _} : ∀ {L : List α} {i : Nat} {A : α}, L[i]? = some A → ∀ B, (L.set i B).Perm (B :: L.eraseIdx i)
  | [], i, A, h, B => by simp at h
  | x :: L, 0, A, h, B => by simp
  | x :: L, i + 1, A, h, B => by
    have := set_perm (L := L) (i := i) (A := A) (by simpa using h) B
    simp only [List.eraseIdx_cons_succ, List.set_cons_succ]
    exact (List.Perm.cons x this).trans (List.Perm.swap B x _)
theorem Sat.mem {b : Nat} {o : Obj} {L : List HP} {w : World} (i : Nat) (hi : L[i]? = some (blk b o)) (h : Sat w0 L w) : w0.heap.size ≤ b ∧ w.heap[b]? = some o := (h.perm (pick_perm hi)).mem0
theorem Sat.memI {b : Nat} {o : Obj} {L : List HP} {w : World} (i : Nat) (hi : L[i]? = some (imm b o)) (h : Sat w0 L w) : w0.heap.size ≤ b ∧ w.heap[b]? = some o := (h.perm (pick_perm hi)).memI0
theorem Sat.put0 {b : Nat} {o o' : Obj} {L : List HP} {w w' : World} (h : Sat w0 (blk b o :: L) w) (hh : ∀ n, w'.heap[n]? = if n = b then some o' else w.heap[n]?) (hs : w'.heap.size = w.heap.size)
    (ho : w'.os = w.os) (hp : w'.output = w.output) (ht : w'.tape = w.tape) : Sat w0 (blk b o' :: L) w' := by
  have hm := h.mem0
  obtain ⟨⟨e1, e2, e3, e4, e5⟩, r, ⟨a, c, j, hA, hL⟩, hr⟩ := h
  refine ⟨⟨by rw [hs]; exact e1, fun n hn => ?_, ho.trans e3, hp.trans e4, ht.trans e5⟩, fun n => if n = b then some (.own o') else r n, ⟨fun n => if n = b then some (.own o') else a n, c, fun n => ?_, by simp [blk], hL⟩, fun n o2 h2 => ?_⟩
  · rw [hh n, if_neg (by omega)]; exact e2 n hn
  · by_cases hn : n = b
    · subst hn
      have := j n
      have ha : a n = some (.own o) := hA
      rw [ha] at this
      cases hc : c n with
      | none => simp [joinO]
      | some x => rw [hc] at this; cases x <;> exact this.elim
    · simp only [if_neg hn]; exact j n
  · by_cases hn : n = b
    · subst hn
      simp only [if_true, Option.some.injEq, Hold.own.injEq, reduceCtorEq, or_false] at h2
      subst h2
      exact ⟨hm.1, by rw [hh n, if_pos rfl]⟩
    · simp only [if_neg hn] at h2
      rw [hh n, if_neg hn]
      exact hr n o2 h2
theorem Sat.put {b : Nat} {o o' : Obj} {L : List HP} {w w' : World} (i : Nat) (hi : L[i]? = some (blk b o)) (h : Sat w0 L w) (hh : ∀ n, w'.heap[n]? = if n = b then some o' else w.heap[n]?) (hs : w'.heap.size = w.heap.size)
    (ho : w'.os = w.os) (hp : w'.output = w.output) (ht : w'.tape = w.tape) : Sat w0 (L.set i (blk b o')) w' :=
  ((h.perm (pick_perm hi)).put0 hh hs ho hp ht).perm (set_perm hi _).symm
theorem Sat.new {o : Obj} {L : List HP} {w w' : World} (h : Sat w0 L w) (hh : w'.heap = w.heap.push o) (ho : w'.os = w.os) (hp : w'.output = w.output) (ht : w'.tape = w.tape) : Sat w0 (blk w.heap.size o :: L) w' := by
  obtain ⟨⟨e1, e2, e3, e4, e5⟩, r, hL, hr⟩ := h
  have hn : r w.heap.size = none := by
    cases hx : r w.heap.size with
    | none => rfl
    | some x =>
      cases x with
      | own o2 => have := (hr _ o2 (.inl hx)).2; simp at this
      | imm o2 => have := (hr _ o2 (.inr hx)).2; simp at this
  refine ⟨⟨by rw [hh]; simp; omega, fun n hn => ?_, ho.trans e3, hp.trans e4, ht.trans e5⟩, fun n => if n = w.heap.size then some (.own o) else r n,
    ⟨fun n => if n = w.heap.size then some (.own o) else none, r, fun n => ?_, by simp [blk], hL⟩, fun n o2 h2 => ?_⟩
  · rw [hh, Array.getElem?_push, if_neg (by omega)]; exact e2 n hn
  · by_cases hx : n = w.heap.size
    · subst hx; simp [hn, joinO]
    · simp [hx, joinO]
  · by_cases hx : n = w.heap.size
    · subst hx
      simp only [if_true, Option.some.injEq, Hold.own.injEq, reduceCtorEq, or_false] at h2
      subst h2
      exact ⟨e1, by rw [hh]; simp⟩
    · simp only [if_neg hx] at h2
      have := hr n o2 h2
      refine ⟨this.1, ?_⟩
      rw [hh, Array.getElem?_push, if_neg hx]
      exact this.2
theorem Sat.same {L : List HP} {w w' : World} (h : Sat w0 L w) (hh : w'.heap = w.heap) (ho : w'.os = w.os) (hp : w'.output = w.output) (ht : w'.tape = w.tape) : Sat w0 L w' := by
  obtain ⟨⟨e1, e2, e3, e4, e5⟩, r, hL, hr⟩ := h
  exact ⟨⟨by rw [hh]; exact e1, fun n hn => by rw [hh]; exact e2 n hn, ho.trans e3, hp.trans e4, ht.trans e5⟩, r, hL, fun n o h2 => by rw [hh]; exact hr n o h2⟩
theorem Sat.drew {L : List HP} {w : World} (h : Sat w0 L w) : Sat w0 L { w with drawn := w.drawn + 1 } := h.same rfl rfl rfl rfl
def immPart (r : Res) : Res := fun n => match r n with | some (.imm o) => some (.imm o) | _ => none
def Pers (A : HP) : Prop := ∀ r, A r → A (immPart r)
theorem Pers.imm (b : Nat) (o : Obj) : Pers (imm b o) := fun r h => by simp only [Gd.imm, immPart] at *; rw [h]
theorem Pers.pure (φ : Prop) : Pers (pureH φ) := fun _ h => h
theorem Pers.ex {α : Sort _} {f : α → HP} (h : ∀ x, Pers (f x)) : Pers (exH f) := fun r ⟨x, hx⟩ => ⟨x, h x r hx⟩
theorem Sat.freeze {b : Nat} {o : Obj} {L : List HP} {w : World} (h : Sat w0 (blk b o :: L) w) : Sat w0 (imm b o :: L) w := by
  obtain ⟨h1, r, ⟨a, c, j, hA, hL⟩, hr⟩ := h
  have hA' : a b = some (.own o) := hA
  refine ⟨h1, fun n => if n = b then some (.imm o) else r n, ⟨fun n => if n = b then some (.imm o) else a n, c, fun n => ?_, by simp [Gd.imm], hL⟩, fun n o2 h2 => ?_⟩
  · by_cases hn : n = b
    · subst hn
      have := j n
      rw [hA'] at this
      cases hc : c n with
      | none => simp [joinO]
      | some x => rw [hc] at this; cases x <;> exact this.elim
    · simp only [if_neg hn]; exact j n
  · by_cases hn : n = b
    · subst hn
      simp only [if_true, Option.some.injEq, Hold.imm.injEq, reduceCtorEq, false_or] at h2
      subst h2
      exact (hr.left j) n o (.inl hA')
    · simp only [if_neg hn] at h2; exact hr n o2 h2
end
end Go.Gd
