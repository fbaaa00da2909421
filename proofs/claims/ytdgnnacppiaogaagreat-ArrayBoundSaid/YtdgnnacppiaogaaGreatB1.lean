/- den: the code of a function read as a predicate transformer over frames; densound: whoever shows it has shown the call. Conditions: none beyond those in the theorems. densound and the entry into a function: callsofden. Conditions: none beyond those in the theorems. -/
import Derived.Test.YtdgnnacppiaogaaGreatB0
import Derived.Scope
set_option linter.unusedVariables false
set_option linter.unusedSimpArgs false
namespace Go.Gd
section
variable (P : Program)
abbrev Ops := List Oper
def opN (f : Frm) (o : Oper) (K : Value → World → Prop) : World → Prop := dOp (hV P) (hV P) (hU P) (hX P) f o K
def denOps (ops : Ops) (K : Frm → World → Prop) : Ops → Mem → Frm → World → Prop
  | [], _, f => K f
  | o :: rest, m, f =>
    match o.guard with
    | none => opN P f o (fun v => denOps ops K rest (forget m o.dst) (updO f o.dst v))
    | some (j, want) =>
      match slotOf ops j with
      | none => fun _ => False
      | some t =>
        match known m t want with
        | some true => opN P f o (fun v => denOps ops K rest (forget m o.dst) (updO f o.dst v))
        | some false => denOps ops K rest (forget m o.dst) (updO f o.dst undef)
        | none => hGuard (f t) want (opN P f o (fun v => denOps ops K rest (forget (some (t, want, true)) o.dst) (updO f o.dst v)))
            (denOps ops K rest (forget (some (t, want, false)) o.dst) (updO f o.dst undef))
inductive Scr where
  | done
  | take (i : Nat) (s : Scr)
  | alt (i : Nat) (s t : Scr)
  | sink (i : Nat) (s : Scr)
  | nil
def hAnd (C X : World → Prop) (w : World) : Prop := C w ∧ X w
def opQ (C : World → Prop) (f : Frm) (o : Oper) (K : Value → World → Prop) : World → Prop := dOp (mV P (Dq C o)) (hV P) (hU P) (hX P) f o K
def opL (C : World → Prop) (f : Frm) (o : Oper) (K : Value → World → Prop) : World → Prop := dOp (hV P) (hV P) (hU P) (hX P) f o (fun v => hAnd C (K v))
def gdOp (run : Oper → Frm → (Value → World → Prop) → World → Prop) (ops : Ops) (o : Oper) (m : Mem) (f : Frm) (K : Mem → Frm → World → Prop) : World → Prop :=
  match o.guard with
  | none => run o f (fun v => K (forget m o.dst) (updO f o.dst v))
  | some (j, want) =>
    match slotOf ops j with
    | none => fun _ => False
    | some t =>
      match known m t want with
      | some true => run o f (fun v => K (forget m o.dst) (updO f o.dst v))
      | some false => K (forget m o.dst) (updO f o.dst undef)
      | none => hGuard (f t) want (run o f (fun v => K (forget (some (t, want, true)) o.dst) (updO f o.dst v)))
          (K (forget (some (t, want, false)) o.dst) (updO f o.dst undef))
def denScr (C : World → Prop) (ops : Ops) (K : Frm → World → Prop) : Scr → Mem → Frm → World → Prop
  | .done, _, f => K f
  | .take i s, m, f => match nthO ops i with | none => fun _ => False | some o => gdOp (fun o f K => opQ P C f o K) ops o m f (denScr C ops K s)
  | .sink i s, m, f => match nthO ops i with | none => fun _ => False | some o => gdOp (fun o f K => opN P f o K) ops o m f (denScr C ops K s)
  | .alt i s .nil, m, f => match nthO ops i with | none => fun _ => False | some o => gdOp (fun o f K => opL P C f o K) ops o m f (denScr C ops K s)
  | .alt i s t, m, f => hAnd (match nthO ops i with | none => fun _ => False | some o => gdOp (fun o f K => opL P C f o K) ops o m f (denScr C ops K s)) (denScr C ops K t m f)
  | .nil, _, _ => fun _ => True
def hDraw (body : (World → Prop) → World → Prop) (w : World) : Prop := ∃ C : World → Prop, C { w with drawn := w.drawn + 1 } ∧ body C { w with drawn := w.drawn + 1 }
def takes (ops : Array Oper) : Scr → Bool
  | .take i s => (match ops[i]? with | some o => isRead o.op | none => true) || takes ops s
  | .alt _ _ _ => true
  | .sink _ s => takes ops s
  | _ => false
def alts : Scr → List Nat
  | .alt i _ t => i :: alts t
  | _ => []
def scrOk (ops : Array Oper) : Array Bool → Scr → Bool
  | listed, .done => (Region.ready .any ops listed).isEmpty
  | listed, .take i s => (Region.ready .any ops listed).contains i && Region.free .any ops listed i && (match ops[i]? with | some o => isQuiet o.op | none => false) && scrOk ops (listed.setIfInBounds i true) s
  | listed, .alt i s t => scrOk ops (listed.setIfInBounds i true) s && scrOk ops listed t
  | listed, .sink i s => sinkB ops i && !takes ops s && ((Region.ready .any ops listed).all fun k => Nat.beq k i) && !(Region.ready .any ops listed).isEmpty && scrOk ops (listed.setIfInBounds i true) s
  | _, .nil => true
def depth : Scr → Nat
  | .take _ s => depth s + 1
  | .sink _ s => depth s + 1
  | .alt _ s t => Nat.max (depth s + 1) (depth t)
  | _ => 0
def scrAll (ops : Array Oper) : Bool → Array Bool → Scr → Bool
  | _, _, .done => true
  | _, listed, .take i s => scrAll ops true (listed.setIfInBounds i true) s
  | _, listed, .sink i s => scrAll ops true (listed.setIfInBounds i true) s
  | head, listed, .alt i s t => (!head || ((Region.ready .any ops listed).all fun k => (alts (.alt i s t)).contains k) && !(Region.ready .any ops listed).isEmpty) && scrAll ops true (listed.setIfInBounds i true) s && scrAll ops false listed t
  | head, _, .nil => !head
def pV (P : Program) (s : Sem Value) (K : Value → World → Prop) : World → Prop := mV P (fun _ => True) s K
def dstsOf : Ops → List Nat
  | [] => []
  | o :: l => match o.dst with | some d => d :: dstsOf l | none => dstsOf l
def memN (l : List Nat) (n : Nat) : Bool := match l with | [] => false | x :: l => bif Nat.beq n x then true else memN l n
def addN (l : List Nat) (n : Nat) : List Nat := bif memN l n then l else l ++ [n]
def expT (w : List Nat) (a : List Nat) : List Nat → List Nat
  | [] => a
  | t :: l => expT w (bif memN w t then a else addN a t) l
def expOps (all : Array Oper) : Ops → List Nat × List Nat → List Nat × List Nat
  | [], s => s
  | o :: l, (w, a) =>
    expOps all l ((match o.dst with | some d => d :: w | none => w), (match o.op, o.dst with | .assign _, some d => addN (expT w a (o.looksAt all)) d | _, _ => expT w a (o.looksAt all)))
def expC : Code → List Nat × List Nat → List Nat × List Nat
  | .region _ ops _, s => expOps ops ops.toList s
  | .seq a b, s => expC b (expC a s)
  | .cond c a b, (w, l) => expC b (expC a (w, match c with | .tmp t => expT w l [t] | _ => l))
  | .block _ b, s => expC b s
  | .loop b, s => expC b s
  | .scope b, s => expC b s
  | _, s => s
def wrt : Code → List Nat → List Nat
  | .region _ ops _, acc => dstsOf ops.toList ++ acc
  | .seq a b, acc => wrt b (wrt a acc)
  | .cond _ a b, acc => wrt b (wrt a acc)
  | .block _ b, acc => wrt b acc
  | .loop b, acc => wrt b acc
  | .scope b, acc => wrt b acc
  | _, acc => acc
def scrL : Scr → List Nat
  | .take i s => i :: scrL s
  | _ => []
def carS (scr : Nat → Scr) (c : Code) : List Nat := (expC c ([], [])).2.filter fun t => memN (wrt c []) t && !memN (scrL (scr 999999)) t
def carT (scr : Nat → Scr) (c r : Code) : List Nat := (expC r ([], [])).2.filter fun t => memN (wrt c []) t && !memN (scrL (scr 999999)) t
def nthV : List Value → Nat → Value
  | [], _ => undef
  | v :: _, 0 => v
  | _ :: l, n + 1 => nthV l n
def idxN : List Nat → Nat → Option Nat
  | [], _ => none
  | x :: l, n => bif Nat.beq n x then some 0 else (match idxN l n with | some k => some (k + 1) | none => none)
def mixF (cs ws : List Nat) (vs : List Value) (g f : Frm) : Frm := fun t =>
  bif memN ws t then (match idxN cs t with | some k => nthV vs k | none => g t) else f t
def hLoop (init : List Value) (body : List Value → Frm → (List Value → World → Prop) → World → Prop) (w : World) : Prop :=
  ∃ (I : List Value → World → Prop) (μ : List Value → World → Nat), I init w ∧
    ∀ (vs : List Value) (g : Frm) (w : World), vs.length = init.length → I vs w → body vs g (fun vs' w' => (I vs' w' ∧ μ vs' w' < μ vs w)) w
def hScope (first : (List Value → World → Prop) → World → Prop) (pass : List Value → Frm → (List Value → World → Prop) → World → Prop) (n : Nat) (w : World) : Prop :=
  ∃ (I : List Value → World → Prop) (μ : List Value → World → Nat), first I w ∧
    ∀ (vs : List Value) (g : Frm) (w : World), vs.length = n → I vs w → pass vs g (fun vs' w' => (I vs' w' ∧ μ vs' w' < μ vs w)) w
def firstLabel : Code → Option Nat
  | .seq a b => match firstLabel a with | some l => some l | none => firstLabel b
  | .label l => some l
  | _ => none
def den (scr : Nat → Scr) : Nat → Code → (Exit → Frm → World → Prop) → Frm → World → Prop
  | 0, _, _, _ => fun _ => False
  | n + 1, c, K, f =>
    match c with
    | .skip => K .normal f
    | .label _ => K .normal f
    | .region id ops draw =>
      bif draw then hDraw (fun C => denScr P C ops.toList (K .normal) (scr id) none f) else denOps P ops.toList (K .normal) ops.toList none f
    | .seq a b => den scr n a (fun e f' => match e with | .normal => den scr n b K f' | e => K e f') f
    | .cond c a b => hIf (ev f c) (den scr n a K f) (den scr n b K f)
    | .block id b => den scr n b (fun e f' => match e with | .exit id' => bif Nat.beq id' id then K .normal f' else K (.exit id') f' | e => K e f') f
    | .loop b =>
      hLoop ((carS scr b).map f) (fun vs g next => den scr n b (fun e f' => match e with | .normal => next ((carS scr b).map f') | e => K e f') (mixF (carS scr b) (wrt b []) vs g f))
    | .scope b =>
      match firstLabel b with
      | none => den scr n b (fun e f' => match e with | .goto _ => fun _ => False | e => K e f') f
      | some l =>
        match findLabel b l with
        | none => fun _ => False
        | some rest =>
          hScope (fun jump => den scr n b (fun e f' => match e with | .goto l' => bif Nat.beq l' l then jump ((carT scr b rest).map f') else fun _ => False | e => K e f') f)
            (fun vs g jump => den scr n rest (fun e f' => match e with | .goto l' => bif Nat.beq l' l then jump ((carT scr b rest).map f') else fun _ => False | e => K e f') (mixF (carT scr b rest) (wrt b []) vs g f))
            (carT scr b rest).length
    | .exit id => K (.exit id) f
    | .goto l => K (.goto l) f
    | .ret => K .ret f
    | _ => fun _ => False
def opsOk (n : Nat) (ops : Ops) : Bool := ops.all fun o => dstOk n o && (match o.guard with | some (j, _) => (match slotOf ops j with | some t => Nat.ble (t + 1) n | none => false) | none => true)
def codeOk (scr : Nat → Scr) (n : Nat) : Code → Bool
  | .region id ops draw => opsOk n ops.toList && (!draw || (Region.noSelect ops && scrOk ops (Array.replicate ops.size false) (scr id) && scrAll ops true (Array.replicate ops.size false) (scr id) && Nat.ble (depth (scr id)) ops.size))
  | .seq a b => codeOk scr n a && codeOk scr n b
  | .cond _ a b => codeOk scr n a && codeOk scr n b
  | .block _ b => codeOk scr n b
  | .loop b => codeOk scr n b
  | .scope b => codeOk scr n b
  | _ => true
end
theorem MemOk.yes {f : Frm} {t : Nat} {want : Bool} (h : f t = .bool want) : MemOk (some (t, want, true)) f := by
  intro t' w' tr e
  obtain ⟨rfl, rfl, rfl⟩ : t = t' ∧ want = w' ∧ true = tr := by simpa using e
  exact ⟨fun _ => h, fun e => by cases e⟩
theorem MemOk.no {f : Frm} {t : Nat} {want : Bool} (h : f t ≠ .bool want) : MemOk (some (t, want, false)) f := by
  intro t' w' tr e
  obtain ⟨rfl, rfl, rfl⟩ : t = t' ∧ want = w' ∧ false = tr := by simpa using e
  exact ⟨fun e => (by cases e), fun _ => h⟩
section
variable {P : Program}
theorem opN_sound {n : Nat} {f : Frm} {a : Act} (hA : Agr n f a) {o : Oper} (ho : dstOk n o = true) {K : Value → World → Prop} {next : Act → World → Prop} {Q : Exit → Act → World → Prop} {w : World}
    (h : opN P f o K w) (hK : ∀ v a' w', Agr n (updO f o.dst v) a' → K v w' → next a' w') : o.wp P a w next Q :=
  dOp_sound hA.eval h fun v w' hk => hK v _ w' (hA.put ho v) hk
theorem opsOk_mem {n : Nat} {ops : Ops} (h : opsOk n ops = true) {o : Oper} (ho : o ∈ ops) : dstOk n o = true ∧ ∀ j want, o.guard = some (j, want) → ∃ t, slotOf ops j = some t ∧ t < n := by
  unfold opsOk at h
  have := (List.all_eq_true.1 h) o ho
  simp only [Bool.and_eq_true] at this
  refine ⟨this.1, fun j want hg => ?_⟩
  have h2 := this.2
  rw [hg] at h2
  simp only at h2
  cases hs : slotOf ops j with
  | none => rw [hs] at h2; cases h2
  | some t => rw [hs] at h2; exact ⟨t, rfl, Nat.le_of_ble_eq_true h2⟩
theorem denOps_sound {n : Nat} {ops : Ops} (hok : opsOk n ops = true) {K : Frm → World → Prop} {Q : Exit → Act → World → Prop} (hK : ∀ f a w, Agr n f a → K f w → Q .normal a w) :
    ∀ (l : Ops), (∀ o ∈ l, o ∈ ops) → ∀ (m : Mem) (f : Frm) (a : Act) (w : World), Agr n f a → MemOk m f → denOps P ops K l m f w → wpList P ops.toArray Q l a w
  | [], _, m, f, a, w, hA, _, h => hK f a w hA h
  | o :: rest, hl, m, f, a, w, hA, hm, h => by
    obtain ⟨hd, hg⟩ := opsOk_mem hok (hl o List.mem_cons_self)
    have ih := denOps_sound hok hK rest (fun o ho => hl o (List.mem_cons_of_mem _ ho))
    have run : ∀ m', MemOk m' f → opN P f o (fun v => denOps P ops K rest (forget m' o.dst) (updO f o.dst v)) w → o.wp P a w (wpList P ops.toArray Q rest) Q := fun m' hm' hr =>
      opN_sound hA hd hr fun v a' w' hA' hk => ih _ _ a' w' hA' (hm'.forget _ _) hk
    have skip : ∀ m', MemOk m' f → denOps P ops K rest (forget m' o.dst) (updO f o.dst undef) w → wpList P ops.toArray Q rest (a.put o.dst undef) w := fun m' hm' hr =>
      ih _ _ _ w (hA.put hd undef) (hm'.forget _ _) hr
    unfold denOps at h
    unfold wpList
    cases hgd : o.guard with
    | none =>
      rw [hgd] at h
      have hw : Region.wanted o (yielded ops.toArray a.tmps) = true := by simp [Region.wanted, hgd]
      rw [if_pos hw]
      exact .inl (run m hm h)
    | some jw =>
      obtain ⟨j, want⟩ := jw
      obtain ⟨t, hs, ht⟩ := hg j want hgd
      have hiff := wanted_iff hA hgd hs ht
      rw [hgd] at h
      simp only [hs] at h
      cases hk : known m t want with
      | some tr =>
        obtain ⟨k1, k2⟩ := hm.known hk
        rw [hk] at h
        cases tr with
        | true => rw [if_pos (hiff.2 (k1 rfl))]; exact .inl (run m hm h)
        | false => rw [if_neg (fun e => k2 rfl (hiff.1 e))]; exact skip m hm h
      | none =>
        rw [hk] at h
        by_cases hf : f t = .bool want
        · rw [if_pos (hiff.2 hf)]
          exact .inl (run (some (t, want, true)) (MemOk.yes hf) (h.1 hf))
        · rw [if_neg (fun e => hf (hiff.1 e))]
          exact skip (some (t, want, false)) (MemOk.no hf) (h.2 hf)
theorem wpOp_of {ops : Array Oper} {i : Nat} {o : Oper} (hi : ops[i]? = some o) {Q : Exit → Act → World → Prop} {X : Act → World → Prop} {a : Act} {w : World}
    (h : if Region.wanted o (yielded ops a.tmps) = true then o.wp P a w X Q else X (a.put o.dst undef) w) : wpOp P ops Q i X a w := by
  unfold wpOp
  simp only [hi]
  split
  · rename_i hw; rw [if_pos hw] at h; exact .inl h
  · rename_i hw; rw [if_neg hw] at h; exact h
theorem gdL_sound {n : Nat} {ops : Ops} (hok : opsOk n ops = true) {C : World → Prop} {Q : Exit → Act → World → Prop} {i : Nat} {o : Oper} (hi : nthO ops i = some o) {m : Mem} {f : Frm} {a : Act} {w : World}
    {K : Mem → Frm → World → Prop} {X : Act → World → Prop} (hA : Agr n f a) (hm : MemOk m f) (hC : C w)
    (h : gdOp (fun o f K => opL P C f o K) ops o m f K w) (hX : ∀ m' f' a' w', Agr n f' a' → MemOk m' f' → C w' → K m' f' w' → X a' w') : wpOp P ops.toArray Q i X a w := by
  have hmem : o ∈ ops := by rw [nthO_eq] at hi; exact List.mem_of_getElem? hi
  obtain ⟨hd, hg⟩ := opsOk_mem hok hmem
  refine wpOp_of (by rw [List.getElem?_toArray, ← nthO_eq]; exact hi) ?_
  have run : ∀ m', MemOk m' f → opL P C f o (fun v => K (forget m' o.dst) (updO f o.dst v)) w → o.wp P a w X Q := fun m' hm' hr =>
    opN_sound hA hd hr fun v a' w' hA' hk => hX _ _ a' w' hA' (hm'.forget _ _) hk.1 hk.2
  have skip : ∀ m', MemOk m' f → K (forget m' o.dst) (updO f o.dst undef) w → X (a.put o.dst undef) w := fun m' hm' hr =>
    hX _ _ _ w (hA.put hd undef) (hm'.forget _ _) hC hr
  unfold gdOp at h
  cases hgd : o.guard with
  | none =>
    rw [hgd] at h
    rw [if_pos (by simp [Region.wanted, hgd])]
    exact run m hm h
  | some jw =>
    obtain ⟨j, want⟩ := jw
    obtain ⟨t, hs, ht⟩ := hg j want hgd
    have hiff := wanted_iff hA hgd hs ht
    rw [hgd] at h
    simp only [hs] at h
    cases hk : known m t want with
    | some tr =>
      obtain ⟨k1, k2⟩ := hm.known hk
      rw [hk] at h
      cases tr with
      | true => rw [if_pos (hiff.2 (k1 rfl))]; exact run m hm h
      | false => rw [if_neg (fun e => k2 rfl (hiff.1 e))]; exact skip m hm h
    | none =>
      rw [hk] at h
      by_cases hf : f t = .bool want
      · rw [if_pos (hiff.2 hf)]
        exact run (some (t, want, true)) (MemOk.yes hf) (h.1 hf)
      · rw [if_neg (fun e => hf (hiff.1 e))]
        exact skip (some (t, want, false)) (MemOk.no hf) (h.2 hf)
theorem gdN_sound {n : Nat} {ops : Ops} (hok : opsOk n ops = true) {Q : Exit → Act → World → Prop} {i : Nat} {o : Oper} (hi : nthO ops i = some o) {m : Mem} {f : Frm} {a : Act} {w : World}
    {K : Mem → Frm → World → Prop} {X : Act → World → Prop} (hA : Agr n f a) (hm : MemOk m f)
    (h : gdOp (fun o f K => opN P f o K) ops o m f K w) (hX : ∀ m' f' a' w', Agr n f' a' → MemOk m' f' → K m' f' w' → X a' w') : wpOp P ops.toArray Q i X a w := by
  have hmem : o ∈ ops := by rw [nthO_eq] at hi; exact List.mem_of_getElem? hi
  obtain ⟨hd, hg⟩ := opsOk_mem hok hmem
  refine wpOp_of (by rw [List.getElem?_toArray, ← nthO_eq]; exact hi) ?_
  have run : ∀ m', MemOk m' f → opN P f o (fun v => K (forget m' o.dst) (updO f o.dst v)) w → o.wp P a w X Q := fun m' hm' hr =>
    opN_sound hA hd hr fun v a' w' hA' hk => hX _ _ a' w' hA' (hm'.forget _ _) hk
  have skip : ∀ m', MemOk m' f → K (forget m' o.dst) (updO f o.dst undef) w → X (a.put o.dst undef) w := fun m' hm' hr =>
    hX _ _ _ w (hA.put hd undef) (hm'.forget _ _) hr
  unfold gdOp at h
  cases hgd : o.guard with
  | none =>
    rw [hgd] at h
    rw [if_pos (by simp [Region.wanted, hgd])]
    exact run m hm h
  | some jw =>
    obtain ⟨j, want⟩ := jw
    obtain ⟨t, hs, ht⟩ := hg j want hgd
    have hiff := wanted_iff hA hgd hs ht
    rw [hgd] at h
    simp only [hs] at h
    cases hk : known m t want with
    | some tr =>
      obtain ⟨k1, k2⟩ := hm.known hk
      rw [hk] at h
      cases tr with
      | true => rw [if_pos (hiff.2 (k1 rfl))]; exact run m hm h
      | false => rw [if_neg (fun e => k2 rfl (hiff.1 e))]; exact skip m hm h
    | none =>
      rw [hk] at h
      by_cases hf : f t = .bool want
      · rw [if_pos (hiff.2 hf)]
        exact run (some (t, want, true)) (MemOk.yes hf) (h.1 hf)
      · rw [if_neg (fun e => hf (hiff.1 e))]
        exact skip (some (t, want, false)) (MemOk.no hf) (h.2 hf)
theorem gdQ_sound {n : Nat} {ops : Ops} (hok : opsOk n ops = true) {C : World → Prop} {i : Nat} {o : Oper} (hi : nthO ops i = some o) (hq : isQuiet o.op = true) {m : Mem} {f : Frm} {a : Act} {w : World}
    {K : Mem → Frm → World → Prop} (hA : Agr n f a) (hm : MemOk m f)
    (h : gdOp (fun o f K => opQ P C f o K) ops o m f K w) : ∃ v m' f', Yc P ops.toArray (Dq C o) o v a ∧ Agr n f' (a.put o.dst v) ∧ MemOk m' f' ∧ K m' f' w := by
  have hmem : o ∈ ops := by rw [nthO_eq] at hi; exact List.mem_of_getElem? hi
  obtain ⟨hd, hg⟩ := opsOk_mem hok hmem
  have run : ∀ m', MemOk m' f → Region.wanted o (yielded ops.toArray a.tmps) = true → opQ P C f o (fun v => K (forget m' o.dst) (updO f o.dst v)) w →
      ∃ v m' f', Yc P ops.toArray (Dq C o) o v a ∧ Agr n f' (a.put o.dst v) ∧ MemOk m' f' ∧ K m' f' w := fun m' hm' hw hr => by
    obtain ⟨v, hv, hk⟩ := dOp_quiet hq hr
    exact ⟨v, _, _, .inl ⟨hw, by rw [hA.eval]; exact hv⟩, hA.put hd v, hm'.forget _ _, hk⟩
  have skip : ∀ m', MemOk m' f → ¬ Region.wanted o (yielded ops.toArray a.tmps) = true → K (forget m' o.dst) (updO f o.dst undef) w →
      ∃ v m' f', Yc P ops.toArray (Dq C o) o v a ∧ Agr n f' (a.put o.dst v) ∧ MemOk m' f' ∧ K m' f' w := fun m' hm' hw hr =>
    ⟨undef, _, _, .inr ⟨by simpa using hw, rfl⟩, hA.put hd undef, hm'.forget _ _, hr⟩
  unfold gdOp at h
  cases hgd : o.guard with
  | none =>
    rw [hgd] at h
    exact run m hm (by simp [Region.wanted, hgd]) h
  | some jw =>
    obtain ⟨j, want⟩ := jw
    obtain ⟨t, hs, ht⟩ := hg j want hgd
    have hiff := wanted_iff hA hgd hs ht
    rw [hgd] at h
    simp only [hs] at h
    cases hk : known m t want with
    | some tr =>
      obtain ⟨k1, k2⟩ := hm.known hk
      rw [hk] at h
      cases tr with
      | true => exact run m hm (hiff.2 (k1 rfl)) h
      | false => exact skip m hm (fun e => k2 rfl (hiff.1 e)) h
    | none =>
      rw [hk] at h
      by_cases hf : f t = .bool want
      · exact run (some (t, want, true)) (MemOk.yes hf) (hiff.2 hf) (h.1 hf)
      · exact skip (some (t, want, false)) (MemOk.no hf) (fun e => hf (hiff.1 e)) (h.2 hf)
end
end Go.Gd
namespace Go.Gd
section
variable {P : Program}
theorem scr_sound {n : Nat} {ops : Ops} (hok : opsOk n ops = true) (hsel : Region.noSelect ops.toArray = true) {C : World → Prop} {K : Frm → World → Prop} {Q : Exit → Act → World → Prop}
    (hQ : ∀ c a w, ¬ Q (.panic c) a w) (hK : ∀ f a w, Agr n f a → K f w → Q .normal a w) :
    ∀ (s : Scr) (fuel : Nat) (listed : Array Bool) (m : Mem) (f : Frm) (a : Act) (w : World), Agr n f a → MemOk m f → (takes ops.toArray s = true → C w) → scrOk ops.toArray listed s = true → denScr P C ops K s m f w →
      (scrAll ops.toArray true listed s = true → depth s ≤ fuel → anyI P ops.toArray Q C fuel listed a w) ∧
      (scrAll ops.toArray false listed s = true → depth s ≤ fuel + 1 → ∀ i ∈ alts s, wpOp P ops.toArray Q i (fun a' w' => (C w → sinkB ops.toArray i = true ∨ C w') ∧ anyI P ops.toArray Q C fuel (listed.setIfInBounds i true) a' w') a w) := by
  intro s
  induction s with
  | done =>
    intro fuel listed m f a w hA hm hC hs h
    refine ⟨fun _ _ => ?_, fun _ _ i hi => by simp [alts] at hi⟩
    have hr : Region.ready .any ops.toArray listed = [] := by simpa [scrOk] using hs
    have hq : Q .normal a w := hK f a w hA h
    cases fuel with
    | zero => exact ⟨hr, hq⟩
    | succ k => exact ⟨fun _ => hq, by rw [hr]; simp⟩
  | nil =>
    intro fuel listed m f a w hA hm hC hs h
    exact ⟨fun h _ => by simp [scrAll] at h, fun _ _ i hi => by simp [alts] at hi⟩
  | take i s ih =>
    intro fuel listed m f a w hA hm hC hs h
    refine ⟨fun hall hd => ?_, fun _ _ i hi => by simp [alts] at hi⟩
    simp only [scrOk, Bool.and_eq_true] at hs
    obtain ⟨⟨⟨h1, h2⟩, h3⟩, h4⟩ := hs
    unfold denScr at h
    cases hi : nthO ops i with
    | none => rw [hi] at h; exact h.elim
    | some o =>
      rw [hi] at h
      have hi' : ops.toArray[i]? = some o := by rw [List.getElem?_toArray, ← nthO_eq]; exact hi
      rw [hi'] at h3
      obtain ⟨v, m', f', hy, hA', hm', h'⟩ := gdQ_sound hok hi h3 hA hm h
      have hfu : ∃ k, fuel = k + 1 := ⟨fuel - 1, by simp only [depth] at hd; omega⟩
      obtain ⟨k, rfl⟩ := hfu
      simp only [scrAll] at hall
      refine anyI_first hi' (Region.noSelect_spec hsel) hQ k listed a w (Region.free_spec hi' h2) (by simpa using h1) (fun hr => hC (by simp only [takes, hi', hr, Bool.true_or])) hy ?_
      exact (ih k _ m' f' _ w hA' hm' (fun ht => hC (by simp only [takes, ht, Bool.or_true])) h4 h').1 hall (by simp only [depth] at hd; omega)
  | sink i s ih =>
    intro fuel listed m f a w hA hm hC hs h
    refine ⟨fun hall hd => ?_, fun _ _ i hi => by simp [alts] at hi⟩
    simp only [scrOk, Bool.and_eq_true] at hs
    obtain ⟨⟨⟨⟨h1, h2⟩, h3⟩, h5⟩, h4⟩ := hs
    unfold denScr at h
    cases hi : nthO ops i with
    | none => rw [hi] at h; exact h.elim
    | some o =>
      rw [hi] at h
      have hfu : ∃ k, fuel = k + 1 := ⟨fuel - 1, by simp only [depth] at hd; omega⟩
      obtain ⟨k, rfl⟩ := hfu
      simp only [scrAll] at hall
      refine ⟨fun hr => by rw [hr] at h5; simp at h5, fun j hj => ?_⟩
      have hji : j = i := Nat.eq_of_beq_eq_true ((List.all_eq_true.1 h3) j hj)
      subst hji
      refine gdN_sound hok hi hA hm h fun m' f' a' w' hA' hm' hk' => ⟨fun _ => .inl h1, ?_⟩
      exact (ih k _ m' f' a' w' hA' hm' (fun ht => by rw [ht] at h2; cases h2) h4 hk').1 hall (by simp only [depth] at hd; omega)
  | alt i s t ihs iht =>
    intro fuel listed m f a w hA hm hC hs h
    simp only [scrOk, Bool.and_eq_true] at hs
    obtain ⟨hs1, hs2⟩ := hs
    have hparts : (match nthO ops i with | none => fun _ => False | some o => gdOp (fun o f K => opL P C f o K) ops o m f (denScr P C ops K s)) w ∧ denScr P C ops K t m f w := by
      cases t with
      | nil => exact ⟨h, trivial⟩
      | _ => exact h
    obtain ⟨p1, p2⟩ := hparts
    have B : ∀ fuel, scrAll ops.toArray true (listed.setIfInBounds i true) s = true → scrAll ops.toArray false listed t = true → depth (.alt i s t) ≤ fuel + 1 → ∀ k ∈ alts (.alt i s t),
        wpOp P ops.toArray Q k (fun a' w' => (C w → sinkB ops.toArray k = true ∨ C w') ∧ anyI P ops.toArray Q C fuel (listed.setIfInBounds k true) a' w') a w := by
      intro fuel a1 a2 hd k hk
      have hdd : depth s + 1 ≤ fuel + 1 ∧ depth t ≤ fuel + 1 := by simpa [depth, Nat.max_le] using hd
      simp only [alts, List.mem_cons] at hk
      rcases hk with rfl | hk
      · cases hi : nthO ops k with
        | none => rw [hi] at p1; exact p1.elim
        | some o =>
          rw [hi] at p1
          exact gdL_sound hok hi hA hm (hC rfl) p1 fun m' f' a' w' hA' hm' hC' hk' => ⟨fun _ => .inr hC', (ihs fuel _ m' f' a' w' hA' hm' (fun _ => hC') hs1 hk').1 a1 (by omega)⟩
      · exact (iht fuel listed m f a w hA hm (fun _ => hC rfl) hs2 p2).2 a2 hdd.2 k hk
    refine ⟨fun hall hd => ?_, fun hall hd => ?_⟩
    · simp only [scrAll, Bool.and_eq_true, Bool.not_true, Bool.false_or] at hall
      obtain ⟨⟨⟨r1, r2⟩, r3⟩, r4⟩ := hall
      have hfu : ∃ k, fuel = k + 1 := by
        have : 1 ≤ depth (.alt i s t) := by simp only [depth]; exact Nat.le_trans (by omega) (Nat.le_max_left _ _)
        exact ⟨fuel - 1, by omega⟩
      obtain ⟨k, rfl⟩ := hfu
      refine ⟨fun hr => by rw [hr] at r2; simp at r2, fun j hj => ?_⟩
      have := (List.all_eq_true.1 r1) j hj
      exact B k r3 r4 hd j (by simpa using this)
    · simp only [scrAll, Bool.and_eq_true, Bool.not_false, Bool.true_or, true_and] at hall
      exact B fuel hall.1 hall.2 hd
def Same (ws : List Nat) (f f' : Frm) : Prop := ∀ t, memN ws t = false → f' t = f t
theorem Same.refl (ws : List Nat) (f : Frm) : Same ws f f := fun _ _ => rfl
theorem Same.trans {ws : List Nat} {f g h : Frm} (a : Same ws f g) (b : Same ws g h) : Same ws f h := fun t ht => (b t ht).trans (a t ht)
theorem Same.updO {ws : List Nat} {f : Frm} {d : Option Tmp} (h : ∀ t, d = some t → memN ws t = true) (v : Value) : Same ws f (updO f d v) := by
  intro t ht
  cases d with
  | none => rfl
  | some d =>
    simp only [Gd.updO, upd]
    cases hb : Nat.beq t d with
    | false => rfl
    | true =>
      have := Nat.eq_of_beq_eq_true hb
      subst this
      rw [h t rfl] at ht; cases ht
theorem hV_mono {s : Sem Value} {K K' : Value → World → Prop} {w : World} (hK : ∀ v w, K v w → K' v w) (h : hV P s K w) : hV P s K' w :=
  let ⟨v, w', hr, hk⟩ := h; ⟨v, w', hr, hK _ _ hk⟩
theorem mV_mono {C : World → Prop} {s : Sem Value} {K K' : Value → World → Prop} {w : World} (hK : ∀ v w, K v w → K' v w) (h : mV P C s K w) : mV P C s K' w :=
  let ⟨v, hr, hk⟩ := h; ⟨v, hr, hK _ _ hk⟩
theorem hU_mono {s : Sem Unit} {K K' : World → Prop} {w : World} (hK : ∀ w, K w → K' w) (h : hU P s K w) : hU P s K' w :=
  let ⟨w', hr, hk⟩ := h; ⟨w', hr, hK _ hk⟩
theorem hX_mono {s : Sem Next} {K K' : Value → World → Prop} {w : World} (hK : ∀ v w, K v w → K' v w) (h : hX P s K w) : hX P s K' w := by
  unfold hX at *
  cases hr : s.run P w with
  | halt x w' => rw [hr] at h; exact h.elim
  | ok x w' =>
    rw [hr] at h
    cases x with
    | value v => exact hK _ _ h
    | skip => exact hK _ _ h
    | enter g args => exact Calls.mono h fun e w'' ⟨v, he, hk⟩ => ⟨v, he, hK _ _ hk⟩
    | _ => exact h.elim
theorem dOp_mono {q l : Sem Value → (Value → World → Prop) → World → Prop} {u : Sem Unit → (World → Prop) → World → Prop} {x : Sem Next → (Value → World → Prop) → World → Prop}
    (hq : ∀ s (K K' : Value → World → Prop) w, (∀ v w, K v w → K' v w) → q s K w → q s K' w) (hl : ∀ s (K K' : Value → World → Prop) w, (∀ v w, K v w → K' v w) → l s K w → l s K' w)
    (hu : ∀ s (K K' : World → Prop) w, (∀ w, K w → K' w) → u s K w → u s K' w) (hx : ∀ s (K K' : Value → World → Prop) w, (∀ v w, K v w → K' v w) → x s K w → x s K' w)
    {f : Frm} {o : Oper} {K K' : Value → World → Prop} {w : World} (hK : ∀ v w, K v w → K' v w) (h : dOp q l u x f o K w) : dOp q l u x f o K' w := by
  obtain ⟨dst, op, type, pos, after, guard⟩ := o
  cases op <;> simp only [dOp] at h ⊢
  case pick c y z => obtain ⟨t, ht, hk⟩ := h; exact ⟨t, ht, hK _ _ hk⟩
  case binOp op t y z yt => cases op <;> exact hq _ _ _ _ hK h
  case call c =>
    obtain ⟨callee, args, ats⟩ := c
    cases callee with
    | value y => cases y <;> exact hx _ _ _ _ hK h
    | invoke r m => exact hx _ _ _ _ hK h
    | builtin b =>
      cases b <;> simp only [dOp, dBuiltin] at h ⊢ <;> first | exact h.elim | exact hq _ _ _ _ hK h | exact hl _ _ _ _ hK h
  all_goals first
    | exact h.elim
    | exact hK _ _ h
    | exact hq _ _ _ _ hK h
    | exact hl _ _ _ _ hK h
    | exact hu _ _ _ _ (hK _) h
theorem opN_mono {f : Frm} {o : Oper} {K K' : Value → World → Prop} {w : World} (hK : ∀ v w, K v w → K' v w) (h : opN P f o K w) : opN P f o K' w :=
  dOp_mono (q := hV P) (l := hV P) (u := hU P) (x := hX P) (fun _ _ _ _ => hV_mono) (fun _ _ _ _ => hV_mono) (fun _ _ _ _ => hU_mono) (fun _ _ _ _ => hX_mono) hK h
theorem opQ_mono {C : World → Prop} {f : Frm} {o : Oper} {K K' : Value → World → Prop} {w : World} (hK : ∀ v w, K v w → K' v w) (h : opQ P C f o K w) : opQ P C f o K' w :=
  dOp_mono (q := mV P (Dq C o)) (l := hV P) (u := hU P) (x := hX P) (fun _ _ _ _ => mV_mono) (fun _ _ _ _ => hV_mono) (fun _ _ _ _ => hU_mono) (fun _ _ _ _ => hX_mono) hK h
theorem opL_mono {C : World → Prop} {f : Frm} {o : Oper} {K K' : Value → World → Prop} {w : World} (hK : ∀ v w, K v w → K' v w) (h : opL P C f o K w) : opL P C f o K' w :=
  opN_mono (fun v w hh => ⟨hh.1, hK _ _ hh.2⟩) h
theorem memN_append (l r : List Nat) (t : Nat) : memN (l ++ r) t = (memN l t || memN r t) := by
  induction l with
  | nil => simp [memN]
  | cons x l ih => simp only [List.cons_append, memN, ih]; cases Nat.beq t x <;> simp
theorem memN_dsts {ops : Ops} {o : Oper} (ho : o ∈ ops) {t : Nat} (hd : o.dst = some t) : memN (dstsOf ops) t = true := by
  induction ops with
  | nil => cases ho
  | cons x l ih =>
    rcases List.mem_cons.1 ho with rfl | h
    · simp [dstsOf, hd, memN]
    · have := ih h
      unfold dstsOf
      split
      · simp only [memN, this]; cases Nat.beq t _ <;> rfl
      · exact this
theorem denOps_mono {ops : Ops} {ws : List Nat} {K K' : Frm → World → Prop} :
    ∀ (l : Ops), (∀ o ∈ l, ∀ t, o.dst = some t → memN ws t = true) → ∀ (m : Mem) (f : Frm) (w : World), (∀ f' w', Same ws f f' → K f' w' → K' f' w') → denOps P ops K l m f w → denOps P ops K' l m f w
  | [], _, m, f, w, hK, h => hK f w (Same.refl _ _) h
  | o :: rest, hl, m, f, w, hK, h => by
    have ho := hl o List.mem_cons_self
    have ih : ∀ m v w, denOps P ops K rest m (updO f o.dst v) w → denOps P ops K' rest m (updO f o.dst v) w := fun m v w h => denOps_mono rest (fun o ho => hl o (List.mem_cons_of_mem _ ho)) m (updO f o.dst v) w (fun f' w' hs hk => hK f' w' ((Same.updO ho v).trans hs) hk) h
    unfold denOps at h ⊢
    cases hg : o.guard with
    | none => rw [hg] at h; exact opN_mono (fun v w hh => ih _ v w hh) h
    | some jw =>
      obtain ⟨j, want⟩ := jw
      rw [hg] at h
      cases hs : slotOf ops j with
      | none => simp only [hs] at h
      | some t =>
        simp only [hs] at h ⊢
        cases hk : known m t want with
        | none => rw [hk] at h; exact ⟨fun e => opN_mono (fun v w hh => ih _ v w hh) (h.1 e), fun e => ih _ _ _ (h.2 e)⟩
        | some tr =>
          rw [hk] at h
          cases tr with
          | true => exact opN_mono (fun v w hh => ih _ v w hh) h
          | false => exact ih _ _ _ h
theorem gdOp_mono {run : Oper → Frm → (Value → World → Prop) → World → Prop} (hrun : ∀ o f (K K' : Value → World → Prop) w, (∀ v w, K v w → K' v w) → run o f K w → run o f K' w)
    {ops : Ops} {o : Oper} {m : Mem} {f : Frm} {K K' : Mem → Frm → World → Prop} {w : World} (hK : ∀ m v w, K m (updO f o.dst v) w → K' m (updO f o.dst v) w) (h : gdOp run ops o m f K w) : gdOp run ops o m f K' w := by
  unfold gdOp at h ⊢
  cases hg : o.guard with
  | none => rw [hg] at h; exact hrun _ _ _ _ _ (fun v w hh => hK _ _ _ hh) h
  | some jw =>
    obtain ⟨j, want⟩ := jw
    rw [hg] at h
    cases hs : slotOf ops j with
    | none => simp only [hs] at h
    | some t =>
      simp only [hs] at h ⊢
      cases hk : known m t want with
      | none => rw [hk] at h; exact ⟨fun e => hrun _ _ _ _ _ (fun v w hh => hK _ _ _ hh) (h.1 e), fun e => hK _ _ _ (h.2 e)⟩
      | some tr =>
        rw [hk] at h
        cases tr with
        | true => exact hrun _ _ _ _ _ (fun v w hh => hK _ _ _ hh) h
        | false => exact hK _ _ _ h
theorem denScr_mono {C : World → Prop} {ops : Ops} {ws : List Nat} (hl : ∀ o ∈ ops, ∀ t, o.dst = some t → memN ws t = true) {K K' : Frm → World → Prop} :
    ∀ (s : Scr) (m : Mem) (f : Frm) (w : World), (∀ f' w', Same ws f f' → K f' w' → K' f' w') → denScr P C ops K s m f w → denScr P C ops K' s m f w := by
  have hin : ∀ {i o}, nthO ops i = some o → o ∈ ops := fun h => by rw [nthO_eq] at h; exact List.mem_of_getElem? h
  intro s
  induction s with
  | done => intro m f w hK h; exact hK f w (Same.refl _ _) h
  | nil => intro m f w hK h; trivial
  | take i s ih =>
    intro m f w hK h
    unfold denScr at h ⊢
    cases hi : nthO ops i with
    | none => rw [hi] at h; exact h
    | some o =>
      rw [hi] at h
      exact gdOp_mono (run := fun o f K => opQ P C f o K) (fun _ _ _ _ _ => opQ_mono) (fun m v w hh => ih m _ w (fun f' w' hs hk => hK f' w' ((Same.updO (hl o (hin hi)) v).trans hs) hk) hh) h
  | sink i s ih =>
    intro m f w hK h
    unfold denScr at h ⊢
    cases hi : nthO ops i with
    | none => rw [hi] at h; exact h
    | some o =>
      rw [hi] at h
      exact gdOp_mono (run := fun o f K => opN P f o K) (fun _ _ _ _ _ => opN_mono) (fun m v w hh => ih m _ w (fun f' w' hs hk => hK f' w' ((Same.updO (hl o (hin hi)) v).trans hs) hk) hh) h
  | alt i s t ihs iht =>
    intro m f w hK h
    have one : (match nthO ops i with | none => fun _ => False | some o => gdOp (fun o f K => opL P C f o K) ops o m f (denScr P C ops K s)) w →
        (match nthO ops i with | none => fun _ => False | some o => gdOp (fun o f K => opL P C f o K) ops o m f (denScr P C ops K' s)) w := by
      cases hi : nthO ops i with
      | none => exact fun h => h
      | some o =>
        exact fun h => gdOp_mono (run := fun o f K => opL P C f o K) (fun _ _ _ _ _ => opL_mono) (fun m v w hh => ihs m _ w (fun f' w' hs hk => hK f' w' ((Same.updO (hl o (hin hi)) v).trans hs) hk) hh) h
    cases t with
    | nil => exact one h
    | _ => exact ⟨one h.1, iht m f w hK h.2⟩
end
end Go.Gd
