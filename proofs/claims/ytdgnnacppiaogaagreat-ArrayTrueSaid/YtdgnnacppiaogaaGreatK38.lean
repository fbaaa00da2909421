/- The plain law of an array, second part: the invariant through all that is heard. Conditions: those in the theorems. The plain law of orders: lists stay apart. Conditions: those in the theorems. The example of the arrays statements. Conditions: none beyond those in the theorems. -/
import Derived.Test.YtdgnnacppiaogaaGreatK37
set_option linter.unusedVariables false
set_option linter.unusedSimpArgs false
namespace Go.Gd
structure InvX (c : Cfg) (D : Dk) (S : Ca) (x0 : Option Nat) : Prop where
  i1 : ∀ b d, S.m b = some d → b < (shOf c).blocks ∧ (x0 ≠ some b → d = ((shOf c).blk D b).2)
  i2 : ∀ b, b < 64 → (S.o.has (b : Nat) = true ↔ S.m b ≠ none)
abbrev Inv (c : Cfg) (D : Dk) (S : Ca) : Prop := InvX c D S none
theorem shOf_blocks {c : Cfg} (h : cfgRight c = true) : ((shOf c).blocks : Int) = c.blocks ∧ (shOf c).blocks ≤ 32 ∧ ((shOf c).size : Int) = c.size := by
  obtain ⟨h1, h2, h3, h4, h5, h6, h7, h8, h9, h10, h11, h12, h13⟩ := (cfg_facts h).1
  unfold shOf
  dsimp only
  omega
section
variable {c : Cfg} {k : Nat} {S : Ca} {D : Dk} {x0 : Option Nat}
theorem InvX.use (hS : CaOk c k S) (h : InvX c D S x0) (b : Int) : InvX c D (S.use b).1 x0 := by
  unfold Ca.use
  cases hh : S.o.has b with
  | false => exact h
  | true =>
    obtain ⟨h0, h64⟩ := Ord.has_lt hh
    obtain ⟨bn, rfl⟩ := Int.eq_ofNat_of_zero_le h0
    refine ⟨h.i1, fun x hx => ?_⟩
    show ((S.o.use ((bn : Nat) : Int).toNat).has (x : Nat) = true ↔ S.m x ≠ none)
    rw [← h.i2 x hx, Int.toNat_natCast]
    exact Ord.use_has hS.fine (by omega) hh hx
theorem InvX.drop (h : InvX c D S x0) (b : Int) : InvX c D (S.drop b).1 x0 := by
  unfold Ca.drop
  cases hh : S.o.has b with
  | false => exact h
  | true =>
    obtain ⟨h0, h64⟩ := Ord.has_lt hh
    obtain ⟨bn, rfl⟩ := Int.eq_ofNat_of_zero_le h0
    simp only [Int.toNat_natCast, if_true]
    refine ⟨fun x d hx => ?_, fun x hx => ?_⟩
    · have hx' : upF S.m bn none x = some d := hx
      unfold upF at hx'
      split at hx'
      · cases hx'
      · exact h.i1 x d hx'
    · show ((S.o.remove bn).has (x : Nat) = true ↔ upF S.m bn none x ≠ none)
      rw [Ord.remove_has hx (by omega), h.i2 x hx]
      unfold upF
      split
      · rename_i e; simp [e]
      · rename_i e; simp [e]
theorem InvX.dropped {b : Nat} (hb : b < 64) (h : InvX c D S (some b)) : Inv c D (S.drop (b : Nat)).1 := by
  have h1 := h.drop (b : Nat)
  have hm : (S.drop (b : Nat)).1.m b = none := by
    unfold Ca.drop
    cases hh : S.o.has (b : Nat) with
    | false =>
      have := (h.i2 b hb)
      rw [hh] at this
      show S.m b = none
      cases hx : S.m b with
      | none => rfl
      | some d => rw [hx] at this; simp at this
    | true =>
      simp only [Int.toNat_natCast, if_true]
      exact upF_same _ _ _
  refine ⟨fun x d hx => ⟨(h1.i1 x d hx).1, fun _ => (h1.i1 x d hx).2 (fun e => ?_)⟩, h1.i2⟩
  simp only [Option.some.injEq] at e
  subst e
  rw [hm] at hx; cases hx
theorem Inv.add (hS : CaOk c k S) (hlk : S.o.Lk) {b : Nat} (hb : b < (shOf c).blocks) (ht : S.o.takes b) {d : List UInt8} (h : InvX c D S x0) (hx0 : x0 = none ∨ x0 = some b) (hd : d = ((shOf c).blk D b).2) : Inv c D (S.add b d).1 := by
  have h32 := (shOf_blocks hS.right).2.1
  obtain ⟨a1, a2, a3⟩ := Ord.add_has hS.fine hlk (by omega : b < 64) ht
  have hput : ∀ (m : Nat → Option (List UInt8)), (∀ x e, m x = some e → S.m x = some e) → ∀ x e, upF m b (some d) x = some e → x < (shOf c).blocks ∧ ((none : Option Nat) ≠ some x → e = ((shOf c).blk D x).2) := by
    intro m hm x e he
    unfold upF at he
    split at he
    · rename_i hxb
      simp only [Option.some.injEq] at he
      subst he; subst hxb
      exact ⟨hb, fun _ => hd⟩
    · rename_i hxb
      have := h.i1 x e (hm x e he)
      refine ⟨this.1, fun _ => this.2 ?_⟩
      rcases hx0 with rfl | rfl
      · simp
      · intro e2; simp only [Option.some.injEq] at e2; exact hxb e2.symm
  unfold Ca.add
  cases hv : (S.o.add b).2 with
  | none =>
    refine ⟨hput S.m (fun _ _ h => h), fun x hx => ?_⟩
    show ((S.o.add b).1.has (x : Nat) = true ↔ upF S.m b (some d) x ≠ none)
    rw [a1 x hx, hv, h.i2 x hx]
    unfold upF
    split
    · rename_i e; simp [e]
    · rename_i e; simp [e]
  | some v =>
    obtain ⟨v1, v2, v3⟩ := a2 v hv
    refine ⟨hput _ (fun x e he => ?_), fun x hx => ?_⟩
    · unfold upF at he
      split at he
      · cases he
      · exact he
    · show ((S.o.add b).1.has (x : Nat) = true ↔ upF (upF S.m v none) b (some d) x ≠ none)
      rw [a1 x hx, hv, h.i2 x hx]
      unfold upF
      split
      · rename_i e; simp [e]
      · rename_i e
        split
        · rename_i e2; subst e2; simp [e]
        · rename_i e2
          simp only [e, false_or, ne_eq, Option.some.injEq]
          exact ⟨fun h => h.1, fun h => ⟨h, fun e3 => e2 e3.symm⟩⟩
theorem put_yes {tier b level : Int} {d : List UInt8} (h1 : Ca.there c b) (h2 : (d.length : Int) = c.size) (h3 : Ca.takes c tier S b level) : S.put c tier b d level = ((S.add b.toNat d).1, (S.add b.toNat d).2, 0) := by
  unfold Ca.put
  rw [if_neg (by simpa using h1), if_neg (by simpa using h2), if_neg (by simpa using h3)]
theorem put_no {tier b level : Int} {d : List UInt8} (h : ¬ (Ca.there c b ∧ (d.length : Int) = c.size ∧ Ca.takes c tier S b level)) : (S.put c tier b d level).1 = S ∧ (S.put c tier b d level).2.1 = none := by
  classical
  unfold Ca.put
  by_cases h1 : Ca.there c b
  · rw [if_neg (by simpa using h1)]
    by_cases h2 : (d.length : Int) = c.size
    · rw [if_neg (by simpa using h2)]
      by_cases h3 : Ca.takes c tier S b level
      · exact absurd ⟨h1, h2, h3⟩ h
      · rw [if_pos h3]; exact ⟨rfl, rfl⟩
    · rw [if_pos h2]; exact ⟨rfl, rfl⟩
  · rw [if_pos h1]; exact ⟨rfl, rfl⟩
theorem takes_ord (hS : CaOk c k S) {tier b level : Int} (h : Ca.takes c tier S b level) : S.o.takes b.toNat := by
  by_cases hp : c.place = 2
  · exact h.2.2 hp
  · exact hS.takes hp _
theorem Inv.put (hS : CaOk c k S) (hlk : S.o.Lk) (h : Inv c D S) (tier b level : Int) (d : List UInt8) (hd : Ca.there c b → d = ((shOf c).blk D b.toNat).2) : Inv c D (S.put c tier b d level).1 := by
  by_cases hy : Ca.there c b ∧ (d.length : Int) = c.size ∧ Ca.takes c tier S b level
  · obtain ⟨h1, h2, h3⟩ := hy
    rw [put_yes h1 h2 h3]
    have hbl := (shOf_blocks hS.right).1
    exact Inv.add hS hlk (by unfold Ca.there at h1; omega) (takes_ord hS h3) h (.inl rfl) (hd h1)
  · rw [(put_no hy).1]; exact h
end
theorem keep_S (c : Cfg) (A : Ar) (b level : Int) (d : List UInt8) :
    ((c.mode ≠ 2 ∨ level = 3 ∧ Ca.takes c 3 A.S b level) ∧ (Ar.keep c A b level d).1.S = (A.S.put c 3 b d level).1) ∨ (¬ (c.mode ≠ 2 ∨ level = 3 ∧ Ca.takes c 3 A.S b level) ∧ (Ar.keep c A b level d).1.S = (A.S.drop b).1) := by
  classical
  unfold Ar.keep
  by_cases h : c.mode ≠ 2 ∨ level = 3 ∧ Ca.takes c 3 A.S b level
  · rw [if_pos h]; exact .inl ⟨h, rfl⟩
  · rw [if_neg h]; exact .inr ⟨h, rfl⟩
theorem Inv.keep {c : Cfg} {k : Nat} {A : Ar} {D : Dk} (hS : CaOk c k A.S) (hlk : A.S.o.Lk) (h : Inv c D A.S) (b level : Int) (d : List UInt8) (hd : Ca.there c b → d = ((shOf c).blk D b.toNat).2) : Inv c D (Ar.keep c A b level d).1.S := by
  rcases keep_S c A b level d with ⟨_, e⟩ | ⟨_, e⟩
  · rw [e]; exact h.put hS hlk 3 b level d hd
  · rw [e]; exact InvX.drop h b
def Told (c : Cfg) (D : Dk) (l : List Msg) : Prop := ∀ m ∈ l, m.kind = 12 → m.code = 0 → (0 ≤ m.block ∧ m.block < (shOf c).blocks) ∧ m.data = ((shOf c).blk D m.block.toNat).2
theorem told_keep {c : Cfg} {D : Dk} (A : Ar) (b level : Int) (d : List UInt8) : Told c D (Ar.keep c A b level d).2 := by
  classical
  intro m hm hk
  unfold Ar.keep at hm
  split at hm
  · unfold Ar.put at hm
    dsimp only at hm
    split at hm
    · rw [List.mem_singleton] at hm; subst hm; exact absurd (show (14 : Int) = 12 from hk) (by decide)
    · simp at hm
  · simp at hm
theorem Told.app {c : Cfg} {D : Dk} {l l' : List Msg} (h : Told c D l) (h' : Told c D l') : Told c D (l ++ l') := fun m hm => by
  rcases List.mem_append.1 hm with hm | hm
  · exact h m hm
  · exact h' m hm
theorem told_one {c : Cfg} {D : Dk} {b : Nat} {d : List UInt8} (hb : b < (shOf c).blocks) (hd : d = ((shOf c).blk D b).2) : Told c D [mData (b : Nat) d] := fun m hm _ _ => by
  rw [List.mem_singleton] at hm; subst hm
  exact ⟨⟨by show (0 : Int) ≤ (b : Nat); omega, by show ((b : Nat) : Int) < _; omega⟩, by show d = _; rw [hd]; rfl⟩
theorem told_done {c : Cfg} {D : Dk} (m0 : Msg) (code : Int) (g : Bool) : Told c D [mDone m0 code g] := fun m hm hk => by
  rw [List.mem_singleton] at hm; subst hm; exact absurd (show (13 : Int) = 12 from hk) (by decide)
theorem told_nil {c : Cfg} {D : Dk} : Told c D [] := fun m hm => by simp at hm
theorem read_facts {s : Shp} {D : Dk} {b : Int} (h : (s.read D b).2.2 = 0) : 0 ≤ b ∧ b < s.blocks ∧ (s.read D b).1 = (s.blk D b.toNat).2 ∧ (s.read D b).2.1 = (s.blk D b.toNat).1 := by
  unfold Shp.read at h ⊢
  split
  · rename_i hb; exact ⟨hb.1, hb.2, rfl, rfl⟩
  · rename_i hb; rw [if_neg hb] at h; cases h
theorem read_in {s : Shp} {D : Dk} {b : Int} (h : 0 ≤ b ∧ b < s.blocks) : s.read D b = ((s.blk D b.toNat).2, (s.blk D b.toNat).1, 0) := by unfold Shp.read; rw [if_pos h]
theorem hear_read {c : Cfg} {n k : Nat} {A : Ar} (hok : ArOk c n k A) (hk : k + 2 < 4611686018427387904) (hlk : A.S.o.Lk) (hlk2 : ∀ b, (A.S.use b).1.o.Lk) (h : Inv c A.D A.S) (m : Msg) :
    Inv c A.D (A.read c m).1.S ∧ Told c A.D (A.read c m).2 ∧ (A.read c m).1.down = A.down := by
  have hS := hok.S
  have hSu := hS.use (by omega) m.block
  have hIu := InvX.use hS h m.block
  have hlku := hlk2 m.block
  unfold Ar.read
  split
  · rename_i hus
    have hh : A.S.o.has m.block = true := by
      unfold Ca.use at hus
      cases hx : A.S.o.has m.block with
      | true => rfl
      | false => rw [hx] at hus; simp at hus
    obtain ⟨h0, h64⟩ := Ord.has_lt hh
    have hud : (A.S.use m.block).2.1 = (A.S.m m.block.toNat).getD [] := by unfold Ca.use; rw [if_pos hh]
    obtain ⟨bn, hbn⟩ := Int.eq_ofNat_of_zero_le h0
    rw [hbn] at hh hud
    have hne := (h.i2 bn (by omega)).1 hh
    rw [Int.toNat_natCast] at hud
    cases hx : A.S.m bn with
    | none => exact absurd hx hne
    | some d =>
      have hd := h.i1 bn d hx
      rw [hx] at hud
      have hud2 : (A.S.use m.block).2.1 = ((shOf c).blk A.D bn).2 := by rw [hbn, hud]; exact hd.2 (by simp)
      split
      · refine ⟨Inv.keep hSu hlku hIu _ _ _ (fun _ => ?_), Told.app (told_keep _ _ _ _) ?_, (keep_reads _ _ _ _ _).2.1⟩
        · rw [hud2, hbn]; rfl
        · rw [hud2, hbn]; exact told_one hd.1 rfl
      · refine ⟨hIu, ?_, rfl⟩
        rw [hud2, hbn]; exact told_one hd.1 rfl
  · split
    · rename_i he
      refine ⟨h, fun m' hm' _ hc => ?_, rfl⟩
      rw [List.mem_singleton] at hm'; subst hm'
      have : (((shOf c).read A.D m.block).2.2 : Int) = 0 := hc
      exact absurd (by omega) he
    · rename_i he
      have he0 : ((shOf c).read A.D m.block).2.2 = 0 := by simpa using he
      obtain ⟨r1, r2, r3, r4⟩ := read_facts he0
      obtain ⟨bn, hbn⟩ := Int.eq_ofNat_of_zero_le r1
      refine ⟨Inv.keep (A := { A with reads := A.reads + 1 }) hS hlk h _ _ _ (fun _ => r3), Told.app (told_keep _ _ _ _) ?_, (keep_reads _ _ _ _ _).2.1⟩
      rw [r3, hbn]
      exact told_one (by omega) rfl
theorem hear_write {c : Cfg} {n k : Nat} {A : Ar} (hok : ArOk c n k A) (hlk : A.S.o.Lk) (h : Inv c A.D A.S) (hdn : A.D.down = false) (m : Msg) :
    ((A.write c m).1.down = false → Inv c (A.write c m).1.D (A.write c m).1.S ∧ (A.write c m).1.D.down = false) ∧ ∀ D, Told c D (A.write c m).2 := by
  classical
  have hS := hok.S
  have hsh := shOf_ok hS.right
  obtain ⟨hb1, hb2, hb3⟩ := shOf_blocks hS.right
  unfold Ar.write
  dsimp only
  by_cases h0 : ((shOf c).write (msgW m) A.D).2.1 = 0
  · rw [if_pos h0]
    have hw := write_law hsh (msgW m) A.D h0
    generalize (shOf c).write (msgW m) A.D = r at *
    obtain ⟨code, e, D'⟩ := r
    dsimp only at *
    have hblk : 0 ≤ m.block ∧ m.block < (shOf c).blocks := hw.blk
    have hup := hw.up hdn
    obtain ⟨bn, hbn⟩ := Int.eq_ofNat_of_zero_le hblk.1
    have hbw : (msgW m).block.toNat = bn := by show m.block.toNat = bn; omega
    have ho := hw.other
    have hsm := hw.same
    have hnw := hw.new
    rw [hbw] at ho hsm hnw
    have hX : InvX c D' A.S (some bn) := by
      refine ⟨fun x d hx => ⟨(h.i1 x d hx).1, fun hne => ?_⟩, h.i2⟩
      rw [ho x (h.i1 x d hx).1 (fun e => hne (by rw [e]))]
      exact (h.i1 x d hx).2 (by simp)
    rw [read_in hblk, read_in hblk]
    have e1 : m.block.toNat = bn := by omega
    rw [e1]
    dsimp only
    by_cases hv : ((shOf c).blk D' bn).1 = ((shOf c).blk A.D bn).1
    · rw [if_neg (by simpa using hv)]
      refine ⟨fun _ => ⟨⟨fun x d hx => ⟨(h.i1 x d hx).1, fun _ => ?_⟩, h.i2⟩, hup⟩, fun D => told_done _ _ _⟩
      by_cases hxb : x = bn
      · rw [hxb, hsm hv]
        have := (h.i1 x d hx).2 (by simp)
        rw [hxb] at this; exact this
      · exact (hX.i1 x d hx).2 (fun e => hxb (by simpa using e.symm))
    · rw [if_pos hv]
      have hkD := keep_reads c { A with D := D' } m.block m.level m.data
      refine ⟨fun _ => ⟨?_, by show (Ar.keep _ _ _ _ _).1.D.down = false; rw [hkD.1]; exact hup⟩, fun D => Told.app (told_keep _ _ _ _) (told_done _ _ _)⟩
      show Inv c (Ar.keep c { A with D := D' } m.block m.level m.data).1.D (Ar.keep c { A with D := D' } m.block m.level m.data).1.S
      rw [hkD.1]
      have hdata : m.data = ((shOf c).blk D' bn).2 := (hnw hv).symm
      have hth : Ca.there c m.block := ⟨hblk.1, by omega⟩
      have hsz : (m.data.length : Int) = c.size := by
        have : (msgW m).data.length = (shOf c).size := hw.size
        have : m.data.length = (shOf c).size := this
        omega
      rcases keep_S c { A with D := D' } m.block m.level m.data with ⟨hcond, e5⟩ | ⟨_, e5⟩
      · rw [e5]
        have htk : Ca.takes c 3 A.S m.block m.level := by
          rcases hcond with hmode | ⟨_, ht⟩
          · have hpl : c.place = 0 := by
              have hP := (cfg_facts hS.right).1
              have h1 := hP.2.2.2.2.2.2.2.1
              have h2 := hP.2.2.2.2.2.2.1
              by_cases hz : c.place = 0
              · exact hz
              · exact absurd (h1 hz) hmode
            exact ⟨hth, fun h => by omega, fun h => by omega⟩
          · exact ht
        rw [put_yes hth hsz htk]
        show Inv c D' (A.S.add m.block.toNat m.data).1
        rw [e1]
        have hto := takes_ord hS htk
        rw [e1] at hto
        exact Inv.add hS hlk (by omega) hto hX (.inr rfl) hdata
      · rw [e5]
        show Inv c D' (A.S.drop m.block).1
        rw [hbn]
        exact InvX.dropped (by omega) hX
  · rw [if_neg h0]
    by_cases h8 : ((shOf c).write (msgW m) A.D).2.1 = 8
    · rw [if_pos h8]
      exact ⟨fun hd => (by cases hd), fun D => told_nil⟩
    · rw [if_neg h8]
      have hup := write_down (msgW m) hdn h8 hsh
      have hsame : ∀ b, (shOf c).blk ((shOf c).write (msgW m) A.D).2.2 b = (shOf c).blk A.D b := by
        intro b
        have hD : ((shOf c).write (msgW m) A.D).2.2 = A.D := write_same h0 h8
        rw [hD]
      have hI : Inv c ((shOf c).write (msgW m) A.D).2.2 A.S := ⟨fun x d hx => ⟨(h.i1 x d hx).1, fun hne => by rw [hsame]; exact (h.i1 x d hx).2 hne⟩, h.i2⟩
      split
      · exact ⟨fun _ => ⟨hI, hup⟩, fun D => told_nil⟩
      · exact ⟨fun _ => ⟨hI, hup⟩, fun D => told_done _ _ _⟩
theorem hear_law {c : Cfg} {n k : Nat} {A : Ar} (hok : ArOk c n k A) (hk : k + 2 < 4611686018427387904) (hlk : A.S.o.Lk) (hlk2 : ∀ b, (A.S.use b).1.o.Lk) (hdn : A.down = false) (hD : A.D.down = false) (h : Inv c A.D A.S) (m : Msg)
    (h10 : m.kind = 10 → Ca.there c m.block → m.data = ((shOf c).blk A.D m.block.toNat).2) :
    ((A.hear c m).1.down = false → Inv c (A.hear c m).1.D (A.hear c m).1.S ∧ (A.hear c m).1.D.down = false) ∧ Told c (A.hear c m).1.D (A.hear c m).2 := by
  unfold Ar.hear
  split
  · exact ⟨fun _ => ⟨h, hD⟩, told_nil⟩
  · split
    · obtain ⟨h1, h2, h3⟩ := hear_read hok hk hlk hlk2 h m
      rw [read_D]
      exact ⟨fun _ => ⟨h1, hD⟩, h2⟩
    · split
      · have hw := hear_write hok hlk h hD m
        exact ⟨hw.1, hw.2 _⟩
      · split
        · rename_i hk10
          refine ⟨fun _ => ⟨?_, by rw [demote_D]; exact hD⟩, told_nil⟩
          rw [demote_D]
          unfold Ar.demote
          split
          · exact Inv.put hok.S hlk h 3 m.block m.level m.data (h10 hk10)
          · exact h
        · split
          · exact ⟨fun _ => ⟨InvX.drop h m.block, hD⟩, told_nil⟩
          · exact ⟨fun _ => ⟨h, hD⟩, told_nil⟩
theorem keep_ok {c : Cfg} {k : Nat} {A : Ar} (h : CaOk c k A.S) (hk : k + 1 < 4611686018427387904) (b level : Int) {d : List UInt8} (hd : d.length ≤ 64) : CaOk c (k + 1) (Ar.keep c A b level d).1.S := by
  rcases keep_S c A b level d with ⟨_, e⟩ | ⟨_, e⟩
  · rw [e]; exact h.put hk 3 b hd level
  · rw [e]; exact (h.drop b).mono (Nat.le_succ _) hk
theorem use_len {c : Cfg} {k : Nat} {S : Ca} (h : CaOk c k S) (b : Int) : (S.use b).2.1.length ≤ 64 := by
  unfold Ca.use
  split
  · cases hx : S.m b.toNat with
    | none => simp
    | some d => exact h.size _ d hx
  · simp
theorem hear_ok {c : Cfg} {n k : Nat} {A : Ar} (hok : ArOk c n k A) (hk : k + 2 < 4611686018427387904) (m : Msg) : ArOk c n (k + 2) (A.hear c m).1 := by
  have hS := hok.S
  have hS2 : CaOk c (k + 2) A.S := hS.mono (by omega) hk
  have hr := hok.reads
  have hsh := shOf_ok hS.right
  unfold Ar.hear
  split
  · exact ⟨hS2, hok.need, hok.D, (by show A.reads ≤ _; omega)⟩
  · rename_i hright
    have hright : m.right = true := by
      cases hx : m.right with
      | true => rfl
      | false => exact absurd (.inr hx) hright
    have hdl : m.data.length ≤ 64 := (right_bounds hright).2.2.2.2.2.2.2
    split
    · unfold Ar.read
      split
      · split
        · have hkr := keep_reads c { A with S := (A.S.use m.block).1 } m.block m.level (A.S.use m.block).2.1
          exact ⟨keep_ok (A := { A with S := (A.S.use m.block).1 }) (hS.use (by omega) m.block) (by omega) _ _ (use_len hS _), hok.need, by rw [hkr.1]; exact hok.D, by rw [hkr.2.2]; show A.reads ≤ _; omega⟩
        · exact ⟨(hS.use (by omega) m.block).mono (by omega) hk, hok.need, hok.D, by show A.reads ≤ _; omega⟩
      · split
        · exact ⟨hS2, hok.need, hok.D, (by show A.reads ≤ _; omega)⟩
        · have hkr := keep_reads c { A with reads := A.reads + 1 } m.block m.level ((shOf c).read A.D m.block).1
          have hrl := read_len hsh A.D m.block
          exact ⟨(keep_ok (A := { A with reads := A.reads + 1 }) hS (by omega) _ _ (by omega)).mono (by omega) hk, hok.need, by rw [hkr.1]; exact hok.D, by rw [hkr.2.2]; show A.reads + 1 ≤ _; omega⟩
    · split
      · have hDw := Shp.write_ok hsh (msgW m) hok.D
        unfold Ar.write
        dsimp only
        split
        · split
          · have hkr := keep_reads c { A with D := ((shOf c).write (msgW m) A.D).2.2 } m.block m.level m.data
            exact ⟨(keep_ok (A := { A with D := ((shOf c).write (msgW m) A.D).2.2 }) hS (by omega) _ _ hdl).mono (by omega) hk, hok.need, by rw [hkr.1]; exact hDw, by rw [hkr.2.2]; show A.reads ≤ _; omega⟩
          · exact ⟨hS2, hok.need, hDw, by show A.reads ≤ _; omega⟩
        · split
          · exact ⟨hS2, hok.need, hDw, by show A.reads ≤ _; omega⟩
          · split
            · exact ⟨hS2, hok.need, hDw, by show A.reads ≤ _; omega⟩
            · exact ⟨hS2, hok.need, hDw, by show A.reads ≤ _; omega⟩
      · split
        · unfold Ar.demote
          split
          · exact ⟨(hS.put (by omega) 3 m.block hdl m.level).mono (by omega) hk, hok.need, hok.D, by show A.reads ≤ _; omega⟩
          · exact ⟨hS2, hok.need, hok.D, (by show A.reads ≤ _; omega)⟩
        · split
          · exact ⟨(hS.drop m.block).mono (by omega) hk, hok.need, hok.D, by show A.reads ≤ _; omega⟩
          · exact ⟨hS2, hok.need, hok.D, (by show A.reads ≤ _; omega)⟩
theorem CaOk.new {c : Cfg} (hr : cfgRight c = true) {tier : Nat} (ht : 1 ≤ tier ∧ tier ≤ 3) (x : CaN) : CaOk c 0 (Ca.new c tier x) := by
  obtain ⟨hP, h8, hh, _⟩ := cfg_facts hr
  refine ⟨hr, ordNew_fine hr ht x, by decide, fun i d h => (by cases h), fun hp => ?_, fun hp => ?_⟩
  · show ∃ pc, (Ord.new c tier x).isPart = some pc ∧ pc.Ok
    unfold Ord.new
    rw [if_pos hp]
    exact ⟨_, rfl, ⟨h8, hh, by show 1 ≤ tier ∧ tier ≤ 3; exact ht⟩⟩
  · show (Ord.new c tier x).isPart = none
    unfold Ord.new
    rw [if_neg hp]
    split <;> rfl
theorem new_hasNot (c : Cfg) (tier : Nat) (x : CaN) (b : Nat) : (Ord.new c tier x).has (b : Nat) = false := by
  have hno : ∀ n, lkOf (lkNew n) b = none := by
    intro n
    cases h : lkOf (lkNew n) b with
    | none => rfl
    | some k =>
      obtain ⟨l, hl, hb⟩ := lkOf_some h
      unfold lkNew at hl
      rw [List.getElem?_replicate] at hl
      split at hl
      · simp only [Option.some.injEq] at hl; subst hl; simp at hb
      · cases hl
  unfold Ord.new
  split
  · simp only [Ord.has, lkI]
    split
    · rw [show ((b : Nat) : Int).toNat = b from rfl, hno]; rfl
    · rfl
  · split
    · simp only [Ord.has, MqS.hasI, MqS.new, lkI]
      split
      · rename_i h; split at h
        · rw [show ((b : Nat) : Int).toNat = b from rfl, hno] at h; cases h
        · cases h
      · rfl
    · simp [Ord.has]
theorem Inv.new (c : Cfg) (D : Dk) (tier : Nat) (x : CaN) : Inv c D (Ca.new c tier x) := ⟨fun b d h => (by cases h), fun b _ => (by
  show ((Ord.new c tier x).has (b : Nat) = true ↔ (none : Option (List UInt8)) ≠ none)
  rw [new_hasNot]; simp)⟩
theorem open_up {s : Shp} {D : Dk} (hf : D.fuse = -1) (hd : D.down = false) : (s.open D).1 = 0 ∧ (s.open D).2.down = false ∧ (s.open D).2.fuse = -1 := by
  have hw : ∀ (E : Dk) (a : Nat) (b : List UInt8), E.fuse = -1 → E.down = false → (E.write a b).1 = 0 ∧ (E.write a b).2.fuse = -1 ∧ (E.write a b).2.down = false := by
    intro E a b h1 h2
    unfold Dk.write
    rw [if_neg (by rw [h2]; simp), if_neg (by rw [h1]; decide)]
    exact ⟨rfl, (by show max (E.fuse - 1) (-1) = -1; rw [h1]; decide), h2⟩
  have hseq : ∀ (l : List (Nat × List UInt8)) (E : Dk), E.fuse = -1 → E.down = false → (wrSeq l E).1 = 0 ∧ (wrSeq l E).2.down = false ∧ (wrSeq l E).2.fuse = -1 := by
    intro l
    induction l with
    | nil => intro E h1 h2; exact ⟨rfl, h2, h1⟩
    | cons x l ih =>
      intro E h1 h2
      obtain ⟨e1, e2, e3⟩ := hw E x.1 x.2 h1 h2
      unfold wrSeq
      rw [if_neg (by rw [e1]; simp)]
      exact ih _ e2 e3
  unfold Shp.open
  split
  · exact hseq _ _ hf hd
  · exact ⟨rfl, hd, hf⟩
end Go.Gd
namespace Go.Gd
theorem nodup_len : ∀ {n : Nat} {l : List Nat}, l.Nodup → (∀ x ∈ l, x < n) → l.length ≤ n
  | 0, l, _, hl => by
    cases l with
    | nil => simp
    | cons x t => exact absurd (hl x List.mem_cons_self) (by omega)
  | n + 1, l, h, hl => by
    by_cases hn : n ∈ l
    · have h1 := nodup_len (n := n) (l := l.erase n) (h.erase n) (fun x hx => by
        have hx2 := (List.Nodup.mem_erase_iff h).1 hx
        have := hl x hx2.2
        have := hx2.1
        omega)
      rw [List.length_erase_of_mem hn] at h1
      omega
    · have := nodup_len (n := n) h (fun x hx => by
        have := hl x hx
        have : x ≠ n := fun e => hn (e ▸ hx)
        omega)
      omega
theorem move_get {L : List (List Nat)} {k b j : Nat} {l' : List Nat} (h : (lkPush (lkOut L b) k b)[j]? = some l') : ∃ l, L[j]? = some l ∧ ((j = k ∧ l' = b :: l.filter (· != b)) ∨ (j ≠ k ∧ l' = l.filter (· != b))) := by
  unfold lkPush lkOut at h
  rw [List.getElem?_modify, List.getElem?_map] at h
  cases hl : L[j]? with
  | none => rw [hl] at h; simp at h
  | some l =>
    rw [hl] at h
    refine ⟨l, rfl, ?_⟩
    by_cases hj : k = j
    · simp only [hj, if_true, Option.map_some, Option.map_eq_map, Option.some.injEq] at h
      exact .inl ⟨hj.symm, h.symm⟩
    · simp only [hj, if_false, Option.map_some, Option.map_eq_map, Option.some.injEq] at h
      exact .inr ⟨fun e => hj e.symm, h.symm⟩
theorem LkOk.move {L : List (List Nat)} (h : LkOk L) {b k : Nat} (hb : b < 64) : LkOk (lkPush (lkOut L b) k b) := by
  have hnd : ∀ (j : Nat) (l : List Nat), (lkPush (lkOut L b) k b)[j]? = some l → l.Nodup := by
    intro j l' hl
    obtain ⟨l, h1, ⟨_, rfl⟩ | ⟨_, rfl⟩⟩ := move_get hl
    · exact List.nodup_cons.2 ⟨by simp, (h.nodup j l h1).filter _⟩
    · exact (h.nodup j l h1).filter _
  have hlt : ∀ (j : Nat) (l : List Nat) (x : Nat), (lkPush (lkOut L b) k b)[j]? = some l → x ∈ l → x < 64 := by
    intro j l' x hl hx
    obtain ⟨l, h1, ⟨_, rfl⟩ | ⟨_, rfl⟩⟩ := move_get hl
    · rcases List.mem_cons.1 hx with rfl | hx
      · exact hb
      · exact h.lt j l x h1 (List.mem_filter.1 hx).1
    · exact h.lt j l x h1 (List.mem_filter.1 hx).1
  refine ⟨hnd, ?_, hlt, by rw [lkPush_length, lkOut_length]; exact h.many, fun j l hl => nodup_len (hnd j l hl) (fun x hx => hlt j l x hl hx)⟩
  intro j j' l1 l2 x h1 h2 hx1 hx2
  obtain ⟨m1, g1, c1⟩ := move_get h1
  obtain ⟨m2, g2, c2⟩ := move_get h2
  rcases c1 with ⟨e1, rfl⟩ | ⟨e1, rfl⟩ <;> rcases c2 with ⟨e2, rfl⟩ | ⟨e2, rfl⟩
  · omega
  · rcases List.mem_cons.1 hx1 with rfl | hx1
    · simp at hx2
    · exact h.apart j j' m1 m2 x g1 g2 (List.mem_filter.1 hx1).1 (List.mem_filter.1 hx2).1
  · rcases List.mem_cons.1 hx2 with rfl | hx2
    · simp at hx1
    · exact h.apart j j' m1 m2 x g1 g2 (List.mem_filter.1 hx1).1 (List.mem_filter.1 hx2).1
  · exact h.apart j j' m1 m2 x g1 g2 (List.mem_filter.1 hx1).1 (List.mem_filter.1 hx2).1
theorem age1_lk {c : MqC} {s : MqS} {n : Nat} (h : LkOk s.L) : LkOk (MqS.age1 c s n).L := by
  unfold MqS.age1
  split
  · rename_i b hb
    split
    · exact h.move (lk_mem_lt h (lkLast_mem hb))
    · exact h
  · exact h
theorem ageN_lk {c : MqC} {s : MqS} (h : LkOk s.L) : ∀ n, LkOk (MqS.ageN c s n).L
  | 0 => h
  | n + 1 => age1_lk (ageN_lk h n)
theorem Ord.use_lk {o : Ord} (h : o.Lk) {b : Nat} (hb : b < 64) : (o.use b).Lk := by
  cases o with
  | lru cap l =>
    show LkOk [if b ∈ l then b :: l.filter (· != b) else l]
    split
    · have := LkOk.move (L := [l]) h (b := b) (k := 0) hb
      exact this
    · exact h
  | mq c s =>
    show LkOk (MqS.use c s b).L
    unfold MqS.use
    split
    · exact ageN_lk (s := MqS.place c (s.tick.more b) b) (LkOk.move (L := s.L) h hb) _
    · exact h
  | part c L =>
    show LkOk (ptUse L b)
    unfold ptUse
    split
    · exact h.move hb
    · exact h
end Go.Gd
namespace Go.Gd
open Go.Instr
attribute [local irreducible] loadAt storeAt fieldAt indexAt alloc box build buildSlice hNil eqG binOp Op.unary extract makeSlice makeInterface makeFunc convert hV mV pV hU hF hFV hI hIf hGuard hPick hJ hDraw hLoop ro Instr.index dkH arH outH
def leastC : Cfg := { clients := 1, slots := 1, blocks := 4, size := 1, mode := 2, place := 0, pol := fun _ => 1, cap := fun _ => 1, queues := 1, life := 1, ghost := 0, demote := 1, hints := [], hv := .slice none 0 0 }
theorem least_right : cfgRight leastC = true := by
  rw [cfgRight_yes]
  · rfl
  · refine ⟨fun i _ => ?_, ?_⟩
    · show ((1 : Int) ≤ 1 ∧ (1 : Int) ≤ 2) ∧ (1 : Int) ≤ 1 ∧ (1 : Int) ≤ 16
      decide
    · decide
def freshD : Dk := { l := fun _ => [], fuse := -1, down := false }
theorem fresh_ok : freshD.Ok := ⟨fun _ => by show 0 ≤ 64; omega, by decide⟩
theorem jrn_nil (s : Shp) : ¬ s.jrnIs [] := by
  rintro ⟨h, _⟩
  have : (rText [] s.size (rNums [] 6 rd0).2).2.ok = false := rfl
  rw [this] at h; cases h
theorem open_fresh (s : Shp) : s.open freshD = (0, freshD) := by
  exact if_neg (jrn_nil s)
def wakeM : Msg := ⟨8, 0, 0, 0, 0, 1, 0, 0, 0, false, []⟩
theorem wake_hear (y : CaN) : ∃ A', (Ar.new leastC freshD y).hear leastC wakeM = (A', [mData 1 [0]]) ∧ A'.reads = 1 := by
  have hu : ((Ar.new leastC freshD y).S.use 1).2.2 = false := by
    unfold Ca.use
    rw [if_neg]
    have := new_hasNot leastC 3 y 1
    show ¬ (Ord.new leastC 3 y).has ((1 : Nat) : Int) = true
    rw [this]; simp
  have hD : (Ar.new leastC freshD y).D = freshD := by show ((shOf leastC).open freshD).2 = _; rw [open_fresh]
  have hr : (shOf leastC).read freshD 1 = ([0], 0, 0) := by decide
  have hread : (Ar.new leastC freshD y).read leastC wakeM = ((Ar.keep leastC { (Ar.new leastC freshD y) with reads := 1 } 1 0 [0]).1, (Ar.keep leastC { (Ar.new leastC freshD y) with reads := 1 } 1 0 [0]).2 ++ [mData 1 [0]]) := by
    unfold Ar.read
    show (if ((Ar.new leastC freshD y).S.use 1).2.2 = true then _ else _) = _
    rw [hu, if_neg (by simp), hD]
    show (if ((shOf leastC).read freshD 1).2.2 ≠ 0 then _ else (Ar.keep leastC _ 1 0 ((shOf leastC).read freshD 1).1 |>.1, _)) = _
    rw [hr, if_neg (by simp)]
    show _ = _
    rw [show (shOf leastC).read freshD wakeM.block = ([0], 0, 0) from hr]
    rfl
  have hk2 : (Ar.keep leastC { (Ar.new leastC freshD y) with reads := 1 } 1 0 [0]).2 = [] := by
    classical
    unfold Ar.keep
    rw [if_neg (by intro h; rcases h with h | h; exact h rfl; exact absurd h.1 (by decide))]
  refine ⟨(Ar.keep leastC { (Ar.new leastC freshD y) with reads := 1 } 1 0 [0]).1, ?_, ?_⟩
  · unfold Ar.hear
    rw [if_neg (by intro h; rcases h with h | h; cases h; exact absurd h (by decide)), if_pos (show wakeM.kind = 8 from rfl), hread, hk2]
    rfl
  · exact (keep_reads leastC { (Ar.new leastC freshD y) with reads := 1 } 1 0 [0]).2.2
section
variable {w0 : World} {L : List HP}
theorem rf_least : Spec w0 44 [] [] (fun _ : Unit => cfgV leastC) (fun _ => []) := by
  refine spec_go (fun R w => H44) fun F => ?_
  show Ent w0 F _
  unfold F44
  refine ent_alloc fun t0 => ?_
  refine ent_q (run_buildA (parts := [(0, .int .i64 1), (1, .int .i64 1), (2, .int .i64 1)]) (cs := [.int .i64 1, .int .i64 1, .int .i64 1]) rfl) ?_
  refine ent_q (run_buildA (parts := [(0, .int .i64 1), (1, .int .i64 1), (2, .int .i64 1)]) (cs := [.int .i64 1, .int .i64 1, .int .i64 1]) rfl) ?_
  refine ent_q (bd25_0_1_2_3_4_6_7_8_9_11 rfl rfl rfl rfl rfl rfl rfl rfl) ?_
  refine ent_sa0 (vs := cfgL leastC) rfl (cfgL_one rfl) (Nat.le_refl 17) (l' := cfgL leastC) rfl ?_
  refine ent_r (run_loadA (vs := cfgL leastC) rfl (cells_all 0 rfl)) ?_
  exact ent_ret () rfl (by exact Imp.drop1)
theorem rf_wakes : Spec w0 10 [] [] (fun _ : Unit => .bool true) (fun _ => []) := by
  refine spec_go (fun R w => H10) fun F => ?_
  show Ent w0 F _
  unfold F10
  refine ent_call rf_least (Imp.refl _) fun _ => ?_
  refine ent_call sec_new (Imp.refl _) fun d => ?_
  have hneed : (shOf leastC).need ≤ 64 := by decide
  refine Ent.imp (L' := ro w0 leastC.hv 4 leastC.hints.length (hintsV leastC.hints) :: dkH w0 d 64 freshD :: F) (Imp.ro0 rfl (Imp.refl _)) ?_
  refine ent_call (ar_new least_right d freshD hneed fresh_ok (by rw [open_fresh])) (Imp.refl _) fun z => ?_
  obtain ⟨x, y⟩ := z
  dsimp only
  show Ent w0 (arH w0 x leastC (Ar.new leastC freshD y) :: dkH w0 x.d 64 (Ar.new leastC freshD y).D :: pureH (x.d = d) :: F) _
  (repeat refine ent_q (run_ex rfl) ?_)
  refine ent_q ((run_ne _ _).F (by omega)) ?_
  (repeat refine ent_ifF ?_)
  refine ent_q (bd37_0_5 rfl rfl) ?_
  have hok : ArOk leastC 64 0 (Ar.new leastC freshD y) := ⟨CaOk.new least_right (by omega) y, hneed, by show ((shOf leastC).open freshD).2.Ok; rw [open_fresh]; exact fresh_ok, Nat.le_refl _⟩
  refine Ent.imp (Imp.ro0 (a := none) (cap := 0) (sz := 1) (w0 := w0) rfl (Imp.refl _)) ?_
  refine ent_call (ar_hear hok (by omega) wakeM (.slice none 0 0)) (by (repeat (first | refine Imp.pick 0 rfl ?_ | refine Imp.pick 1 rfl ?_)); exact Imp.refl _) fun v => ?_
  obtain ⟨A', e1, e2⟩ := wake_hear y
  rw [e1]
  dsimp only
  refine Ent.out fun xs hxs => ?_
  obtain ⟨dv, rfl⟩ : ∃ dv, xs = [(mData 1 [0], dv)] := by
    match xs, hxs with
    | [(m, dv)], h => simp only [List.map_cons, List.map_nil, List.cons.injEq, and_true] at h; subst h; exact ⟨dv, rfl⟩
    | a :: b :: t, h => simp at h
  refine Ent.vec (fun a hv hl hn => by simp at hn) fun b cap junk hv hl hc => ?_
  subst hv
  refine ent_q run_len ?_
  refine ent_q ((run_eq _ _).T (by simp)) ?_
  (repeat (first | refine ent_gT ?_ | refine ent_j ?_))
  refine ent_q (run_indexS0 0 rfl (by simp)) ?_
  have hmv : msgsV [(mData 1 [0], dv)] = msgL (mData 1 [0]) dv := by simp [msgsV]
  rw [hmv]
  refine ent_q (run_loadA (vs := msgL (mData 1 [0]) dv) rfl (cells_ownP (rest := junk) 0 rfl)) ?_
  refine ent_bs (zs := [.int .u8 0]) rfl (n := 1) (parts := [(0, .int .u8 0)]) (cs := by8 [0]) (by simp) rfl fun b8 => ?_
  refine ent_q (bd37_0_5_10 rfl rfl rfl) ?_
  refine Ent.freeze ?_
  refine Ent.imp (L' := ro w0 (.slice (some ⟨b8, 0, none⟩) 1 1) 1 1 (by8 [0]) :: roB w0 dv [0] :: arH w0 x leastC A' :: F) ?_ ?_
  · refine Imp.trans (L2 := ptI b8 5 (by8 [0] ++ []) :: datH w0 [(mData 1 [0], dv)] :: arH w0 x leastC A' :: F) ?_ ?_
    · rw [List.append_nil]; exact (by (repeat (first | refine Imp.pick 0 rfl ?_ | refine Imp.pick 1 rfl ?_)); exact Imp.trans Imp.drop1 (Imp.trans Imp.drop1 (Imp.drop1)))
    · refine Imp.trans (Imp.roI (w0 := w0) (cap := 1) (n := 1) (sz := 1) rfl (Nat.le_refl _)) (Imp.cons ?_)
      exact Imp.trans (Imp.datGet (i := 0) rfl) (by (repeat (first | refine Imp.pick 0 rfl ?_ | refine Imp.pick 1 rfl ?_)); exact Imp.drop1)
  refine ent_call (rf_sameMsg (mData 1 [0]) (mData 1 [0]) dv (.slice (some ⟨b8, 0, none⟩) 1 1) true (by simp) (by decide) (by decide)) (by (repeat (first | refine Imp.pick 0 rfl ?_ | refine Imp.pick 1 rfl ?_)); exact Imp.refl _) fun _ => ?_
  (repeat (first | refine ent_gT ?_ | refine ent_pT ?_))
  refine ent_call ar_reads (Imp.refl _) fun _ => ?_
  rw [e2]
  refine ent_q ((run_eq _ _).T rfl) ?_
  (repeat refine ent_pT ?_)
  exact ent_ret () rfl (by exact Imp.drop1)
end
end Go.Gd
