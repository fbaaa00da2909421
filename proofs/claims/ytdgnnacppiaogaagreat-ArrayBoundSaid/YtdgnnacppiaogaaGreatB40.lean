/- The plain law of ArrayBound: an order has no more than its room. Conditions: those in the theorems. The plain law of ArrayBound, of an array. Conditions: those in the theorems. The plain law of ArrayBound: what is heard. Conditions: those in the theorems. The statement ArrayOnce: what comes behind the acts. Conditions: those in the theorems. The statement ArrayBound: one act. Conditions: those in the theorems. -/
import Derived.Test.YtdgnnacppiaogaaGreatB39
import Derived.Test.YtdgnnacppiaogaaGreatB29
import Derived.Test.YtdgnnacppiaogaaGreatB38
import Derived.Test.YtdgnnacppiaogaaGreatB37
set_option linter.unusedVariables false
set_option linter.unusedSimpArgs false
namespace Go.Gd
def Ord.room : Ord → Nat
  | .lru cap _ => cap
  | .mq c _ => c.cap
  | .part c _ => c.caps (c.tier - 1)
def Ord.Bd : Ord → Prop
  | .lru cap l => l.length ≤ cap
  | .mq c s => (allN s.L c.q).length ≤ c.cap
  | .part c L => (∀ r, r < c.l.length → (L.getD r []).length ≤ allocP c.l c.caps r (c.tier - 1)) ∧ L.getD c.l.length [] = []
theorem lenN_sum {L : List (List Nat)} {f : Nat → Nat} : ∀ {n : Nat}, (∀ r, r < n → (L.getD r []).length ≤ f r) → lenN L n ≤ sumP f n
  | 0, _ => Nat.le_refl _
  | n + 1, h => Nat.add_le_add (lenN_sum fun r hr => h r (by omega)) (h n (by omega))
theorem all_room {k : Nat} {o : Ord} (hf : o.Fine k) (h : o.Bd) : o.all.length ≤ o.room := by
  cases o with
  | lru cap l => exact h
  | mq c s => exact h
  | part c L =>
    show (rowsN L c.l.length).length ≤ c.caps (c.tier - 1)
    rw [rowsN_length]
    have ht := hf.1.tier
    exact Nat.le_trans (lenN_sum h.1) (alloc_room c.l c.caps c.l.length (by omega))
theorem all_lt {o : Ord} (h : o.Lk) {x : Nat} (hx : x ∈ o.all) : x < 64 := by
  cases o with
  | lru cap l => exact lk_mem_lt (k := 0) h hx
  | mq c s =>
    obtain ⟨k, _, h2⟩ := allN_mem.1 hx
    exact lk_mem_lt h h2
  | part c L =>
    obtain ⟨k, _, h2⟩ := rowsN_mem.1 hx
    exact lk_mem_lt h h2
theorem mem_all {k : Nat} {o : Ord} (hf : o.Fine k) (h : o.Bd) {x : Nat} (hx : x < 64) : x ∈ o.all ↔ o.has (x : Nat) = true := by
  cases o with
  | lru cap l =>
    simp only [Ord.all, Ord.has, decide_eq_true_eq, Int.toNat_natCast]
    exact ⟨fun h => ⟨by omega, h⟩, fun h => h.2⟩
  | mq c s => exact allN_mem.trans (hasI_iff hx).symm
  | part c L =>
    show x ∈ rowsN L c.l.length ↔ (lkI L (x : Nat)).isSome = true
    rw [lkI_nat hx, isSome_has, hf.2, rowsN_mem]
    constructor
    · rintro ⟨j, h1, h2⟩; exact ⟨j, by omega, h2⟩
    · rintro ⟨j, h1, h2⟩
      refine ⟨j, ?_, h2⟩
      by_cases hj : j = c.l.length
      · subst hj; rw [h.2] at h2; simp at h2
      · omega
theorem all_nodup {o : Ord} (h : o.Lk) (hp : o.isPart = none) : o.all.Nodup := by
  cases o with
  | lru cap l => exact getD_nodup h 0
  | mq c s => exact allN_nodup h c.q
  | part c L => cases hp
theorem bd_of_le {o : Ord} (hp : o.isPart = none) : o.Bd ↔ o.all.length ≤ o.room := by
  cases o with
  | lru cap l => exact Iff.rfl
  | mq c s => exact Iff.rfl
  | part c L => cases hp
theorem row_sub {M : List (List Nat)} (h : LkOk M) {j : Nat} {l : List Nat} (hs : ∀ x ∈ M.getD j [], x ∈ l) : (M.getD j []).length ≤ l.length := sub_len (getD_nodup h j) hs
theorem nil_of {l m : List Nat} (hm : m = []) (hs : ∀ x ∈ l, x ∈ m) : l = [] := by
  cases l with
  | nil => rfl
  | cons a t => have := hs a List.mem_cons_self; rw [hm] at this; simp at this
theorem use_room (o : Ord) (b : Nat) : (o.use b).room = o.room := by cases o <;> rfl
theorem add_room (o : Ord) (b : Nat) : (o.add b).1.room = o.room := by cases o <;> rfl
theorem remove_room (o : Ord) (b : Nat) : (o.remove b).room = o.room := by cases o <;> rfl
theorem part_sub {c : PtC} {L M : List (List Nat)} (hM : LkOk M) (h : Ord.Bd (.part c L)) (hs : ∀ j, ∀ x ∈ M.getD j [], x ∈ L.getD j []) : Ord.Bd (.part c M) :=
  ⟨fun r hr => Nat.le_trans (row_sub hM (hs r)) (h.1 r hr), nil_of h.2 (hs _)⟩
theorem lkOf_getD {L : List (List Nat)} {b k : Nat} (h : lkOf L b = some k) : b ∈ L.getD k [] := by
  obtain ⟨l, h1, h2⟩ := lkOf_some h
  rw [List.getD_eq_getElem?_getD, h1]; exact h2
theorem Ord.Bd.use {k : Nat} {o : Ord} {b : Nat} (hf : o.Fine k) (hlk' : (o.use b).Lk) (h : o.Bd) (hb : b < 64) (hh : o.has (b : Nat) = true) : (o.use b).Bd := by
  cases hp : o.isPart with
  | none =>
    have hp' : (o.use b).isPart = none := by rw [isPart_use]; exact hp
    rw [bd_of_le hp', use_room]
    refine Nat.le_trans (sub_len (all_nodup hlk' hp') fun x hx => ?_) ((bd_of_le hp).1 h)
    have hx64 := all_lt hlk' hx
    have hbd' : (o.use b).Bd ∨ True := .inr trivial
    have hm : x ∈ (o.use b).all ↔ (o.use b).has (x : Nat) = true := by
      cases o with
      | lru cap l =>
        simp only [Ord.use, Ord.all, Ord.has, decide_eq_true_eq, Int.toNat_natCast]
        exact ⟨fun h => ⟨by omega, h⟩, fun h => h.2⟩
      | mq c s => exact allN_mem.trans (hasI_iff hx64).symm
      | part c L => cases hp
    exact (mem_all hf h hx64).2 ((Ord.use_has hf hb hh hx64).1 (hm.1 hx))
  | some pc =>
    obtain ⟨L, rfl⟩ := isPart_some hp
    refine part_sub hlk' h fun j x hx => ?_
    have hx : x ∈ (ptUse L b).getD j [] := hx
    unfold ptUse at hx
    split at hx
    · rename_i r hr
      rcases mem_lkPush.1 hx with ⟨h1, _, h3⟩ | h1
      · subst h1; subst h3; exact lkOf_getD hr
      · exact (mem_lkOut.1 h1).1
    · exact hx
theorem Ord.Bd.remove {k : Nat} {o : Ord} {b : Nat} (hf : o.Fine k) (hlk' : (o.remove b).Lk) (h : o.Bd) (hb : b < 64) : (o.remove b).Bd := by
  cases hp : o.isPart with
  | none =>
    have hp' : (o.remove b).isPart = none := by rw [isPart_remove]; exact hp
    rw [bd_of_le hp', remove_room]
    refine Nat.le_trans (sub_len (all_nodup hlk' hp') fun x hx => ?_) ((bd_of_le hp).1 h)
    have hx64 := all_lt hlk' hx
    have hm : x ∈ (o.remove b).all ↔ (o.remove b).has (x : Nat) = true := by
      cases o with
      | lru cap l =>
        simp only [Ord.remove, Ord.all, Ord.has, decide_eq_true_eq, Int.toNat_natCast]
        exact ⟨fun h => ⟨by omega, h⟩, fun h => h.2⟩
      | mq c s => exact allN_mem.trans (hasI_iff hx64).symm
      | part c L => cases hp
    exact (mem_all hf h hx64).2 ((Ord.remove_has hx64 hb).1 (hm.1 hx)).1
  | some pc =>
    obtain ⟨L, rfl⟩ := isPart_some hp
    exact part_sub hlk' h fun j x hx => (mem_lkOut.1 (show x ∈ (lkOut L b).getD j [] from hx)).1
theorem add_roomy {k : Nat} {o : Ord} {b : Nat} (hf : o.Fine k) (h : o.Bd) (hp : o.isPart = none) (hb : b < 64) (hh : ¬ o.has (b : Nat) = true) (hv : (o.add b).2 = none) : o.all.length + 1 ≤ o.room := by
  cases o with
  | lru cap l =>
    have hnb : b ∉ l := fun hm => hh (by simp only [Ord.has, decide_eq_true_eq, Int.toNat_natCast]; exact ⟨by omega, hm⟩)
    have hv : (lruAdd cap l b).2 = none := hv
    unfold lruAdd at hv
    rw [if_neg hnb] at hv
    split at hv
    · rename_i hc; exact hc
    · cases hv
  | mq c s =>
    have hnb : ¬ MqS.has c s b = true := fun hm => hh ((hasI_iff hb).2 (has_iff.1 hm))
    have hv : (MqS.add c s b).2 = none := hv
    unfold MqS.add at hv
    rw [if_neg hnb] at hv
    have hv : (MqS.make c s.tick).2 = none := hv
    unfold MqS.make at hv
    split at hv
    · cases hv
    · rename_i hc
      have hc : lenN s.L c.q ≠ c.cap := hc
      have h1 : (allN s.L c.q).length ≤ c.cap := h
      show (allN s.L c.q).length + 1 ≤ c.cap
      rw [allN_length] at h1 ⊢
      omega
  | part c L => cases hp
theorem Ord.Bd.add {k : Nat} {o : Ord} {b : Nat} (hf : o.Fine k) (hlk : o.Lk) (hlk' : (o.add b).1.Lk) (h : o.Bd) (hb : b < 64) (ht : o.takes b) : (o.add b).1.Bd := by
  obtain ⟨g1, g2, g3⟩ := Ord.add_has hf hlk hb ht
  cases hp : o.isPart with
  | none =>
    have hp' : (o.add b).1.isPart = none := by rw [isPart_add]; exact hp
    rw [bd_of_le hp', add_room]
    have hm : ∀ x, x ∈ (o.add b).1.all → x < 64 ∧ (x = b ∨ (x ∈ o.all ∧ (o.add b).2 ≠ some x)) := fun x hx => by
      have hx64 := all_lt hlk' hx
      have hm : x ∈ (o.add b).1.all ↔ (o.add b).1.has (x : Nat) = true := by
        cases o with
        | lru cap l =>
          simp only [Ord.add, Ord.all, Ord.has, decide_eq_true_eq, Int.toNat_natCast]
          exact ⟨fun h => ⟨by omega, h⟩, fun h => h.2⟩
        | mq c s => exact allN_mem.trans (hasI_iff hx64).symm
        | part c L => cases hp
      refine ⟨hx64, ?_⟩
      rcases (g1 x hx64).1 (hm.1 hx) with h1 | ⟨h1, h2⟩
      · exact .inl h1
      · exact .inr ⟨(mem_all hf h hx64).2 h1, h2⟩
    have hle := (bd_of_le hp).1 h
    by_cases hh : o.has (b : Nat) = true
    · refine Nat.le_trans (sub_len (all_nodup hlk' hp') fun x hx => ?_) hle
      rcases (hm x hx).2 with rfl | h1
      · exact (mem_all hf h hb).2 hh
      · exact h1.1
    · cases hv : (o.add b).2 with
      | none =>
        have h1 := add_roomy hf h hp hb hh hv
        refine Nat.le_trans (sub_len (m := b :: o.all) (all_nodup hlk' hp') fun x hx => ?_) h1
        rcases (hm x hx).2 with rfl | h1
        · exact List.mem_cons_self
        · exact List.mem_cons_of_mem _ h1.1
      | some v =>
        obtain ⟨v1, v2, v3⟩ := g2 v hv
        have hva : v ∈ o.all := (mem_all hf h v3).2 v1
        have hl := List.length_erase_of_mem hva
        have hpos : 0 < o.all.length := List.length_pos_of_mem hva
        have h1 := sub_len (m := b :: o.all.erase v) (all_nodup hlk' hp') fun x hx => by
          rcases (hm x hx).2 with rfl | h1
          · exact List.mem_cons_self
          · exact List.mem_cons_of_mem _ ((List.mem_erase_of_ne (fun e => h1.2 (by rw [hv, e]))).2 h1.1)
        simp only [List.length_cons] at h1
        omega
  | some c =>
    obtain ⟨L, rfl⟩ := isPart_some hp
    have htk : 0 < c.part b := ht
    cases ho : lkOf L b with
    | some r =>
      refine part_sub hlk' h fun j x hx => ?_
      have hx : x ∈ (ptAdd c L b).1.getD j [] := hx
      unfold ptAdd at hx
      rw [ho] at hx
      have hx : x ∈ (ptUse L b).getD j [] := hx
      unfold ptUse at hx
      rw [ho] at hx
      rcases mem_lkPush.1 hx with ⟨h1, _, h3⟩ | h1
      · subst h1; subst h3; exact lkOf_getD ho
      · exact (mem_lkOut.1 h1).1
    | none =>
      obtain ⟨r, hr⟩ : ∃ r, rangeF c.l b = some r := by
        unfold PtC.part partF at htk
        cases hx : rangeF c.l b with
        | none => rw [hx] at htk; simp at htk
        | some r => exact ⟨r, rfl⟩
      have hrl := rangeF_lt hr
      have hti := hf.1.tier
      have hpart : c.part b = allocP c.l c.caps r (c.tier - 1) := by
        unfold PtC.part partF
        rw [hr]
        dsimp only
        rw [if_pos (by omega), Int.toNat_natCast]
      have he : (Ord.add (.part c L) b).1 = .part c (if c.part b ≤ (L.getD r []).length then lkPush (lkOut (lkOut L (ptGoes c L r b)) b) r b else lkPush (lkOut L b) r b) := by
        show Ord.part c (ptAdd c L b).1 = _
        unfold ptAdd; rw [ho]; simp only; rw [hr]; dsimp only
        split <;> rfl
      rw [he] at hlk' ⊢
      split at hlk'
      · rename_i hfull
        rw [if_pos hfull]
        have hgm := ptGoes_mem (c := c) (b := b) (show L.getD r [] ≠ [] by intro e; rw [e] at hfull; simp at hfull; omega)
        generalize ptGoes c L r b = v at *
        have hsub : ∀ j x, x ∈ (lkPush (lkOut (lkOut L v) b) r b).getD j [] → (j = r ∧ x = b) ∨ (x ∈ L.getD j [] ∧ x ≠ v) := fun j x hx => by
          rcases mem_lkPush.1 hx with ⟨h1, _, h3⟩ | h1
          · exact .inl ⟨h1, h3⟩
          · have h2 := mem_lkOut.1 h1
            exact .inr (mem_lkOut.1 h2.1)
        refine ⟨fun j hj => ?_, nil_of h.2 fun x hx => ?_⟩
        · by_cases hjr : j = r
          · subst hjr
            have h1 := row_sub (j := j) (l := b :: (L.getD j []).erase v) hlk' fun x hx => by
              rcases hsub j x hx with ⟨_, rfl⟩ | ⟨h1, h2⟩
              · exact List.mem_cons_self
              · exact List.mem_cons_of_mem _ ((List.mem_erase_of_ne h2).2 h1)
            have hl := List.length_erase_of_mem hgm
            have hpos : 0 < (L.getD j []).length := List.length_pos_of_mem hgm
            have := h.1 j hj
            simp only [List.length_cons] at h1
            omega
          · refine Nat.le_trans (row_sub (j := j) (l := L.getD j []) hlk' fun x hx => ?_) (h.1 j hj)
            rcases hsub j x hx with ⟨h1, _⟩ | ⟨h1, _⟩
            · exact absurd h1 hjr
            · exact h1
        · rcases hsub _ x hx with ⟨h1, _⟩ | ⟨h1, _⟩
          · omega
          · exact h1
      · rename_i hfull
        rw [if_neg hfull]
        have hsub : ∀ j x, x ∈ (lkPush (lkOut L b) r b).getD j [] → (j = r ∧ x = b) ∨ x ∈ L.getD j [] := fun j x hx => by
          rcases mem_lkPush.1 hx with ⟨h1, _, h3⟩ | h1
          · exact .inl ⟨h1, h3⟩
          · exact .inr (mem_lkOut.1 h1).1
        refine ⟨fun j hj => ?_, nil_of h.2 fun x hx => ?_⟩
        · by_cases hjr : j = r
          · subst hjr
            have h1 := row_sub (j := j) (l := b :: L.getD j []) hlk' fun x hx => by
              rcases hsub j x hx with ⟨_, rfl⟩ | h1
              · exact List.mem_cons_self
              · exact List.mem_cons_of_mem _ h1
            simp only [List.length_cons] at h1
            rw [hpart] at hfull
            omega
          · refine Nat.le_trans (row_sub (j := j) (l := L.getD j []) hlk' fun x hx => ?_) (h.1 j hj)
            rcases hsub j x hx with ⟨h1, _⟩ | h1
            · exact absurd h1 hjr
            · exact h1
        · rcases hsub _ x hx with ⟨h1, _⟩ | h1
          · omega
          · exact h1
theorem lkNew_getD (n k : Nat) : (lkNew n).getD k [] = [] := by
  unfold lkNew
  rw [List.getD_eq_getElem?_getD, List.getElem?_replicate]
  split <;> rfl
theorem Ord.Bd.new (c : Cfg) (x : CaN) (tier : Nat) : (Ord.new c tier x).Bd := by
  unfold Ord.new
  split
  · refine ⟨fun r _ => ?_, lkNew_getD _ _⟩
    rw [lkNew_getD]; exact Nat.zero_le _
  · split
    · show (allN (MqS.new (mqC c tier)).L _).length ≤ _
      rw [allN_length, lenN_zero fun k _ => by show ((lkNew _).getD k []).isEmpty = true; rw [lkNew_getD]; rfl]
      exact Nat.zero_le _
    · exact Nat.zero_le _
theorem new_room (c : Cfg) (x : CaN) (tier : Nat) : (Ord.new c tier x).room = capN c (tier - 1) := by
  unfold Ord.new
  split
  · rfl
  · split <;> rfl
end Go.Gd
namespace Go.Gd
structure BdI (c : Cfg) (S : Ca) : Prop where
  i1 : ∀ b d, S.m b = some d → (b : Int) < c.blocks ∧ (d.length : Int) = c.size
  i2 : ∀ x, x < 64 → (S.o.has (x : Nat) = true ↔ S.m x ≠ none)
  bd : S.o.Bd
  room : S.o.room = capN c 2
section
variable {c : Cfg} {k : Nat} {S : Ca}
theorem BdI.use {b : Int} (hS : CaOk c k S) (hlk' : (S.use b).1.o.Lk) (h : BdI c S) : BdI c (S.use b).1 := by
  unfold Ca.use at hlk' ⊢
  cases hh : S.o.has b with
  | false => exact h
  | true =>
    rw [hh] at hlk'
    obtain ⟨h0, h64⟩ := Ord.has_lt hh
    obtain ⟨bn, rfl⟩ := Int.eq_ofNat_of_zero_le h0
    refine ⟨h.i1, fun x hx => ?_, ?_, ?_⟩
    · show ((S.o.use ((bn : Nat) : Int).toNat).has (x : Nat) = true ↔ S.m x ≠ none)
      rw [← h.i2 x hx, Int.toNat_natCast]
      exact Ord.use_has hS.fine (by omega) hh hx
    · exact Ord.Bd.use hS.fine hlk' h.bd (by omega) hh
    · exact (use_room _ _).trans h.room
theorem BdI.drop {b : Int} (hS : CaOk c k S) (hlk' : (S.drop b).1.o.Lk) (h : BdI c S) : BdI c (S.drop b).1 ∧ (S.drop b).1.o.has b = false := by
  unfold Ca.drop at hlk' ⊢
  cases hh : S.o.has b with
  | false => exact ⟨h, hh⟩
  | true =>
    rw [hh] at hlk'
    obtain ⟨h0, h64⟩ := Ord.has_lt hh
    obtain ⟨bn, rfl⟩ := Int.eq_ofNat_of_zero_le h0
    simp only [Int.toNat_natCast, if_true] at hlk' ⊢
    refine ⟨⟨fun x d hx => ?_, fun x hx => ?_, ?_, ?_⟩, ?_⟩
    · have hx' : upF S.m bn none x = some d := hx
      unfold upF at hx'
      split at hx'
      · cases hx'
      · exact h.i1 x d hx'
    · show ((S.o.remove bn).has (x : Nat) = true ↔ upF S.m bn none x ≠ none)
      rw [Ord.remove_has hx (by omega), h.i2 x hx]
      unfold upF
      split
      · rename_i e; simp [e]
      · rename_i e; simp [e]
    · exact Ord.Bd.remove hS.fine hlk' h.bd (by omega)
    · exact (remove_room _ _).trans h.room
    · cases hx : (S.o.remove bn).has (bn : Nat) with
      | false => rfl
      | true => exact absurd rfl ((Ord.remove_has (by omega) (by omega)).1 hx).2
theorem BdI.add {b : Nat} {d : List UInt8} (hS : CaOk c k S) (hlk : S.o.Lk) (hlk' : (S.add b d).1.o.Lk) (hb : (b : Int) < c.blocks) (ht : S.o.takes b) (hd : (d.length : Int) = c.size) (h : BdI c S) :
    BdI c (S.add b d).1 ∧ (S.add b d).1.o.has (b : Nat) = true ∧ ((S.add b d).2.isSome = true → (S.add b d).1.o.has (vicV (S.add b d).2) = false) := by
  have h32 := shOf_blocks hS.right
  have hb64 : b < 64 := by omega
  obtain ⟨a1, a2, a3⟩ := Ord.add_has hS.fine hlk hb64 ht
  have hput : ∀ (m : Nat → Option (List UInt8)), (∀ x e, m x = some e → S.m x = some e) → ∀ x e, upF m b (some d) x = some e → (x : Int) < c.blocks ∧ (e.length : Int) = c.size := by
    intro m hm x e he
    unfold upF at he
    split at he
    · rename_i hxb
      simp only [Option.some.injEq] at he
      subst he; subst hxb
      exact ⟨hb, hd⟩
    · exact h.i1 x e (hm x e he)
  unfold Ca.add at hlk' ⊢
  cases hv : (S.o.add b).2 with
  | none =>
    rw [hv] at hlk'
    refine ⟨⟨hput S.m (fun _ _ h => h), fun x hx => ?_, Ord.Bd.add hS.fine hlk hlk' h.bd hb64 ht, (add_room _ _).trans h.room⟩, (a1 b hb64).2 (.inl rfl), fun h => by cases h⟩
    show ((S.o.add b).1.has (x : Nat) = true ↔ upF S.m b (some d) x ≠ none)
    rw [a1 x hx, hv, h.i2 x hx]
    unfold upF
    split
    · rename_i e; simp [e]
    · rename_i e; simp [e]
  | some v =>
    rw [hv] at hlk'
    obtain ⟨v1, v2, v3⟩ := a2 v hv
    refine ⟨⟨hput _ (fun x e he => ?_), fun x hx => ?_, Ord.Bd.add hS.fine hlk hlk' h.bd hb64 ht, (add_room _ _).trans h.room⟩, (a1 b hb64).2 (.inl rfl), fun _ => ?_⟩
    · unfold upF at he
      split at he
      · cases he
      · exact he
    · show ((S.o.add b).1.has (x : Nat) = true ↔ upF (upF S.m v none) b (some d) x ≠ none)
      rw [a1 x hx, hv, h.i2 x hx]
      unfold upF
      split
      · rename_i e; simp [e]
      · rename_i e
        split
        · rename_i e2; subst e2; simp [e]
        · rename_i e2
          simp only [e, false_or, ne_eq, Option.some.injEq]
          exact ⟨fun h => h.1, fun h => ⟨h, fun e3 => e2 e3.symm⟩⟩
    · show (S.o.add b).1.has (v : Nat) = false
      cases hx : (S.o.add b).1.has (v : Nat) with
      | false => rfl
      | true =>
        rcases (a1 v v3).1 hx with h1 | ⟨_, h1⟩
        · exact absurd h1 v2
        · exact absurd hv h1
theorem keep_bd {A : Ar} {b level : Int} {d : List UInt8} (hS : CaOk c k A.S) (hlk : A.S.o.Lk) (hlk' : (Ar.keep c A b level d).1.S.o.Lk) (h : BdI c A.S) :
    BdI c (Ar.keep c A b level d).1.S ∧ (∀ z ∈ (Ar.keep c A b level d).2, z.kind = 14 ∧ c.mode = 1 ∧ (Ar.keep c A b level d).1.S.o.has z.block = false) ∧
    (Ca.there c b → (d.length : Int) = c.size → c.place = 0 → ((Ar.keep c A b level d).1.S.o.has b = true ↔ (c.mode ≠ 2 ∨ level = 3))) := by
  classical
  unfold Ar.keep at hlk' ⊢
  by_cases hc : c.mode ≠ 2 ∨ level = 3 ∧ Ca.takes c 3 A.S b level
  · rw [if_pos hc] at hlk' ⊢
    unfold Ar.put at hlk' ⊢
    dsimp only at hlk' ⊢
    by_cases hy : Ca.there c b ∧ (d.length : Int) = c.size ∧ Ca.takes c 3 A.S b level
    · obtain ⟨h1, h2, h3⟩ := hy
      rw [put_yes h1 h2 h3] at hlk' ⊢
      dsimp only at hlk' ⊢
      obtain ⟨bn, rfl⟩ := Int.eq_ofNat_of_zero_le h1.1
      rw [Int.toNat_natCast] at hlk' ⊢
      obtain ⟨g1, g2, g3⟩ := BdI.add hS hlk hlk' h1.2 (by have := takes_ord hS h3; rwa [Int.toNat_natCast] at this) h2 h
      refine ⟨g1, fun z hz => ?_, fun _ _ _ => ⟨fun _ => hc.imp id (·.1), fun _ => g2⟩⟩
      split at hz
      · rename_i hv
        rw [List.mem_singleton] at hz
        subst hz
        exact ⟨rfl, hv.2, g3 hv.1⟩
      · simp at hz
    · rw [(put_no hy).1, (put_no hy).2]
      refine ⟨h, fun z hz => ?_, fun h1 h2 h0 => ?_⟩
      · rw [if_neg (by simp)] at hz; simp at hz
      · exact absurd ⟨h1, h2, h1, fun e => by omega, fun e => by omega⟩ hy
  · rw [if_neg hc] at hlk' ⊢
    obtain ⟨g1, g2⟩ := BdI.drop hS hlk' h
    refine ⟨g1, fun z hz => by simp at hz, fun h1 h2 h0 => ?_⟩
    dsimp only
    rw [g2]
    refine ⟨fun e => (by cases e), fun e => ?_⟩
    have ht : Ca.takes c 3 A.S b level := ⟨h1, fun e => by omega, fun e => by omega⟩
    exact absurd (e.imp id fun e => ⟨e, ht⟩) hc
end
end Go.Gd
namespace Go.Gd
def Says (c : Cfg) (lv : Int) (o : Ord) (z : Msg) : Prop :=
  (z.kind = 12 → z.code = 0 → c.place = 0 → (o.has z.block = true ↔ (c.mode ≠ 2 ∨ lv = 3))) ∧ (z.kind = 14 → o.has z.block = false ∧ c.mode = 1)
theorem says_inv {c : Cfg} {lv : Int} {o : Ord} {z : Msg} (h : z.kind = 14 ∧ c.mode = 1 ∧ o.has z.block = false) : Says c lv o z := ⟨fun h2 => by rw [h.1] at h2; exact absurd h2 (by decide), fun _ => ⟨h.2.2, h.2.1⟩⟩
theorem says_done {c : Cfg} {lv : Int} {o : Ord} (m : Msg) (code : Int) (g : Bool) : Says c lv o (mDone m code g) := ⟨fun h => absurd (show (13 : Int) = 12 from h) (by decide), fun h => absurd (show (13 : Int) = 14 from h) (by decide)⟩
theorem says_data {c : Cfg} {lv b : Int} {o : Ord} {d : List UInt8} (h : c.place = 0 → (o.has b = true ↔ (c.mode ≠ 2 ∨ lv = 3))) : Says c lv o (mData b d) := ⟨fun _ _ => h, fun h => absurd (show (12 : Int) = 14 from h) (by decide)⟩
theorem hear_bd {c : Cfg} {n k : Nat} {A : Ar} (hok : ArOk c n k A) (hk : k + 2 < 4611686018427387904) (hlk : A.S.o.Lk) (hlk2 : ∀ b, (A.S.use b).1.o.Lk) (m : Msg) (hlk' : (A.hear c m).1.S.o.Lk) (h : BdI c A.S) :
    BdI c (A.hear c m).1.S ∧ ∀ z ∈ (A.hear c m).2, Says c m.level (A.hear c m).1.S.o z := by
  have hS := hok.S
  have hsh := shOf_ok hS.right
  have hbl := shOf_blocks hS.right
  unfold Ar.hear at hlk' ⊢
  split
  · exact ⟨h, fun z hz => by simp at hz⟩
  rename_i hup
  rw [if_neg hup] at hlk'
  split
  · rename_i h8
    rw [if_pos h8] at hlk'
    have hSu := hS.use (by omega) m.block
    unfold Ar.read at hlk' ⊢
    split
    · rename_i hus
      rw [if_pos hus] at hlk'
      have hh : A.S.o.has m.block = true := by
        unfold Ca.use at hus
        cases hx : A.S.o.has m.block with
        | true => rfl
        | false => rw [hx] at hus; simp at hus
      obtain ⟨h0, h64⟩ := Ord.has_lt hh
      have hud : (A.S.use m.block).2.1 = (A.S.m m.block.toNat).getD [] := by unfold Ca.use; rw [if_pos hh]
      have hIu := BdI.use hS (hlk2 m.block) h
      obtain ⟨bn, hbn⟩ := Int.eq_ofNat_of_zero_le h0
      have hne := (h.i2 bn (by omega)).1 (by rw [← hbn]; exact hh)
      cases hx : A.S.m bn with
      | none => exact absurd hx hne
      | some d =>
        have hd := h.i1 bn d hx
        have hud2 : (A.S.use m.block).2.1 = d := by rw [hud, hbn, Int.toNat_natCast, hx]; rfl
        split
        · rename_i hmode
          rw [if_pos hmode] at hlk'
          obtain ⟨g1, g2, g3⟩ := keep_bd (A := { A with S := (A.S.use m.block).1 }) hSu (hlk2 m.block) hlk' hIu
          refine ⟨g1, fun z hz => ?_⟩
          rcases List.mem_append.1 hz with hz | hz
          · exact says_inv (g2 z hz)
          · rw [List.mem_singleton] at hz
            subst hz
            exact says_data (g3 ⟨by omega, by omega⟩ (by rw [hud2]; exact hd.2))
        · rename_i hmode
          refine ⟨hIu, fun z hz => ?_⟩
          rw [List.mem_singleton] at hz
          subst hz
          refine says_data fun _ => ⟨fun _ => .inl hmode, fun _ => ?_⟩
          have h1 := (hIu.i2 bn (by omega)).2 (by unfold Ca.use; rw [if_pos hh]; exact hne)
          dsimp only
          rw [hbn] at h1 ⊢
          exact h1
    · rename_i hus
      rw [if_neg hus] at hlk'
      split
      · rename_i he
        refine ⟨h, fun z hz => ?_⟩
        rw [List.mem_singleton] at hz
        subst hz
        refine ⟨fun _ hc => ?_, fun h => absurd (show (12 : Int) = 14 from h) (by decide)⟩
        have : (((shOf c).read A.D m.block).2.2 : Int) = 0 := hc
        exact absurd (by omega) he
      · rename_i he
        rw [if_neg he] at hlk'
        have he0 : ((shOf c).read A.D m.block).2.2 = 0 := by simpa using he
        obtain ⟨r1, r2, r3, r4⟩ := read_facts he0
        obtain ⟨g1, g2, g3⟩ := keep_bd (A := { A with reads := A.reads + 1 }) hS hlk hlk' h
        refine ⟨g1, fun z hz => ?_⟩
        rcases List.mem_append.1 hz with hz | hz
        · exact says_inv (g2 z hz)
        · rw [List.mem_singleton] at hz
          subst hz
          have hlen := blk_len hsh A.D m.block.toNat
          exact says_data (g3 ⟨by omega, by omega⟩ (by rw [r3]; omega))
  · rename_i h8
    rw [if_neg h8] at hlk'
    split
    · rename_i h9
      rw [if_pos h9] at hlk'
      unfold Ar.write at hlk' ⊢
      dsimp only at hlk' ⊢
      split
      · rename_i h0
        rw [if_pos h0] at hlk'
        split
        · rename_i hv
          rw [if_pos hv] at hlk'
          obtain ⟨g1, g2, g3⟩ := keep_bd (A := { A with D := ((shOf c).write (msgW m) A.D).2.2 }) hS hlk hlk' h
          refine ⟨g1, fun z hz => ?_⟩
          rcases List.mem_append.1 hz with hz | hz
          · exact says_inv (g2 z hz)
          · rw [List.mem_singleton] at hz
            subst hz
            exact says_done _ _ _
        · refine ⟨h, fun z hz => ?_⟩
          rw [List.mem_singleton] at hz
          subst hz
          exact says_done _ _ _
      · split
        · exact ⟨h, fun z hz => by simp at hz⟩
        · split
          · exact ⟨h, fun z hz => by simp at hz⟩
          · refine ⟨h, fun z hz => ?_⟩
            rw [List.mem_singleton] at hz
            subst hz
            exact says_done _ _ _
    · rename_i h9
      rw [if_neg h9] at hlk'
      split
      · rename_i h10
        rw [if_pos h10] at hlk'
        refine ⟨?_, fun z hz => by simp at hz⟩
        unfold Ar.demote at hlk' ⊢
        dsimp only at hlk' ⊢
        split
        · rename_i hc
          rw [if_pos hc] at hlk'
          unfold Ar.put at hlk' ⊢
          dsimp only at hlk' ⊢
          by_cases hy : Ca.there c m.block ∧ (m.data.length : Int) = c.size ∧ Ca.takes c 3 A.S m.block m.level
          · obtain ⟨h1, h2, h3⟩ := hy
            rw [put_yes h1 h2 h3] at hlk' ⊢
            have h11 := h1.1
            have h12 := h1.2
            exact (BdI.add hS hlk hlk' (by omega) (takes_ord hS h3) h2 h).1
          · rw [(put_no hy).1]; exact h
        · exact h
      · rename_i h10
        rw [if_neg h10] at hlk'
        split
        · rename_i h11
          rw [if_pos h11] at hlk'
          exact ⟨(BdI.drop hS hlk' h).1, fun z hz => by simp at hz⟩
        · exact ⟨h, fun z hz => by simp at hz⟩
theorem BdI.new (c : Cfg) (y : CaN) : BdI c (Ca.new c 3 y) := ⟨fun b d h => (by cases h), fun b _ => (by
  show ((Ord.new c 3 y).has (b : Nat) = true ↔ (none : Option (List UInt8)) ≠ none)
  rw [new_hasNot]; simp), Ord.Bd.new c y 3, new_room c y 3⟩
theorem mem_allI {k : Nat} {o : Ord} (hf : o.Fine k) (h : o.Bd) (hlk : o.Lk) (z : Int) : z ∈ o.all.map (fun n : Nat => (n : Int)) ↔ o.has z = true := by
  constructor
  · intro hz
    obtain ⟨n, hn, rfl⟩ := List.mem_map.1 hz
    exact (mem_all hf h (all_lt hlk hn)).1 hn
  · intro hz
    obtain ⟨h0, h64⟩ := Ord.has_lt hz
    obtain ⟨n, rfl⟩ := Int.eq_ofNat_of_zero_le h0
    exact List.mem_map.2 ⟨n, (mem_all hf h (by omega)).2 hz, rfl⟩
end Go.Gd
set_option linter.unusedVariables false
namespace Go.Gd
open Go.Instr
theorem lkget_len {L : List (List Nat)} (h : LkOk L) (k : Nat) : (L.getD k []).length ≤ 64 := by
  rcases Nat.lt_or_ge k L.length with h1 | h1
  · exact h.len _ _ (lkAt_some h1)
  · rw [List.getD_eq_getElem?_getD, List.getElem?_eq_none h1]; simp
theorem allN_small {L : List (List Nat)} (h : LkOk L) : ∀ n, (allN L n).length ≤ 64 * n
  | 0 => by simp [allN]
  | n + 1 => by
    have := allN_small h n
    have := lkget_len h n
    simp only [allN, List.length_append]; omega
theorem rowsN_small {L : List (List Nat)} (h : LkOk L) : ∀ n, (rowsN L n).length ≤ 64 * n
  | 0 => by simp [rowsN]
  | n + 1 => by
    have := rowsN_small h n
    have := lkget_len h n
    simp only [rowsN, List.length_append]; omega
theorem all_small {k : Nat} {o : Ord} (hf : o.Fine k) (h : o.Lk) : o.all.length ≤ 4096 := by
  cases o with
  | lru cap l => have := lkget_len h 0; simpa [Ord.all] using Nat.le_trans this (by omega)
  | mq c s =>
    have h1 := allN_small h c.q
    have h2 : LkOk s.L := h
    have h3 := h2.many
    have h4 : s.L.length = c.q + 1 := hf.2.1
    show (allN s.L c.q).length ≤ _
    omega
  | part c L =>
    have h1 := rowsN_small h c.l.length
    have h8 := hf.1.h8
    show (rowsN L c.l.length).length ≤ _
    omega
section
variable {w0 : World} {L : List HP}
attribute [local irreducible] loadAt storeAt fieldAt indexAt alloc box build buildSlice hNil eqG binOp Op.unary extract makeSlice makeInterface makeFunc convert hV mV pV hU hF hFV hI hIf hGuard hPick hJ hDraw hLoop ro Instr.index dkH arH outH caH ordH stI
end
end Go.Gd
set_option linter.unusedVariables false
namespace Go.Gd
open Go.Instr
attribute [local irreducible] loadAt storeAt fieldAt indexAt alloc box build buildSlice hNil eqG binOp Op.unary extract makeSlice makeInterface makeFunc convert hV mV pV hU hF hFV hI hIf hGuard hPick hJ hDraw hLoop ro Instr.index dkH arH outH caH ordH stI
section
variable {w0 : World} {L : List HP}
set_option maxHeartbeats 2000000 in
theorem bound_step (c : Cfg) (hr : cfgRight c = true) (d cb i : Nat) (hi : i < 100) (C : List HP) (x : ArN) (A : Ar) (hxd : x.d = d) (hok : ArOk c 64 (2 * i) A) (hI : BdI c A.S) (fuse : Int) (yb : Nat) (next : List Value → World → Prop) (RR : Value → World → Prop)
    (m : Msg) (mv : Value) (T : ∀ A' : Ar, ArOk c 64 (2 * (i + 1)) A' → BdI c A'.S → Ent w0 (arH w0 x c A' :: dkH w0 d 64 A'.D :: pt cb 25 (cfgL c) :: C) (next [.int .i64 ((i + 1 : Nat) : Int), .bool false])) :
    Ent w0 (pt yb 39 (.int .i64 fuse :: msgL m mv) :: roB w0 mv m.data :: arH w0 x c A :: dkH w0 d 64 A.D :: pt cb 25 (cfgL c) :: C) (
  hV P (fieldAt 39 (P0 yb) 1) fun t32 =>
  hV P (loadAt 37 t32) fun t33 =>
  hF P 17 #[(P0 x.ar), t33] fun t34 =>
  hV P (Builtin.len_ #[43] 3 #[t34]) fun t35 =>
  hLoop2 (.int .i64 0) (.bool false) fun t36_6 t4_7 g8 next9 =>
  hV P (binOp .lss 3 t36_6 t35) fun t37 =>
  hIf t37 (hV P (indexAt 43 t34 t36_6) fun t38 =>
  hV P (loadAt 37 t38) fun t39 =>
  hV P (alloc 37 true (.tuple #[])) fun m_10 =>
  hU P (storeAt 37 m_10 t39) <|
  hDraw fun C10 =>
  pV P (fieldAt 37 m_10 5) fun t42 =>
  mV P C10 (loadAt 3 t42) fun t43 =>
  hF P 33 #[(P0 x.ar)] fun t41 =>
  hAnd C10 <| hF P 32 #[t41, t43] fun t44 =>
  hV P (fieldAt 37 m_10 0) fun t45 =>
  hV P (loadAt 3 t45) fun t46 =>
  hV P (eqG true .eql 3 t46 (.int .i64 12)) fun t47 =>
  hJ (fun (j51_13 : Value) =>
  hPick t47 j51_13 (.bool false) fun t52 =>
  hJ (fun (j56_16 : Value) =>
  hPick t52 j56_16 (.bool false) fun t57 =>
  hJ (fun (j69_41 : Value) =>
  hPick t57 j69_41 (.bool false) fun t70 =>
  hIf t70 (RR (.bool false)) (hV P (fieldAt 37 m_10 0) fun t71 =>
  hV P (loadAt 3 t71) fun t72 =>
  hV P (eqG true .eql 3 t72 (.int .i64 14)) fun t73 =>
  hJ (fun (j80_57 : Value) =>
  hPick t73 j80_57 (.bool false) fun t81 =>
  hIf t81 (RR (.bool false)) (hV P (binOp .add 3 t36_6 (.int .i64 1)) fun t82 =>
  next9 t82 t4_7)) fun J58 =>
  hGuard t73 true (hJ (fun (j79_44 : Value) =>
  hGuard t73 true (hPick t44 (.bool true) j79_44 fun t80 =>
  J58 t80) (J58 undef)) fun J46 =>
  hGuard t44 false (hV P (fieldAt 25 (P0 cb) 4) fun t77 =>
  hV P (loadAt 3 t77) fun t78 =>
  hV P (eqG true .neq 3 t78 (.int .i64 1)) fun t79 =>
  J46 t79) (J46 undef)) (hJ (fun (j79_49 : Value) =>
  hGuard t73 true (hPick undef (.bool true) j79_49 fun t80 =>
  J58 t80) (J58 undef)) fun J51 =>
  hGuard undef false (hV P (fieldAt 25 (P0 cb) 4) fun t77 =>
  hV P (loadAt 3 t77) fun t78 =>
  hV P (eqG true .neq 3 t78 (.int .i64 1)) fun t79 =>
  J51 t79) (J51 undef)))) fun J59 =>
  hGuard t57 true (hV P (fieldAt 25 (P0 cb) 4) fun t60 =>
  hV P (loadAt 3 t60) fun t61 =>
  hV P (eqG true .neq 3 t61 (.int .i64 2)) fun t62 =>
  hJ (fun (j67_20 : Value) =>
  hGuard t57 true (hPick t62 (.bool true) j67_20 fun t68 =>
  hV P (eqG false .neq 4 t44 t68) fun t69 =>
  J59 t69) (J59 undef)) fun J23 =>
  hGuard t62 false (hV P (fieldAt 39 (P0 yb) 1) fun t64 =>
  hV P (fieldAt 37 t64 6) fun t65 =>
  hV P (loadAt 3 t65) fun t66 =>
  hV P (eqG true .eql 3 t66 (.int .i64 3)) fun t67 =>
  J23 t67) (J23 undef)) (hJ (fun (j67_27 : Value) =>
  hGuard t57 true (hPick undef (.bool true) j67_27 fun t68 =>
  hV P (eqG false .neq 4 undef t68) fun t69 =>
  J59 t69) (J59 undef)) fun J30 =>
  hGuard undef false (hV P (fieldAt 39 (P0 yb) 1) fun t64 =>
  hV P (fieldAt 37 t64 6) fun t65 =>
  hV P (loadAt 3 t65) fun t66 =>
  hV P (eqG true .eql 3 t66 (.int .i64 3)) fun t67 =>
  J30 t67) (J30 undef))) fun J60 =>
  hGuard t52 true (hV P (fieldAt 25 (P0 cb) 5) fun t54 =>
  hV P (loadAt 3 t54) fun t55 =>
  hV P (eqG true .eql 3 t55 (.int .i64 0)) fun t56 =>
  J60 t56) (J60 undef)) fun J61 =>
  hGuard t47 true (hV P (fieldAt 37 m_10 8) fun t49 =>
  hV P (loadAt 32 t49) fun t50 =>
  hV P (eqG true .eql 32 t50 (.int .i64 0)) fun t51 =>
  J61 t51) (J61 undef)) (hDraw fun C62 =>
  pV P (fieldAt 25 (P0 cb) 7) fun t86 =>
  pV P (indexAt 22 t86 (.int .i64 2)) fun t87 =>
  mV P C62 (loadAt 3 t87) fun t88 =>
  hF P 33 #[(P0 x.ar)] fun t84 =>
  hAnd C62 <| mV P C62 (Builtin.len_ #[64] 3 #[t84]) fun t85 =>
  pV P (binOp .gtr 3 t85 t88) fun t89 =>
  hIf t89 (RR (.bool false)) (hV P (binOp .add 3 (.int .i64 (i : Nat)) (.int .i64 1)) fun t90 =>
  next [t90, t4_7]))) := by
  have hsh := shOf_ok hr
  have hok2 : ArOk c 64 (2 * (i + 1)) (A.hear c m).1 := by rw [show 2 * (i + 1) = 2 * i + 2 by omega]; exact hear_ok hok (by omega) m
  have hml := hear_len c A m
  refine Ent.at 2 rfl (Ent.arLk fun hlk => ?_)
  have hlk2 : ∀ b, (A.S.use b).1.o.Lk := by
    intro b
    unfold Ca.use
    cases hh : A.S.o.has b with
    | false => exact hlk
    | true =>
      have := Ord.has_lt hh
      exact Ord.use_lk hlk (by omega)
  have hbd := hear_bd hok (by omega) hlk hlk2 m
  refine Ent.imp (L' := pt yb 39 (.int .i64 fuse :: msgL m mv) :: roB w0 mv m.data :: arH w0 x c A :: dkH w0 d 64 A.D :: pt cb 25 (cfgL c) :: C) (by (repeat (first | refine Imp.pick 0 rfl ?_ | refine Imp.pick 1 rfl ?_)); exact Imp.refl _) ?_
  (repeat refine ent_q (run_field0 _) ?_)
  refine ent_q (run_loadA (vs := msgL m mv) rfl (cells_own 0 rfl (fun j v hj => by rw [Nat.add_comm]; exact hj))) ?_
  have hH := ar_hear (w0 := w0) (x := x) hok (by omega) m mv
  rw [hxd] at hH
  refine ent_call hH (by (repeat (first | refine Imp.pick 1 rfl ?_ | refine Imp.pick 2 rfl ?_)); exact Imp.refl _) fun ov => ?_
  generalize A.hear c m = W at *
  obtain ⟨A', msgs⟩ := W
  dsimp only at hok2 hbd hml ⊢
  refine Ent.at 1 rfl (Ent.arLk fun hlk' => ?_)
  obtain ⟨hI', hsays⟩ := hbd hlk' hI
  have hmemI := mem_allI hok2.S.fine hI'.bd hlk'
  have hroom := all_room hok2.S.fine hI'.bd
  rw [hI'.room] at hroom
  have hEl : (A'.S.o.all.map (fun n : Nat => (n : Int))).length = A'.S.o.all.length := by simp
  have hB := ar_blocks (w0 := w0) (x := x) (c := c) (A := A') hok2.S
  rw [inV_nat, ← hEl] at hB
  have hall := all_small hok2.S.fine hlk'
  rw [← hEl] at hall hroom
  generalize A'.S.o.all.map (fun n : Nat => (n : Int)) = E at *
  refine Ent.imp (L' := outH w0 ov msgs :: arH w0 x c A' :: dkH w0 d 64 A'.D :: pt yb 39 (.int .i64 fuse :: msgL m mv) :: pt cb 25 (cfgL c) :: C) (by (repeat (first | refine Imp.pick 0 rfl ?_ | refine Imp.pick 1 rfl ?_)); exact Imp.refl _) ?_
  refine Ent.out fun ms hms => ?_
  subst hms
  rw [List.length_map] at hml
  refine Ent.vecRo ?_
  refine ent_q (run_lenR 0 rfl) ?_
  refine Ent.ro fun oa oc Ro hov hol hord => ?_
  subst hov
  refine ent_loop (ι := Nat) (fun j => j ≤ ms.length) (fun j => [.int .i64 (j : Nat), .bool false]) (fun j => pt yb 39 (.int .i64 fuse :: msgL m mv) :: pt cb 25 (cfgL c) :: datH w0 ms :: Ro :: arH w0 x c A' :: dkH w0 d 64 A'.D :: C) (fun j => ms.length - j) 0 (Nat.zero_le _) rfl (by (repeat (first | refine Imp.pick 0 rfl ?_ | refine Imp.pick 1 rfl ?_ | refine Imp.pick 2 rfl ?_ | refine Imp.pick 5 rfl ?_)); exact Imp.drop1) ?_
  intro j hj g2 next2 hnext2
  show Ent w0 _ (hV P (binOp .lss 3 (.int .i64 (j : Nat)) (.int .i64 (ms.length : Nat))) _)
  refine ent_qb (run_lt _ _) (fun h => ?_) (fun h => ?_)
  rotate_left
  · refine ent_ifF ?_
    refine ent_draw [pt cb 25 (cfgL c)] (by (repeat refine Imp.pick 1 rfl ?_); exact Imp.nil) ?_
    (refine ent_p (fun _ => run_field0 _) ?_)
    refine ent_p (fun _ => run_indexA 2 rfl (by omega)) ?_
    refine ent_m (run_load (v := .int .i64 (c.cap 2)) (cell_own 0 rfl (cfgL_cap (by omega)))) ?_
    refine ent_call hB (by (repeat refine Imp.pick 4 rfl ?_); exact Imp.refl _) fun v => ?_
    refine ent_and (by (repeat refine Imp.pick 3 rfl ?_); exact Imp.nil) ?_
    refine Ent.vecRo ?_
    refine Ent.ro fun va vc Rv hvv hvl hvr => ?_
    subst hvv
    refine ent_m run_len ?_
    have hcap : ((capN c 2 : Nat) : Int) = c.cap 2 := by
      have h1 := (cfg_facts hr).1.1 2 (by omega)
      unfold capN; omega
    refine ent_p (fun _ => (run_gt _ _).F (by omega)) ?_
    refine ent_ifF ?_
    refine ent_q (run_add64 (by omega)) ?_
    exact Ent.imp (by (repeat (first | refine Imp.pick 2 rfl ?_ | refine Imp.pick 3 rfl ?_ | refine Imp.pick 6 rfl ?_)); exact Imp.trans Imp.drop1 (Imp.trans Imp.drop1 (Imp.trans Imp.drop1 (Imp.trans Imp.drop1 (Imp.drop1))))) (T A' hok2 hI')
  have hjm : j < ms.length := by omega
  have ga : ms[j]? = some ms[j] := List.getElem?_eq_getElem hjm
  generalize ms[j] = y at ga
  obtain ⟨m', dv⟩ := y
  have hmem : m' ∈ ms.map (·.1) := List.mem_map.2 ⟨(m', dv), List.mem_of_getElem? ga, rfl⟩
  have hsy := hsays m' hmem
  refine ent_ifT ?_
  refine Ent.at 2 rfl (Ent.imp (Imp.datGet ga) ?_)
  refine Ent.ro1 fun hdv => ?_
  refine Ent.imp (L' := datH w0 ms :: Ro :: pt yb 39 (.int .i64 fuse :: msgL m mv) :: pt cb 25 (cfgL c) :: arH w0 x c A' :: dkH w0 d 64 A'.D :: C) (by (repeat (first | refine Imp.pick 1 rfl ?_ | refine Imp.pick 3 rfl ?_)); exact Imp.drop1) ?_
  obtain ⟨b1, o1, rfl, hc1⟩ := RdS.cellM (hord (datH w0 ms :: Ro :: pt yb 39 (.int .i64 fuse :: msgL m mv) :: pt cb 25 (cfgL c) :: arH w0 x c A' :: dkH w0 d 64 A'.D :: C) 1 rfl) ga
  refine ent_q (run_indexS j rfl hjm) ?_
  refine ent_q (run_loadA (vs := msgL m' dv) rfl (fun j' v hj' => hc1 j' v hj')) ?_
  refine ent_alloc fun mb => ?_
  refine ent_sa0 (vs := msgL m' dv) rfl (msgL_one hdv) (Nat.le_refl 11) (l' := msgL m' dv) rfl ?_
  refine ent_draw [pt mb 37 (msgL m' dv)] (by (repeat refine Imp.pick 0 rfl ?_); exact Imp.nil) ?_
  (refine ent_p (fun _ => run_field0 _) ?_)
  refine ent_m (run_load (v := .int .i64 m'.block) (cell_own 0 rfl rfl)) ?_
  refine ent_call hB (by (repeat refine Imp.pick 5 rfl ?_); exact Imp.refl _) fun v => ?_
  refine ent_and (by (repeat refine Imp.pick 2 rfl ?_); exact Imp.nil) ?_
  refine Ent.vecRo ?_
  refine ent_call (rf_has v E m'.block (by omega)) (by (repeat refine Imp.pick 0 rfl ?_); exact Imp.refl _) fun _ => ?_
  refine Ent.imp (L' := pt mb 37 (msgL m' dv) :: pt yb 39 (.int .i64 fuse :: msgL m mv) :: pt cb 25 (cfgL c) :: datH w0 ms :: Ro :: arH w0 x c A' :: dkH w0 d 64 A'.D :: C) (by (repeat (first | refine Imp.pick 0 rfl ?_ | refine Imp.pick 1 rfl ?_ | refine Imp.pick 3 rfl ?_)); exact Imp.refl _) ?_
  have hq1 : m'.kind = 12 → m'.code = 0 → c.place = 0 → (decide (m'.block ∈ E) = true ↔ (c.mode ≠ 2 ∨ m.level = 3)) := fun k1 k2 k3 => by
    rw [decide_eq_true_iff, hmemI]; exact hsy.1 k1 k2 k3
  have hq2 : m'.kind = 14 → decide (m'.block ∈ E) = false ∧ c.mode = 1 := fun k1 => by
    refine ⟨decide_eq_false fun hh => ?_, (hsy.2 k1).2⟩
    rw [hmemI, (hsy.2 k1).1] at hh; cases hh
  generalize decide (m'.block ∈ E) = q at *
  have rest : Ent w0 (pt mb 37 (msgL m' dv) :: pt yb 39 (.int .i64 fuse :: msgL m mv) :: pt cb 25 (cfgL c) :: datH w0 ms :: Ro :: arH w0 x c A' :: dkH w0 d 64 A'.D :: C) (
    hV P (loadAt 3 (P0 mb)) fun t72 =>
    hV P (eqG true .eql 3 t72 (.int .i64 14)) fun t73 =>
    hJ (fun (j80_57 : Value) =>
    hPick t73 j80_57 (.bool false) fun t81 =>
    hIf t81 (RR (.bool false)) (hV P (binOp .add 3 (.int .i64 (j : Nat)) (.int .i64 1)) fun t82 =>
    next2 [t82, .bool false])) fun J58 =>
    hGuard t73 true (hJ (fun (j79_44 : Value) =>
    hGuard t73 true (hPick (.bool q) (.bool true) j79_44 fun t80 =>
    J58 t80) (J58 undef)) fun J46 =>
    hGuard (.bool q) false (hV P (fieldAt 25 (P0 cb) 4) fun t77 =>
    hV P (loadAt 3 t77) fun t78 =>
    hV P (eqG true .neq 3 t78 (.int .i64 1)) fun t79 =>
    J46 t79) (J46 undef)) (hJ (fun (j79_49 : Value) =>
    hGuard t73 true (hPick undef (.bool true) j79_49 fun t80 =>
    J58 t80) (J58 undef)) fun J51 =>
    hGuard undef false (hV P (fieldAt 25 (P0 cb) 4) fun t77 =>
    hV P (loadAt 3 t77) fun t78 =>
    hV P (eqG true .neq 3 t78 (.int .i64 1)) fun t79 =>
    J51 t79) (J51 undef))) := by
    have fin : Ent w0 (pt mb 37 (msgL m' dv) :: pt yb 39 (.int .i64 fuse :: msgL m mv) :: pt cb 25 (cfgL c) :: datH w0 ms :: Ro :: arH w0 x c A' :: dkH w0 d 64 A'.D :: C) (hV P (binOp .add 3 (.int .i64 (j : Nat)) (.int .i64 1)) fun t92 => next2 [t92, .bool false]) := by
      refine ent_q (run_add64 (by omega)) ?_
      exact Ent.imp (by (repeat refine Imp.pick 1 rfl ?_); exact Imp.drop1) (hnext2 (j + 1) (by omega) (by omega))
    refine ent_q (run_load (v := .int .i64 m'.kind) (cell_own 0 rfl rfl)) ?_
    by_cases k14 : m'.kind = 14
    · refine ent_q ((run_eq _ _).T k14) ?_
      obtain ⟨q0, hm1⟩ := hq2 k14
      subst q0
      (repeat (first | refine ent_q (run_field0 _) ?_ | refine ent_gT ?_ | refine ent_j ?_))
      refine ent_q (run_load (v := .int .i64 c.mode) (cell_own 2 rfl rfl)) ?_
      refine ent_q ((run_ne _ _).F (by omega)) ?_
      (repeat (first | refine ent_ifF ?_ | refine ent_gT ?_ | refine ent_pT ?_ | refine ent_pF ?_))
      exact fin
    · refine ent_q ((run_eq _ _).F k14) ?_
      (repeat (first | refine ent_ifF ?_ | refine ent_gF ?_ | refine ent_gU ?_ | refine ent_pF ?_ | refine ent_j ?_))
      exact fin
  (repeat refine ent_q (run_fieldZ _ _) ?_)
  refine ent_q (run_load (v := .int .i64 m'.kind) (cell_own 0 rfl rfl)) ?_
  by_cases k12 : m'.kind = 12
  rotate_left
  · refine ent_q ((run_eq _ _).F k12) ?_
    (repeat (first | refine ent_q (run_fieldZ _ _) ?_ | refine ent_ifF ?_ | refine ent_gF ?_ | refine ent_gU ?_ | refine ent_pF ?_ | refine ent_j ?_))
    exact rest
  refine ent_q ((run_eq _ _).T k12) ?_
  (repeat (first | refine ent_q (run_field0 _) ?_ | refine ent_gT ?_ | refine ent_j ?_))
  refine ent_q (run_load (v := .int .i64 m'.code) (cell_own 0 rfl rfl)) ?_
  by_cases k0 : m'.code = 0
  rotate_left
  · refine ent_q ((run_eq _ _).F k0) ?_
    (repeat (first | refine ent_q (run_fieldZ _ _) ?_ | refine ent_ifF ?_ | refine ent_gF ?_ | refine ent_gU ?_ | refine ent_pT ?_ | refine ent_pF ?_ | refine ent_j ?_))
    exact rest
  refine ent_q ((run_eq _ _).T k0) ?_
  (repeat (first | refine ent_q (run_field0 _) ?_ | refine ent_gT ?_ | refine ent_pT ?_ | refine ent_j ?_))
  refine ent_q (run_load (v := .int .i64 c.place) (cell_own 2 rfl rfl)) ?_
  by_cases kp : c.place = 0
  rotate_left
  · refine ent_q ((run_eq _ _).F kp) ?_
    (repeat (first | refine ent_q (run_fieldZ _ _) ?_ | refine ent_ifF ?_ | refine ent_gF ?_ | refine ent_gU ?_ | refine ent_pT ?_ | refine ent_pF ?_ | refine ent_j ?_))
    exact rest
  refine ent_q ((run_eq _ _).T kp) ?_
  have hqq := hq1 k12 k0 kp
  (repeat (first | refine ent_q (run_field0 _) ?_ | refine ent_gT ?_ | refine ent_pT ?_ | refine ent_j ?_))
  refine ent_q (run_load (v := .int .i64 c.mode) (cell_own 2 rfl rfl)) ?_
  by_cases km : c.mode = 2
  rotate_left
  · refine ent_q ((run_ne _ _).T km) ?_
    have hq : q = true := hqq.2 (.inl km)
    subst hq
    (repeat (first | refine ent_gT ?_ | refine ent_gF' ?_ | refine ent_pT ?_ | refine ent_j ?_))
    refine ent_q (run_neqB true true und4) ?_
    (repeat (first | refine ent_q (run_fieldZ _ _) ?_ | refine ent_ifF ?_ | refine ent_pT ?_))
    exact rest
  refine ent_q ((run_ne _ _).F (by omega)) ?_
  (repeat (first | refine ent_q (run_field0 _) ?_ | refine ent_q (run_field _ _) ?_ | refine ent_gT ?_ | refine ent_j ?_))
  refine ent_q (run_load (v := .int .i64 m.level) (cell_own 1 rfl rfl)) ?_
  by_cases kl : m.level = 3
  · refine ent_q ((run_eq _ _).T kl) ?_
    have hq : q = true := hqq.2 (.inr kl)
    subst hq
    (repeat (first | refine ent_gT ?_ | refine ent_pF ?_))
    refine ent_q (run_neqB true true und4) ?_
    (repeat (first | refine ent_q (run_fieldZ _ _) ?_ | refine ent_ifF ?_ | refine ent_pT ?_))
    exact rest
  · refine ent_q ((run_eq _ _).F kl) ?_
    have hq : q = false := by
      cases q with
      | false => rfl
      | true => rcases hqq.1 rfl with h | h
                · exact absurd km h
                · exact absurd h kl
    subst hq
    (repeat (first | refine ent_gT ?_ | refine ent_pF ?_))
    refine ent_q (run_neqB false false und4) ?_
    (repeat (first | refine ent_q (run_fieldZ _ _) ?_ | refine ent_ifF ?_ | refine ent_pT ?_))
    exact rest
end
end Go.Gd
