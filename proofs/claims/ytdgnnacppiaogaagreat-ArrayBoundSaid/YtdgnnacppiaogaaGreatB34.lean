/- The contracts of package msg: which message is right. Conditions: those in the theorems. How the invariants of an order pass through its operations. Conditions: those in the theorems. -/
import Derived.Test.YtdgnnacppiaogaaGreatB8
import Derived.Test.YtdgnnacppiaogaaGreatB16
import Derived.Test.YtdgnnacppiaogaaGreatB14
import Derived.Test.YtdgnnacppiaogaaGreatB24
import Derived.Test.YtdgnnacppiaogaaGreatB29
set_option linter.unusedVariables false
set_option linter.unusedSimpArgs false
namespace Go.Gd
open Go.Instr
attribute [local irreducible] loadAt storeAt fieldAt indexAt alloc box build buildSlice hNil eqG binOp Op.unary extract makeSlice makeInterface makeFunc convert hV mV pV hU hF hFV hIf hGuard hPick hJ hDraw hLoop ro Instr.index
structure Msg where
  kind : Int
  client : Int
  slot : Int
  boot : Int
  op : Int
  block : Int
  level : Int
  round : Int
  code : Int
  grant : Bool
  data : List UInt8
def msgL (m : Msg) (dv : Value) : List Value := [.int .i64 m.kind, .int .i64 m.client, .int .i64 m.slot, .int .i64 m.boot, .int .i64 m.op, .int .i64 m.block, .int .i64 m.level, .int .i64 m.round, .int .i64 m.code, .bool m.grant, dv]
def orBits (l : List Nat) : Nat := l.foldl (fun w f => w ||| 2 ^ f) 0
def kTab : List Nat := [0, orBits [2, 4, 5, 6], orBits [2, 4, 5, 6, 10], orBits [5, 6, 10], orBits [5, 7], orBits [2, 4, 5, 6, 8, 9, 10], orBits [2, 4, 5, 6, 8, 9], orBits [5, 7], orBits [5, 6], orBits [1, 2, 3, 4, 5, 6, 10], orBits [5, 6, 10], orBits [5], orBits [5, 8, 10], orBits [1, 2, 3, 4, 5, 8, 9], orBits [5]]
def kOf (k : Int) : Nat := if k < 1 ∨ 14 < k then 0 else kTab.getD k.toNat 0
def Msg.num (m : Msg) (f : Nat) : Int := match f with | 1 => m.client | 2 => m.slot | 3 => m.boot | 4 => m.op | 5 => m.block | 6 => m.level | _ => m.round
def Msg.most (f : Nat) : Int := match f with | 1 => 3 | 2 => 3 | 3 => 1099511627776 | 4 => 1099511627776 | 5 => 31 | 6 => 4 | _ => 1099511627776
def Msg.ok (m : Msg) (f : Nat) : Bool := match f with
  | 8 => decide (0 ≤ m.code ∧ m.code ≤ 16)
  | 9 => true
  | 10 => decide (m.data.length ≤ 64)
  | f => decide (0 ≤ m.num f ∧ m.num f ≤ Msg.most f)
def Msg.zero (m : Msg) (f : Nat) : Bool := match f with
  | 8 => decide (m.code = 0)
  | 9 => !m.grant
  | 10 => decide (m.data.length = 0)
  | f => decide (m.num f = 0)
def Msg.fine (m : Msg) (f : Nat) : Bool := m.ok f && (decide (kOf m.kind / 2 ^ f % 2 ≠ 0) || m.zero f)
def Msg.right (m : Msg) : Bool := decide (kOf m.kind ≠ 0) && (List.range 10).all fun i => m.fine (i + 1)
section
variable {w0 : World} {L : List HP}
theorem run_orU {t : TypeId} {a b : Nat} (ha : a < 18446744073709551616) (hb : b < 18446744073709551616) : Run w0 L (binOp .or t (.int .u64 (a : Nat)) (.int .u64 (b : Nat))) (.int .u64 ((a ||| b : Nat) : Int)) := fun w hw => by
  rw [run_or w hw]
  have hlt : a ||| b < 2 ^ 64 := Nat.or_lt_two_pow (by omega) (by omega)
  have e1 : (BitVec.ofInt 64 (a : Int) ||| BitVec.ofInt 64 (b : Int)).toNat = a ||| b := by
    rw [BitVec.toNat_or]
    have a1 : (BitVec.ofInt 64 (a : Int)).toNat = a := by simp [BitVec.toNat_ofInt]; omega
    have a2 : (BitVec.ofInt 64 (b : Int)).toNat = b := by simp [BitVec.toNat_ofInt]; omega
    rw [a1, a2]
  show Result.ok (Value.int .u64 (IntKind.u64.wrap ((BitVec.ofInt 64 (a : Int) ||| BitVec.ofInt 64 (b : Int)).toNat : Nat))) w = _
  rw [e1, wrap_u64 (by omega)]
theorem run_bitU {t : TypeId} {a : Nat} (ha : a < 18446744073709551616) : Run w0 L (binOp .and t (.int .u64 (a : Nat)) (.int .u64 1)) (.int .u64 ((a % 2 : Nat) : Int)) := fun w hw => by
  rw [run_and w hw]
  have e1 : (BitVec.ofInt 64 (a : Int) &&& BitVec.ofInt 64 1).toNat = a % 2 := by
    rw [BitVec.toNat_and]
    have a1 : (BitVec.ofInt 64 (a : Int)).toNat = a := by simp [BitVec.toNat_ofInt]; omega
    have a2 : (BitVec.ofInt 64 1).toNat = 1 := by decide
    rw [a1, a2]; exact Nat.and_one_is_mod a
  show Result.ok (Value.int .u64 (IntKind.u64.wrap ((BitVec.ofInt 64 (a : Int) &&& BitVec.ofInt 64 1).toNat : Nat))) w = _
  rw [e1, wrap_u64 (by omega)]
theorem run_shlU {t : TypeId} {f : Nat} (hf : f < 64) : Run w0 L (binOp .shl t (.int .u64 1) (.int .i64 (f : Nat))) (.int .u64 ((2 ^ f : Nat) : Int)) := fun w hw => by
  rw [run_shl (by omega) w hw]
  have hlt : (2 : Nat) ^ f < 2 ^ 64 := Nat.pow_lt_pow_right (by omega) hf
  have e2 : min ((f : Int).toNat) IntKind.u64.bits = f := by show min ((f : Int).toNat) 64 = f; omega
  rw [e2, Int.one_mul]
  have e3 : (2 : Int) ^ f = ((2 ^ f : Nat) : Int) := by simp
  rw [e3]
  generalize (2 : Nat) ^ f = y at *
  rw [wrap_u64 (by omega)]
theorem run_shrU {t : TypeId} {a f : Nat} (hf : f < 64) : Run w0 L (binOp .shr t (.int .u64 (a : Nat)) (.int .i64 (f : Nat))) (.int .u64 ((a / 2 ^ f : Nat) : Int)) := fun w hw => by
  rw [run_shr (Int.natCast_nonneg f) w hw]
  have e2 : min ((f : Int).toNat) IntKind.u64.bits = f := by show min ((f : Int).toNat) 64 = f; omega
  rw [e2]
  congr 2
  have e3 : (2 : Int) ^ f = ((2 ^ f : Nat) : Int) := by simp
  rw [e3, Int.fdiv_eq_ediv_of_nonneg _ (Int.natCast_nonneg _)]
  simp
theorem orBits_lt {l : List Nat} (h : ∀ f ∈ l, f < 64) : orBits l < 18446744073709551616 := by
  have key : ∀ (l : List Nat) (w : Nat), (∀ f ∈ l, f < 64) → w < 2 ^ 64 → l.foldl (fun w f => w ||| 2 ^ f) w < 2 ^ 64 := by
    intro l
    induction l with
    | nil => intro w _ h; exact h
    | cons f l ih =>
      intro w h hw
      refine ih _ (fun x hx => h x (List.mem_cons_of_mem _ hx)) (Nat.or_lt_two_pow hw (Nat.pow_lt_pow_right (by omega) (h f List.mem_cons_self)))
  exact key l 0 h (by decide)
def ivN (l : List Nat) : List Value := l.map fun n => Value.int .i64 (n : Nat)
theorem ms_bits (tb : Nat) (l : List Nat) (hl : ∀ f ∈ l, f < 64) (hk : l.length ≤ 100) : Spec w0 192 [.slice (some ⟨tb, 0, none⟩) l.length l.length] [pt tb 3 (ivN l)] (fun _ : Unit => .int .u64 (orBits l : Nat)) (fun _ => []) := by
  refine spec_go (fun R w => H192) fun F => ?_
  show Ent w0 (pt tb 3 (ivN l) :: F) _
  unfold F192
  refine ent_q run_len ?_
  refine ent_loop (ι := Nat) (fun i => i ≤ l.length) (fun i => [.int .i64 (i : Nat), .int .u64 (orBits (l.take i) : Nat)]) (fun i => pt tb 3 (ivN l) :: F) (fun i => l.length - i) 0 (by simp) rfl (Imp.refl _) ?_
  intro i hi g next hnext
  show Ent w0 (pt tb 3 (ivN l) :: F) (hV P (binOp .lss 3 (.int .i64 (i : Nat)) (.int .i64 (l.length : Nat))) _)
  refine ent_qb (run_lt _ _) (fun h => ?_) (fun h => ?_)
  · have hik : i < l.length := by omega
    refine ent_ifT ?_
    refine ent_q (run_indexS0 i rfl hik) ?_
    rw [Nat.mul_one]
    refine ent_q (run_load (v := .int .i64 (l[i] : Nat)) (cell_own 0 rfl (by simp [ivN, hik]))) ?_
    have hf := hl l[i] (List.getElem_mem _)
    refine ent_q (run_shlU hf) ?_
    refine ent_q (run_orU (orBits_lt fun f hf => hl f (List.mem_of_mem_take hf)) (by
      have : (2 : Nat) ^ l[i] < 2 ^ 64 := Nat.pow_lt_pow_right (by omega) hf
      omega)) ?_
    refine ent_q (run_add64 (by omega)) ?_
    have e : orBits (l.take i) ||| 2 ^ l[i] = orBits (l.take (i + 1)) := by
      rw [List.take_succ_eq_append_getElem hik]; unfold orBits; rw [List.foldl_append]; rfl
    rw [e]
    exact hnext (i + 1) (by omega) (by omega)
  · have hik : i = l.length := by omega
    subst hik
    refine ent_ifF ?_
    rw [List.take_length]
    exact ent_ret () rfl Imp.drop1
def kTabV : List Value := kTab.map fun n => Value.int .u64 (n : Nat)
theorem ms_named : Spec w0 154 [] [] (fun _ : Unit => .agg kTabV.toArray) (fun _ => []) := by
  refine spec_go (fun R w => H154) fun F => ?_
  show Ent w0 F _
  unfold F154
  refine ent_alloc fun t0 => ?_
  refine ent_bs (zs := [.int .i64 0]) rfl (n := 4) (parts := [(0, .int .i64 2), (1, .int .i64 4), (2, .int .i64 5), (3, .int .i64 6)]) (cs := [.int .i64 2, .int .i64 4, .int .i64 5, .int .i64 6]) (by simp) rfl fun tb => ?_
  refine ent_call (ms_bits tb [2, 4, 5, 6] (by decide) (by decide)) (Imp.refl _) fun _ => ?_
  refine ent_bs (zs := [.int .i64 0]) rfl (n := 5) (parts := [(0, .int .i64 2), (1, .int .i64 4), (2, .int .i64 5), (3, .int .i64 6), (4, .int .i64 10)]) (cs := [.int .i64 2, .int .i64 4, .int .i64 5, .int .i64 6, .int .i64 10]) (by simp) rfl fun tb => ?_
  refine ent_call (ms_bits tb [2, 4, 5, 6, 10] (by decide) (by decide)) (Imp.refl _) fun _ => ?_
  refine ent_bs (zs := [.int .i64 0]) rfl (n := 3) (parts := [(0, .int .i64 5), (1, .int .i64 6), (2, .int .i64 10)]) (cs := [.int .i64 5, .int .i64 6, .int .i64 10]) (by simp) rfl fun tb => ?_
  refine ent_call (ms_bits tb [5, 6, 10] (by decide) (by decide)) (Imp.refl _) fun _ => ?_
  refine ent_bs (zs := [.int .i64 0]) rfl (n := 2) (parts := [(0, .int .i64 5), (1, .int .i64 7)]) (cs := [.int .i64 5, .int .i64 7]) (by simp) rfl fun tb => ?_
  refine ent_call (ms_bits tb [5, 7] (by decide) (by decide)) (Imp.refl _) fun _ => ?_
  refine ent_bs (zs := [.int .i64 0]) rfl (n := 7) (parts := [(0, .int .i64 2), (1, .int .i64 4), (2, .int .i64 5), (3, .int .i64 6), (4, .int .i64 8), (5, .int .i64 9), (6, .int .i64 10)]) (cs := [.int .i64 2, .int .i64 4, .int .i64 5, .int .i64 6, .int .i64 8, .int .i64 9, .int .i64 10]) (by simp) rfl fun tb => ?_
  refine ent_call (ms_bits tb [2, 4, 5, 6, 8, 9, 10] (by decide) (by decide)) (Imp.refl _) fun _ => ?_
  refine ent_bs (zs := [.int .i64 0]) rfl (n := 6) (parts := [(0, .int .i64 2), (1, .int .i64 4), (2, .int .i64 5), (3, .int .i64 6), (4, .int .i64 8), (5, .int .i64 9)]) (cs := [.int .i64 2, .int .i64 4, .int .i64 5, .int .i64 6, .int .i64 8, .int .i64 9]) (by simp) rfl fun tb => ?_
  refine ent_call (ms_bits tb [2, 4, 5, 6, 8, 9] (by decide) (by decide)) (Imp.refl _) fun _ => ?_
  refine ent_bs (zs := [.int .i64 0]) rfl (n := 2) (parts := [(0, .int .i64 5), (1, .int .i64 7)]) (cs := [.int .i64 5, .int .i64 7]) (by simp) rfl fun tb => ?_
  refine ent_call (ms_bits tb [5, 7] (by decide) (by decide)) (Imp.refl _) fun _ => ?_
  refine ent_bs (zs := [.int .i64 0]) rfl (n := 2) (parts := [(0, .int .i64 5), (1, .int .i64 6)]) (cs := [.int .i64 5, .int .i64 6]) (by simp) rfl fun tb => ?_
  refine ent_call (ms_bits tb [5, 6] (by decide) (by decide)) (Imp.refl _) fun _ => ?_
  refine ent_bs (zs := [.int .i64 0]) rfl (n := 7) (parts := [(0, .int .i64 1), (1, .int .i64 2), (2, .int .i64 3), (3, .int .i64 4), (4, .int .i64 5), (5, .int .i64 6), (6, .int .i64 10)]) (cs := [.int .i64 1, .int .i64 2, .int .i64 3, .int .i64 4, .int .i64 5, .int .i64 6, .int .i64 10]) (by simp) rfl fun tb => ?_
  refine ent_call (ms_bits tb [1, 2, 3, 4, 5, 6, 10] (by decide) (by decide)) (Imp.refl _) fun _ => ?_
  refine ent_bs (zs := [.int .i64 0]) rfl (n := 3) (parts := [(0, .int .i64 5), (1, .int .i64 6), (2, .int .i64 10)]) (cs := [.int .i64 5, .int .i64 6, .int .i64 10]) (by simp) rfl fun tb => ?_
  refine ent_call (ms_bits tb [5, 6, 10] (by decide) (by decide)) (Imp.refl _) fun _ => ?_
  refine ent_bs (zs := [.int .i64 0]) rfl (n := 1) (parts := [(0, .int .i64 5)]) (cs := [.int .i64 5]) (by simp) rfl fun tb => ?_
  refine ent_call (ms_bits tb [5] (by decide) (by decide)) (Imp.refl _) fun _ => ?_
  refine ent_bs (zs := [.int .i64 0]) rfl (n := 3) (parts := [(0, .int .i64 5), (1, .int .i64 8), (2, .int .i64 10)]) (cs := [.int .i64 5, .int .i64 8, .int .i64 10]) (by simp) rfl fun tb => ?_
  refine ent_call (ms_bits tb [5, 8, 10] (by decide) (by decide)) (Imp.refl _) fun _ => ?_
  refine ent_bs (zs := [.int .i64 0]) rfl (n := 7) (parts := [(0, .int .i64 1), (1, .int .i64 2), (2, .int .i64 3), (3, .int .i64 4), (4, .int .i64 5), (5, .int .i64 8), (6, .int .i64 9)]) (cs := [.int .i64 1, .int .i64 2, .int .i64 3, .int .i64 4, .int .i64 5, .int .i64 8, .int .i64 9]) (by simp) rfl fun tb => ?_
  refine ent_call (ms_bits tb [1, 2, 3, 4, 5, 8, 9] (by decide) (by decide)) (Imp.refl _) fun _ => ?_
  refine ent_bs (zs := [.int .i64 0]) rfl (n := 1) (parts := [(0, .int .i64 5)]) (cs := [.int .i64 5]) (by simp) rfl fun tb => ?_
  refine ent_call (ms_bits tb [5] (by decide) (by decide)) (Imp.refl _) fun _ => ?_
  refine ent_q (run_buildA (parts := [(1, .int .u64 (orBits [2, 4, 5, 6] : Nat)), (2, .int .u64 (orBits [2, 4, 5, 6, 10] : Nat)), (3, .int .u64 (orBits [5, 6, 10] : Nat)), (4, .int .u64 (orBits [5, 7] : Nat)), (5, .int .u64 (orBits [2, 4, 5, 6, 8, 9, 10] : Nat)), (6, .int .u64 (orBits [2, 4, 5, 6, 8, 9] : Nat)), (7, .int .u64 (orBits [5, 7] : Nat)), (8, .int .u64 (orBits [5, 6] : Nat)), (9, .int .u64 (orBits [1, 2, 3, 4, 5, 6, 10] : Nat)), (10, .int .u64 (orBits [5, 6, 10] : Nat)), (11, .int .u64 (orBits [5] : Nat)), (12, .int .u64 (orBits [5, 8, 10] : Nat)), (13, .int .u64 (orBits [1, 2, 3, 4, 5, 8, 9] : Nat)), (14, .int .u64 (orBits [5] : Nat))]) (cs := kTabV) rfl) ?_
  refine Ent.imp (L' := pt t0 232 [.int .u64 0, .int .u64 0, .int .u64 0, .int .u64 0, .int .u64 0, .int .u64 0, .int .u64 0, .int .u64 0, .int .u64 0, .int .u64 0, .int .u64 0, .int .u64 0, .int .u64 0, .int .u64 0, .int .u64 0] :: F) (Imp.refl _) ?_
  refine ent_sa0 (vs := kTabV) (l' := kTabV) rfl (by intro u hu; obtain ⟨n, _, rfl⟩ := List.mem_map.1 hu; rfl) (Nat.le_refl _) rfl ?_
  refine ent_r (run_loadA (vs := kTabV) rfl (cells_all 0 rfl)) ?_
  exact ent_ret () rfl Imp.drop1
theorem ms_of (k : Int) : Spec w0 100 [.int .i64 k] [] (fun _ : Unit => .int .u64 (kOf k : Nat)) (fun _ => []) := by
  refine spec_go (fun R w => H100) fun F => ?_
  show Ent w0 F _
  unfold F100 kOf
  refine ent_qb (run_lt _ _) (fun h => ?_) (fun h => ?_)
  · (repeat (first | refine ent_ifT ?_ | refine ent_gF' ?_ | refine ent_pT ?_ | refine ent_j ?_))
    rw [if_pos (.inl h)]
    exact ent_ret () rfl (Imp.refl _)
  (repeat (first | refine ent_gT ?_ | refine ent_j ?_))
  refine ent_qb (run_gt _ _) (fun h2 => ?_) (fun h2 => ?_)
  · (repeat (first | refine ent_ifT ?_ | refine ent_pF ?_))
    rw [if_pos (.inr h2)]
    exact ent_ret () rfl (Imp.refl _)
  (repeat (first | refine ent_ifF ?_ | refine ent_pF ?_))
  rw [if_neg (by omega)]
  refine ent_call ms_named (Imp.refl _) fun _ => ?_
  have hk : k.toNat < 15 := by omega
  refine ent_q (run_ixA (v := .int .u64 (kTab.getD k.toNat 0 : Nat)) k.toNat (by omega) hk ?_) ?_
  · generalize k.toNat = n at hk
    unfold kTabV
    rw [List.getElem?_map]
    have : n < kTab.length := hk
    rw [List.getElem?_eq_getElem this, List.getD_eq_getElem?_getD, List.getElem?_eq_getElem this]
    rfl
  exact ent_ret () rfl (Imp.refl _)
theorem ms_spot (p : Nat) (m : Msg) (dv : Value) (f : Nat) (hf : 1 ≤ f ∧ f ≤ 7) : Spec w0 155 [P0 p, .int .i64 (f : Nat)] [] (fun _ : Unit => .tuple #[.pointer (some ⟨p, f, none⟩), .int .i64 (Msg.most f)]) (fun _ => []) := by
  refine spec_go (fun R w => H155) fun F => ?_
  show Ent w0 F _
  unfold F155
  match f, hf with
  | 1, _ =>
    refine ent_q ((run_eq _ _).T rfl) ?_
    (repeat (first | refine ent_q (run_nil _) ?_ | refine ent_q (run_field0 _) ?_ | refine ent_ifT ?_))
    exact ent_ret () rfl (Imp.refl _)
  | 2, _ =>
    refine ent_q ((run_eq _ _).F (by omega)) ?_
    (repeat refine ent_ifF ?_)
    refine ent_q ((run_eq _ _).T rfl) ?_
    (repeat (first | refine ent_q (run_nil _) ?_ | refine ent_q (run_field0 _) ?_ | refine ent_ifT ?_))
    exact ent_ret () rfl (Imp.refl _)
  | 3, _ =>
    refine ent_q ((run_eq _ _).F (by omega)) ?_
    (repeat refine ent_ifF ?_)
    refine ent_q ((run_eq _ _).F (by omega)) ?_
    (repeat refine ent_ifF ?_)
    refine ent_q ((run_eq _ _).T rfl) ?_
    (repeat (first | refine ent_q (run_nil _) ?_ | refine ent_q (run_field0 _) ?_ | refine ent_ifT ?_))
    exact ent_ret () rfl (Imp.refl _)
  | 4, _ =>
    refine ent_q ((run_eq _ _).F (by omega)) ?_
    (repeat refine ent_ifF ?_)
    refine ent_q ((run_eq _ _).F (by omega)) ?_
    (repeat refine ent_ifF ?_)
    refine ent_q ((run_eq _ _).F (by omega)) ?_
    (repeat refine ent_ifF ?_)
    refine ent_q ((run_eq _ _).T rfl) ?_
    (repeat (first | refine ent_q (run_nil _) ?_ | refine ent_q (run_field0 _) ?_ | refine ent_ifT ?_))
    exact ent_ret () rfl (Imp.refl _)
  | 5, _ =>
    refine ent_q ((run_eq _ _).F (by omega)) ?_
    (repeat refine ent_ifF ?_)
    refine ent_q ((run_eq _ _).F (by omega)) ?_
    (repeat refine ent_ifF ?_)
    refine ent_q ((run_eq _ _).F (by omega)) ?_
    (repeat refine ent_ifF ?_)
    refine ent_q ((run_eq _ _).F (by omega)) ?_
    (repeat refine ent_ifF ?_)
    refine ent_q ((run_eq _ _).T rfl) ?_
    (repeat (first | refine ent_q (run_nil _) ?_ | refine ent_q (run_field0 _) ?_ | refine ent_ifT ?_))
    exact ent_ret () rfl (Imp.refl _)
  | 6, _ =>
    refine ent_q ((run_eq _ _).F (by omega)) ?_
    (repeat refine ent_ifF ?_)
    refine ent_q ((run_eq _ _).F (by omega)) ?_
    (repeat refine ent_ifF ?_)
    refine ent_q ((run_eq _ _).F (by omega)) ?_
    (repeat refine ent_ifF ?_)
    refine ent_q ((run_eq _ _).F (by omega)) ?_
    (repeat refine ent_ifF ?_)
    refine ent_q ((run_eq _ _).F (by omega)) ?_
    (repeat refine ent_ifF ?_)
    refine ent_q ((run_eq _ _).T rfl) ?_
    (repeat (first | refine ent_q (run_nil _) ?_ | refine ent_q (run_field0 _) ?_ | refine ent_ifT ?_))
    exact ent_ret () rfl (Imp.refl _)
  | 7, _ =>
    refine ent_q ((run_eq _ _).F (by omega)) ?_
    (repeat refine ent_ifF ?_)
    refine ent_q ((run_eq _ _).F (by omega)) ?_
    (repeat refine ent_ifF ?_)
    refine ent_q ((run_eq _ _).F (by omega)) ?_
    (repeat refine ent_ifF ?_)
    refine ent_q ((run_eq _ _).F (by omega)) ?_
    (repeat refine ent_ifF ?_)
    refine ent_q ((run_eq _ _).F (by omega)) ?_
    (repeat refine ent_ifF ?_)
    refine ent_q ((run_eq _ _).F (by omega)) ?_
    (repeat (first | refine ent_q (run_nil _) ?_ | refine ent_q (run_field0 _) ?_ | refine ent_ifF ?_))
    exact ent_ret () rfl (Imp.refl _)
  | n + 8, h => omega
theorem msgL_get (m : Msg) (dv : Value) {f : Nat} (hf : 1 ≤ f ∧ f ≤ 7) : (msgL m dv)[f]? = some (.int .i64 (m.num f)) := by
  match f, hf with
  | 1, _ => rfl
  | 2, _ => rfl
  | 3, _ => rfl
  | 4, _ => rfl
  | 5, _ => rfl
  | 6, _ => rfl
  | 7, _ => rfl
  | n + 8, h => omega
theorem ms_field (p : Nat) (m : Msg) (dv : Value) (f : Nat) (hf : 1 ≤ f ∧ f ≤ 10) : Spec w0 101 [P0 p, .int .i64 (f : Nat)] [pt p 37 (msgL m dv), roB w0 dv m.data] (fun _ : Unit => .tuple #[.bool (m.ok f), .bool (m.zero f)]) (fun _ => [pt p 37 (msgL m dv), roB w0 dv m.data]) := by
  refine spec_go (fun R w => H101) fun F => ?_
  show Ent w0 (pt p 37 (msgL m dv) :: roB w0 dv m.data :: F) _
  unfold F101
  by_cases h8 : f = 8
  · subst h8
    unfold Msg.ok Msg.zero msgL
    refine ent_q ((run_eq _ _).T rfl) ?_
    (repeat (first | refine ent_q (run_nil _) ?_ | refine ent_q (run_field0 _) ?_ | refine ent_ifT ?_ | refine ent_q (run_load (cell_own 0 rfl rfl)) ?_))
    have fin : ∀ q : Bool, q = decide (0 ≤ m.code ∧ m.code ≤ 16) → Ent w0 (pt p 37 (msgL m dv) :: roB w0 dv m.data :: F) (hV P (eqG true .eql 3 (.int .i64 m.code) (.int .i64 0)) fun t23 =>
        (fun v w' => ∃ _ : Unit, v = Value.tuple #[.bool (decide (0 ≤ m.code ∧ m.code ≤ 16)), .bool (decide (m.code = 0))] ∧ Sat w0 ([pt p 37 (msgL m dv), roB w0 dv m.data] ++ F) w') (.tuple #[.bool q, t23])) := by
      intro q hq
      refine ent_q (run_eq _ _) ?_
      exact ent_ret () (by rw [hq]) (Imp.refl _)
    refine ent_qb (run_ge _ _) (fun h1 => ?_) (fun h1 => ?_)
    · (repeat (first | refine ent_gT ?_ | refine ent_j ?_))
      refine ent_qb (run_le _ _) (fun h2 => ?_) (fun h2 => ?_)
      · (repeat refine ent_pT ?_)
        exact fin true (by rw [decide_eq_true ⟨h1, h2⟩])
      · (repeat refine ent_pT ?_)
        exact fin false (by rw [decide_eq_false (fun h => h2 h.2)])
    · (repeat (first | refine ent_gF ?_ | refine ent_pF ?_ | refine ent_j ?_))
      exact fin false (by rw [decide_eq_false (fun h => h1 h.1)])
  refine ent_q ((run_eq _ _).F (by omega)) ?_
  (repeat refine ent_ifF ?_)
  by_cases h9 : f = 9
  · subst h9
    unfold Msg.ok Msg.zero msgL
    refine ent_q ((run_eq _ _).T rfl) ?_
    (repeat refine ent_ifT ?_)
    refine ent_draw [pt p 37 (msgL m dv)] (by (repeat refine Imp.pick 0 rfl ?_); exact Imp.nil) ?_
    unfold msgL
    (repeat (first | refine ent_p (fun _ => run_nil _) ?_ | refine ent_p (fun _ => run_field0 _) ?_ | refine ent_m (run_load (cell_own 0 rfl rfl)) ?_))
    refine ent_p (fun _ => run_not _) ?_
    exact ent_ret () rfl (Imp.refl _)
  refine ent_q ((run_eq _ _).F (by omega)) ?_
  (repeat refine ent_ifF ?_)
  by_cases h10 : f = 10
  · subst h10
    unfold Msg.ok Msg.zero msgL
    refine ent_q ((run_eq _ _).T rfl) ?_
    (repeat refine ent_ifT ?_)
    refine ent_draw [pt p 37 (msgL m dv), roB w0 dv m.data] (by (repeat refine Imp.pick 0 rfl ?_); exact Imp.nil) ?_
    unfold msgL
    (repeat (first | refine ent_p (fun _ => run_nil _) ?_ | refine ent_p (fun _ => run_field0 _) ?_ | refine ent_m (run_load (cell_own 0 rfl rfl)) ?_))
    refine ent_m (run_lenR 1 rfl) ?_
    refine ent_p (fun _ => run_le _ _) ?_
    (repeat (first | refine ent_p (fun _ => run_nil _) ?_ | refine ent_p (fun _ => run_field0 _) ?_ | refine ent_m (run_load (cell_own 0 rfl rfl)) ?_))
    refine ent_m (run_lenR 1 rfl) ?_
    refine ent_p (fun _ => run_eq _ _) ?_
    refine ent_ret () ?_ (Imp.refl _)
    show _ = Value.tuple #[.bool (decide (m.data.length ≤ 64)), .bool (decide (m.data.length = 0))]
    rw [show decide ((m.data.length : Int) ≤ 64) = decide (m.data.length ≤ 64) from decide_eq_decide.2 (by omega), show decide ((m.data.length : Int) = 0) = decide (m.data.length = 0) from decide_eq_decide.2 (by omega)]
  refine ent_q ((run_eq _ _).F (by omega)) ?_
  (repeat refine ent_ifF ?_)
  have hf7 : 1 ≤ f ∧ f ≤ 7 := by omega
  have hok : m.ok f = decide (0 ≤ m.num f ∧ m.num f ≤ Msg.most f) := by
    match f, hf7 with
    | 1, _ => rfl
    | 2, _ => rfl
    | 3, _ => rfl
    | 4, _ => rfl
    | 5, _ => rfl
    | 6, _ => rfl
    | 7, _ => rfl
    | n + 8, h => omega
  have hze : m.zero f = decide (m.num f = 0) := by
    match f, hf7 with
    | 1, _ => rfl
    | 2, _ => rfl
    | 3, _ => rfl
    | 4, _ => rfl
    | 5, _ => rfl
    | 6, _ => rfl
    | 7, _ => rfl
    | n + 8, h => omega
  rw [hok, hze]
  refine ent_call (ms_spot p m dv f hf7) (Imp.refl _) fun _ => ?_
  (repeat refine ent_q (run_ex rfl) ?_)
  have hg := msgL_get m dv hf7
  refine ent_draw [pt p 37 (msgL m dv)] (by (repeat refine Imp.pick 0 rfl ?_); exact Imp.nil) ?_
  (repeat refine ent_p (fun _ => run_nil _) ?_)
  refine ent_m (run_load (cell_own 0 rfl hg)) ?_
  have fin : ∀ q : Bool, q = decide (0 ≤ m.num f ∧ m.num f ≤ Msg.most f) → Ent w0 (pt p 37 (msgL m dv) :: roB w0 dv m.data :: F) (pV P (hNil (.pointer (some ⟨p, f, none⟩))) fun t63 => mV P (Sat w0 [pt p 37 (msgL m dv)]) (loadAt 3 t63) fun t64 => pV P (eqG true .eql 3 t64 (.int .i64 0)) fun t65 =>
      (fun v w' => ∃ _ : Unit, v = Value.tuple #[.bool (decide (0 ≤ m.num f ∧ m.num f ≤ Msg.most f)), .bool (decide (m.num f = 0))] ∧ Sat w0 ([pt p 37 (msgL m dv), roB w0 dv m.data] ++ F) w') (.tuple #[.bool q, t65])) := by
    intro q hq
    (repeat refine ent_p (fun _ => run_nil _) ?_)
    refine ent_m (run_load (cell_own 0 rfl hg)) ?_
    refine ent_p (fun _ => run_eq _ _) ?_
    exact ent_ret () (by rw [hq]) (Imp.refl _)
  by_cases c1 : m.num f ≥ 0
  · refine ent_p (fun _ => (run_ge _ _).T c1) ?_
    (repeat (first | refine ent_p (fun _ => run_nil _) ?_ | refine ent_gT ?_ | refine ent_j ?_))
    refine ent_m (run_load (cell_own 0 rfl hg)) ?_
    by_cases c2 : m.num f ≤ Msg.most f
    · refine ent_p (fun _ => (run_le _ _).T c2) ?_
      refine ent_pT ?_
      exact fin true (by rw [decide_eq_true ⟨c1, c2⟩])
    · refine ent_p (fun _ => (run_le _ _).F c2) ?_
      refine ent_pT ?_
      exact fin false (by rw [decide_eq_false (fun h => c2 h.2)])
  · refine ent_p (fun _ => (run_ge _ _).F c1) ?_
    refine ent_j (ent_gF (ent_pF ?_))
    exact fin false (by rw [decide_eq_false (fun h => c1 h.1)])
theorem all_succ (p : Nat → Bool) (n : Nat) : (List.range (n + 1)).all p = ((List.range n).all p && p n) := by
  rw [List.range_succ, List.all_append]; simp
theorem kOf_lt (k : Int) : kOf k < 2048 := by
  unfold kOf
  split
  · omega
  · have : ∀ n : Fin 15, kTab.getD n.val 0 < 2048 := by decide
    exact this ⟨k.toNat, by omega⟩
set_option maxHeartbeats 1000000 in
theorem ms_right (m : Msg) (dv : Value) : Spec w0 49 [.agg (msgL m dv).toArray] [roB w0 dv m.data] (fun _ : Unit => .bool m.right) (fun _ => []) := by
  refine spec_go (fun R w => H49) fun F => ?_
  show Ent w0 (roB w0 dv m.data :: F) _
  unfold F49
  refine ent_box fun p => ?_
  rw [agg_cells, List.toList_toArray]
  have hk := kOf_lt m.kind
  have hr : m.right = (decide (kOf m.kind ≠ 0) && (List.range 10).all fun i => m.fine (i + 1)) := rfl
  (repeat refine ent_q (run_fieldZ _ _) ?_)
  refine ent_q (run_load (v := .int .i64 m.kind) (cell_own 0 rfl rfl)) ?_
  refine ent_call (ms_of m.kind) (Imp.refl _) fun _ => ?_
  by_cases h0 : kOf m.kind = 0
  · refine ent_q ((run_eq _ _).T (by omega)) ?_
    (repeat refine ent_ifT ?_)
    rw [decide_eq_false (by simpa using h0), Bool.false_and] at hr
    exact ent_ret () (by rw [hr]) (by exact Imp.trans Imp.drop1 (Imp.drop1))
  refine ent_q ((run_eq _ _).F (by omega)) ?_
  refine ent_ifF ?_
  rw [decide_eq_true h0, Bool.true_and] at hr
  refine ent_loop (ι := Nat) (fun i => 1 ≤ i ∧ i ≤ 11 ∧ ((List.range (i - 1)).all fun i => m.fine (i + 1)) = true) (fun i => [.int .i64 (i : Nat), .bool false]) (fun i => pt p 37 (msgL m dv) :: roB w0 dv m.data :: F) (fun i => 11 - i) 1 ⟨by omega, by omega, rfl⟩ rfl (Imp.refl _) ?_
  rintro i ⟨i1, i2, i3⟩ g next hnext
  show Ent w0 _ (hV P (binOp .leq 3 (.int .i64 (i : Nat)) (.int .i64 10)) _)
  refine ent_qb (run_le _ _) (fun h => ?_) (fun h => ?_)
  rotate_left
  · have : i = 11 := by omega
    subst this
    refine ent_ifF ?_
    exact ent_ret () (by rw [hr]; exact congrArg Value.bool i3.symm) (by exact Imp.trans Imp.drop1 (Imp.drop1))
  have hall : i ≤ 10 → m.fine i = false → m.right = false := by
    intro hi hf
    rw [hr, List.all_eq_false]
    exact ⟨i - 1, List.mem_range.2 (by omega), by rw [show i - 1 + 1 = i by omega, hf]; simp⟩
  have hgo : m.fine i = true → ((List.range (i + 1 - 1)).all fun i => m.fine (i + 1)) = true := by
    intro hf
    rw [show i + 1 - 1 = (i - 1) + 1 by omega, all_succ, i3, show i - 1 + 1 = i by omega, hf]; rfl
  refine ent_ifT ?_
  refine ent_call (ms_field p m dv i ⟨i1, by omega⟩) (Imp.refl _) fun _ => ?_
  (repeat refine ent_q (run_ex rfl) ?_)
  cases hok : m.ok i with
  | false =>
    have hff : m.fine i = false := by unfold Msg.fine; rw [hok]; rfl
    (repeat (first | refine ent_ifT ?_ | refine ent_gF' ?_ | refine ent_gU ?_ | refine ent_pT ?_ | refine ent_q (run_notF) ?_ | refine ent_j ?_))
    exact ent_ret () (by rw [hall (by omega) hff]) (by exact Imp.trans Imp.drop1 (Imp.drop1))
  | true =>
    (repeat (first | refine ent_gT ?_ | refine ent_q (run_notT) ?_ | refine ent_j ?_))
    refine ent_q (run_shrU (by omega)) ?_
    have hdv : kOf m.kind / 2 ^ i < 18446744073709551616 := Nat.lt_of_le_of_lt (Nat.div_le_self _ _) (by omega)
    refine ent_q (run_bitU hdv) ?_
    by_cases hb : kOf m.kind / 2 ^ i % 2 = 0
    · refine ent_q ((run_eq _ _).T (by omega)) ?_
      (repeat (first | refine ent_gT ?_ | refine ent_j ?_))
      cases hz : m.zero i with
      | false =>
        have hff : m.fine i = false := by unfold Msg.fine; rw [hok, hz, decide_eq_false (by simpa using hb)]; rfl
        (repeat (first | refine ent_ifT ?_ | refine ent_gT ?_ | refine ent_pT ?_ | refine ent_pF ?_ | refine ent_q (run_notF) ?_))
        exact ent_ret () (by rw [hall (by omega) hff]) (by exact Imp.trans Imp.drop1 (Imp.drop1))
      | true =>
        have hff : m.fine i = true := by unfold Msg.fine; rw [hok, hz]; simp
        (repeat (first | refine ent_ifF ?_ | refine ent_gT ?_ | refine ent_pT ?_ | refine ent_pF ?_ | refine ent_q (run_notT) ?_))
        refine ent_q (run_add64 (by omega)) ?_
        exact hnext (i + 1) ⟨by omega, by omega, hgo hff⟩ (by omega)
    · refine ent_q ((run_eq _ _).F (by omega)) ?_
      have hff : m.fine i = true := by unfold Msg.fine; rw [hok, decide_eq_true hb]; simp
      (repeat (first | refine ent_ifF ?_ | refine ent_gT ?_ | refine ent_gF ?_ | refine ent_pF ?_ | refine ent_j ?_))
      refine ent_q (run_add64 (by omega)) ?_
      exact hnext (i + 1) ⟨by omega, by omega, hgo hff⟩ (by omega)
theorem right_ok {m : Msg} (h : m.right = true) {f : Nat} (hf : 1 ≤ f ∧ f ≤ 10) : m.ok f = true := by
  unfold Msg.right at h
  rw [Bool.and_eq_true, List.all_eq_true] at h
  have := h.2 (f - 1) (List.mem_range.2 (by omega))
  rw [show f - 1 + 1 = f by omega] at this
  unfold Msg.fine at this
  rw [Bool.and_eq_true] at this
  exact this.1
theorem right_kind {m : Msg} (h : m.right = true) : 1 ≤ m.kind ∧ m.kind ≤ 14 := by
  unfold Msg.right at h
  rw [Bool.and_eq_true, decide_eq_true_iff] at h
  have := h.1
  unfold kOf at this
  split at this
  · exact absurd rfl this
  · omega
theorem right_bounds {m : Msg} (h : m.right = true) : (0 ≤ m.client ∧ m.client ≤ 3) ∧ (0 ≤ m.slot ∧ m.slot ≤ 3) ∧ (0 ≤ m.boot ∧ m.boot ≤ 1099511627776) ∧ (0 ≤ m.op ∧ m.op ≤ 1099511627776) ∧ (0 ≤ m.block ∧ m.block ≤ 31) ∧ (0 ≤ m.level ∧ m.level ≤ 4) ∧ (0 ≤ m.code ∧ m.code ≤ 16) ∧ m.data.length ≤ 64 :=
  ⟨of_decide_eq_true (right_ok h (f := 1) (by omega)), of_decide_eq_true (right_ok h (f := 2) (by omega)), of_decide_eq_true (right_ok h (f := 3) (by omega)), of_decide_eq_true (right_ok h (f := 4) (by omega)),
   of_decide_eq_true (right_ok h (f := 5) (by omega)), of_decide_eq_true (right_ok h (f := 6) (by omega)), of_decide_eq_true (right_ok h (f := 8) (by omega)), of_decide_eq_true (right_ok h (f := 10) (by omega))⟩
end
end Go.Gd
namespace Go.Gd
def Ord.isPart : Ord → Option PtC
  | .part c _ => some c
  | _ => none
theorem isPart_use (o : Ord) (b : Nat) : (o.use b).isPart = o.isPart := by cases o <;> rfl
theorem isPart_add (o : Ord) (b : Nat) : (o.add b).1.isPart = o.isPart := by cases o <;> rfl
theorem isPart_remove (o : Ord) (b : Nat) : (o.remove b).isPart = o.isPart := by cases o <;> rfl
theorem isPart_some {o : Ord} {c : PtC} (h : o.isPart = some c) : ∃ M, o = .part c M := by
  cases o with
  | part c' M => simp only [Ord.isPart, Option.some.injEq] at h; subst h; exact ⟨M, rfl⟩
  | lru _ _ => cases h
  | mq _ _ => cases h
theorem isPart_none {o : Ord} (h : o.isPart = none) (b : Nat) : o.takes b := by
  cases o with
  | part c' M => cases h
  | lru _ _ => trivial
  | mq _ _ => trivial
theorem Ord.Fine.mono {k j : Nat} (hkj : k ≤ j) {o : Ord} (h : o.Fine k) : o.Fine j := by
  cases o with
  | lru cap l => exact h
  | mq c s => exact ⟨h.1, h.2.1, Nat.le_trans h.2.2.1 hkj, fun b => Nat.le_trans (h.2.2.2 b) hkj⟩
  | part c M => exact h
theorem age1_same (c : MqC) (s : MqS) (q : Nat) : (MqS.age1 c s q).now = s.now ∧ (MqS.age1 c s q).oft = s.oft ∧ (MqS.age1 c s q).L.length = s.L.length := by
  unfold MqS.age1
  split
  · split
    · exact ⟨rfl, rfl, lkMove_length _ _ _⟩
    · exact ⟨rfl, rfl, rfl⟩
  · exact ⟨rfl, rfl, rfl⟩
theorem ageN_same (c : MqC) (s : MqS) : ∀ n, (MqS.ageN c s n).now = s.now ∧ (MqS.ageN c s n).oft = s.oft ∧ (MqS.ageN c s n).L.length = s.L.length
  | 0 => ⟨rfl, rfl, rfl⟩
  | n + 1 => by
    obtain ⟨a, b, d⟩ := ageN_same c s n
    obtain ⟨a', b', d'⟩ := age1_same c (MqS.ageN c s n) (n + 1)
    exact ⟨a'.trans a, b'.trans b, d'.trans d⟩
theorem age_same (c : MqC) (s : MqS) : (MqS.age c s).now = s.now ∧ (MqS.age c s).oft = s.oft ∧ (MqS.age c s).L.length = s.L.length := ageN_same c s _
theorem place_same (c : MqC) (s : MqS) (b : Nat) : (MqS.place c s b).now = s.now ∧ (MqS.place c s b).oft = s.oft ∧ (MqS.place c s b).L.length = s.L.length := ⟨rfl, rfl, lkMove_length _ _ _⟩
theorem more_le {s : MqS} {b k : Nat} (h : ∀ x, s.oft x ≤ k) : ∀ x, (s.more b).oft x ≤ k + 1 := by
  intro x
  show upF s.oft b (s.oft b + 1) x ≤ k + 1
  unfold upF
  split
  · have := h b; omega
  · have := h x; omega
theorem Ord.Fine.use {k : Nat} {o : Ord} (h : o.Fine k) {b : Nat} (hb : b < 64) : (o.use b).Fine (k + 1) := by
  cases o with
  | lru cap l =>
    refine ⟨h.1, h.2.1, fun x hx => ?_⟩
    split at hx
    · rcases List.mem_cons.1 hx with rfl | hx
      · exact hb
      · exact h.2.2 x (List.mem_filter.1 hx).1
    · exact h.2.2 x hx
  | mq c s =>
    obtain ⟨h1, h2, h3, h4⟩ := h
    show c.Right ∧ _
    unfold MqS.use
    split
    · obtain ⟨a1, a2, a3⟩ := age_same c (MqS.place c (s.tick.more b) b)
      obtain ⟨p1, p2, p3⟩ := place_same c (s.tick.more b) b
      refine ⟨h1, by rw [a3, p3]; exact h2, by rw [a1, p1]; exact Nat.succ_le_succ h3, fun x => ?_⟩
      rw [a2, p2]
      exact more_le (s := s.tick) h4 x
    · exact ⟨h1, h2, by omega, fun x => by have := h4 x; omega⟩
  | part c M =>
    refine ⟨h.1, ?_⟩
    show (ptUse M b).length = _
    unfold ptUse
    split
    · rw [lkPush_length, lkOut_length]; exact h.2
    · exact h.2
theorem Ord.Fine.add {k : Nat} {o : Ord} (h : o.Fine k) {b : Nat} (hb : b < 64) : (o.add b).1.Fine (k + 1) := by
  cases o with
  | lru cap l =>
    refine ⟨h.1, h.2.1, fun x hx => ?_⟩
    have hx' : x ∈ (lruAdd cap l b).1 := hx
    unfold lruAdd at hx'
    have hbl : x ∈ b :: l → x < 64 := fun hm => by
      rcases List.mem_cons.1 hm with rfl | hm
      · exact hb
      · exact h.2.2 x hm
    split at hx'
    · rcases List.mem_cons.1 hx' with rfl | hm
      · exact hb
      · exact h.2.2 x (List.mem_filter.1 hm).1
    · split at hx'
      · exact hbl hx'
      · exact hbl (List.mem_filter.1 hx').1
  | mq c s =>
    by_cases hh : MqS.has c s b = true
    · have e : (Ord.mq c s).add b = (Ord.mq c (MqS.use c s b), none) := by simp only [Ord.add, MqS.add]; rw [if_pos hh]
      rw [e]
      exact Ord.Fine.use (o := .mq c s) h hb
    · have e : ((Ord.mq c s).add b).1 = Ord.mq c (MqS.age c (MqS.place c (((MqS.make c s.tick).1.begins b).more b) b)) := by simp only [Ord.add, MqS.add]; rw [if_neg hh]
      rw [e]
      obtain ⟨h1, h2, h3, h4⟩ := h
      obtain ⟨a1, a2, a3⟩ := age_same c (MqS.place c (((MqS.make c s.tick).1.begins b).more b) b)
      obtain ⟨p1, p2, p3⟩ := place_same c (((MqS.make c s.tick).1.begins b).more b) b
      have m1 : (MqS.make c s.tick).1.now = s.now + 1 ∧ (MqS.make c s.tick).1.oft = s.oft ∧ (MqS.make c s.tick).1.L.length = s.L.length := by
        unfold MqS.make
        split
        · exact ⟨rfl, rfl, lkEvict_length _ _ _⟩
        · exact ⟨rfl, rfl, rfl⟩
      have b1 : ((MqS.make c s.tick).1.begins b).now = s.now + 1 ∧ (∀ x, ((MqS.make c s.tick).1.begins b).oft x ≤ k) ∧ ((MqS.make c s.tick).1.begins b).L.length = s.L.length := by
        unfold MqS.begins
        split
        · exact ⟨m1.1, fun x => by rw [m1.2.1]; exact h4 x, m1.2.2⟩
        · refine ⟨m1.1, fun x => ?_, m1.2.2⟩
          show upF _ b 0 x ≤ k
          unfold upF
          split
          · exact Nat.zero_le _
          · rw [m1.2.1]; exact h4 x
      refine ⟨h1, by rw [a3, p3]; exact b1.2.2.trans h2, ?_, fun x => ?_⟩
      · rw [a1, p1]; show ((MqS.make c s.tick).1.begins b).now ≤ k + 1; rw [b1.1]; omega
      · rw [a2, p2]; exact more_le b1.2.1 x
  | part c M =>
    refine ⟨h.1, ?_⟩
    show (ptAdd c M b).1.length = _
    unfold ptAdd
    split
    · show (ptUse M b).length = _
      unfold ptUse
      split
      · rw [lkPush_length, lkOut_length]; exact h.2
      · exact h.2
    · split
      · exact h.2
      · split
        · simp only [lkPush_length, lkOut_length]; exact h.2
        · simp only [lkPush_length, lkOut_length]; exact h.2
theorem Ord.Fine.remove {k : Nat} {o : Ord} (h : o.Fine k) (b : Nat) : (o.remove b).Fine k := by
  cases o with
  | lru cap l => exact ⟨h.1, h.2.1, fun x hx => h.2.2 x (List.mem_filter.1 hx).1⟩
  | mq c s =>
    obtain ⟨h1, h2, h3, h4⟩ := h
    show c.Right ∧ _
    split
    · exact ⟨h1, by rw [lkOut_length]; exact h2, h3, h4⟩
    · exact ⟨h1, h2, h3, h4⟩
  | part c M => exact ⟨h.1, by show (lkOut M b).length = _; rw [lkOut_length]; exact h.2⟩
end Go.Gd
