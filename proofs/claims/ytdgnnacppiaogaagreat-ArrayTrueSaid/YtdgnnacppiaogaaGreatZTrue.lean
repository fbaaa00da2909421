/- The statement ArrayTrue. Conditions: none. -/
import Derived.Test.YtdgnnacppiaogaaGreatRows
import Derived.Test.YtdgnnacppiaogaaGreatK40
set_option linter.unusedVariables false
set_option linter.unusedSimpArgs false
set_option linter.unusedVariables false
set_option maxRecDepth 100000
namespace Go.Proofs.YtdgnnacppiaogaaGreat
open Go.ChangeShapes Go.WideShapes Go.ChangeAt Go.RowKit
theorem own : ownKnob Tryz.prog.godebug = none := by kernel_rfl
theorem laidOut : laidOutB Tryz.prog = true := by kernel_rfl
open Go.Gd in
theorem calls_true {f : FuncId} (hk : isOur P f = true) {args : List Value} {Pre : List HP} {W : World} (hs : Go.Gd.Spec W f args Pre (fun _ : Unit => .bool true) (fun _ => [])) (hp : Imp [] Pre) :
    Calls Tryz.prog f args.toArray W (fun e W' => e = .returned (.bool true) ∧ Below W.heap.size W W') := by
  have h0 : Sat W Pre W := by
    obtain ⟨o, r, h, a⟩ := Sat.nil (Old.refl W)
    exact ⟨o, r, hp r h, a⟩
  have h1 := hs [] W (by rw [List.append_nil]; exact h0)
  unfold hF hX at h1
  rw [callFunc_run hk] at h1
  have h2 : Calls P f args.toArray W (fun e W' => ∃ v, e = .returned v ∧ ∃ i : Unit, v = .bool true ∧ Sat W ([] ++ []) W') := h1
  unfold P at h2
  refine h2.mono fun e W' ⟨v, h3, i, h4, h5⟩ => ?_
  subst h4
  obtain ⟨o1, o2, o3, o4, o5⟩ := h5.old
  exact ⟨h3, o3, o5, o4, o1, o2⟩
open Go.Gd in
theorem reads {H : Type} {enc : TypeId × Value → H} {W : World} {t : TypeId} {v : Value} {d : DataW H} {ps : List MemPlace} (h : DataW.Trod enc Tryz.prog W 0 (fun _ => true) true t v d ps) : Rdz enc W t v.cells.toList := by
  obtain ⟨fu, h⟩ := h
  refine ⟨fu, (d, ps), ?_⟩
  unfold P
  exact h
theorem agg_of {W : World} {b : Nat} {t : TypeId} {fs : Array Field} (hu : Tryz.prog.underlying t = some (.struct fs)) {v : Value} (h : Value.okWide Tryz.prog W .any b t v) : ∃ cs, v = .agg cs := by
  unfold Value.okWide at h
  rw [hu] at h
  obtain ⟨cs, h, -⟩ := h
  exact ⟨cs, h⟩
theorem one_of {W : World} {b : Nat} {t e : TypeId} (hu : Tryz.prog.underlying t = some (.slice e)) {v : Value} (h : Value.okWide Tryz.prog W .any b t v) : v.cells.toList = [v] := by
  unfold Value.okWide at h
  rw [hu] at h
  unfold Cell.okWide at h
  dsimp only at h
  rw [hu] at h
  dsimp only at h
  unfold Cell.ok at h
  rw [hu] at h
  cases v <;> first | rfl | exact absurd h (by simp)
open Go.Gd in
theorem read_cfg {H : Type} {enc : TypeId × Value → H} {W : World} {b : Nat} {v : Value} {d : DataW H} {ps : List MemPlace} (hv : Value.okWide Tryz.prog W .any b 25 v) (h : DataW.Trod enc Tryz.prog W 0 (fun _ => true) true 25 v d ps) :
    ∃ c : Cfg, v = cfgV c ∧ ∀ {L L' : List HP}, Imp L L' → Imp L (ro W c.hv 4 c.hints.length (hintsV c.hints) :: L') := by
  obtain ⟨cs, rfl⟩ := agg_of Tryz.underlying25 hv
  obtain ⟨c, h1, h2⟩ := rd_cfg (reads h)
  exact ⟨c, by show Value.agg cs = .agg (cfgL c).toArray; rw [← h1]; rfl, h2⟩
open Go.Gd in
theorem read_acts {H : Type} {enc : TypeId × Value → H} {W : World} {b : Nat} {v : Value} {d : DataW H} {ps : List MemPlace} (hv : Value.okWide Tryz.prog W .any b 26 v) (h : DataW.Trod enc Tryz.prog W 0 (fun _ => true) true 26 v d ps) :
    ∃ xs : List (ActS × Value), (∀ x ∈ xs, x.1.fuse ≤ 9223372036854775807) ∧ (∀ {L L' : List HP}, Imp L L' → Imp L (ro W v 12 xs.length (actsV xs) :: L')) ∧
    ∀ {L L' : List HP}, Imp L L' → Imp L (adatH W xs :: L') := by
  have e := one_of Tryz.underlying26 hv
  obtain ⟨v', xs, h1, h2, h3, h4⟩ := rd_acts (reads h)
  rw [e] at h1
  simp only [List.cons.injEq, and_true] at h1
  subst h1
  exact ⟨xs, h2, h3, h4⟩
set_option maxRecDepth 100000 in
theorem true_lifted (os : Os) (started : os.Started) (H : Type) (enc : TypeId × Value → H) :
    ReturnsInHanded {} Tryz.checked os 3 .any (Rows.arrayTrueSpec.pre6 enc Tryz.prog Tryz.f3 Rows.arrayTrueRow.domain false) (Rows.arrayTrueSpec.post enc Tryz.prog Tryz.f3 false true false false) := by
  refine returnsInHanded_of_change (C := Tryz.checked) own started (by kernel_rfl) Tryz.func3
    (ChangeSpec.witness6 (enc := enc) (C := Tryz.checked) false ⟨#[], #[.agg #[.int .i64 0, .int .i64 0, .int .i64 0, .int .i64 0, .int .i64 0, .int .i64 0, .int .i64 0, .int .i64 0, .int .i64 0, .int .i64 0, .int .i64 0, .int .i64 0, .int .i64 0, .int .i64 0, .int .i64 0, .int .i64 0, .slice none 0 0], .slice none 0 0], []⟩ 8 (by kernel_rfl) (by kernel_rfl) (by kernel_rfl) (by kernel_rfl)) ?_
  intro W base args ds gs before hval0 hW hcnd _
  have hval : ∀ (j : Nat) t v, Tryz.f3.params[j]? = some t → args[j]? = some v → Value.okWide Tryz.prog W .any base t v := hval0
  have hW' := hW
  obtain ⟨p, q, hA0, hV, rfl, hfz, hnd⟩ := hW
  have hA : DataW.TrodAll enc Tryz.prog W 0 (fun _ => true) true Tryz.f3.params.toList args.toList ds p := hA0
  rw [Tryz.params3] at hA hval
  obtain ⟨v0, v1, d0, d1, p0, p1, rfl, rfl, rfl, h0, h1⟩ := trodAll_two hA
  obtain ⟨rfl, rfl⟩ := trodVars_none hV
  clear hA0 hval0
  simp only [List.append_nil] at hW'
  have hlt0 : ∀ x ∈ p0, x.block < W.heap.size := fun x hx => by simpa using hW'.lt x (by simp [hx])
  have hlt1 : ∀ x ∈ p1, x.block < W.heap.size := fun x hx => by simpa using hW'.lt x (by simp [hx])
  obtain ⟨c, rfl, hc⟩ := read_cfg (hval 0 25 v0 rfl rfl) h0
  obtain ⟨xs, hx1, hx2, hx3⟩ := read_acts (hval 1 26 v1 rfl rfl) h1
  refine (calls_true (f := 3) (by unfold Go.Gd.P; kernel_rfl) (Go.Gd.array_true (w0 := W) c v1 xs hx1) (hc (hx2 (hx3 (Go.Gd.Imp.refl _))))).mono fun e W' ⟨he, hb⟩ => ?_
  refine ⟨_, he, _, _, _, [], p0 ++ p1, [], hW', trodAll_mk1 (shut_bool Tryz.underlying4 _), ?_, rfl, hb.frame _, fun h => by cases h⟩
  exact trodAll_mk2 (Below.trod laidOut (by kernel_rfl) (of_decide_eq_true (by kernel_rfl)) h0 hb hlt0) (Below.trod laidOut (by kernel_rfl) (of_decide_eq_true (by kernel_rfl)) h1 hb hlt1)
theorem arrayTrue_holds : Rows.ArrayTrueSaid :=
  OpenClaim.holds_of_wide 3 Tryz.f3 rfl rfl rfl rfl rfl rfl rfl ⟨rfl, rfl, rfl, rfl, rfl⟩ rfl rfl rfl rfl rfl (by kernel_rfl) Tryz.func3 (by kernel_rfl)
    (of_decide_eq_true (by kernel_rfl)) (by unfold Func.isWrapper; first | (rw [if_pos (by decide +kernel)]; kernel_rfl) | (rw [if_neg (by decide +kernel)]; exact ⟨rfl, rfl⟩))
    (fun os started H enc _ => true_lifted os started H enc)
#print axioms arrayTrue_holds
end Go.Proofs.YtdgnnacppiaogaaGreat
