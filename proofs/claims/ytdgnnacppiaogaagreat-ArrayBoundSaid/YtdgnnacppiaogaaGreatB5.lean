/- PRINTED by a program of mine (bd.py): the rules for struct values and written-out slices. Conditions: those in the theorems. Lists that are linked by their numbers: the plain law. Conditions: none beyond those in the theorems. Rules of the logic at given places; flat rows of records. Conditions: none beyond those in the theorems. -/
import Derived.Test.YtdgnnacppiaogaaGreatB4
import Derived.Test.YtdgnnacppiaogaaGreatB0
set_option linter.unusedVariables false
set_option linter.unusedSimpArgs false
set_option maxRecDepth 100000
namespace Go.Gd
open Go.Instr
instance : Lay 25 [(0, 1), (1, 1), (2, 1), (3, 1), (4, 1), (5, 1), (6, 3), (9, 3), (12, 1), (13, 1), (14, 1), (15, 1), (16, 1)] := ⟨by unfold P; kernel_rfl⟩
theorem bd25_0_1_2_3_4_6_7_8_9_11 {w0 : World} {L : List HP} {v0 v1 v2 v3 v4 a5_0 a5_1 a5_2 a6_0 a6_1 a6_2 v7 v8 v9 : Value} (h0 : v0.oneCell' = true) (h1 : v1.oneCell' = true) (h2 : v2.oneCell' = true) (h3 : v3.oneCell' = true) (h4 : v4.oneCell' = true) (h7 : v7.oneCell' = true) (h8 : v8.oneCell' = true) (h9 : v9.oneCell' = true) : Run w0 L (build 25 #[(0, v0), (1, v1), (2, v2), (3, v3), (4, v4), (6, .agg #[a5_0, a5_1, a5_2]), (7, .agg #[a6_0, a6_1, a6_2]), (8, v7), (9, v8), (11, v9)]) (.agg ([v0, v1, v2, v3, v4, .int .i64 0, a5_0, a5_1, a5_2, a6_0, a6_1, a6_2, v7, v8, .int .i64 0, v9, .slice none 0 0] : List Value).toArray) :=
  run_build (parts := [(0, v0), (1, v1), (2, v2), (3, v3), (4, v4), (6, .agg #[a5_0, a5_1, a5_2]), (7, .agg #[a6_0, a6_1, a6_2]), (8, v7), (9, v8), (11, v9)]) (by simp [fill, agg_cells, one_cells h0, one_cells h1, one_cells h2, one_cells h3, one_cells h4, one_cells h7, one_cells h8, one_cells h9])
instance : Lay 37 [(0, 1), (1, 1), (2, 1), (3, 1), (4, 1), (5, 1), (6, 1), (7, 1), (8, 1), (9, 1), (10, 1)] := ⟨by unfold P; kernel_rfl⟩
theorem bd37_0_1_2_3_4_5_8 {w0 : World} {L : List HP} {v0 v1 v2 v3 v4 v5 v6 : Value} (h0 : v0.oneCell' = true) (h1 : v1.oneCell' = true) (h2 : v2.oneCell' = true) (h3 : v3.oneCell' = true) (h4 : v4.oneCell' = true) (h5 : v5.oneCell' = true) (h6 : v6.oneCell' = true) : Run w0 L (build 37 #[(0, v0), (1, v1), (2, v2), (3, v3), (4, v4), (5, v5), (8, v6)]) (.agg ([v0, v1, v2, v3, v4, v5, .int .i64 0, .int .i64 0, v6, .bool false, .slice none 0 0] : List Value).toArray) :=
  run_build (parts := [(0, v0), (1, v1), (2, v2), (3, v3), (4, v4), (5, v5), (8, v6)]) (by simp [fill, agg_cells, one_cells h0, one_cells h1, one_cells h2, one_cells h3, one_cells h4, one_cells h5, one_cells h6])
theorem bd37_0_5 {w0 : World} {L : List HP} {v0 v1 : Value} (h0 : v0.oneCell' = true) (h1 : v1.oneCell' = true) : Run w0 L (build 37 #[(0, v0), (5, v1)]) (.agg ([v0, .int .i64 0, .int .i64 0, .int .i64 0, .int .i64 0, v1, .int .i64 0, .int .i64 0, .int .i64 0, .bool false, .slice none 0 0] : List Value).toArray) :=
  run_build (parts := [(0, v0), (5, v1)]) (by simp [fill, agg_cells, one_cells h0, one_cells h1])
theorem bd37_0_5_8 {w0 : World} {L : List HP} {v0 v1 v2 : Value} (h0 : v0.oneCell' = true) (h1 : v1.oneCell' = true) (h2 : v2.oneCell' = true) : Run w0 L (build 37 #[(0, v0), (5, v1), (8, v2)]) (.agg ([v0, .int .i64 0, .int .i64 0, .int .i64 0, .int .i64 0, v1, .int .i64 0, .int .i64 0, v2, .bool false, .slice none 0 0] : List Value).toArray) :=
  run_build (parts := [(0, v0), (5, v1), (8, v2)]) (by simp [fill, agg_cells, one_cells h0, one_cells h1, one_cells h2])
theorem bd37_0_5_10 {w0 : World} {L : List HP} {v0 v1 v2 : Value} (h0 : v0.oneCell' = true) (h1 : v1.oneCell' = true) (h2 : v2.oneCell' = true) : Run w0 L (build 37 #[(0, v0), (5, v1), (10, v2)]) (.agg ([v0, .int .i64 0, .int .i64 0, .int .i64 0, .int .i64 0, v1, .int .i64 0, .int .i64 0, .int .i64 0, .bool false, v2] : List Value).toArray) :=
  run_build (parts := [(0, v0), (5, v1), (10, v2)]) (by simp [fill, agg_cells, one_cells h0, one_cells h1, one_cells h2])
instance : Lay 94 [(0, 1), (1, 1), (2, 1)] := ⟨by unfold P; kernel_rfl⟩
theorem bd94_0_1 {w0 : World} {L : List HP} {v0 v1 : Value} (h0 : v0.oneCell' = true) (h1 : v1.oneCell' = true) : Run w0 L (build 94 #[(0, v0), (1, v1)]) (.agg ([v0, v1, .bool false] : List Value).toArray) :=
  run_build (parts := [(0, v0), (1, v1)]) (by simp [fill, agg_cells, one_cells h0, one_cells h1])
instance : Lay 102 [(0, 1), (1, 1), (2, 1), (3, 1)] := ⟨by unfold P; kernel_rfl⟩
theorem bd102_0_1_2_3 {w0 : World} {L : List HP} {v0 v1 v2 v3 : Value} (h0 : v0.oneCell' = true) (h1 : v1.oneCell' = true) (h2 : v2.oneCell' = true) (h3 : v3.oneCell' = true) : Run w0 L (build 102 #[(0, v0), (1, v1), (2, v2), (3, v3)]) (.agg ([v0, v1, v2, v3] : List Value).toArray) :=
  run_build (parts := [(0, v0), (1, v1), (2, v2), (3, v3)]) (by simp [fill, agg_cells, one_cells h0, one_cells h1, one_cells h2, one_cells h3])
instance : Lay 105 [(0, 17), (17, 1), (18, 1), (19, 1), (20, 1), (21, 1)] := ⟨by unfold P; kernel_rfl⟩
theorem bd105_0_1_2_5 {w0 : World} {L : List HP} {a0_0 a0_1 a0_2 a0_3 a0_4 a0_5 a0_6 a0_7 a0_8 a0_9 a0_10 a0_11 a0_12 a0_13 a0_14 a0_15 a0_16 v1 v2 v3 : Value} (h1 : v1.oneCell' = true) (h2 : v2.oneCell' = true) (h3 : v3.oneCell' = true) : Run w0 L (build 105 #[(0, .agg #[a0_0, a0_1, a0_2, a0_3, a0_4, a0_5, a0_6, a0_7, a0_8, a0_9, a0_10, a0_11, a0_12, a0_13, a0_14, a0_15, a0_16]), (1, v1), (2, v2), (5, v3)]) (.agg ([a0_0, a0_1, a0_2, a0_3, a0_4, a0_5, a0_6, a0_7, a0_8, a0_9, a0_10, a0_11, a0_12, a0_13, a0_14, a0_15, a0_16, v1, v2, .bool false, .int .i64 0, v3] : List Value).toArray) :=
  run_build (parts := [(0, .agg #[a0_0, a0_1, a0_2, a0_3, a0_4, a0_5, a0_6, a0_7, a0_8, a0_9, a0_10, a0_11, a0_12, a0_13, a0_14, a0_15, a0_16]), (1, v1), (2, v2), (5, v3)]) (by simp [fill, agg_cells, one_cells h1, one_cells h2, one_cells h3])
instance : Lay 141 [(0, 1), (1, 1)] := ⟨by unfold P; kernel_rfl⟩
theorem bd141 {w0 : World} {L : List HP}  : Run w0 L (build 141 #[]) (.agg ([.int .i64 0, .slice none 0 0] : List Value).toArray) :=
  run_build (parts := []) (by simp [fill, agg_cells])
theorem bd141_0_1 {w0 : World} {L : List HP} {v0 v1 : Value} (h0 : v0.oneCell' = true) (h1 : v1.oneCell' = true) : Run w0 L (build 141 #[(0, v0), (1, v1)]) (.agg ([v0, v1] : List Value).toArray) :=
  run_build (parts := [(0, v0), (1, v1)]) (by simp [fill, agg_cells, one_cells h0, one_cells h1])
instance : Lay 157 [(0, 17), (17, 1), (18, 1), (19, 1)] := ⟨by unfold P; kernel_rfl⟩
theorem bd157_0_1_2_3 {w0 : World} {L : List HP} {a0_0 a0_1 a0_2 a0_3 a0_4 a0_5 a0_6 a0_7 a0_8 a0_9 a0_10 a0_11 a0_12 a0_13 a0_14 a0_15 a0_16 v1 v2 v3 : Value} (h1 : v1.oneCell' = true) (h2 : v2.oneCell' = true) (h3 : v3.oneCell' = true) : Run w0 L (build 157 #[(0, .agg #[a0_0, a0_1, a0_2, a0_3, a0_4, a0_5, a0_6, a0_7, a0_8, a0_9, a0_10, a0_11, a0_12, a0_13, a0_14, a0_15, a0_16]), (1, v1), (2, v2), (3, v3)]) (.agg ([a0_0, a0_1, a0_2, a0_3, a0_4, a0_5, a0_6, a0_7, a0_8, a0_9, a0_10, a0_11, a0_12, a0_13, a0_14, a0_15, a0_16, v1, v2, v3] : List Value).toArray) :=
  run_build (parts := [(0, .agg #[a0_0, a0_1, a0_2, a0_3, a0_4, a0_5, a0_6, a0_7, a0_8, a0_9, a0_10, a0_11, a0_12, a0_13, a0_14, a0_15, a0_16]), (1, v1), (2, v2), (3, v3)]) (by simp [fill, agg_cells, one_cells h1, one_cells h2, one_cells h3])
instance : Lay 159 [(0, 4), (4, 1)] := ⟨by unfold P; kernel_rfl⟩
theorem bd159_0_1 {w0 : World} {L : List HP} {a0_0 a0_1 a0_2 a0_3 v1 : Value} (h1 : v1.oneCell' = true) : Run w0 L (build 159 #[(0, .agg #[a0_0, a0_1, a0_2, a0_3]), (1, v1)]) (.agg ([a0_0, a0_1, a0_2, a0_3, v1] : List Value).toArray) :=
  run_build (parts := [(0, .agg #[a0_0, a0_1, a0_2, a0_3]), (1, v1)]) (by simp [fill, agg_cells, one_cells h1])
instance : Lay 161 [(0, 1), (1, 1), (2, 1), (3, 1), (4, 1), (5, 1)] := ⟨by unfold P; kernel_rfl⟩
theorem bd161_0_1_2_3_4_5 {w0 : World} {L : List HP} {v0 v1 v2 v3 v4 v5 : Value} (h0 : v0.oneCell' = true) (h1 : v1.oneCell' = true) (h2 : v2.oneCell' = true) (h3 : v3.oneCell' = true) (h4 : v4.oneCell' = true) (h5 : v5.oneCell' = true) : Run w0 L (build 161 #[(0, v0), (1, v1), (2, v2), (3, v3), (4, v4), (5, v5)]) (.agg ([v0, v1, v2, v3, v4, v5] : List Value).toArray) :=
  run_build (parts := [(0, v0), (1, v1), (2, v2), (3, v3), (4, v4), (5, v5)]) (by simp [fill, agg_cells, one_cells h0, one_cells h1, one_cells h2, one_cells h3, one_cells h4, one_cells h5])
instance : Lay 217 [(0, 1), (1, 1), (2, 1), (3, 1)] := ⟨by unfold P; kernel_rfl⟩
theorem bd217_0_1_2_3 {w0 : World} {L : List HP} {v0 v1 v2 v3 : Value} (h0 : v0.oneCell' = true) (h1 : v1.oneCell' = true) (h2 : v2.oneCell' = true) (h3 : v3.oneCell' = true) : Run w0 L (build 217 #[(0, v0), (1, v1), (2, v2), (3, v3)]) (.agg ([v0, v1, v2, v3] : List Value).toArray) :=
  run_build (parts := [(0, v0), (1, v1), (2, v2), (3, v3)]) (by simp [fill, agg_cells, one_cells h0, one_cells h1, one_cells h2, one_cells h3])
instance : Lay 226 [(0, 1), (1, 1), (2, 1)] := ⟨by unfold P; kernel_rfl⟩
theorem bd226_0_2 {w0 : World} {L : List HP} {v0 v1 : Value} (h0 : v0.oneCell' = true) (h1 : v1.oneCell' = true) : Run w0 L (build 226 #[(0, v0), (2, v1)]) (.agg ([v0, .int .i64 0, v1] : List Value).toArray) :=
  run_build (parts := [(0, v0), (2, v1)]) (by simp [fill, agg_cells, one_cells h0, one_cells h1])
instance : Lay 255 [(0, 1), (1, 3), (4, 1), (5, 1)] := ⟨by unfold P; kernel_rfl⟩
theorem bd255_0_1 {w0 : World} {L : List HP} {v0 a1_0 a1_1 a1_2 : Value} (h0 : v0.oneCell' = true) : Run w0 L (build 255 #[(0, v0), (1, .agg #[a1_0, a1_1, a1_2])]) (.agg ([v0, a1_0, a1_1, a1_2, .slice none 0 0, .slice none 0 0] : List Value).toArray) :=
  run_build (parts := [(0, v0), (1, .agg #[a1_0, a1_1, a1_2])]) (by simp [fill, agg_cells, one_cells h0])
instance : Lay 261 [(0, 1)] := ⟨by unfold P; kernel_rfl⟩
instance : Lay 263 [(0, 1), (1, 1), (2, 1)] := ⟨by unfold P; kernel_rfl⟩
instance : Lay 264 [(0, 1)] := ⟨by unfold P; kernel_rfl⟩
instance : Lay 267 [(0, 1), (1, 4), (5, 1), (6, 64), (70, 64)] := ⟨by unfold P; kernel_rfl⟩
theorem bd267_0_1 {w0 : World} {L : List HP} {a0_0 a1_0 a1_1 a1_2 a1_3 : Value}  : Run w0 L (build 267 #[(0, .agg #[a0_0]), (1, .agg #[a1_0, a1_1, a1_2, a1_3])]) (.agg ([a0_0] ++ [a1_0] ++ [a1_1] ++ [a1_2] ++ [a1_3] ++ List.replicate 129 (.int .i64 0) : List Value).toArray) :=
  run_build (parts := [(0, .agg #[a0_0]), (1, .agg #[a1_0, a1_1, a1_2, a1_3])]) (by
  simp only [fill, agg_cells]
  kernel_rfl)
instance : Lay 268 [(0, 1)] := ⟨by unfold P; kernel_rfl⟩
instance : Lay 270 [(0, 1), (1, 1)] := ⟨by unfold P; kernel_rfl⟩
instance : Lay 290 [(0, 1), (1, 1), (2, 1)] := ⟨by unfold P; kernel_rfl⟩
instance : Lay 293 [(0, 192), (192, 1)] := ⟨by unfold P; kernel_rfl⟩
theorem bd293_1 {w0 : World} {L : List HP} {v0 : Value} (h0 : v0.oneCell' = true) : Run w0 L (build 293 #[(1, v0)]) (.agg (List.replicate 192 (.int .i64 0) ++ [v0] : List Value).toArray) :=
  run_build (parts := [(1, v0)]) (by
  simp only [fill, agg_cells, one_cells h0]
  kernel_rfl)
instance : Lay 295 [(0, 1), (1, 1), (2, 1)] := ⟨by unfold P; kernel_rfl⟩
theorem bd295_0_1 {w0 : World} {L : List HP} {v0 v1 : Value} (h0 : v0.oneCell' = true) (h1 : v1.oneCell' = true) : Run w0 L (build 295 #[(0, v0), (1, v1)]) (.agg ([v0, v1, .int .i64 0] : List Value).toArray) :=
  run_build (parts := [(0, v0), (1, v1)]) (by simp [fill, agg_cells, one_cells h0, one_cells h1])
instance : Lay 304 [(0, 1), (1, 1)] := ⟨by unfold P; kernel_rfl⟩
theorem bd304_0_1 {w0 : World} {L : List HP} {v0 v1 : Value} (h0 : v0.oneCell' = true) (h1 : v1.oneCell' = true) : Run w0 L (build 304 #[(0, v0), (1, v1)]) (.agg ([v0, v1] : List Value).toArray) :=
  run_build (parts := [(0, v0), (1, v1)]) (by simp [fill, agg_cells, one_cells h0, one_cells h1])
theorem bs64_1 {w0 : World} {L : List HP} {v0 : Value} {K : Value → World → Prop} (h0 : v0.oneCell' = true) (hk : ∀ b, Ent w0 (pt b 3 [v0] :: L) (K (.slice (some ⟨b, 0, none⟩) 1 1))) : Ent w0 L (hV P (buildSlice 64 1 #[(0, v0)]) K) :=
  ent_bs (parts := [(0, v0)]) rfl (by decide) (by simp [fill, List.replicate, agg_cells, one_cells h0]) hk
theorem bs302_1 {w0 : World} {L : List HP} {a0_0 a0_1 : Value} {K : Value → World → Prop}  (hk : ∀ b, Ent w0 (pt b 304 [a0_0, a0_1] :: L) (K (.slice (some ⟨b, 0, none⟩) 1 1))) : Ent w0 L (hV P (buildSlice 302 1 #[(0, .agg #[a0_0, a0_1])]) K) :=
  ent_bs (parts := [(0, .agg #[a0_0, a0_1])]) rfl (by decide) (by simp [fill, List.replicate, agg_cells]) hk
end Go.Gd
namespace Go.Gd
def fsN (l : List Nat) : Int := match l with | [] => -1 | x :: _ => x
def lsN (l : List Nat) : Int := match l.getLast? with | none => -1 | some x => x
def prv (l : List Nat) (b : Nat) : Int := lsN (l.takeWhile (· != b))
def nxt (l : List Nat) (b : Nat) : Int := fsN ((l.dropWhile (· != b)).tail)
structure Nd where
  li : Int
  ah : Int
  be : Int
def upF {α : Type} (f : Nat → α) (i : Nat) (x : α) : Nat → α := fun t => if t = i then x else f t
@[simp] theorem upF_same {α : Type} (f : Nat → α) (i : Nat) (x : α) : upF f i x i = x := by simp [upF]
theorem upF_ne {α : Type} (f : Nat → α) {i t : Nat} (x : α) (h : t ≠ i) : upF f i x t = f t := by simp [upF, h]
theorem tw_split {xs ys : List Nat} {c : Nat} (h : c ∉ xs) : (xs ++ c :: ys).takeWhile (· != c) = xs := by
  induction xs with
  | nil => simp
  | cons x xs ih =>
    simp only [List.mem_cons, not_or] at h
    have : (x != c) = true := by simp; exact fun e => h.1 e.symm
    simp [this, ih h.2]
theorem dw_split {xs ys : List Nat} {c : Nat} (h : c ∉ xs) : (xs ++ c :: ys).dropWhile (· != c) = c :: ys := by
  induction xs with
  | nil => simp
  | cons x xs ih =>
    simp only [List.mem_cons, not_or] at h
    have : (x != c) = true := by simp; exact fun e => h.1 e.symm
    simp [this, ih h.2]
theorem prv_split {xs ys : List Nat} {c : Nat} (h : c ∉ xs) : prv (xs ++ c :: ys) c = lsN xs := by unfold prv; rw [tw_split h]
theorem nxt_split {xs ys : List Nat} {c : Nat} (h : c ∉ xs) : nxt (xs ++ c :: ys) c = fsN ys := by unfold nxt; rw [dw_split h]; rfl
theorem lsN_snoc (xs : List Nat) (x : Nat) : lsN (xs ++ [x]) = x := by simp [lsN]
theorem lsN_cons_app (xs : List Nat) (x : Nat) (ys : List Nat) : lsN (xs ++ x :: ys) = lsN (x :: ys) := by
  unfold lsN; rw [List.getLast?_append]; cases h : (x :: ys).getLast? <;> simp_all
theorem lsN_nil : lsN [] = -1 := rfl
theorem fsN_nil : fsN [] = -1 := rfl
theorem fsN_cons (x : Nat) (l : List Nat) : fsN (x :: l) = x := rfl
theorem fsN_neg {l : List Nat} : fsN l = -1 ↔ l = [] := by
  cases l with
  | nil => simp [fsN]
  | cons x l => simp [fsN]
theorem lsN_neg {l : List Nat} : lsN l = -1 ↔ l = [] := by
  rcases List.eq_nil_or_concat l with rfl | ⟨xs, x, rfl⟩
  · simp [lsN]
  · rw [List.concat_eq_append, lsN_snoc]; simp
theorem mem_split {l : List Nat} {c : Nat} (h : c ∈ l) (hn : l.Nodup) : ∃ us vs, l = us ++ c :: vs ∧ c ∉ us ∧ c ∉ vs := by
  obtain ⟨us, vs, rfl⟩ := List.append_of_mem h
  refine ⟨us, vs, rfl, fun hu => ?_, fun hv => ?_⟩
  · exact (List.nodup_append.1 hn).2.2 c hu c List.mem_cons_self rfl
  · exact (List.nodup_cons.1 (List.nodup_append.1 hn).2.1).1 hv
structure Link (L : List (List Nat)) (at_ : Nat → Nd) (en : Nat → Nd) : Prop where
  ends : ∀ (k : Nat) (l : List Nat), L[k]? = some l → en k = ⟨fsN l, lsN l, l.length⟩
  node : ∀ (k : Nat) (l : List Nat) (b : Nat), L[k]? = some l → b ∈ l → at_ b = ⟨k, prv l b, nxt l b⟩
  free : ∀ b : Nat, b < 64 → (∀ l ∈ L, b ∉ l) → (at_ b).li = -1
  nodup : ∀ (k : Nat) (l : List Nat), L[k]? = some l → l.Nodup
  apart : ∀ (k k' : Nat) (l l' : List Nat) (b : Nat), L[k]? = some l → L[k']? = some l' → b ∈ l → b ∈ l' → k = k'
  lt : ∀ (k : Nat) (l : List Nat) (b : Nat), L[k]? = some l → b ∈ l → b < 64
def lkOf (L : List (List Nat)) (b : Nat) : Option Nat := L.findIdx? (fun l => decide (b ∈ l))
theorem lkOf_some {L : List (List Nat)} {b k : Nat} (h : lkOf L b = some k) : ∃ l, L[k]? = some l ∧ b ∈ l := by
  obtain ⟨hk, hb⟩ := (List.findIdx?_eq_some_iff_getElem.1 h)
  exact ⟨L[k], by simp [hk], by simpa using hb.1⟩
theorem lkOf_none {L : List (List Nat)} {b : Nat} (h : lkOf L b = none) : ∀ l ∈ L, b ∉ l := by
  intro l hl
  have := List.findIdx?_eq_none_iff.1 h l hl
  simpa using this
theorem Link.li {L : List (List Nat)} {at_ en : Nat → Nd} (h : Link L at_ en) {b : Nat} (hb : b < 64) : (at_ b).li = match lkOf L b with | some k => (k : Int) | none => -1 := by
  cases ho : lkOf L b with
  | none => exact h.free b hb (lkOf_none ho)
  | some k =>
    obtain ⟨l, hl, hm⟩ := lkOf_some ho
    rw [h.node k l b hl hm]
def lkOut (L : List (List Nat)) (b : Nat) : List (List Nat) := L.map (·.filter (· != b))
theorem filter_split {xs ys : List Nat} {b : Nat} (h1 : b ∉ xs) (h2 : b ∉ ys) : (xs ++ b :: ys).filter (· != b) = xs ++ ys := by
  have f : ∀ l : List Nat, b ∉ l → l.filter (· != b) = l := fun l hl => List.filter_eq_self.2 fun x hx => by simp; exact fun e => hl (e ▸ hx)
  rw [List.filter_append, f xs h1]
  simp [f ys h2]
theorem filter_not {l : List Nat} {b : Nat} (h : b ∉ l) : l.filter (· != b) = l := List.filter_eq_self.2 fun x hx => by simp; exact fun e => h (e ▸ hx)
def atOut (at_ : Nat → Nd) (b : Nat) : Nat → Nd :=
  let n := at_ b
  let a1 := if n.ah = -1 then at_ else upF at_ n.ah.toNat { at_ n.ah.toNat with be := n.be }
  let a2 := if n.be = -1 then a1 else upF a1 n.be.toNat { a1 n.be.toNat with ah := n.ah }
  upF a2 b { a2 b with li := -1 }
def enOut (at_ : Nat → Nd) (en : Nat → Nd) (k b : Nat) : Nat → Nd :=
  let n := at_ b
  upF en k ⟨if n.ah = -1 then n.be else (en k).li, if n.be = -1 then n.ah else (en k).ah, (en k).be - 1⟩
theorem atOut_at (at_ : Nat → Nd) {b c : Nat} (hc : c ≠ b) (hp : (at_ b).ah = -1 ∨ ∃ x : Nat, (at_ b).ah = x) (hq : (at_ b).be = -1 ∨ ∃ y : Nat, (at_ b).be = y)
    (hxy : ∀ x y : Nat, (at_ b).ah = x → (at_ b).be = y → x ≠ y) :
    (atOut at_ b) c = ⟨(at_ c).li, if (at_ b).be ≠ -1 ∧ (c : Int) = (at_ b).be then (at_ b).ah else (at_ c).ah, if (at_ b).ah ≠ -1 ∧ (c : Int) = (at_ b).ah then (at_ b).be else (at_ c).be⟩ := by
  unfold atOut
  dsimp only
  rw [upF_ne _ _ hc]
  rcases hp with hp | ⟨x, hp⟩ <;> rcases hq with hq | ⟨y, hq⟩
  · rw [if_pos hp, if_pos hq]; simp [hp, hq]
  · have h2 : ¬ (at_ b).be = -1 := by omega
    rw [if_pos hp, if_neg h2]
    have ht : (at_ b).be.toNat = y := by rw [hq]; simp
    rw [ht]
    by_cases hcy : c = y
    · subst hcy; rw [upF_same]; simp [hp, hq]
    · rw [upF_ne _ _ hcy]
      have e2 : ¬ ((c : Int) = y) := by omega
      simp [hp, hq, e2]
  · have h1 : ¬ (at_ b).ah = -1 := by omega
    rw [if_neg h1, if_pos hq]
    have ht : (at_ b).ah.toNat = x := by rw [hp]; simp
    rw [ht]
    by_cases hcx : c = x
    · subst hcx; rw [upF_same]; simp [hp, hq]
    · rw [upF_ne _ _ hcx]
      have e2 : ¬ ((c : Int) = x) := by omega
      simp [hp, hq, e2]
  · have hn := hxy x y hp hq
    have h1 : ¬ (at_ b).ah = -1 := by omega
    have h2 : ¬ (at_ b).be = -1 := by omega
    rw [if_neg h1, if_neg h2]
    have ht : (at_ b).ah.toNat = x := by rw [hp]; simp
    have ht2 : (at_ b).be.toNat = y := by rw [hq]; simp
    rw [ht, ht2]
    by_cases hcy : c = y
    · subst hcy
      rw [upF_same, upF_ne _ _ (Ne.symm hn)]
      have : ¬ ((c : Int) = x) := by omega
      simp [hp, hq, this]
    · rw [upF_ne _ _ hcy]
      have e2 : ¬ ((c : Int) = y) := by omega
      by_cases hcx : c = x
      · subst hcx; rw [upF_same]; simp [hp, hq, e2]
      · rw [upF_ne _ _ hcx]
        have e1 : ¬ ((c : Int) = x) := by omega
        simp [hp, hq, e1, e2]
theorem Link.out {L : List (List Nat)} {at_ en : Nat → Nd} (h : Link L at_ en) {b k : Nat} {l : List Nat} (hk : L[k]? = some l) (hb : b ∈ l) : Link (lkOut L b) (atOut at_ b) (enOut at_ en k b) := by
  obtain ⟨xs, ys, rfl, hx, hy⟩ := mem_split hb (h.nodup k l hk)
  have hn := h.nodup k _ hk
  have hnode := h.node k _ b hk hb
  rw [prv_split hx, nxt_split hx] at hnode
  have hget : ∀ j : Nat, (lkOut L b)[j]? = (L[j]?).map (fun l : List Nat => l.filter (· != b)) := fun j => by simp [lkOut]
  have hothers : ∀ (j : Nat) (l' : List Nat), L[j]? = some l' → j ≠ k → b ∉ l' := fun j l' hj hne hm => hne (h.apart j k l' _ b hj hk hm hb)
  have hah : (at_ b).ah = lsN xs := by rw [hnode]
  have hbe : (at_ b).be = fsN ys := by rw [hnode]
  have hat : ∀ c, c ≠ b → (atOut at_ b) c = ⟨(at_ c).li, if fsN ys ≠ -1 ∧ (c : Int) = fsN ys then lsN xs else (at_ c).ah, if lsN xs ≠ -1 ∧ (c : Int) = lsN xs then fsN ys else (at_ c).be⟩ := by
    intro c hc
    have hap : (at_ b).ah = -1 ∨ ∃ x : Nat, (at_ b).ah = x ∧ x ∈ xs := by
      rw [hah]
      rcases List.eq_nil_or_concat xs with rfl | ⟨zs, x, rfl⟩
      · exact .inl rfl
      · exact .inr ⟨x, by rw [List.concat_eq_append, lsN_snoc], by simp⟩
    have hbp : (at_ b).be = -1 ∨ ∃ y : Nat, (at_ b).be = y ∧ y ∈ ys := by
      rw [hbe]
      cases ys with
      | nil => exact .inl rfl
      | cons y t => exact .inr ⟨y, rfl, by simp⟩
    have hdis : ∀ x y : Nat, x ∈ xs → y ∈ ys → x ≠ y := fun x y h1 h2 e => (List.nodup_append.1 hn).2.2 x h1 y (List.mem_cons_of_mem _ h2) e
    rw [← hah, ← hbe]
    exact atOut_at at_ hc (hap.imp id fun ⟨x, h, _⟩ => ⟨x, h⟩) (hbp.imp id fun ⟨x, h, _⟩ => ⟨x, h⟩) fun x y e1 e2 => by
      rcases hap with h1 | ⟨x', h1, m1⟩
      · omega
      · rcases hbp with h2 | ⟨y', h2, m2⟩
        · omega
        · have := hdis x' y' m1 m2; omega
  constructor
  · intro j l' hj
    rw [hget] at hj
    cases hL : L[j]? with
    | none => rw [hL] at hj; cases hj
    | some m =>
      rw [hL] at hj
      simp only [Option.map_some, Option.some.injEq] at hj
      subst hj
      by_cases hjk : j = k
      · subst hjk
        rw [hk] at hL; cases hL
        rw [filter_split hx hy]
        unfold enOut
        rw [upF_same, hah, hbe, h.ends j _ hk]
        simp only [Nd.mk.injEq]
        refine ⟨?_, ?_, ?_⟩
        · cases xs with
          | nil => simp [lsN_nil]
          | cons x t => rw [if_neg (fun e => by cases (lsN_neg.1 e))]; rfl
        · cases ys with
          | nil => simp [fsN_nil]
          | cons y t =>
            rw [if_neg (fun e => by cases (fsN_neg.1 e)), lsN_cons_app, lsN_cons_app]
            simp [lsN]
        · simp; omega
      · unfold enOut
        rw [upF_ne _ _ hjk, h.ends j m hL, filter_not (hothers j m hL hjk)]
  · intro j l' c hj hc
    rw [hget] at hj
    cases hL : L[j]? with
    | none => rw [hL] at hj; cases hj
    | some m =>
      rw [hL] at hj
      simp only [Option.map_some, Option.some.injEq] at hj
      subst hj
      have hcm : c ∈ m ∧ c ≠ b := by simpa using List.mem_filter.1 hc
      rw [hat c hcm.2, h.node j m c hL hcm.1]
      by_cases hjk : j = k
      · subst hjk
        rw [hk] at hL; cases hL
        rw [filter_split hx hy]
        have hcl : c ∈ xs ∨ c ∈ ys := by
          rcases List.mem_append.1 hcm.1 with h1 | h1
          · exact .inl h1
          · rcases List.mem_cons.1 h1 with h1 | h1
            · exact absurd h1 hcm.2
            · exact .inr h1
        have hnx : xs.Nodup := (List.nodup_append.1 hn).1
        have hny : ys.Nodup := (List.nodup_cons.1 (List.nodup_append.1 hn).2.1).2
        rcases hcl with hcl | hcl
        · obtain ⟨us, t, rfl, hu, ht⟩ := mem_split hcl hnx
          have hcy : ¬ ((c : Int) = fsN ys) := by
            intro e
            cases ys with
            | nil => simp [fsN] at e
            | cons y t2 =>
              simp only [fsN_cons] at e
              have : c = y := by omega
              exact (List.nodup_append.1 hn).2.2 c (by simp) y (by simp) this
          have e1 : prv (us ++ c :: t ++ b :: ys) c = lsN us := by rw [List.append_assoc, List.cons_append]; exact prv_split hu
          have e2 : nxt (us ++ c :: t ++ b :: ys) c = fsN (t ++ b :: ys) := by rw [List.append_assoc, List.cons_append]; exact nxt_split hu
          have e3 : prv (us ++ c :: t ++ ys) c = lsN us := by rw [List.append_assoc, List.cons_append]; exact prv_split hu
          have e4 : nxt (us ++ c :: t ++ ys) c = fsN (t ++ ys) := by rw [List.append_assoc, List.cons_append]; exact nxt_split hu
          rw [e1, e2, e3, e4, if_neg (show ¬ (fsN ys ≠ -1 ∧ (c : Int) = fsN ys) from fun e => hcy e.2)]
          simp only [Nd.mk.injEq, true_and]
          cases t with
          | nil => rw [if_pos ⟨fun e => absurd (lsN_neg.1 e) (by simp), (lsN_snoc us c).symm⟩]; rfl
          | cons z t =>
            rw [if_neg]
            · rfl
            · rintro ⟨_, e⟩
              have hin : ∀ z t, lsN (us ++ c :: z :: t) = c → c ∈ z :: t := by
                intro z t e
                have : lsN (us ++ c :: z :: t) = lsN (z :: t) := by rw [show us ++ c :: z :: t = (us ++ [c]) ++ z :: t by simp, lsN_cons_app]
                rw [this] at e
                rcases List.eq_nil_or_concat (z :: t) with h1 | ⟨q, w, h1⟩
                · cases h1
                · rw [List.concat_eq_append] at h1
                  rw [h1, lsN_snoc] at e
                  have : w = c := by omega
                  rw [h1, this]; simp
              exact ht (hin z t e.symm)
        · obtain ⟨us, t, rfl, hu, ht⟩ := mem_split hcl hny
          have hcx : c ∉ xs := fun hm => (List.nodup_append.1 hn).2.2 c hm c (List.mem_cons_of_mem _ (by simp)) rfl
          have hlx : ¬ ((c : Int) = lsN xs) := by
            intro e
            rcases List.eq_nil_or_concat xs with rfl | ⟨q, w, rfl⟩
            · simp [lsN] at e
            · rw [List.concat_eq_append, lsN_snoc] at e
              have : c = w := by omega
              exact hcx (by simp [this])
          have e1 : prv (xs ++ b :: (us ++ c :: t)) c = lsN (xs ++ b :: us) := by
            rw [show xs ++ b :: (us ++ c :: t) = (xs ++ b :: us) ++ c :: t by simp]
            exact prv_split (by simp [hcx, hcm.2, hu])
          have e2 : nxt (xs ++ b :: (us ++ c :: t)) c = fsN t := by
            rw [show xs ++ b :: (us ++ c :: t) = (xs ++ b :: us) ++ c :: t by simp]
            exact nxt_split (by simp [hcx, hcm.2, hu])
          have e3 : prv (xs ++ (us ++ c :: t)) c = lsN (xs ++ us) := by
            rw [← List.append_assoc]; exact prv_split (by simp [hcx, hu])
          have e4 : nxt (xs ++ (us ++ c :: t)) c = fsN t := by
            rw [← List.append_assoc]; exact nxt_split (by simp [hcx, hu])
          rw [e1, e2, e3, e4, if_neg (show ¬ (lsN xs ≠ -1 ∧ (c : Int) = lsN xs) from fun e => hlx e.2)]
          simp only [Nd.mk.injEq, true_and, and_true]
          cases us with
          | nil => rw [if_pos ⟨fun e => absurd (fsN_neg.1 e) (by simp), rfl⟩]; simp
          | cons z us =>
            rw [if_neg]
            · rw [show xs ++ b :: z :: us = (xs ++ [b]) ++ z :: us by simp, lsN_cons_app, lsN_cons_app]
            · rintro ⟨_, e⟩
              simp only [List.cons_append, fsN_cons] at e
              have : c = z := by omega
              exact hu (by simp [this])
      · have hbm := hothers j m hL hjk
        rw [filter_not hbm]
        simp only [Nd.mk.injEq, true_and]
        constructor
        · rw [if_neg]
          rintro ⟨hne, e⟩
          cases ys with
          | nil => exact hne rfl
          | cons y t =>
            simp only [fsN_cons] at e
            have : c = y := by omega
            subst this
            exact hjk (h.apart j k m _ c hL hk hcm.1 (by simp))
        · rw [if_neg]
          rintro ⟨hne, e⟩
          rcases List.eq_nil_or_concat xs with rfl | ⟨q, w, rfl⟩
          · exact hne rfl
          · rw [List.concat_eq_append, lsN_snoc] at e
            have : c = w := by omega
            subst this
            exact hjk (h.apart j k m _ c hL hk hcm.1 (by simp))
  · intro c hc hfree
    by_cases hcb : c = b
    · subst hcb; unfold atOut; simp only [upF_same]
    · rw [hat c hcb]
      refine h.free c hc fun l' hl' hm => ?_
      exact hfree (l'.filter (· != b)) (List.mem_map.2 ⟨l', hl', rfl⟩) (List.mem_filter.2 ⟨hm, by simpa using hcb⟩)
  · intro j l' hj
    rw [hget] at hj
    cases hL : L[j]? with
    | none => rw [hL] at hj; cases hj
    | some m =>
      rw [hL] at hj
      simp only [Option.map_some, Option.some.injEq] at hj
      subst hj
      exact (h.nodup j m hL).filter _
  · intro j j' l1 l2 c h1 h2 m1 m2
    rw [hget] at h1 h2
    cases hL1 : L[j]? with
    | none => rw [hL1] at h1; cases h1
    | some a =>
      cases hL2 : L[j']? with
      | none => rw [hL2] at h2; cases h2
      | some a' =>
        rw [hL1] at h1; rw [hL2] at h2
        simp only [Option.map_some, Option.some.injEq] at h1 h2
        subst h1; subst h2
        exact h.apart j j' a a' c hL1 hL2 (List.mem_filter.1 m1).1 (List.mem_filter.1 m2).1
  · intro j l' c hj hc
    rw [hget] at hj
    cases hL : L[j]? with
    | none => rw [hL] at hj; cases hj
    | some m =>
      rw [hL] at hj
      simp only [Option.map_some, Option.some.injEq] at hj
      subst hj
      exact h.lt j m c hL (List.mem_filter.1 hc).1
def lkPush (L : List (List Nat)) (k b : Nat) : List (List Nat) := L.modify k (b :: ·)
def atPush (at_ en : Nat → Nd) (k b : Nat) : Nat → Nd :=
  let a1 := upF at_ b ⟨k, -1, (en k).li⟩
  if (en k).li = -1 then a1 else upF a1 (en k).li.toNat { a1 (en k).li.toNat with ah := b }
def enPush (en : Nat → Nd) (k b : Nat) : Nat → Nd := upF en k ⟨b, if (en k).li = -1 then b else (en k).ah, (en k).be + 1⟩
theorem Link.push {L : List (List Nat)} {at_ en : Nat → Nd} (h : Link L at_ en) {b k : Nat} {l : List Nat} (hk : L[k]? = some l) (hb : ∀ l ∈ L, b ∉ l) (hlt : b < 64) : Link (lkPush L k b) (atPush at_ en k b) (enPush en k b) := by
  have hget : ∀ j : Nat, (lkPush L k b)[j]? = if j = k then (L[j]?).map (b :: ·) else L[j]? := fun j => by
    simp only [lkPush, List.getElem?_modify]
    by_cases hj : k = j
    · subst hj; simp
    · rw [if_neg (Ne.symm hj)]; simp [hj]
  have hbl : b ∉ l := hb l (List.mem_of_getElem? hk)
  have hen : (en k).li = fsN l := by rw [h.ends k l hk]
  have hat : ∀ c, c ≠ b → (atPush at_ en k b) c = ⟨(at_ c).li, if fsN l ≠ -1 ∧ (c : Int) = fsN l then b else (at_ c).ah, (at_ c).be⟩ := by
    intro c hc
    unfold atPush
    cases l with
    | nil =>
      have he : (en k).li = -1 := by rw [hen]; rfl
      simp only [he, if_true]
      rw [upF_ne _ _ hc]
      simp [fsN_nil]
    | cons y t =>
      have hne : ¬ ((en k).li = -1) := by rw [hen, fsN_cons]; omega
      have htn : (en k).li.toNat = y := by rw [hen, fsN_cons]; simp
      simp only [hne, if_false, htn, fsN_cons]
      have h1 : ¬ ((y : Int) = -1) := by omega
      by_cases hcy : c = y
      · subst hcy; rw [upF_same, upF_ne _ _ hc]; simp
      · rw [upF_ne _ _ hcy, upF_ne _ _ hc]
        have : ¬ ((c : Int) = y) := by omega
        simp [this]
  have hatb : (atPush at_ en k b) b = ⟨k, -1, fsN l⟩ := by
    unfold atPush
    cases l with
    | nil =>
      have he : (en k).li = -1 := by rw [hen]; rfl
      simp only [he, if_true]
      rw [upF_same]; rfl
    | cons y t =>
      have hne : ¬ ((en k).li = -1) := by rw [hen, fsN_cons]; omega
      have htn : (en k).li.toNat = y := by rw [hen, fsN_cons]; simp
      have hny : b ≠ y := fun e => hbl (by simp [e])
      simp only [hne, if_false, htn]
      rw [upF_ne _ _ hny, upF_same, hen]
  constructor
  · intro j l' hj
    rw [hget] at hj
    by_cases hjk : j = k
    · subst hjk
      rw [if_pos rfl, hk] at hj
      simp only [Option.map_some, Option.some.injEq] at hj
      subst hj
      unfold enPush
      rw [upF_same, hen, h.ends j l hk]
      simp only [fsN_cons, Nd.mk.injEq, true_and]
      refine ⟨?_, by simp⟩
      cases l with
      | nil => simp [fsN_nil, lsN]
      | cons y t =>
        rw [if_neg (fun e => by cases (fsN_neg.1 e))]
        rw [show b :: y :: t = [b] ++ y :: t from rfl, lsN_cons_app]
    · rw [if_neg hjk] at hj
      unfold enPush
      rw [upF_ne _ _ hjk]; exact h.ends j l' hj
  · intro j l' c hj hc
    rw [hget] at hj
    by_cases hjk : j = k
    · subst hjk
      rw [if_pos rfl, hk] at hj
      simp only [Option.map_some, Option.some.injEq] at hj
      subst hj
      rcases List.mem_cons.1 hc with rfl | hc
      · rw [hatb]
        have e1 := prv_split (xs := []) (ys := l) (c := c) (by simp)
        have e2 := nxt_split (xs := []) (ys := l) (c := c) (by simp)
        simp only [List.nil_append] at e1 e2
        rw [e1, e2]; rfl
      · have hcb : c ≠ b := fun e => hbl (e ▸ hc)
        rw [hat c hcb, h.node j l c hk hc]
        obtain ⟨us, t, rfl, hu, ht⟩ := mem_split hc (h.nodup j l hk)
        have e1 : prv (b :: (us ++ c :: t)) c = lsN (b :: us) := by
          rw [show b :: (us ++ c :: t) = (b :: us) ++ c :: t by simp]; exact prv_split (by simp [hcb, hu])
        have e2 : nxt (b :: (us ++ c :: t)) c = fsN t := by
          rw [show b :: (us ++ c :: t) = (b :: us) ++ c :: t by simp]; exact nxt_split (by simp [hcb, hu])
        rw [e1, e2, prv_split hu, nxt_split hu]
        simp only [Nd.mk.injEq, true_and, and_true]
        cases us with
        | nil => rw [if_pos ⟨fun e => absurd (fsN_neg.1 e) (by simp), rfl⟩]; rfl
        | cons z us =>
          rw [if_neg]
          · rw [show b :: z :: us = [b] ++ z :: us from rfl, lsN_cons_app]
          · rintro ⟨_, e⟩
            simp only [List.cons_append, fsN_cons] at e
            have : c = z := by omega
            exact hu (by simp [this])
    · rw [if_neg hjk] at hj
      have hcb : c ≠ b := fun e => hb l' (List.mem_of_getElem? hj) (e ▸ hc)
      rw [hat c hcb, h.node j l' c hj hc, if_neg]
      rintro ⟨hne, e⟩
      cases l with
      | nil => exact hne rfl
      | cons y t =>
        simp only [fsN_cons] at e
        have : c = y := by omega
        subst this
        exact hjk (h.apart j k l' _ c hj hk hc (by simp))
  · intro c hc hfree
    have hcb : c ≠ b := by
      rintro rfl
      refine hfree (c :: l) ?_ (by simp)
      have : (lkPush L k c)[k]? = some (c :: l) := by rw [hget, if_pos rfl, hk]; rfl
      exact List.mem_of_getElem? this
    rw [hat c hcb]
    refine h.free c hc fun l' hl' hm => ?_
    obtain ⟨j, hj⟩ := List.getElem?_of_mem hl'
    by_cases hjk : j = k
    · subst hjk
      have : (lkPush L j b)[j]? = some (b :: l') := by rw [hget, if_pos rfl, hj]; rfl
      exact hfree _ (List.mem_of_getElem? this) (by simp [hm])
    · have : (lkPush L k b)[j]? = some l' := by rw [hget, if_neg hjk, hj]
      exact hfree _ (List.mem_of_getElem? this) hm
  · intro j l' hj
    rw [hget] at hj
    by_cases hjk : j = k
    · subst hjk
      rw [if_pos rfl, hk] at hj
      simp only [Option.map_some, Option.some.injEq] at hj
      subst hj
      exact List.nodup_cons.2 ⟨hbl, h.nodup j l hk⟩
    · rw [if_neg hjk] at hj; exact h.nodup j l' hj
  · intro j j' l1 l2 c h1 h2 m1 m2
    rw [hget] at h1 h2
    have key : ∀ (j : Nat) (l1 : List Nat), (if j = k then (L[j]?).map (b :: ·) else L[j]?) = some l1 → c ∈ l1 → (c = b ∧ j = k) ∨ (c ≠ b ∧ ∃ l0, L[j]? = some l0 ∧ c ∈ l0) := by
      intro j l1 h1 m1
      by_cases hjk : j = k
      · subst hjk
        rw [if_pos rfl, hk] at h1
        simp only [Option.map_some, Option.some.injEq] at h1
        subst h1
        rcases List.mem_cons.1 m1 with rfl | m1
        · exact .inl ⟨rfl, rfl⟩
        · exact .inr ⟨fun e => hbl (e ▸ m1), l, hk, m1⟩
      · rw [if_neg hjk] at h1
        exact .inr ⟨fun e => hb l1 (List.mem_of_getElem? h1) (e ▸ m1), l1, h1, m1⟩
    rcases key j l1 h1 m1 with ⟨e1, e2⟩ | ⟨e1, a, ha, hm⟩ <;> rcases key j' l2 h2 m2 with ⟨e3, e4⟩ | ⟨e3, a', ha', hm'⟩
    · rw [e2, e4]
    · exact absurd e1 e3
    · exact absurd e3 e1
    · exact h.apart j j' a a' c ha ha' hm hm'
  · intro j l' c hj hc
    rw [hget] at hj
    by_cases hjk : j = k
    · subst hjk
      rw [if_pos rfl, hk] at hj
      simp only [Option.map_some, Option.some.injEq] at hj
      subst hj
      rcases List.mem_cons.1 hc with rfl | hc
      · exact hlt
      · exact h.lt j l c hk hc
    · rw [if_neg hjk] at hj; exact h.lt j l' c hj hc
end Go.Gd
namespace Go.Gd
open Go.Instr
section
variable {w0 : World} {L : List HP}
theorem run_fieldZ {t : TypeId} {i : Nat} [FldO t i 0] (b o : Nat) : Run w0 L (fieldAt t (.pointer (some ⟨b, o, none⟩)) i) (.pointer (some ⟨b, o, none⟩)) := run_field (off := 0) b o
theorem run_field0 {t : TypeId} {i off : Nat} [FldO t i off] (b : Nat) : Run w0 L (fieldAt t (.pointer (some ⟨b, 0, none⟩)) i) (.pointer (some ⟨b, off, none⟩)) := fun w hw => by
  rw [run_field b 0 w hw, Nat.zero_add]
theorem run_indexA0 {t e : TypeId} {n len : Nat} [ElA t len e n] {b : Nat} {k : IntKind} {i : Int} (m : Nat) (hi : i = m) (hl : m < len) : Run w0 L (indexAt t (.pointer (some ⟨b, 0, none⟩)) (.int k i)) (.pointer (some ⟨b, m * n, none⟩)) := fun w hw => by
  rw [run_indexA m hi hl w hw, Nat.zero_add]
theorem run_indexS0 {t e : TypeId} {n : Nat} [ElS t e n] {b len cap : Nat} {k : IntKind} {i : Int} (m : Nat) (hi : i = m) (hl : m < len) : Run w0 L (indexAt t (.slice (some ⟨b, 0, none⟩) len cap) (.int k i)) (.pointer (some ⟨b, m * n, none⟩)) := fun w hw => by
  rw [run_indexS m hi hl w hw, Nat.zero_add]
theorem ent_st0 {t : TypeId} [Siz t 1] {b o : Nat} {T : TypeId} {l l' : List Value} {v : Value} {K : World → Prop} (hv : v.oneCell' = true) (ho : o < l.length) (hl : l.set o v = l')
    (h : Ent w0 (pt b T l' :: L) K) : Ent w0 (pt b T l :: L) (hU P (storeAt t (.pointer (some ⟨b, o, none⟩)) v) K) := ent_store 0 rfl hv ho (hl ▸ h)
theorem ent_sa0 {t : TypeId} {n : Nat} [Siz t n] {b o : Nat} {T : TypeId} {l l' vs : List Value} {K : World → Prop} (hn : vs.length = n) (hv : ∀ u ∈ vs, u.oneCell' = true) (ho : o + n ≤ l.length) (hl : setL l o vs = l')
    (h : Ent w0 (pt b T l' :: L) K) : Ent w0 (pt b T l :: L) (hU P (storeAt t (.pointer (some ⟨b, o, none⟩)) (.agg vs.toArray)) K) := ent_storeL (v := .agg vs.toArray) 0 rfl hn hv ho (hl ▸ h)
theorem ent_st1 {A0 : HP} {t : TypeId} [Siz t 1] {b o : Nat} {T : TypeId} {l l' : List Value} {v : Value} {K : World → Prop} (hv : v.oneCell' = true) (ho : o < l.length) (hl : l.set o v = l')
    (h : Ent w0 (A0 :: pt b T l' :: L) K) : Ent w0 (A0 :: pt b T l :: L) (hU P (storeAt t (.pointer (some ⟨b, o, none⟩)) v) K) := ent_store 1 rfl hv ho (hl ▸ h)
theorem ent_sa1 {A0 : HP} {t : TypeId} {n : Nat} [Siz t n] {b o : Nat} {T : TypeId} {l l' vs : List Value} {K : World → Prop} (hn : vs.length = n) (hv : ∀ u ∈ vs, u.oneCell' = true) (ho : o + n ≤ l.length) (hl : setL l o vs = l')
    (h : Ent w0 (A0 :: pt b T l' :: L) K) : Ent w0 (A0 :: pt b T l :: L) (hU P (storeAt t (.pointer (some ⟨b, o, none⟩)) (.agg vs.toArray)) K) := ent_storeL (v := .agg vs.toArray) 1 rfl hn hv ho (hl ▸ h)
theorem ent_st2 {A0 A1 : HP} {t : TypeId} [Siz t 1] {b o : Nat} {T : TypeId} {l l' : List Value} {v : Value} {K : World → Prop} (hv : v.oneCell' = true) (ho : o < l.length) (hl : l.set o v = l')
    (h : Ent w0 (A0 :: A1 :: pt b T l' :: L) K) : Ent w0 (A0 :: A1 :: pt b T l :: L) (hU P (storeAt t (.pointer (some ⟨b, o, none⟩)) v) K) := ent_store 2 rfl hv ho (hl ▸ h)
theorem ent_st3 {A0 A1 A2 : HP} {t : TypeId} [Siz t 1] {b o : Nat} {T : TypeId} {l l' : List Value} {v : Value} {K : World → Prop} (hv : v.oneCell' = true) (ho : o < l.length) (hl : l.set o v = l')
    (h : Ent w0 (A0 :: A1 :: A2 :: pt b T l' :: L) K) : Ent w0 (A0 :: A1 :: A2 :: pt b T l :: L) (hU P (storeAt t (.pointer (some ⟨b, o, none⟩)) v) K) := ent_store 3 rfl hv ho (hl ▸ h)
theorem Ent.to1 {A0 A1 : HP} {X : World → Prop} (h : Ent w0 (A1 :: A0 :: L) X) : Ent w0 (A0 :: A1 :: L) X := Ent.at 1 rfl h
theorem Ent.to2 {A0 A1 A2 : HP} {X : World → Prop} (h : Ent w0 (A2 :: A0 :: A1 :: L) X) : Ent w0 (A0 :: A1 :: A2 :: L) X := Ent.at 2 rfl h
theorem Ent.to3 {A0 A1 A2 A3 : HP} {X : World → Prop} (h : Ent w0 (A3 :: A0 :: A1 :: A2 :: L) X) : Ent w0 (A0 :: A1 :: A2 :: A3 :: L) X := Ent.at 3 rfl h
end
def fl (n : Nat) (f : Nat → List Value) : List Value := (List.range n).flatMap f
theorem fl_succ (n : Nat) (f : Nat → List Value) : fl (n + 1) f = fl n f ++ f n := by simp [fl, List.range_succ]
theorem fl_len {k : Nat} {f : Nat → List Value} (hf : ∀ i, (f i).length = k) : ∀ n, (fl n f).length = n * k
  | 0 => by simp [fl]
  | n + 1 => by rw [fl_succ, List.length_append, fl_len hf n, hf, Nat.add_mul, Nat.one_mul]
theorem fl_get {k n : Nat} {f : Nat → List Value} {r : List Value} (hf : ∀ i, (f i).length = k) {i j : Nat} (hi : i < n) (hj : j < k) : (fl n f ++ r)[i * k + j]? = (f i)[j]? := by
  induction n generalizing r with
  | zero => omega
  | succ n ih =>
    rw [fl_succ, List.append_assoc]
    by_cases h : i < n
    · exact ih h
    · have : i = n := by omega
      subst this
      rw [List.getElem?_append_right (by rw [fl_len hf]; omega), fl_len hf, Nat.add_sub_cancel_left, List.getElem?_append_left (by rw [hf]; exact hj)]
theorem fl_congr {n : Nat} {f g : Nat → List Value} (h : ∀ i, i < n → f i = g i) : fl n f = fl n g := by
  induction n with
  | zero => rfl
  | succ n ih => rw [fl_succ, fl_succ, ih (fun i hi => h i (by omega)), h n (by omega)]
theorem fl_set {k n : Nat} {f : Nat → List Value} {r : List Value} (hf : ∀ i, (f i).length = k) {i j : Nat} (hi : i < n) (hj : j < k) (v : Value) : (fl n f ++ r).set (i * k + j) v = fl n (upF f i ((f i).set j v)) ++ r := by
  induction n generalizing r with
  | zero => omega
  | succ n ih =>
    rw [fl_succ, fl_succ, List.append_assoc, List.append_assoc]
    by_cases h : i < n
    · rw [ih h, upF_ne _ _ (by omega)]
    · have : i = n := by omega
      subst this
      rw [List.set_append_right _ _ (by rw [fl_len hf]; omega), fl_len hf, Nat.add_sub_cancel_left, List.set_append_left _ _ (by rw [hf]; exact hj), upF_same]
      congr 1
      exact fl_congr fun t ht => (upF_ne _ _ (by omega)).symm
def nd3 (n : Nd) : List Value := [.int .i64 n.li, .int .i64 n.ah, .int .i64 n.be]
def ndL (n : Nat) (f : Nat → Nd) : List Value := fl n fun b => nd3 (f b)
theorem nd3_len (f : Nat → Nd) : ∀ i, (nd3 (f i)).length = 3 := fun _ => rfl
theorem ndL_len (n : Nat) (f : Nat → Nd) : (ndL n f).length = n * 3 := fl_len (nd3_len f) n
section
variable {n : Nat} {f : Nat → Nd} {r : List Value} {b : Nat}
theorem nd_li (h : b < n) : (ndL n f ++ r)[b * 3]? = some (.int .i64 (f b).li) := fl_get (k := 3) (j := 0) (nd3_len f) h (by omega)
theorem nd_ah (h : b < n) : (ndL n f ++ r)[b * 3 + 1]? = some (.int .i64 (f b).ah) := fl_get (k := 3) (j := 1) (nd3_len f) h (by omega)
theorem nd_be (h : b < n) : (ndL n f ++ r)[b * 3 + 2]? = some (.int .i64 (f b).be) := fl_get (k := 3) (j := 2) (nd3_len f) h (by omega)
theorem nd_all (h : b < n) : ∀ j v, (nd3 (f b))[j]? = some v → (ndL n f ++ r)[b * 3 + j]? = some v := fun j v hj => by
  have : j < 3 := (List.getElem?_eq_some_iff.1 hj).1
  exact (fl_get (k := 3) (nd3_len f) h this).trans hj
theorem nd_up (x : Nd) : (fun c => nd3 (upF f b x c)) = upF (fun c => nd3 (f c)) b (nd3 x) := by
  funext c; unfold upF; split <;> rfl
theorem nd_s0 (h : b < n) (x : Int) : (ndL n f ++ r).set (b * 3) (.int .i64 x) = ndL n (upF f b { f b with li := x }) ++ r := by
  unfold ndL; rw [nd_up]; exact fl_set (k := 3) (j := 0) (nd3_len f) h (by omega) _
theorem nd_s1 (h : b < n) (x : Int) : (ndL n f ++ r).set (b * 3 + 1) (.int .i64 x) = ndL n (upF f b { f b with ah := x }) ++ r := by
  unfold ndL; rw [nd_up]; exact fl_set (k := 3) (j := 1) (nd3_len f) h (by omega) _
theorem nd_s2 (h : b < n) (x : Int) : (ndL n f ++ r).set (b * 3 + 2) (.int .i64 x) = ndL n (upF f b { f b with be := x }) ++ r := by
  unfold ndL; rw [nd_up]; exact fl_set (k := 3) (j := 2) (nd3_len f) h (by omega) _
theorem upF_up {α : Type} (f : Nat → α) (i : Nat) (x y : α) : upF (upF f i x) i y = upF f i y := by funext t; unfold upF; split <;> rfl
theorem nd_sa (h : b < n) (x : Nd) : setL (ndL n f ++ r) (b * 3) (nd3 x) = ndL n (upF f b x) ++ r := by
  unfold nd3 setL setL setL setL
  rw [nd_s0 h, nd_s1 h, nd_s2 h]
  simp only [upF_same, upF_up]
theorem nd_len (h : b < n) {j : Nat} (hj : j < 3) : b * 3 + j < (ndL n f ++ r).length := by rw [List.length_append, ndL_len]; omega
end
end Go.Gd
