/- Layer 15: which configurations are valid; the layout of a configuration. -/
import Derived.Test.YthakgbecpkfeoaaNb
set_option linter.unusedVariables false
set_option linter.unusedSimpArgs false
set_option maxRecDepth 100000
namespace Go.Proofs.Ythakgbecpkfeoaa.Ev

def h96 : List AV → Option (Prop × AV)
  | [.int .i64 n, .int .i64 lo, .int .i64 hi] => some (True, .bool (decide (lo ≤ n ∧ n ≤ hi)))
  | _ => none
theorem w96 : EnvOK Try.prog ⟨tys, (96, .pure h96) :: sp52⟩ := by
  refine addPure w52 (fn := Try.f96) (by kernel_rfl) (by kernel_rfl) (by kernel_rfl) ?_
  intro args p r h hp
  unfold h96 at h
  split at h
  · rename_i n lo hi
    simp only [Option.some.injEq, Prod.mk.injEq] at h
    obtain ⟨rfl, rfl⟩ := h
    conv => whnf
    split <;> conv => whnf
    all_goals refine ⟨_, rfl, Wk.eq ?_⟩
    all_goals simp only [decide_eq_true_eq, decide_eq_false_iff_not] at *
    all_goals simp only [AV.bool.injEq]
    all_goals grind
  · simp at h

def mayC (t l k s m : Int) : Bool := decide ((1 ≤ t ∧ t ≤ 4) ∧ (0 ≤ l ∧ l ≤ 32) ∧ (0 ≤ k ∧ k ≤ 8) ∧ (0 ≤ s ∧ s ≤ 512) ∧ (0 ≤ m ∧ m ≤ 3))
def h62 : List AV → Option (Prop × AV)
  | [.agg [.int .i64 t, .int .i64 l, .int .i64 k, .int .i64 s, .int .i64 m]] => some (True, .bool (mayC t l k s m))
  | _ => none
abbrev sp96 : List (Nat × Spec) := (96, .pure h96) :: sp52
theorem w62 : EnvOK Try.prog ⟨tys, (62, .pure h62) :: sp96⟩ := by
  refine addPure w96 (fn := Try.f62) (by kernel_rfl) (by kernel_rfl) (by kernel_rfl) ?_
  intro args p r h hp
  unfold h62 at h
  split at h
  · rename_i t l k s m
    simp only [Option.some.injEq, Prod.mk.injEq] at h
    obtain ⟨rfl, rfl⟩ := h
    conv => whnf
    repeat' (first | (refine ⟨trivial, ?_⟩; conv => whnf) | (split <;> conv => whnf))
    all_goals refine ⟨_, rfl, Wk.eq ?_⟩
    all_goals simp only [decide_eq_true_eq, decide_eq_false_iff_not] at *
    all_goals simp only [mayC, AV.bool.injEq]
    all_goals grind
  · simp at h

def h61 := h62
abbrev sp62 : List (Nat × Spec) := (62, .pure h62) :: sp96
theorem w61 : EnvOK Try.prog ⟨tys, (61, .pure h61) :: sp62⟩ := by
  refine addPure w62 (fn := Try.f61) (by kernel_rfl) (by kernel_rfl) (by kernel_rfl) ?_
  intro args p r h hp
  unfold h61 h62 at h
  split at h
  · rename_i t l k s m
    simp only [Option.some.injEq, Prod.mk.injEq] at h
    obtain ⟨rfl, rfl⟩ := h
    conv => whnf
    repeat' (split <;> conv => whnf)
    all_goals refine ⟨_, rfl, Wk.eq ?_⟩
    all_goals simp only [decide_eq_true_eq, decide_eq_false_iff_not] at *
    all_goals simp only [mayC, AV.bool.injEq]
    all_goals grind
  · simp at h

def h63 : List AV → List (List AV) → Option (Prop × Out × List (List AV))
  | [.int .i64 n, .ptr 1000 0], [[.int .i64 a]] => some ((0 ≤ n ∧ n ≤ 1000000) ∧ (0 ≤ a ∧ a ≤ 1000000), .ret (.int .i64 a), [[.int .i64 (a + n)]])
  | _, _ => none
abbrev sp61 : List (Nat × Spec) := (61, .pure h61) :: sp62
theorem w63 : EnvOK Try.prog ⟨tys, (63, .full h63) :: sp61⟩ := by
  refine addFull w61 (fn := Try.f63) (by kernel_rfl) (by kernel_rfl) (by kernel_rfl) ?_
  intro args bs Q h
  unfold detS h63 at h
  split at h
  · rename_i p out bs' hs
    split at hs
    · rename_i n a
      simp only [Option.some.injEq, Prod.mk.injEq] at hs
      obtain ⟨rfl, rfl, rfl⟩ := hs
      obtain ⟨⟨hn, ha⟩, hQ⟩ := h
      conv => whnf
      have h1 : IntKind.i64.wrap (a + n) = a + n := wrap_small (by omega) (by omega)
      rw [h1]
      have h2 : IntKind.i64.wrap (a + n - n) = a := by rw [wrap_small (by omega) (by omega)]; omega
      rw [h2]
      exact hQ
    · simp at hs
  · exact h.elim

/-- The cells of a layout, or zeros. -/
def ofI (b : Bool) (x : Int) : Int := if b then x else 0
def ofErr (b : Bool) : Int := if b then 0 else 1
def layV (b : Bool) (t l k s m : Int) : List AV :=
  [.int .i64 (ofI b t), .int .i64 (ofI b l), .int .i64 (ofI b k), .int .i64 (ofI b s), .int .i64 (ofI b m), .int .i64 (ofI b 0), .int .i64 (ofI b 1), .int .i64 (ofI b 2), .int .i64 (ofI b 3), .int .i64 (ofI b 4),
    .int .i64 (ofI b (4 + 4 * t)), .int .i64 (ofI b (4 + 4 * t + k)), .int .i64 (ofI b (4 + 4 * t + k + 4 * l))]
def h25 : List AV → Option (Prop × AV)
  | [.agg [.int .i64 t, .int .i64 l, .int .i64 k, .int .i64 s, .int .i64 m]] => some (True, .tup [.agg (layV (mayC t l k s m) t l k s m), .int .i64 (ofErr (mayC t l k s m))])
  | _ => none
theorem mayC_of {t l k s m : Int} (h : mayC t l k s m = true) : (1 ≤ t ∧ t ≤ 4) ∧ (0 ≤ l ∧ l ≤ 32) ∧ (0 ≤ k ∧ k ≤ 8) ∧ (0 ≤ s ∧ s ≤ 512) ∧ (0 ≤ m ∧ m ≤ 3) := by simpa [mayC] using h

abbrev sp63 : List (Nat × Spec) := (63, .full h63) :: sp61
theorem w25 : EnvOK Try.prog ⟨tys, (25, .pure h25) :: sp63⟩ := by
  refine addPure w63 (fn := Try.f25) (by kernel_rfl) (by kernel_rfl) (by kernel_rfl) ?_
  intro args p r h hp
  unfold h25 at h
  split at h
  · rename_i t l k s m
    simp only [Option.some.injEq, Prod.mk.injEq] at h
    obtain ⟨rfl, rfl⟩ := h
    conv => whnf
    refine ⟨trivial, ?_⟩
    cases hb : mayC t l k s m with
    | false =>
      conv => whnf
      exact ⟨_, rfl, Wk.eq rfl⟩
    | true =>
      obtain ⟨ht, hl, hk, hs, hm⟩ := mayC_of hb
      conv => whnf
      apply DrawVC.mix
      conv => whnf
      have hw1 : IntKind.i64.wrap (4 * t) = 4 * t := wrap_small (by omega) (by omega)
      have hw2 : IntKind.i64.wrap (4 * l) = 4 * l := wrap_small (by omega) (by omega)
      iterate 7 (refine ⟨⟨⟨by omega, by omega⟩, by omega, by omega⟩, ?_⟩; conv => whnf)
      refine ⟨by kernel_rfl, ?_⟩
      conv => whnf
      refine ⟨_, rfl, Wk.eq ?_⟩
      simp [layV, ofI, ofErr, hw1, hw2]
  · simp at h

end Go.Proofs.Ythakgbecpkfeoaa.Ev
