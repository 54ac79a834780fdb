/- Layer 15: the reference's layout; valid layouts; the configuration of a program. -/
import Derived.Test.YthakgbecpkfeoaaPa
set_option linter.unusedVariables false
set_option linter.unusedSimpArgs false
set_option maxRecDepth 100000
namespace Go.Proofs.Ythakgbecpkfeoaa.Ev

def h21 := h25
abbrev sp25 : List (Nat × Spec) := (25, .pure h25) :: sp63
theorem w21 : EnvOK Try.prog ⟨tys, (21, .pure h21) :: sp25⟩ := by
  refine addPure w25 (fn := Try.f21) (by kernel_rfl) (by kernel_rfl) (by kernel_rfl) ?_
  intro args p r h hp
  unfold h21 h25 at h
  split at h
  · rename_i t l k s m
    simp only [Option.some.injEq, Prod.mk.injEq] at h
    obtain ⟨rfl, rfl⟩ := h
    conv => whnf
    refine ⟨trivial, ?_⟩
    cases hb : mayC t l k s m with
    | false =>
      conv => whnf
      exact ⟨_, rfl, Wk.eq rfl⟩
    | true =>
      obtain ⟨ht, hl, hk, hs, hm⟩ := mayC_of hb
      have hw1 : IntKind.i64.wrap (4 * t) = 4 * t := wrap_small (by omega) (by omega)
      have hw2 : IntKind.i64.wrap (4 * l) = 4 * l := wrap_small (by omega) (by omega)
      have hw3 : IntKind.i64.wrap (4 + 4 * t) = 4 + 4 * t := wrap_small (by omega) (by omega)
      have hw4 : IntKind.i64.wrap (4 + 4 * t + k) = 4 + 4 * t + k := wrap_small (by omega) (by omega)
      have hw5 : IntKind.i64.wrap (4 + 4 * t + k + 4 * l) = 4 + 4 * t + k + 4 * l := wrap_small (by omega) (by omega)
      conv => whnf
      refine ⟨_, rfl, Wk.eq ?_⟩
      simp [layV, ofI, ofErr, hw1, hw2, hw3, hw4, hw5]
  · simp at h

/-- Is a layout its configuration's? -/
def layRight (t l k s m c st lg en th lk lo sz : Int) : Bool :=
  mayC t l k s m && decide (c = 0 ∧ st = 1 ∧ lg = 2 ∧ en = 3 ∧ th = 4 ∧ lk = 4 + 4 * t ∧ lo = 4 + 4 * t + k ∧ sz = 4 + 4 * t + k + 4 * l)
def h22 : List AV → Option (Prop × AV)
  | [.agg [.int .i64 t, .int .i64 l, .int .i64 k, .int .i64 s, .int .i64 m, .int .i64 c, .int .i64 st, .int .i64 lg, .int .i64 en, .int .i64 th, .int .i64 lk, .int .i64 lo, .int .i64 sz]] =>
    some (True, .bool (layRight t l k s m c st lg en th lk lo sz))
  | _ => none
abbrev sp21 : List (Nat × Spec) := (21, .pure h21) :: sp25
theorem w22 : EnvOK Try.prog ⟨tys, (22, .pure h22) :: sp21⟩ := by
  refine addPure w21 (fn := Try.f22) (by kernel_rfl) (by kernel_rfl) (by kernel_rfl) ?_
  intro args p r h hp
  unfold h22 at h
  split at h
  · rename_i t l k s m c st lg en th lk lo sz
    simp only [Option.some.injEq, Prod.mk.injEq] at h
    obtain ⟨rfl, rfl⟩ := h
    conv => whnf
    refine ⟨trivial, ?_⟩
    cases hb : mayC t l k s m with
    | false =>
      conv => whnf
      refine ⟨_, rfl, Wk.eq ?_⟩
      simp [layRight, hb]
    | true =>
      conv => whnf
      refine ⟨_, rfl, Wk.eq ?_⟩
      simp [layRight, hb, ofI]
      grind
  · simp at h

def forV (b : Bool) (t l k s m : Int) : List AV := [.int .i64 (ofI b t), .int .i64 (ofI b l), .int .i64 (ofI b k), .int .i64 (ofI b s), .int .i64 (ofI b m)]
def h23 : List AV → Option (Prop × AV)
  | [.agg [.undef, .sl .i64 ts, .sl .i64 cs, .sl .i64 ls, .sl .bl ops, .sl .bl du, .int .i64 k], .int .i64 s, .int .i64 m] =>
    some (True, .tup [.agg (forV (mayC ts.length ls.length k s m) ts.length ls.length k s m), .int .i64 (ofErr (mayC ts.length ls.length k s m))])
  | [.agg [.nil, .sl .i64 ts, .nil, .sl .i64 ls, .nil, .nil, .int .i64 k], .int .i64 s, .int .i64 m] =>
    some (True, .tup [.agg (forV (mayC ts.length ls.length k s m) ts.length ls.length k s m), .int .i64 (ofErr (mayC ts.length ls.length k s m))])
  | _ => none
abbrev sp22 : List (Nat × Spec) := (22, .pure h22) :: sp21
theorem w23 : EnvOK Try.prog ⟨tys, (23, .pure h23) :: sp22⟩ := by
  refine addPure w22 (fn := Try.f23) (by kernel_rfl) (by kernel_rfl) (by kernel_rfl) ?_
  intro args p r h hp
  unfold h23 at h
  split at h
  · rename_i ts cs ls ops du k s m
    simp only [Option.some.injEq, Prod.mk.injEq] at h
    obtain ⟨rfl, rfl⟩ := h
    conv => whnf
    refine ⟨trivial, ?_⟩
    cases hb : mayC ts.length ls.length k s m <;> conv => whnf
    all_goals exact ⟨_, rfl, Wk.eq rfl⟩
  · rename_i ts ls k s m
    simp only [Option.some.injEq, Prod.mk.injEq] at h
    obtain ⟨rfl, rfl⟩ := h
    conv => whnf
    refine ⟨trivial, ?_⟩
    cases hb : mayC ts.length ls.length k s m <;> conv => whnf
    all_goals exact ⟨_, rfl, Wk.eq rfl⟩
  · simp at h
def h24 := h23
abbrev sp23 : List (Nat × Spec) := (23, .pure h23) :: sp22
theorem w24 : EnvOK Try.prog ⟨tys, (24, .pure h24) :: sp23⟩ := by
  refine addPure w23 (fn := Try.f24) (by kernel_rfl) (by kernel_rfl) (by kernel_rfl) ?_
  intro args p r h hp
  unfold h24 h23 at h
  split at h
  · rename_i ts cs ls ops du k s m
    simp only [Option.some.injEq, Prod.mk.injEq] at h
    obtain ⟨rfl, rfl⟩ := h
    conv => whnf
    refine ⟨trivial, ?_⟩
    cases hb : mayC ts.length ls.length k s m <;> conv => whnf
    all_goals exact ⟨_, rfl, Wk.eq rfl⟩
  · rename_i ts ls k s m
    simp only [Option.some.injEq, Prod.mk.injEq] at h
    obtain ⟨rfl, rfl⟩ := h
    conv => whnf
    refine ⟨trivial, ?_⟩
    cases hb : mayC ts.length ls.length k s m <;> conv => whnf
    all_goals exact ⟨_, rfl, Wk.eq rfl⟩
  · simp at h
abbrev sp24 : List (Nat × Spec) := (24, .pure h24) :: sp23

end Go.Proofs.Ythakgbecpkfeoaa.Ev
