/- Layer 15: the cells of the nine kinds. -/
import Derived.Test.YthakgbecpkfeoaaPb
set_option linter.unusedVariables false
set_option linter.unusedSimpArgs false
set_option maxRecDepth 100000
namespace Go.Proofs.Ythakgbecpkfeoaa.Ev

/-- Element n's cell. -/
def cellA (from' many n sz at' : Int) : Int := if 0 ≤ n ∧ n < many then IntKind.i64.wrap (IntKind.i64.wrap (from' + IntKind.i64.wrap (sz * n)) + at') else -1
theorem cellA_lock (f m n : Int) : cellA f m n 1 0 = if 0 ≤ n ∧ n < m then IntKind.i64.wrap (f + n) else -1 := by
  unfold cellA
  split
  · simp only [IntKind.wrap_i64]; omega
  · rfl
def h64 : List AV → Option (Prop × AV)
  | [.int .i64 f, .int .i64 m, .int .i64 n, .sl .i64 [sz, a]] => some (True, .int .i64 (cellA f m n sz a))
  | [.int .i64 f, .int .i64 m, .int .i64 n, .nil] => some (True, .int .i64 (cellA f m n 1 0))
  | _ => none
theorem w64 : EnvOK Try.prog ⟨tys, (64, .pure h64) :: sp24⟩ := by
  refine addPure w24 (fn := Try.f64) (by kernel_rfl) (by kernel_rfl) (by kernel_rfl) ?_
  intro args p r h hp
  unfold h64 at h
  split at h
  · rename_i f m n sz a
    simp only [Option.some.injEq, Prod.mk.injEq] at h
    obtain ⟨rfl, rfl⟩ := h
    conv => whnf
    repeat' (first | (refine DrawVC.quiet (by kernel_rfl) ?_; conv => whnf) | (refine ⟨⟨by simp, by simp⟩, ?_⟩; conv => whnf) | (split <;> conv => whnf))
    all_goals refine ⟨_, rfl, Wk.eq ?_⟩
    all_goals simp only [decide_eq_true_eq, decide_eq_false_iff_not] at *
    all_goals simp [cellA, dflt_i64]
    all_goals grind
  · rename_i f m n
    simp only [Option.some.injEq, Prod.mk.injEq] at h
    obtain ⟨rfl, rfl⟩ := h
    conv => whnf
    repeat' (split <;> conv => whnf)
    all_goals refine ⟨_, rfl, Wk.eq ?_⟩
    all_goals simp only [decide_eq_true_eq, decide_eq_false_iff_not] at *
    all_goals simp [cellA]
    all_goals grind
  · simp at h

abbrev sp64 : List (Nat × Spec) := (64, .pure h64) :: sp24
def h26 : List AV → Option (Prop × AV)
  | [.agg [.int .i64 t, .int .i64 l, .int .i64 k, .int .i64 s, .int .i64 m, .int .i64 c, .int .i64 st, .int .i64 lg, .int .i64 en, .int .i64 th, .int .i64 lk, .int .i64 lo, .int .i64 sz], .int .i64 n] => some (True, .int .i64 (cellA th t n 4 0))
  | _ => none
theorem w26 : EnvOK Try.prog ⟨tys, (26, .pure h26) :: sp64⟩ := by
  refine addPure w64 (fn := Try.f26) (by kernel_rfl) (by kernel_rfl) (by kernel_rfl) ?_
  intro args p r h hp
  unfold h26 at h
  split at h
  · rename_i t l k s m c st lg en th lk lo sz n
    simp only [Option.some.injEq, Prod.mk.injEq] at h
    obtain ⟨rfl, rfl⟩ := h
    conv => whnf
    refine ⟨trivial, ?_⟩
    conv => whnf
    exact ⟨_, rfl, Wk.eq rfl⟩
  · simp at h
abbrev sp26 : List (Nat × Spec) := (26, .pure h26) :: sp64
def h65 : List AV → Option (Prop × AV)
  | [.agg [.int .i64 t, .int .i64 l, .int .i64 k, .int .i64 s, .int .i64 m, .int .i64 c, .int .i64 st, .int .i64 lg, .int .i64 en, .int .i64 th, .int .i64 lk, .int .i64 lo, .int .i64 sz], .int .i64 n] => some (True, .int .i64 (cellA th t n 4 1))
  | _ => none
theorem w65 : EnvOK Try.prog ⟨tys, (65, .pure h65) :: sp26⟩ := by
  refine addPure w26 (fn := Try.f65) (by kernel_rfl) (by kernel_rfl) (by kernel_rfl) ?_
  intro args p r h hp
  unfold h65 at h
  split at h
  · rename_i t l k s m c st lg en th lk lo sz n
    simp only [Option.some.injEq, Prod.mk.injEq] at h
    obtain ⟨rfl, rfl⟩ := h
    conv => whnf
    refine ⟨trivial, ?_⟩
    conv => whnf
    exact ⟨_, rfl, Wk.eq rfl⟩
  · simp at h
abbrev sp65 : List (Nat × Spec) := (65, .pure h65) :: sp26
def h66 : List AV → Option (Prop × AV)
  | [.agg [.int .i64 t, .int .i64 l, .int .i64 k, .int .i64 s, .int .i64 m, .int .i64 c, .int .i64 st, .int .i64 lg, .int .i64 en, .int .i64 th, .int .i64 lk, .int .i64 lo, .int .i64 sz], .int .i64 n] => some (True, .int .i64 (cellA th t n 4 2))
  | _ => none
theorem w66 : EnvOK Try.prog ⟨tys, (66, .pure h66) :: sp65⟩ := by
  refine addPure w65 (fn := Try.f66) (by kernel_rfl) (by kernel_rfl) (by kernel_rfl) ?_
  intro args p r h hp
  unfold h66 at h
  split at h
  · rename_i t l k s m c st lg en th lk lo sz n
    simp only [Option.some.injEq, Prod.mk.injEq] at h
    obtain ⟨rfl, rfl⟩ := h
    conv => whnf
    refine ⟨trivial, ?_⟩
    conv => whnf
    exact ⟨_, rfl, Wk.eq rfl⟩
  · simp at h
abbrev sp66 : List (Nat × Spec) := (66, .pure h66) :: sp65
def h60 : List AV → Option (Prop × AV)
  | [.agg [.int .i64 t, .int .i64 l, .int .i64 k, .int .i64 s, .int .i64 m, .int .i64 c, .int .i64 st, .int .i64 lg, .int .i64 en, .int .i64 th, .int .i64 lk, .int .i64 lo, .int .i64 sz], .int .i64 n] => some (True, .int .i64 (cellA th t n 4 3))
  | _ => none
theorem w60 : EnvOK Try.prog ⟨tys, (60, .pure h60) :: sp66⟩ := by
  refine addPure w66 (fn := Try.f60) (by kernel_rfl) (by kernel_rfl) (by kernel_rfl) ?_
  intro args p r h hp
  unfold h60 at h
  split at h
  · rename_i t l k s m c st lg en th lk lo sz n
    simp only [Option.some.injEq, Prod.mk.injEq] at h
    obtain ⟨rfl, rfl⟩ := h
    conv => whnf
    refine ⟨trivial, ?_⟩
    conv => whnf
    exact ⟨_, rfl, Wk.eq rfl⟩
  · simp at h
abbrev sp60 : List (Nat × Spec) := (60, .pure h60) :: sp66
def h29 : List AV → Option (Prop × AV)
  | [.agg [.int .i64 t, .int .i64 l, .int .i64 k, .int .i64 s, .int .i64 m, .int .i64 c, .int .i64 st, .int .i64 lg, .int .i64 en, .int .i64 th, .int .i64 lk, .int .i64 lo, .int .i64 sz], .int .i64 n] => some (True, .int .i64 (cellA lk k n 1 0))
  | _ => none
theorem w29 : EnvOK Try.prog ⟨tys, (29, .pure h29) :: sp60⟩ := by
  refine addPure w60 (fn := Try.f29) (by kernel_rfl) (by kernel_rfl) (by kernel_rfl) ?_
  intro args p r h hp
  unfold h29 at h
  split at h
  · rename_i t l k s m c st lg en th lk lo sz n
    simp only [Option.some.injEq, Prod.mk.injEq] at h
    obtain ⟨rfl, rfl⟩ := h
    conv => whnf
    refine ⟨trivial, ?_⟩
    conv => whnf
    exact ⟨_, rfl, Wk.eq rfl⟩
  · simp at h
abbrev sp29 : List (Nat × Spec) := (29, .pure h29) :: sp60
def h27 : List AV → Option (Prop × AV)
  | [.agg [.int .i64 t, .int .i64 l, .int .i64 k, .int .i64 s, .int .i64 m, .int .i64 c, .int .i64 st, .int .i64 lg, .int .i64 en, .int .i64 th, .int .i64 lk, .int .i64 lo, .int .i64 sz], .int .i64 n] => some (True, .int .i64 (cellA lo l n 4 0))
  | _ => none
theorem w27 : EnvOK Try.prog ⟨tys, (27, .pure h27) :: sp29⟩ := by
  refine addPure w29 (fn := Try.f27) (by kernel_rfl) (by kernel_rfl) (by kernel_rfl) ?_
  intro args p r h hp
  unfold h27 at h
  split at h
  · rename_i t l k s m c st lg en th lk lo sz n
    simp only [Option.some.injEq, Prod.mk.injEq] at h
    obtain ⟨rfl, rfl⟩ := h
    conv => whnf
    refine ⟨trivial, ?_⟩
    conv => whnf
    exact ⟨_, rfl, Wk.eq rfl⟩
  · simp at h
abbrev sp27 : List (Nat × Spec) := (27, .pure h27) :: sp29
def h50 : List AV → Option (Prop × AV)
  | [.agg [.int .i64 t, .int .i64 l, .int .i64 k, .int .i64 s, .int .i64 m, .int .i64 c, .int .i64 st, .int .i64 lg, .int .i64 en, .int .i64 th, .int .i64 lk, .int .i64 lo, .int .i64 sz], .int .i64 n] => some (True, .int .i64 (cellA lo l n 4 1))
  | _ => none
theorem w50 : EnvOK Try.prog ⟨tys, (50, .pure h50) :: sp27⟩ := by
  refine addPure w27 (fn := Try.f50) (by kernel_rfl) (by kernel_rfl) (by kernel_rfl) ?_
  intro args p r h hp
  unfold h50 at h
  split at h
  · rename_i t l k s m c st lg en th lk lo sz n
    simp only [Option.some.injEq, Prod.mk.injEq] at h
    obtain ⟨rfl, rfl⟩ := h
    conv => whnf
    refine ⟨trivial, ?_⟩
    conv => whnf
    exact ⟨_, rfl, Wk.eq rfl⟩
  · simp at h
abbrev sp50 : List (Nat × Spec) := (50, .pure h50) :: sp27
def h67 : List AV → Option (Prop × AV)
  | [.agg [.int .i64 t, .int .i64 l, .int .i64 k, .int .i64 s, .int .i64 m, .int .i64 c, .int .i64 st, .int .i64 lg, .int .i64 en, .int .i64 th, .int .i64 lk, .int .i64 lo, .int .i64 sz], .int .i64 n] => some (True, .int .i64 (cellA lo l n 4 2))
  | _ => none
theorem w67 : EnvOK Try.prog ⟨tys, (67, .pure h67) :: sp50⟩ := by
  refine addPure w50 (fn := Try.f67) (by kernel_rfl) (by kernel_rfl) (by kernel_rfl) ?_
  intro args p r h hp
  unfold h67 at h
  split at h
  · rename_i t l k s m c st lg en th lk lo sz n
    simp only [Option.some.injEq, Prod.mk.injEq] at h
    obtain ⟨rfl, rfl⟩ := h
    conv => whnf
    refine ⟨trivial, ?_⟩
    conv => whnf
    exact ⟨_, rfl, Wk.eq rfl⟩
  · simp at h
abbrev sp67 : List (Nat × Spec) := (67, .pure h67) :: sp50
def h28 : List AV → Option (Prop × AV)
  | [.agg [.int .i64 t, .int .i64 l, .int .i64 k, .int .i64 s, .int .i64 m, .int .i64 c, .int .i64 st, .int .i64 lg, .int .i64 en, .int .i64 th, .int .i64 lk, .int .i64 lo, .int .i64 sz], .int .i64 n] => some (True, .int .i64 (cellA lo l n 4 3))
  | _ => none
theorem w28 : EnvOK Try.prog ⟨tys, (28, .pure h28) :: sp67⟩ := by
  refine addPure w67 (fn := Try.f28) (by kernel_rfl) (by kernel_rfl) (by kernel_rfl) ?_
  intro args p r h hp
  unfold h28 at h
  split at h
  · rename_i t l k s m c st lg en th lk lo sz n
    simp only [Option.some.injEq, Prod.mk.injEq] at h
    obtain ⟨rfl, rfl⟩ := h
    conv => whnf
    refine ⟨trivial, ?_⟩
    conv => whnf
    exact ⟨_, rfl, Wk.eq rfl⟩
  · simp at h
abbrev sp28 : List (Nat × Spec) := (28, .pure h28) :: sp67
def h79 : List AV → Option (Prop × AV)
  | [.agg [.int .i64 t, .int .i64 l, .int .i64 k, .int .i64 s, .int .i64 m, .int .i64 c, .int .i64 st, .int .i64 lg, .int .i64 en, .int .i64 th, .int .i64 lk, .int .i64 lo, .int .i64 sz], .int .i64 n, .int .i64 i] => some (True, .int .i64 (cellA lo l n 4 i))
  | _ => none
theorem w79 : EnvOK Try.prog ⟨tys, (79, .pure h79) :: sp28⟩ := by
  refine addPure w28 (fn := Try.f79) (by kernel_rfl) (by kernel_rfl) (by kernel_rfl) ?_
  intro args p r h hp
  unfold h79 at h
  split at h
  · rename_i t l k s m c st lg en th lk lo sz n i
    simp only [Option.some.injEq, Prod.mk.injEq] at h
    obtain ⟨rfl, rfl⟩ := h
    conv => whnf
    repeat' (split <;> conv => whnf)
    all_goals refine ⟨_, rfl, Wk.eq ?_⟩
    all_goals simp only [decide_eq_true_eq, decide_eq_false_iff_not] at *
    all_goals simp [cellA]
    all_goals grind
  · simp at h
abbrev sp79 : List (Nat × Spec) := (79, .pure h79) :: sp28
def h97 : List AV → Option (Prop × AV)
  | [.agg [.int .i64 t, .int .i64 l, .int .i64 k, .int .i64 s, .int .i64 m, .int .i64 c, .int .i64 st, .int .i64 lg, .int .i64 en, .int .i64 th, .int .i64 lk, .int .i64 lo, .int .i64 sz], .int .i64 n, .int .i64 i] => some (True, .int .i64 (cellA th t n 4 i))
  | _ => none
theorem w97 : EnvOK Try.prog ⟨tys, (97, .pure h97) :: sp79⟩ := by
  refine addPure w79 (fn := Try.f97) (by kernel_rfl) (by kernel_rfl) (by kernel_rfl) ?_
  intro args p r h hp
  unfold h97 at h
  split at h
  · rename_i t l k s m c st lg en th lk lo sz n i
    simp only [Option.some.injEq, Prod.mk.injEq] at h
    obtain ⟨rfl, rfl⟩ := h
    conv => whnf
    repeat' (split <;> conv => whnf)
    all_goals refine ⟨_, rfl, Wk.eq ?_⟩
    all_goals simp only [decide_eq_true_eq, decide_eq_false_iff_not] at *
    all_goals simp [cellA]
    all_goals grind
  · simp at h
abbrev sp97 : List (Nat × Spec) := (97, .pure h97) :: sp79
def h68 := h26
theorem w68 : EnvOK Try.prog ⟨tys, (68, .pure h68) :: sp97⟩ := by
  refine addPure w97 (fn := Try.f68) (by kernel_rfl) (by kernel_rfl) (by kernel_rfl) ?_
  intro args p r h hp
  unfold h68 h26 at h
  split at h
  · rename_i t l k s m c st lg en th lk lo sz n
    simp only [Option.some.injEq, Prod.mk.injEq] at h
    obtain ⟨rfl, rfl⟩ := h
    conv => whnf
    refine ⟨trivial, ?_⟩
    conv => whnf
    exact ⟨_, rfl, Wk.eq rfl⟩
  · simp at h
abbrev sp68 : List (Nat × Spec) := (68, .pure h68) :: sp97
def h69 := h65
theorem w69 : EnvOK Try.prog ⟨tys, (69, .pure h69) :: sp68⟩ := by
  refine addPure w68 (fn := Try.f69) (by kernel_rfl) (by kernel_rfl) (by kernel_rfl) ?_
  intro args p r h hp
  unfold h69 h65 at h
  split at h
  · rename_i t l k s m c st lg en th lk lo sz n
    simp only [Option.some.injEq, Prod.mk.injEq] at h
    obtain ⟨rfl, rfl⟩ := h
    conv => whnf
    refine ⟨trivial, ?_⟩
    conv => whnf
    exact ⟨_, rfl, Wk.eq rfl⟩
  · simp at h
abbrev sp69 : List (Nat × Spec) := (69, .pure h69) :: sp68
def h70 := h66
theorem w70 : EnvOK Try.prog ⟨tys, (70, .pure h70) :: sp69⟩ := by
  refine addPure w69 (fn := Try.f70) (by kernel_rfl) (by kernel_rfl) (by kernel_rfl) ?_
  intro args p r h hp
  unfold h70 h66 at h
  split at h
  · rename_i t l k s m c st lg en th lk lo sz n
    simp only [Option.some.injEq, Prod.mk.injEq] at h
    obtain ⟨rfl, rfl⟩ := h
    conv => whnf
    refine ⟨trivial, ?_⟩
    conv => whnf
    exact ⟨_, rfl, Wk.eq rfl⟩
  · simp at h
abbrev sp70 : List (Nat × Spec) := (70, .pure h70) :: sp69
def h71 := h60
theorem w71 : EnvOK Try.prog ⟨tys, (71, .pure h71) :: sp70⟩ := by
  refine addPure w70 (fn := Try.f71) (by kernel_rfl) (by kernel_rfl) (by kernel_rfl) ?_
  intro args p r h hp
  unfold h71 h60 at h
  split at h
  · rename_i t l k s m c st lg en th lk lo sz n
    simp only [Option.some.injEq, Prod.mk.injEq] at h
    obtain ⟨rfl, rfl⟩ := h
    conv => whnf
    refine ⟨trivial, ?_⟩
    conv => whnf
    exact ⟨_, rfl, Wk.eq rfl⟩
  · simp at h
abbrev sp71 : List (Nat × Spec) := (71, .pure h71) :: sp70
def h73 := h27
theorem w73 : EnvOK Try.prog ⟨tys, (73, .pure h73) :: sp71⟩ := by
  refine addPure w71 (fn := Try.f73) (by kernel_rfl) (by kernel_rfl) (by kernel_rfl) ?_
  intro args p r h hp
  unfold h73 h27 at h
  split at h
  · rename_i t l k s m c st lg en th lk lo sz n
    simp only [Option.some.injEq, Prod.mk.injEq] at h
    obtain ⟨rfl, rfl⟩ := h
    conv => whnf
    refine ⟨trivial, ?_⟩
    conv => whnf
    exact ⟨_, rfl, Wk.eq rfl⟩
  · simp at h
abbrev sp73 : List (Nat × Spec) := (73, .pure h73) :: sp71
def h53 := h50
theorem w53 : EnvOK Try.prog ⟨tys, (53, .pure h53) :: sp73⟩ := by
  refine addPure w73 (fn := Try.f53) (by kernel_rfl) (by kernel_rfl) (by kernel_rfl) ?_
  intro args p r h hp
  unfold h53 h50 at h
  split at h
  · rename_i t l k s m c st lg en th lk lo sz n
    simp only [Option.some.injEq, Prod.mk.injEq] at h
    obtain ⟨rfl, rfl⟩ := h
    conv => whnf
    refine ⟨trivial, ?_⟩
    conv => whnf
    exact ⟨_, rfl, Wk.eq rfl⟩
  · simp at h
abbrev sp53 : List (Nat × Spec) := (53, .pure h53) :: sp73
def h74 := h67
theorem w74 : EnvOK Try.prog ⟨tys, (74, .pure h74) :: sp53⟩ := by
  refine addPure w53 (fn := Try.f74) (by kernel_rfl) (by kernel_rfl) (by kernel_rfl) ?_
  intro args p r h hp
  unfold h74 h67 at h
  split at h
  · rename_i t l k s m c st lg en th lk lo sz n
    simp only [Option.some.injEq, Prod.mk.injEq] at h
    obtain ⟨rfl, rfl⟩ := h
    conv => whnf
    refine ⟨trivial, ?_⟩
    conv => whnf
    exact ⟨_, rfl, Wk.eq rfl⟩
  · simp at h
abbrev sp74 : List (Nat × Spec) := (74, .pure h74) :: sp53
def h75 := h28
theorem w75 : EnvOK Try.prog ⟨tys, (75, .pure h75) :: sp74⟩ := by
  refine addPure w74 (fn := Try.f75) (by kernel_rfl) (by kernel_rfl) (by kernel_rfl) ?_
  intro args p r h hp
  unfold h75 h28 at h
  split at h
  · rename_i t l k s m c st lg en th lk lo sz n
    simp only [Option.some.injEq, Prod.mk.injEq] at h
    obtain ⟨rfl, rfl⟩ := h
    conv => whnf
    refine ⟨trivial, ?_⟩
    conv => whnf
    exact ⟨_, rfl, Wk.eq rfl⟩
  · simp at h
abbrev sp75 : List (Nat × Spec) := (75, .pure h75) :: sp74
def h72 := h29
theorem w72 : EnvOK Try.prog ⟨tys, (72, .pure h72) :: sp75⟩ := by
  refine addPure w75 (fn := Try.f72) (by kernel_rfl) (by kernel_rfl) (by kernel_rfl) ?_
  intro args p r h hp
  unfold h72 h29 at h
  split at h
  · rename_i t l k s m c st lg en th lk lo sz n
    simp only [Option.some.injEq, Prod.mk.injEq] at h
    obtain ⟨rfl, rfl⟩ := h
    conv => whnf
    repeat' (split <;> conv => whnf)
    all_goals refine ⟨_, rfl, Wk.eq ?_⟩
    all_goals simp only [decide_eq_true_eq, decide_eq_false_iff_not] at *
    all_goals simp [cellA_lock]
    all_goals grind
  · simp at h
abbrev sp72 : List (Nat × Spec) := (72, .pure h72) :: sp75

end Go.Proofs.Ythakgbecpkfeoaa.Ev
