/- Layer 15: the example of the documentation. -/
import Derived.Test.YthakgbecpkfeoaaPd
set_option linter.unusedVariables false
set_option linter.unusedSimpArgs false
set_option maxRecDepth 100000
namespace Go.Proofs.Ythakgbecpkfeoaa.Ev

theorem may11 : mayC 1 1 0 0 0 = true := by decide
theorem may00 : mayC 0 0 0 0 0 = false := by decide
theorem may21 : mayC 2 1 0 9 2 = true := by decide
def h20 : List AV → Option (Prop × AV)
  | [] => some (True, .bool true)
  | _ => none
theorem w20 : EnvOK Try.prog ⟨tys, (20, .pure h20) :: sp34⟩ := by
  refine addPure w34 (fn := Try.f20) (by kernel_rfl) (by kernel_rfl) (by kernel_rfl) ?_
  intro args p r h hp
  unfold h20 at h
  split at h
  · simp only [Option.some.injEq, Prod.mk.injEq] at h
    obtain ⟨rfl, rfl⟩ := h
    conv => whnf
    refine ⟨trivial, ?_⟩
    rw [may11]
    conv => whnf
    refine ⟨trivial, ?_⟩
    rw [may00]
    conv => whnf
    refine ⟨trivial, ?_⟩
    conv => whnf
    refine ⟨⟨by decide, by decide⟩, ?_⟩
    conv => whnf
    iterate 5 (refine ⟨trivial, ?_⟩; conv => whnf)
    exact ⟨_, rfl, Wk.eq rfl⟩
  · simp at h
abbrev sp20 : List (Nat × Spec) := (20, .pure h20) :: sp34

end Go.Proofs.Ythakgbecpkfeoaa.Ev
