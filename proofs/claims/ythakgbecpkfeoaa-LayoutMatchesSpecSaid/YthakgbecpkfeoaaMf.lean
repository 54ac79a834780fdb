/- Layer 2: equal slices; the example of the documentation. -/
import Derived.Test.YthakgbecpkfeoaaMe
set_option linter.unusedVariables false
set_option linter.unusedSimpArgs false
set_option maxRecDepth 100000
namespace Go.Proofs.Ythakgbecpkfeoaa.Ev

abbrev sp43 : List (Nat × Spec) := (43, .pure h43) :: sp42
def h78 : List AV → Option (Prop × AV)
  | [.sl .i64 a, .sl .i64 b] => some (a.length ≤ 1000000, .bool (decide (a = b)))
  | _ => none

theorem w78 : EnvOK Try.prog ⟨tys, (78, .pure h78) :: sp43⟩ := by
  refine addPure w43 (fn := Try.f78) (by kernel_rfl) (by kernel_rfl) (by kernel_rfl) ?_
  intro args p r h hp
  unfold h78 at h
  split at h
  · rename_i a b
    simp only [Option.some.injEq, Prod.mk.injEq] at h
    obtain ⟨rfl, rfl⟩ := h
    conv => whnf
    split
    · rename_i he
      conv => whnf
      refine ⟨_, rfl, Wk.eq ?_⟩
      have : a ≠ b := by intro e; subst e; simp at he
      simp [this]
    · rename_i he
      have he : a.length = b.length := by have := he; simp at this; omega
      conv => whnf
      refine LoopVC.intro [] (fun i : Nat => [.sl .i64 a, .sl .i64 b, .undef, .undef, .bool false, .undef, .undef, .undef, .undef, .undef, .undef, .undef, .int .i64 a.length, .int .i64 i, .undef, .undef, .undef, .undef, .undef, .undef, .undef, .undef, .undef, .undef, .undef, .undef])
        (fun i => []) (fun i => i ≤ a.length ∧ upto 0 a b i) (fun i => a.length - i) 0 ⟨by omega, fun j hj => by omega⟩ ⟨?_, rfl⟩ ?_
      · repeat' (first | exact WeakL.nil | refine WeakL.cons ?_ ?_ | exact Weak1.undef _ | exact Weak1.same _)
      rintro i ⟨hi, hu⟩
      conv => whnf
      split
      · rename_i hlt
        have hlt : i < a.length := by simpa using hlt
        conv => whnf
        refine DrawVC.quiet (by kernel_rfl) ?_
        conv => whnf
        refine ⟨⟨by omega, by omega⟩, ?_⟩
        conv => whnf
        refine ⟨⟨by omega, by omega⟩, ?_⟩
        conv => whnf
        split
        · rename_i hne
          conv => whnf
          refine ⟨_, rfl, Wk.eq ?_⟩
          have : a ≠ b := by intro e; subst e; simp at hne
          simp [this]
        · rename_i heq
          conv => whnf
          have hw : IntKind.i64.wrap ((i : Int) + 1) = ((i + 1 : Nat) : Int) := by rw [wrap_small (by omega) (by omega)]; rfl
          refine ⟨i + 1, by omega, ⟨by omega, upto_succ hu (by simpa [dflt_i64] using heq)⟩, ⟨?_, rfl⟩⟩
          rw [hw]
          repeat' (first | exact WeakL.nil | refine WeakL.cons ?_ ?_ | exact Weak1.undef _ | exact Weak1.same _)
      · rename_i hge
        have hge : i = a.length := by have : ¬ i < a.length := by simpa using hge
                                      omega
        conv => whnf
        refine ⟨_, rfl, Wk.eq ?_⟩
        subst hge
        have := upto_all he hu
        simp [this]
  · simp at h

def h41 := h42
theorem w41 : EnvOK Try.prog ⟨tys, (41, .pure h41) :: (78, .pure h78) :: sp43⟩ := by
  refine addPure w78 (fn := Try.f41) (by kernel_rfl) (by kernel_rfl) (by kernel_rfl) ?_
  intro args p r h hp
  unfold h41 h42 at h
  split at h
  · rename_i a b
    simp only [Option.some.injEq, Prod.mk.injEq] at h
    obtain ⟨rfl, rfl⟩ := h
    conv => whnf
    refine ⟨hp, ?_⟩
    conv => whnf
    exact ⟨_, rfl, Wk.eq rfl⟩
  · simp at h

abbrev sp41 : List (Nat × Spec) := (41, .pure h41) :: (78, .pure h78) :: sp43
def exL : List Acc := [⟨3, 0, 5, 7, ⟨#[]⟩⟩, ⟨3, 0, 5, 7, ⟨#[]⟩⟩, ⟨4, 0, 0, 3, ⟨#[]⟩⟩, ⟨1, 0, 0, 0, ⟨#[]⟩⟩, ⟨2, 0, 0, 1, ⟨#[]⟩⟩]
theorem exrun : runA [5] exL = .inr ([1], [⟨5, true⟩, ⟨7, false⟩, ⟨7, true⟩, ⟨10, true⟩, ⟨10, true⟩]) := by
  simp [exL, runA, doAcc, doA, rightA, nextA, empty_list, wrap_small]
theorem exM : allM [5] [⟨3, 0, 5, 7, ⟨#[]⟩⟩, ⟨3, 0, 5, 7, ⟨#[]⟩⟩, ⟨4, 0, 0, 3, ⟨#[]⟩⟩, ⟨1, 0, 0, 0, ⟨#[]⟩⟩, ⟨2, 0, 0, 1, ⟨#[]⟩⟩] = [1] := by
  have := exrun; unfold exL at this; simp only [allM, this]
theorem exR : allR [5] [⟨3, 0, 5, 7, ⟨#[]⟩⟩, ⟨3, 0, 5, 7, ⟨#[]⟩⟩, ⟨4, 0, 0, 3, ⟨#[]⟩⟩, ⟨1, 0, 0, 0, ⟨#[]⟩⟩, ⟨2, 0, 0, 1, ⟨#[]⟩⟩] = [⟨5, true⟩, ⟨7, false⟩, ⟨7, true⟩, ⟨10, true⟩, ⟨10, true⟩] := by
  have := exrun; unfold exL at this; simp only [allR, this]
theorem exE : allE [5] [⟨3, 0, 5, 7, ⟨#[]⟩⟩, ⟨3, 0, 5, 7, ⟨#[]⟩⟩, ⟨4, 0, 0, 3, ⟨#[]⟩⟩, ⟨1, 0, 0, 0, ⟨#[]⟩⟩, ⟨2, 0, 0, 1, ⟨#[]⟩⟩] = 0 := by
  have := exrun; unfold exL at this; simp only [allE, this]
theorem ex1 : doA [5] 1 1 0 0 ⟨#[]⟩ = ([5], ⟨0, false⟩, 8) := by simp [doA, rightA, empty_list]
theorem ex2 : doA [5] 1 0 0 1 ⟨#[]⟩ = ([5], ⟨0, false⟩, 1) := by simp [doA, rightA, empty_list]
def h36 : List AV → Option (Prop × AV)
  | [] => some (True, .bool true)
  | _ => none
theorem w36 : EnvOK Try.prog ⟨tys, (36, .pure h36) :: sp41⟩ := by
  refine addPure w41 (fn := Try.f36) (by kernel_rfl) (by kernel_rfl) (by kernel_rfl) ?_
  intro args p r h hp
  unfold h36 at h
  split at h
  · simp only [Option.some.injEq, Prod.mk.injEq] at h
    obtain ⟨rfl, rfl⟩ := h
    conv => whnf
    refine ⟨⟨by simp, by simp⟩, ?_⟩
    rw [exM, exR, exE]
    conv => whnf
    refine ⟨by simp, ?_⟩
    rw [ex1]
    conv => whnf
    refine ⟨by simp, ?_⟩
    rw [ex2]
    conv => whnf
    repeat (refine ⟨by simp, ?_⟩; conv => whnf)
    split
    · conv => whnf
      repeat (refine ⟨by simp, ?_⟩; conv => whnf)
      refine ⟨_, rfl, Wk.eq ?_⟩
      simp
    · rename_i h
      exact absurd h (by simp [rightA, empty_list])
  · simp at h

end Go.Proofs.Ythakgbecpkfeoaa.Ev
