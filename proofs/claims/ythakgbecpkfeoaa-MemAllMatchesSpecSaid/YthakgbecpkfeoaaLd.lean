/- Layer 2: the law MemAllMatchesSpec, walked. -/
import Derived.Test.YthakgbecpkfeoaaNb
set_option linter.unusedVariables false
set_option linter.unusedSimpArgs false
set_option maxRecDepth 100000
namespace Go.Proofs.Ythakgbecpkfeoaa.Ev

theorem allM_length (m : List Int) (l : List Acc) : (allM m l).length = m.length := by
  unfold allM
  split
  · rfl
  · rename_i h; exact (runA_length h).1
theorem allR_length (m : List Int) (l : List Acc) : (allR m l).length ≤ l.length := by
  unfold allR
  split
  · simp
  · rename_i h; exact Nat.le_of_eq (runA_length h).2

def h8 : List AV → Option (Prop × AV)
  | [.agg [.sl .i64 m], .sl .acc l] => some (True, .bool true)
  | _ => none
theorem w8 : EnvOK Try.prog ⟨tys, (8, .pure h8) :: sp52⟩ := by
  refine addPure w52 (fn := Try.f8) (by kernel_rfl) (by kernel_rfl) (by kernel_rfl) ?_
  intro args p r h hp
  unfold h8 at h
  split at h
  · rename_i m l
    simp only [Option.some.injEq, Prod.mk.injEq] at h
    obtain ⟨rfl, rfl⟩ := h
    conv => whnf
    refine ⟨trivial, ?_⟩
    conv => whnf
    split
    · conv => whnf
      exact ⟨_, rfl, Wk.eq rfl⟩
    · rename_i hm
      have hm : m.length ≤ 100 := by have := hm; simp at this; omega
      conv => whnf
      split
      · conv => whnf
        exact ⟨_, rfl, Wk.eq rfl⟩
      · rename_i hn
        have hn : l.length ≤ 40 := by have := hn; simp at this; omega
        have hl := allM_length m l
        have hr := allR_length m l
        conv => whnf
        refine ⟨⟨by omega, by omega⟩, ?_⟩
        conv => whnf
        refine ⟨⟨by omega, by omega⟩, ?_⟩
        conv => whnf
        repeat' (first | (refine ⟨(by omega : (allM m l).length ≤ 1000000), ?_⟩; conv => whnf) | (refine ⟨(by omega : (allR m l).length ≤ 1000000), ?_⟩; conv => whnf) | (split <;> conv => whnf))
        all_goals refine ⟨_, rfl, Wk.eq ?_⟩
        all_goals simp_all
  · simp at h

end Go.Proofs.Ythakgbecpkfeoaa.Ev
