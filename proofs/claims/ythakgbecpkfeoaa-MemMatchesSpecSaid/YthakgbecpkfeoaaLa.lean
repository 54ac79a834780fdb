/- Layer 2: the law MemMatchesSpec, walked. -/
import Derived.Test.YthakgbecpkfeoaaMf
set_option linter.unusedVariables false
set_option linter.unusedSimpArgs false
set_option maxRecDepth 100000
namespace Go.Proofs.Ythakgbecpkfeoaa.Ev

abbrev sp36 : List (Nat × Spec) := (36, .pure h36) :: sp41
def h7 : List AV → Option (Prop × AV)
  | [.agg [.sl .i64 m], .agg [.sl .i64 n], .agg [.int .i64 k, .int .i64 c, .int .i64 o, .int .i64 x, .str s]] => some (True, .bool true)
  | _ => none
theorem w7 : EnvOK Try.prog ⟨tys, (7, .pure h7) :: sp36⟩ := by
  refine addPure w36 (fn := Try.f7) (by kernel_rfl) (by kernel_rfl) (by kernel_rfl) ?_
  intro args p r h hp
  unfold h7 at h
  split at h
  · rename_i m n k c o x s
    simp only [Option.some.injEq, Prod.mk.injEq] at h
    obtain ⟨rfl, rfl⟩ := h
    conv => whnf
    refine ⟨trivial, ?_⟩
    conv => whnf
    split
    · conv => whnf
      exact ⟨_, rfl, Wk.eq rfl⟩
    · rename_i hm
      have hm : m.length ≤ 200 := by have := hm; simp at this; omega
      conv => whnf
      split
      · conv => whnf
        exact ⟨_, rfl, Wk.eq rfl⟩
      · rename_i hn
        have hn : n.length ≤ 200 := by have := hn; simp at this; omega
        have hdl := doA_length m k c o x s
        have hm' : m.length ≤ 1000000 := by omega
        conv => whnf
        refine ⟨hm', ?_⟩
        conv => whnf
        refine ⟨hm', ?_⟩
        conv => whnf
        refine DrawVC.quiet (by kernel_rfl) ?_
        conv => whnf
        repeat' (first | (refine ⟨trivial, ?_⟩; conv => whnf) | (refine ⟨hm', ?_⟩; conv => whnf) | (refine ⟨(by rw [hdl]; exact hm'), ?_⟩; conv => whnf) | (split <;> conv => whnf))
        all_goals refine ⟨_, rfl, Wk.eq ?_⟩
        all_goals simp_all
  · simp at h

end Go.Proofs.Ythakgbecpkfeoaa.Ev
