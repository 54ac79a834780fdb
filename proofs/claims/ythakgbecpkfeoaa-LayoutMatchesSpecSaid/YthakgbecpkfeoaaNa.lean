/- Layer 2: the reference's list of accesses; results that are equal; new memories. -/
import Derived.Test.YthakgbecpkfeoaaMf
set_option linter.unusedVariables false
set_option linter.unusedSimpArgs false
set_option maxRecDepth 100000
namespace Go.Proofs.Ythakgbecpkfeoaa.Ev

abbrev sp36 : List (Nat × Spec) := (36, .pure h36) :: sp41
def h44 := h43
theorem w44 : EnvOK Try.prog ⟨tys, (44, .pure h44) :: sp36⟩ := by
  refine addPure w36 (fn := Try.f44) (by kernel_rfl) (by kernel_rfl) (by kernel_rfl) ?_
  intro args p r h hp
  unfold h44 h43 at h
  split at h
  · rename_i m l
    simp only [Option.some.injEq, Prod.mk.injEq] at h
    obtain ⟨rfl, rfl⟩ := h
    obtain ⟨hm, hl⟩ := hp
    conv => whnf
    refine LoopVC.intro [10, 11] (fun p : Nat × List Int × List Res => [.agg [.sl .i64 m], .sl .acc l, .ptr 2 0, .skp, .ptr 4 0, .own 5, .int .i64 0, .ptr 7 0, .own 8, .int .i64 p.1, .undef, .undef, .undef, .undef, .undef, .undef, .undef, .undef, .undef, .undef, .undef, .undef, .undef, .undef, .undef, .undef, .undef, .undef, .undef, .undef, .undef, .undef, .undef, .undef, .undef, .undef, .undef, .undef, .undef, .undef, .undef])
      (fun p => [(2, .box [.sl .i64 m]), (4, .box [.nil]), (5, .arr .res []), (7, .box [.sl .i64 p.2.1]), (8, .arr .res p.2.2)])
      (fun p => p.1 ≤ l.length ∧ runA m (l.take p.1) = .inr (p.2.1, p.2.2)) (fun p => l.length - p.1) (0, m, []) ⟨by simp, by simp [runA]⟩ ?_ ?_
    · conv => whnf
      refine ⟨?_, rfl⟩
      repeat' (first | exact WeakL.nil | refine WeakL.cons ?_ ?_ | exact Weak1.undef _ | exact Weak1.same _)
    rintro ⟨i, x, rs⟩ ⟨hi, hrun⟩
    dsimp only at hi hrun ⊢
    obtain ⟨hxl, hrl⟩ := runA_length hrun
    have hrl' : rs.length ≤ 100000 := by rw [hrl, List.length_take]; omega
    conv => whnf
    split
    · rename_i hlt
      have hlt : i < l.length := by simpa using hlt
      conv => whnf
      apply DrawVC.mix
      conv => whnf
      refine ⟨⟨by omega, by omega⟩, ?_⟩
      conv => whnf
      refine ⟨by omega, ?_⟩
      conv => whnf
      refine ⟨by kernel_rfl, ?_⟩
      conv => whnf
      split
      · rename_i he
        conv => whnf
        have hrl := runA_stop (a := l.getD ((i : Int)).toNat ET.acc.dflt) hrun (by simp [hlt]) (by simpa [doAcc] using he)
        refine ⟨_, rfl, Wk.eq ?_⟩
        simp only [allM, allR, allE, hrl]
        rfl
      · rename_i he
        conv => whnf
        refine ⟨by simp only [List.length_cons, List.length_nil, ET.bytes]; omega, ?_⟩
        conv => whnf
        have hrl := runA_next (a := l.getD ((i : Int)).toNat ET.acc.dflt) hrun (by simp [hlt]) (by simpa [doAcc] using he)
        refine ⟨(i + 1, (doAcc x (l.getD ((i : Int)).toNat ET.acc.dflt)).1, rs ++ [(doAcc x (l.getD ((i : Int)).toNat ET.acc.dflt)).2.1]), by simp only; omega, ⟨by simp only; omega, hrl⟩, ?_⟩
        have hw : IntKind.i64.wrap ((i : Int) + 1) = ((i + 1 : Nat) : Int) := by rw [wrap_small (by omega) (by omega)]; rfl
        rw [hw]
        conv => whnf
        refine ⟨?_, rfl⟩
        repeat' (first | exact WeakL.nil | refine WeakL.cons ?_ ?_ | exact Weak1.undef _ | exact Weak1.same _)
    · rename_i hge
      have hge : i = l.length := by have : ¬ i < l.length := by simpa using hge
                                    omega
      conv => whnf
      subst hge
      rw [List.take_length] at hrun
      refine ⟨_, rfl, Wk.eq ?_⟩
      simp only [allM, allR, allE, hrun]
  · simp at h

end Go.Proofs.Ythakgbecpkfeoaa.Ev
