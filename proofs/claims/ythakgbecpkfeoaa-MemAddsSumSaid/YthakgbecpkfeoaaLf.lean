/- Layer 2: the law MemAddsSum, walked. -/
import Derived.Test.YthakgbecpkfeoaaNb
set_option linter.unusedVariables false
set_option linter.unusedSimpArgs false
set_option maxRecDepth 100000
namespace Go.Proofs.Ythakgbecpkfeoaa.Ev

theorem add_one (s x : Int) : doA [0, s] 4 1 0 x ⟨#[]⟩ = ([0, IntKind.i64.wrap (s + x)], ⟨s, true⟩, 0) := by
  rw [doA_ok (by simp [rightA, empty_list]) (by simp)]
  simp [nextA]

def h13 : List AV → Option (Prop × AV)
  | [.sl .i64 l, .int .i64 n] => some (True, .bool true)
  | _ => none
theorem w13 : EnvOK Try.prog ⟨tys, (13, .pure h13) :: sp52⟩ := by
  refine addPure w52 (fn := Try.f13) (by kernel_rfl) (by kernel_rfl) (by kernel_rfl) ?_
  intro args p r h hp
  unfold h13 at h
  split at h
  · rename_i l n
    simp only [Option.some.injEq, Prod.mk.injEq] at h
    obtain ⟨rfl, rfl⟩ := h
    conv => whnf
    refine ⟨trivial, ?_⟩
    conv => whnf
    split
    · conv => whnf
      exact ⟨_, rfl, Wk.eq rfl⟩
    · rename_i hm
      have hm : l.length ≤ 40 := by have := hm; simp at this; omega
      conv => whnf
      refine LoopVC.introW [9, 10] (fun p : Nat × Int => [.sl .i64 l, .int .i64 n, .undef, .undef, .bool false, .bool true, .ptr 6 0, .int .i64 p.2, .int .i64 p.1, .undef, .undef, .undef, .undef, .undef, .undef, .undef, .undef, .undef, .undef, .undef, .undef, .undef, .undef, .undef, .undef, .undef, .undef, .undef, .undef, .undef, .undef, .undef, .undef, .undef, .undef, .undef, .undef, .undef, .undef, .undef, .undef, .undef, .undef, .undef, .undef, .undef, .undef, .undef, .undef, .undef, .undef, .undef, .undef, .undef, .undef, .undef, .undef, .undef, .undef, .undef, .undef, .undef, .undef, .undef, .undef, .undef])
        (fun p => [(6, .box [.sl .i64 [0, p.2]])]) (fun p => p.1 ≤ l.length) (fun p => l.length - p.1) (0, n) (by simp) ?_ ?_
      · conv => whnf
        (refine ⟨?_, ?_⟩ <;> (repeat' (first | exact WeakL.nil | refine WeakL.cons ?_ ?_ | exact Weak1.undef _ | exact Weak1.same _ | exact WeakH.nil | refine WeakH.cons _ ?_ ?_ | exact WeakA.same _ | refine WeakA.box ?_ | exact Weak1.lit _ _)))
      rintro ⟨i, s⟩ hi
      dsimp only at hi ⊢
      conv => whnf
      split
      · rename_i hlt
        have hlt : i < l.length := by simpa using hlt
        conv => whnf
        apply DrawVC.mix
        conv => whnf
        refine ⟨⟨by omega, by omega⟩, ?_⟩
        conv => whnf
        refine ⟨by simp, ?_⟩
        rw [add_one]
        conv => whnf
        refine ⟨by kernel_rfl, ?_⟩
        conv => whnf
        rw [show (s != s) = false by simp]
        conv => whnf
        refine ⟨⟨by omega, by omega⟩, ?_⟩
        conv => whnf
        have hw : IntKind.i64.wrap ((i : Int) + 1) = ((i + 1 : Nat) : Int) := by rw [wrap_small (by omega) (by omega)]; rfl
        rw [hw]
        refine ⟨(i + 1, IntKind.i64.wrap (s + l.getD ((i : Int)).toNat 0)), by simp only; omega, by simp only; omega, ?_⟩
        conv => whnf
        (refine ⟨?_, ?_⟩ <;> (repeat' (first | exact WeakL.nil | refine WeakL.cons ?_ ?_ | exact Weak1.undef _ | exact Weak1.same _ | exact WeakH.nil | refine WeakH.cons _ ?_ ?_ | exact WeakA.same _ | refine WeakA.box ?_ | exact Weak1.lit _ _)))
      · conv => whnf
        refine ⟨by simp, ?_⟩
        conv => whnf
        refine ⟨_, rfl, Wk.eq ?_⟩
        simp
  · simp at h

end Go.Proofs.Ythakgbecpkfeoaa.Ev
