/- Layer 2: the law MemCasOnce, walked. -/
import Derived.Test.YthakgbecpkfeoaaNb
set_option linter.unusedVariables false
set_option linter.unusedSimpArgs false
set_option maxRecDepth 100000
namespace Go.Proofs.Ythakgbecpkfeoaa.Ev

theorem cas_one (c n x : Int) : doA [c] 3 0 n x ⟨#[]⟩ = ([if c = n then x else c], ⟨c, decide (c = n)⟩, 0) := by
  rw [doA_ok (by simp [rightA, empty_list]) (by simp)]
  by_cases h : c = n <;> simp [nextA, h]

def h14 : List AV → Option (Prop × AV)
  | [.int .i64 n, .sl .i64 l] => some (True, .bool true)
  | _ => none
theorem w14 : EnvOK Try.prog ⟨tys, (14, .pure h14) :: sp52⟩ := by
  refine addPure w52 (fn := Try.f14) (by kernel_rfl) (by kernel_rfl) (by kernel_rfl) ?_
  intro args p r h hp
  unfold h14 at h
  split at h
  · rename_i n l
    simp only [Option.some.injEq, Prod.mk.injEq] at h
    obtain ⟨rfl, rfl⟩ := h
    conv => whnf
    refine ⟨trivial, ?_⟩
    conv => whnf
    split
    · conv => whnf
      exact ⟨_, rfl, Wk.eq rfl⟩
    · rename_i hm
      have hm : l.length ≤ 20 := by have := hm; simp at this; omega
      conv => whnf
      split
      · conv => whnf
        exact ⟨_, rfl, Wk.eq rfl⟩
      rename_i hz
      have hz : 0 < l.length := by have := hz; simp at this; exact List.length_pos_iff.2 (by simpa using this)
      conv => whnf
      refine LoopVC.introW [9, 10] (fun p : Nat × Int × Int => [.int .i64 n, .sl .i64 l, .undef, .undef, .bool false, .bool true, .ptr 6 0, .int .i64 p.2.2, .int .i64 p.1, .undef, .undef, .undef, .undef, .undef, .undef, .undef, .undef, .undef, .undef, .undef, .undef, .undef, .undef, .undef, .undef, .undef, .undef, .undef, .undef, .undef, .undef, .undef, .undef, .undef, .undef, .undef, .undef, .undef, .undef, .undef, .undef, .undef, .undef, .undef, .undef, .undef, .undef, .undef, .undef, .undef, .undef, .undef, .undef, .undef, .undef, .undef, .undef, .undef, .undef, .undef, .undef, .undef, .undef, .undef, .undef, .undef, .undef, .undef, .undef, .undef, .undef, .undef, .undef, .undef, .undef, .undef, .undef, .undef])
        (fun p => [(6, .box [.sl .i64 [p.2.1]])]) (fun p => p.1 ≤ l.length ∧ ((p.1 = 0 ∧ p.2.1 = n ∧ p.2.2 = 0) ∨ (0 < p.1 ∧ p.2.1 = l.getD 0 0 ∧ p.2.1 ≠ n ∧ p.2.2 = 1))) (fun p => l.length - p.1) (0, n, 0) (by simp) ?_ ?_
      · conv => whnf
        (refine ⟨?_, ?_⟩ <;> (repeat' (first | exact WeakL.nil | refine WeakL.cons ?_ ?_ | exact Weak1.undef _ | exact Weak1.same _ | exact WeakH.nil | refine WeakH.cons _ ?_ ?_ | exact WeakA.same _ | refine WeakA.box ?_ | exact Weak1.lit _ _)))
      rintro ⟨i, c, went⟩ ⟨hi, hc⟩
      dsimp only at hi hc ⊢
      conv => whnf
      split
      · rename_i hlt
        have hlt : i < l.length := by simpa using hlt
        conv => whnf
        refine ⟨⟨by omega, by omega⟩, ?_⟩
        conv => whnf
        split
        · conv => whnf
          exact ⟨_, rfl, Wk.eq rfl⟩
        rename_i hne
        have hne : l.getD i 0 ≠ n := by simpa [dflt_i64] using hne
        conv => whnf
        apply DrawVC.mix
        conv => whnf
        refine ⟨⟨by omega, by omega⟩, ?_⟩
        conv => whnf
        refine ⟨by simp, ?_⟩
        rw [cas_one]
        conv => whnf
        refine ⟨by kernel_rfl, ?_⟩
        have hw : IntKind.i64.wrap ((i : Int) + 1) = ((i + 1 : Nat) : Int) := by rw [wrap_small (by omega) (by omega)]; rfl
        rcases hc with ⟨rfl, rfl, rfl⟩ | ⟨h0, hc1, hc2, rfl⟩
        · rw [show (if c = c then (l.getD (((0 : Nat) : Int)).toNat ET.i64.dflt) else c) = l.getD 0 0 by simp [dflt_i64]]
          rw [show decide (c = c) = true by simp]
          conv => whnf
          refine ⟨(1, l.getD 0 0, 1), by simp only; omega, ⟨by simp only; omega, .inr ⟨by simp, rfl, hne, rfl⟩⟩, ?_⟩
          conv => whnf
          (refine ⟨?_, ?_⟩ <;> (repeat' (first | exact WeakL.nil | refine WeakL.cons ?_ ?_ | exact Weak1.undef _ | exact Weak1.same _ | exact WeakH.nil | refine WeakH.cons _ ?_ ?_ | exact WeakA.same _ | refine WeakA.box ?_ | exact Weak1.lit _ _)))
        · rw [show (if c = n then (l.getD ((i : Int)).toNat ET.i64.dflt) else c) = c by simp [hc2]]
          rw [show decide (c = n) = false by simp [hc2]]
          conv => whnf
          have hi0 : (((i : Int) == 0)) = false := by simp; omega
          rw [hi0]
          conv => whnf
          refine ⟨(i + 1, c, 1), by simp only; omega, ⟨by simp only; omega, .inr ⟨by simp, hc1, hc2, rfl⟩⟩, ?_⟩
          rw [hw]
          conv => whnf
          (refine ⟨?_, ?_⟩ <;> (repeat' (first | exact WeakL.nil | refine WeakL.cons ?_ ?_ | exact Weak1.undef _ | exact Weak1.same _ | exact WeakH.nil | refine WeakH.cons _ ?_ ?_ | exact WeakA.same _ | refine WeakA.box ?_ | exact Weak1.lit _ _)))
      · rename_i hge
        have hge : i = l.length := by have : ¬ i < l.length := by simpa using hge
                                      omega
        rcases hc with ⟨rfl, rfl, rfl⟩ | ⟨h0, hc1, hc2, rfl⟩
        · omega
        conv => whnf
        apply DrawVC.mix
        conv => whnf
        refine ⟨⟨by omega, by omega⟩, ?_⟩
        conv => whnf
        refine ⟨by simp, ?_⟩
        conv => whnf
        refine ⟨by kernel_rfl, ?_⟩
        conv => whnf
        refine ⟨_, rfl, Wk.eq ?_⟩
        simp [hc1, dflt_i64]
  · simp at h

end Go.Proofs.Ythakgbecpkfeoaa.Ev
