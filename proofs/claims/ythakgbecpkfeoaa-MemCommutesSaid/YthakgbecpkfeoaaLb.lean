/- Layer 2: the law MemChangesOneCell, walked. -/
import Derived.Test.YthakgbecpkfeoaaMf
set_option linter.unusedVariables false
set_option linter.unusedSimpArgs false
set_option maxRecDepth 100000
namespace Go.Proofs.Ythakgbecpkfeoaa.Ev

theorem doA_cases (m : List Int) (k c o x : Int) (s : ByteArray) :
    (rightA k c o x s = false ∧ doA m k c o x s = (m, ⟨0, false⟩, 1)) ∨ (rightA k c o x s = true ∧ c ≥ m.length ∧ doA m k c o x s = (m, ⟨0, false⟩, 8)) ∨
      (rightA k c o x s = true ∧ 0 ≤ c ∧ c < m.length ∧ doA m k c o x s = (m.set c.toNat (nextA (m.getD c.toNat 0) k o x).1, ⟨m.getD c.toNat 0, (nextA (m.getD c.toNat 0) k o x).2⟩, 0)) := by
  cases hr : rightA k c o x s with
  | false => exact .inl ⟨rfl, by simp [doA, hr]⟩
  | true =>
    by_cases hc : c ≥ m.length
    · exact .inr (.inl ⟨rfl, hc, by simp only [doA, hr, hc, if_true]⟩)
    · exact .inr (.inr ⟨rfl, rightA_pos hr, by omega, doA_ok hr hc⟩)

abbrev sp36b : List (Nat × Spec) := (36, .pure h36) :: sp41
def h10 : List AV → Option (Prop × AV)
  | [.agg [.sl .i64 m], .agg [.int .i64 k, .int .i64 c, .int .i64 o, .int .i64 x, .str s]] => some (True, .bool true)
  | _ => none
theorem w10 : EnvOK Try.prog ⟨tys, (10, .pure h10) :: sp36b⟩ := by
  refine addPure w36 (fn := Try.f10) (by kernel_rfl) (by kernel_rfl) (by kernel_rfl) ?_
  intro args p r h hp
  unfold h10 at h
  split at h
  · rename_i m k c o x s
    simp only [Option.some.injEq, Prod.mk.injEq] at h
    obtain ⟨rfl, rfl⟩ := h
    conv => whnf
    refine ⟨trivial, ?_⟩
    conv => whnf
    split
    · conv => whnf
      exact ⟨_, rfl, Wk.eq rfl⟩
    · rename_i hm
      have hm : m.length ≤ 100 := by have := hm; simp at this; omega
      have hm' : m.length ≤ 1000000 := by omega
      have hdl := doA_length m k c o x s
      conv => whnf
      refine ⟨hm', ?_⟩
      rcases doA_cases m k c o x s with ⟨hr, hd⟩ | ⟨hr, hc, hd⟩ | ⟨hr, h0, hc, hd⟩
      · rw [hd]
        conv => whnf
        repeat' (first | (refine ⟨trivial, ?_⟩; conv => whnf) | (refine ⟨hm', ?_⟩; conv => whnf) | (split <;> conv => whnf))
        all_goals refine ⟨_, rfl, Wk.eq ?_⟩
        all_goals simp_all
      · rw [hd]
        conv => whnf
        repeat' (first | (refine ⟨trivial, ?_⟩; conv => whnf) | (refine ⟨hm', ?_⟩; conv => whnf) | (split <;> conv => whnf))
        all_goals refine ⟨_, rfl, Wk.eq ?_⟩
        all_goals simp_all
      · have hidx : c.toNat < m.length := by omega
        rw [hd]
        conv => whnf
        refine DrawVC.quiet (by kernel_rfl) ?_
        conv => whnf
        repeat' (first | (refine ⟨trivial, ?_⟩; conv => whnf) | (refine ⟨⟨h0, hc⟩, ?_⟩; conv => whnf) | (split <;> conv => whnf))
        all_goals first | (refine ⟨_, rfl, Wk.eq ?_⟩; simp_all; done) | (refine ⟨_, rfl, Wk.eq ?_⟩; simp_all; omega) | skip
        generalize hv : nextA (m.getD c.toNat 0) k o x = v
        refine LoopVC.intro [] (fun i : Nat => [.agg [.sl .i64 m], .agg [.int .i64 k, .int .i64 c, .int .i64 o, .int .i64 x, .str s], .ptr 2 0, .ptr 3 0, .bool false, .bool true, .ptr 6 0, .ptr 7 0, .undef, .int .i64 i, .undef, .undef, .undef, .undef, .undef, .undef, .undef, .undef, .undef, .undef, .undef, .undef, .undef, .undef, .undef, .undef, .undef, .undef, .undef, .undef, .undef, .undef, .undef, .undef, .undef, .undef, .undef, .undef, .undef, .undef, .undef, .undef, .undef, .undef, .undef, .undef, .undef, .undef, .undef, .undef, .undef, .undef, .undef, .undef, .undef, .undef, .undef, .undef, .undef, .undef, .undef, .undef, .undef, .undef, .undef, .undef, .undef, .undef, .undef, .undef, .undef, .undef, .undef, .undef, .undef, .undef, .undef, .undef, .undef, .undef, .undef, .undef, .undef, .undef, .undef, .undef, .undef, .undef, .undef, .undef, .undef, .undef, .undef, .undef, .undef, .undef, .undef, .undef, .undef, .undef, .undef, .undef, .undef, .undef, .undef, .undef, .undef, .undef, .undef, .undef, .undef, .undef, .undef, .undef, .undef, .undef, .undef, .undef, .undef, .undef, .undef, .undef, .undef, .undef, .undef, .undef, .undef, .undef, .undef, .undef, .undef, .undef, .undef, .undef, .undef, .undef, .undef, .undef, .undef, .undef, .undef, .undef, .undef, .undef, .undef, .undef, .undef, .undef, .undef, .undef, .undef])
          (fun i => [(2, .box [.sl .i64 m]), (3, .box [.int .i64 k, .int .i64 c, .int .i64 o, .int .i64 x, .str s]), (6, .box [.sl .i64 (m.set c.toNat v.1)]), (7, .box [.int .i64 (m.getD c.toNat 0), .bool v.2])])
          (fun i => i ≤ m.length) (fun i => m.length - i) 0 (by omega) ⟨?_, rfl⟩ ?_
        · repeat' (first | exact WeakL.nil | refine WeakL.cons ?_ ?_ | exact Weak1.undef _ | exact Weak1.same _)
        intro i hi
        conv => whnf
        split
        · rename_i hlt
          have hlt : i < m.length := by simpa using hlt
          conv => whnf
          refine DrawVC.quiet (by kernel_rfl) ?_
          conv => whnf
          have hw : IntKind.i64.wrap ((i : Int) + 1) = ((i + 1 : Nat) : Int) := by rw [wrap_small (by omega) (by omega)]; rfl
          repeat' (first | (refine ⟨⟨by omega, by simp; omega⟩, ?_⟩; conv => whnf) | (split <;> conv => whnf))
          · rename_i h1 _ h2
            exfalso
            have hne : c.toNat ≠ i := by intro e; apply (bne_iff_ne.1 h1); omega
            simp [List.getD_eq_getElem?_getD, List.getElem?_set_ne hne] at h2
          all_goals
            refine ⟨i + 1, by omega, by omega, ?_⟩
            rw [hw]
            refine ⟨?_, rfl⟩
            repeat' (first | exact WeakL.nil | refine WeakL.cons ?_ ?_ | exact Weak1.undef _ | exact Weak1.same _)
        · conv => whnf
          have hk := rightA_kind hr
          have hg : (m.set c.toNat v.1).getD c.toNat 0 = v.1 := by simp [hidx]
          repeat' (first | (refine DrawVC.quiet (by kernel_rfl) ?_; conv => whnf) | (refine ⟨⟨h0, by simpa using hc⟩, ?_⟩; conv => whnf) | (split <;> conv => whnf))
          all_goals refine ⟨_, rfl, Wk.eq ?_⟩
          all_goals clear hd
          all_goals simp only [dflt_i64] at *
          all_goals subst hv
          all_goals rcases hk with rfl | rfl | rfl | rfl
          all_goals simp_all [nextA]
          all_goals grind
  · simp at h

end Go.Proofs.Ythakgbecpkfeoaa.Ev
