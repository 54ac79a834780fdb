/- Layer 15: the law LayoutRejectsChange, walked. -/
import Derived.Test.YthakgbecpkfeoaaPe
set_option linter.unusedVariables false
set_option linter.unusedSimpArgs false
set_option maxRecDepth 100000
namespace Go.Proofs.Ythakgbecpkfeoaa.Ev

theorem wrap_ne {x b : Int} (hx : -9223372036854775808 ≤ x ∧ x < 9223372036854775808) (hb : -9223372036854775808 ≤ b ∧ b < 9223372036854775808) (h0 : b ≠ 0) : IntKind.i64.wrap (x + b) ≠ x := by
  rw [IntKind.wrap_i64]; omega

def h3 : List AV → Option (Prop × AV)
  | [.agg [.int .i64 t, .int .i64 l, .int .i64 k, .int .i64 s, .int .i64 m], .int .u8 a, .int .i64 b] =>
    some ((0 ≤ a ∧ a < 256) ∧ (-9223372036854775808 ≤ b ∧ b < 9223372036854775808), .bool true)
  | _ => none
theorem w3 : EnvOK Try.prog ⟨tys, (3, .pure h3) :: sp20⟩ := by
  refine addPure w20 (fn := Try.f3) (by kernel_rfl) (by kernel_rfl) (by kernel_rfl) ?_
  intro args p r h hp
  unfold h3 at h
  split at h
  · rename_i t l k s m a b
    simp only [Option.some.injEq, Prod.mk.injEq] at h
    obtain ⟨rfl, rfl⟩ := h
    obtain ⟨ha, hb⟩ := hp
    conv => whnf
    refine ⟨trivial, ?_⟩
    conv => whnf
    refine ⟨trivial, ?_⟩
    cases hc : mayC t l k s m with
    | false =>
      conv => whnf
      exact ⟨_, rfl, Wk.eq rfl⟩
    | true =>
      obtain ⟨ht, hl, hk, hs, hm⟩ := mayC_of hc
      conv => whnf
      split
      · conv => whnf
        exact ⟨_, rfl, Wk.eq rfl⟩
      · rename_i h0
        have h0 : b ≠ 0 := by simpa using h0
        conv => whnf
        refine ⟨by decide, ?_⟩
        have hmod : 0 ≤ a.tmod 8 ∧ a.tmod 8 < 8 := by
          rw [Int.tmod_eq_emod_of_nonneg ha.1]; omega
        generalize a.tmod 8 = q at hmod ⊢
        have hq : q = 0 ∨ q = 1 ∨ q = 2 ∨ q = 3 ∨ q = 4 ∨ q = 5 ∨ q = 6 ∨ q = 7 := by omega
        have hn := fun x hx => wrap_ne (x := x) (b := b) hx hb h0
        rcases hq with rfl | rfl | rfl | rfl | rfl | rfl | rfl | rfl
        all_goals conv => whnf
        all_goals refine ⟨trivial, ?_⟩
        all_goals rw [show layRight (ofI true t) (ofI true l) (ofI true k) (ofI true s) (ofI true m) (ofI true 0) (ofI true 1) (ofI true 2) (ofI true 3) (ofI true 4) (ofI true (4 + 4 * t)) (ofI true (4 + 4 * t + k)) (ofI true (4 + 4 * t + k + 4 * l)) = true by simp [layRight, ofI, hc]]
        all_goals conv => whnf
        all_goals refine ⟨trivial, ?_⟩
        all_goals conv => whnf
        all_goals refine ⟨_, rfl, Wk.eq ?_⟩
        all_goals simp only [layRight, ofI, if_true, hc]
        · have := hn 0 (by omega); simp at this; simp [this]
        · simp [hn 1 (by omega)]
        · simp [hn 2 (by omega)]
        · simp [hn 3 (by omega)]
        · simp [hn 4 (by omega)]
        · simp [hn (4 + 4 * t) (by omega)]
        · simp [hn (4 + 4 * t + k) (by omega)]
        · simp [hn (4 + 4 * t + k + 4 * l) (by omega)]
  · simp at h

end Go.Proofs.Ythakgbecpkfeoaa.Ev
