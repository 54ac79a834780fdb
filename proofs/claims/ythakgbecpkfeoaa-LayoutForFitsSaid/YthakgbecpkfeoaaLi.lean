/- Layer 15: the law LayoutForFits, walked. -/
import Derived.Test.YthakgbecpkfeoaaPe
set_option linter.unusedVariables false
set_option linter.unusedSimpArgs false
set_option maxRecDepth 100000
namespace Go.Proofs.Ythakgbecpkfeoaa.Ev

theorem cell_in {f m n z a : Int} (hf : 0 ≤ f ∧ f ≤ 1000000) (hn : 0 ≤ n ∧ n < m) (hm : m ≤ 1000) (hz : z = 4 ∨ z = 1) (ha : 0 ≤ a ∧ a ≤ 3) : cellA f m n z a = f + z * n + a := by
  unfold cellA
  rw [if_pos hn]
  rcases hz with rfl | rfl
  · rw [wrap_small (n := 4 * n) (by omega) (by omega), wrap_small (n := f + 4 * n) (by omega) (by omega), wrap_small (by omega) (by omega)]
  · rw [wrap_small (n := 1 * n) (by omega) (by omega), wrap_small (n := f + 1 * n) (by omega) (by omega), wrap_small (by omega) (by omega)]
theorem cell_out {f m n z a : Int} (hn : ¬ (0 ≤ n ∧ n < m)) : cellA f m n z a = -1 := by
  unfold cellA
  rw [if_neg hn]

def h4 : List AV → Option (Prop × AV)
  | [.agg [.undef, .sl .i64 ts, .sl .i64 cs, .sl .i64 ls, .sl .bl ops, .sl .bl du, .int .i64 k], .int .i64 s, .int .i64 m] => some (True, .bool true)
  | _ => none
theorem w4 : EnvOK Try.prog ⟨tys, (4, .pure h4) :: sp20⟩ := by
  refine addPure w20 (fn := Try.f4) (by kernel_rfl) (by kernel_rfl) (by kernel_rfl) ?_
  intro args p r h hp
  unfold h4 at h
  split at h
  · rename_i ts cs ls ops du k s m
    simp only [Option.some.injEq, Prod.mk.injEq] at h
    obtain ⟨rfl, rfl⟩ := h
    conv => whnf
    refine ⟨trivial, ?_⟩
    conv => whnf
    split
    · conv => whnf
      exact ⟨_, rfl, Wk.eq rfl⟩
    conv => whnf
    split
    · conv => whnf
      exact ⟨_, rfl, Wk.eq rfl⟩
    conv => whnf
    refine ⟨trivial, ?_⟩
    conv => whnf
    refine ⟨trivial, ?_⟩
    generalize hts : (ts.length : Int) = t
    generalize hls : (ls.length : Int) = l
    cases hb : mayC t l k s m with
    | false =>
      conv => whnf
      exact ⟨_, rfl, Wk.eq rfl⟩
    | true =>
      obtain ⟨ht, hl, hk, hs, hm⟩ := mayC_of hb
      conv => whnf
      split
      · rename_i he
        exfalso
        simp at he
      conv => whnf
      refine ⟨trivial, ?_⟩
      have hb' : mayC (ofI true t) (ofI true l) (ofI true k) (ofI true s) (ofI true m) = true := hb
      rw [hb']
      conv => whnf
      refine DrawVC.quiet (by kernel_rfl) ?_
      conv => whnf
      refine ⟨trivial, ?_⟩
      conv => whnf
      have w1 : IntKind.i64.wrap ((ts.length : Int) - 1) = t - 1 := by rw [hts, wrap_small (by omega) (by omega)]
      have w2 : IntKind.i64.wrap ((ls.length : Int) - 1) = l - 1 := by rw [hls, wrap_small (by omega) (by omega)]
      have w3 : IntKind.i64.wrap (k - 1) = k - 1 := wrap_small (by omega) (by omega)
      have w4 : IntKind.i64.wrap (ofI true (4 + 4 * ofI true t + ofI true k + 4 * ofI true l) - 1) = 4 + 4 * t + k + 4 * l - 1 := by
        simp only [ofI, if_true]; rw [wrap_small (by omega) (by omega)]
      have f1 : decide (cellA (ofI true 4) (ofI true (ofI true t)) (IntKind.i64.wrap ((ts.length : Int) - 1)) 4 0 ≥ 0) = true := by
        rw [w1]; simp only [ofI, if_true]; rw [cell_in (by omega) (by omega) (by omega) (.inl rfl) (by omega)]; simp; omega
      rw [f1]
      conv => whnf
      refine ⟨trivial, ?_⟩
      conv => whnf
      have f2 : (cellA (ofI true 4) (ofI true (ofI true t)) (ts.length : Int) 4 0 == -1) = true := by
        rw [hts]; simp only [ofI, if_true]; rw [cell_out (by omega)]; simp
      rw [f2]
      conv => whnf
      refine ⟨trivial, ?_⟩
      conv => whnf
      have f3 : (cellA (ofI true (4 + 4 * ofI true t + ofI true k)) (ofI true (ofI true l)) (ls.length : Int) 4 0 == -1) = true := by
        rw [hls]; simp only [ofI, if_true]; rw [cell_out (by omega)]; simp
      rw [f3]
      conv => whnf
      have f4 : 0 < l → (cellA (ofI true (4 + 4 * ofI true t + ofI true k)) (ofI true (ofI true l)) (IntKind.i64.wrap ((ls.length : Int) - 1)) 4 3 == IntKind.i64.wrap (ofI true (4 + 4 * ofI true t + ofI true k + 4 * ofI true l) - 1)) = true := by
        intro h0; rw [w2, w4]; simp only [ofI, if_true]; rw [cell_in (by omega) (by omega) (by omega) (.inl rfl) (by omega)]; simp; omega
      have f5 : (cellA (ofI true (4 + 4 * ofI true t)) (ofI true (ofI true k)) k 1 0 == -1) = true := by
        simp only [ofI, if_true]; rw [cell_out (by omega)]; simp
      have f6 : 0 < k → decide (cellA (ofI true (4 + 4 * ofI true t)) (ofI true (ofI true k)) (IntKind.i64.wrap (k - 1)) 1 0 ≥ 0) = true := by
        intro h0; rw [w3]; simp only [ofI, if_true]; rw [cell_in (by omega) (by omega) (by omega) (.inr rfl) (by omega)]; simp; omega
      split
      · rename_i h0
        conv => whnf
        refine ⟨trivial, ?_⟩
        conv => whnf
        rw [f5]
        conv => whnf
        split
        · conv => whnf
          exact ⟨_, rfl, Wk.eq rfl⟩
        · rename_i hk0
          conv => whnf
          refine ⟨trivial, ?_⟩
          conv => whnf
          refine ⟨_, rfl, Wk.eq ?_⟩
          rw [f6 (by simp at hk0; omega)]
      · rename_i h0
        have h0 : 0 < l := by simp at h0; have : l ≠ 0 := by rw [← hls]; simpa using h0
                              omega
        conv => whnf
        refine ⟨trivial, ?_⟩
        conv => whnf
        rw [f4 h0]
        conv => whnf
        refine ⟨trivial, ?_⟩
        conv => whnf
        rw [f5]
        conv => whnf
        split
        · conv => whnf
          exact ⟨_, rfl, Wk.eq rfl⟩
        · rename_i hk0
          conv => whnf
          refine ⟨trivial, ?_⟩
          conv => whnf
          refine ⟨_, rfl, Wk.eq ?_⟩
          rw [f6 (by simp at hk0; omega)]
  · simp at h

end Go.Proofs.Ythakgbecpkfeoaa.Ev
