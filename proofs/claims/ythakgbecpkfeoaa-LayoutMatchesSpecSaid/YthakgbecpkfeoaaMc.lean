/- Layer 2: the reference's functions; memories that are equal. -/
import Derived.Test.YthakgbecpkfeoaaMb
set_option linter.unusedVariables false
set_option linter.unusedSimpArgs false
set_option maxRecDepth 100000
namespace Go.Proofs.Ythakgbecpkfeoaa.Ev

def h77 : List AV → Option (Prop × AV)
  | [.agg [.sl .i64 m], .int .i64 c, .int .i64 n] => some ((0 ≤ c ∧ c < m.length) ∧ m.length ≤ 1000000, .agg [.sl .i64 (m.set c.toNat n)])
  | _ => none

theorem w77 : EnvOK Try.prog ⟨tys, [(77, .pure h77), (37, .pure h37), (76, .pure h76), (40, .pure h40), (39, .pure h39)]⟩ := by
  refine addPure w37 (fn := Try.f77) (by kernel_rfl) (by kernel_rfl) (by kernel_rfl) ?_
  intro args p r h hp
  unfold h77 at h
  split at h
  · rename_i m c n
    simp only [Option.some.injEq, Prod.mk.injEq] at h
    obtain ⟨rfl, rfl⟩ := h
    obtain ⟨⟨h0, h1⟩, h2⟩ := hp
    conv => whnf
    refine ⟨.inl rfl, ?_⟩
    conv => whnf
    refine ⟨?_, ?_⟩
    · simp only [List.length_nil, ET.bytes]; omega
    conv => whnf
    refine ⟨⟨h0, by simpa using h1⟩, ?_⟩
    conv => whnf
    refine ⟨by simp only [List.nil_append]; omega, ?_⟩
    conv => whnf
    exact ⟨_, rfl, Wk.eq rfl⟩
  · simp at h

theorem set_getD_self (m : List Int) (i : Nat) : m.set i (m.getD i 0) = m := by
  apply List.ext_getElem
  · simp
  · intro j h1 h2
    rw [List.getElem_set]
    split
    · rename_i e; subst e; simp [h2]
    · rfl
theorem doA_ok {m : List Int} {k c o n : Int} {s : ByteArray} (hr : rightA k c o n s = true) (hc : ¬ c ≥ m.length) :
    doA m k c o n s = (m.set c.toNat (nextA (m.getD c.toNat 0) k o n).1, ⟨m.getD c.toNat 0, (nextA (m.getD c.toNat 0) k o n).2⟩, 0) := by
  simp only [doA, hr, hc, if_true, if_false]
  split
  · rename_i e
    rw [e, set_getD_self]
  · rfl
theorem rightA_kind {k c o n : Int} {s : ByteArray} (h : rightA k c o n s = true) : k = 1 ∨ k = 2 ∨ k = 3 ∨ k = 4 := by
  unfold rightA at h
  simp only [Bool.and_eq_true] at h
  grind

def h38 := h37
theorem w38 : EnvOK Try.prog ⟨tys, [(38, .pure h38), (77, .pure h77), (37, .pure h37), (76, .pure h76), (40, .pure h40), (39, .pure h39)]⟩ := by
  refine addPure w77 (fn := Try.f38) (by kernel_rfl) (by kernel_rfl) (by kernel_rfl) ?_
  intro args p r h hp
  unfold h38 h37 at h
  split at h
  · rename_i m k c o n s
    simp only [Option.some.injEq, Prod.mk.injEq] at h
    obtain ⟨rfl, rfl⟩ := h
    conv => whnf
    refine ⟨trivial, ?_⟩
    conv => whnf
    split
    · rename_i hr
      conv => whnf
      refine ⟨_, rfl, Wk.eq ?_⟩
      simp_all [doA]
    · rename_i hr
      have hr' : rightA k c o n s = true := by simpa using hr
      have h0 := rightA_pos hr'
      conv => whnf
      split
      · conv => whnf
        refine ⟨_, rfl, Wk.eq ?_⟩
        simp_all [doA]
      · rename_i hlt
        have hlt' : c < m.length := by simpa using hlt
        have hnl : ¬ (c ≥ m.length) := by omega
        have hidx : c.toNat < m.length := by omega
        have hk := rightA_kind hr'
        have hdo := doA_ok hr' hnl
        conv => whnf
        refine ⟨⟨h0, hlt'⟩, ?_⟩
        conv => whnf
        repeat' (first | split | (refine ⟨⟨⟨h0, hlt'⟩, hp⟩, ?_⟩) | fail); all_goals conv => whnf
        all_goals refine ⟨_, rfl, Wk.eq ?_⟩
        all_goals rw [hdo]
        all_goals simp only [beq_iff_eq, beq_eq_false_iff_ne, bne_iff_ne, bne_eq_false_iff_eq, dflt_i64] at *
        all_goals simp_all [nextA]
        all_goals first | (rw [← List.getD_eq_getElem?_getD, set_getD_self]) | grind
  · simp at h

end Go.Proofs.Ythakgbecpkfeoaa.Ev
