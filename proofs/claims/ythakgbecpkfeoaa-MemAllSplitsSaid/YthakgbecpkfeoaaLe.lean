/- Layer 2: the law MemAllSplits, walked. -/
import Derived.Test.YthakgbecpkfeoaaNb
set_option linter.unusedVariables false
set_option linter.unusedSimpArgs false
set_option maxRecDepth 100000
namespace Go.Proofs.Ythakgbecpkfeoaa.Ev

theorem allM_length (m : List Int) (l : List Acc) : (allM m l).length = m.length := by
  unfold allM
  split
  · rfl
  · rename_i h; exact (runA_length h).1
theorem allR_length (m : List Int) (l : List Acc) : (allR m l).length ≤ l.length := by
  unfold allR
  split
  · simp
  · rename_i h; exact Nat.le_of_eq (runA_length h).2

/-- In two parts as at once. -/
theorem split_err (m : List Int) (l : List Acc) (i : Nat) (h : allE m (l.take i) ≠ 0) : allE m l = allE m (l.take i) := by
  have e : l = l.take i ++ l.drop i := by simp
  unfold allE at h ⊢
  split at h
  · rename_i x hx
    rw [e, runA_append, hx]
  · simp at h
theorem allE_inl {m : List Int} {l : List Acc} {e : Int} (h : runA m l = .inl e) : e ≠ 0 := by
  induction l generalizing m e with
  | nil => simp [runA] at h
  | cons a l ih =>
    simp only [runA] at h
    split at h
    · split at h
      · rename_i e' he
        simp only [Sum.inl.injEq] at h
        subst h
        exact ih he
      · simp at h
    · rename_i hne
      simp only [Sum.inl.injEq] at h
      subst h
      exact hne
theorem split_both (m : List Int) (l : List Acc) (i : Nat) (h : allE m (l.take i) = 0) :
    (allE (allM m (l.take i)) (l.drop i) ≠ 0 → allE m l = allE (allM m (l.take i)) (l.drop i)) ∧
    (allE (allM m (l.take i)) (l.drop i) = 0 → allE m l = 0 ∧ allM m l = allM (allM m (l.take i)) (l.drop i) ∧ allR m l = allR m (l.take i) ++ allR (allM m (l.take i)) (l.drop i)) := by
  have e : l = l.take i ++ l.drop i := by simp
  have hA := runA_append m (l.take i) (l.drop i)
  rw [← e] at hA
  unfold allE at h
  split at h
  · rename_i x hx
    exact absurd h (allE_inl hx)
  · rename_i p hp
    obtain ⟨x, rs⟩ := p
    rw [hp] at hA
    simp only at hA
    have hm : allM m (l.take i) = x := by simp only [allM, hp]
    have hr : allR m (l.take i) = rs := by simp only [allR, hp]
    rw [hm, hr]
    unfold allE allM allR
    rw [hA]
    cases hx : runA x (l.drop i) with
    | inl e =>
      simp only
      exact ⟨fun _ => by trivial, fun h => absurd h (allE_inl hx)⟩
    | inr p => simp

def h12 : List AV → Option (Prop × AV)
  | [.agg [.sl .i64 m], .sl .acc l, .int .u8 at'] => some (0 ≤ at' ∧ at' < 256, .bool true)
  | _ => none
theorem w12 : EnvOK Try.prog ⟨tys, (12, .pure h12) :: sp52⟩ := by
  refine addPure w52 (fn := Try.f12) (by kernel_rfl) (by kernel_rfl) (by kernel_rfl) ?_
  intro args p r h hp
  unfold h12 at h
  split at h
  · rename_i m l a
    simp only [Option.some.injEq, Prod.mk.injEq] at h
    obtain ⟨rfl, rfl⟩ := h
    obtain ⟨h0, h1⟩ := hp
    conv => whnf
    refine ⟨trivial, ?_⟩
    conv => whnf
    split
    · conv => whnf
      exact ⟨_, rfl, Wk.eq rfl⟩
    · rename_i hm
      have hm : m.length ≤ 60 := by have := hm; simp at this; omega
      conv => whnf
      split
      · conv => whnf
        exact ⟨_, rfl, Wk.eq rfl⟩
      · rename_i hn
        have hn : l.length ≤ 30 := by have := hn; simp at this; omega
        conv => whnf
        have hw1 : IntKind.i64.wrap a = a := wrap_small (by omega) (by omega)
        have hw2 : IntKind.i64.wrap ((l.length : Int) + 1) = (l.length : Int) + 1 := wrap_small (by omega) (by omega)
        simp only [hw1, hw2]
        refine ⟨by omega, ?_⟩
        conv => whnf
        have hl := allM_length m l
        have hr := allR_length m l
        refine ⟨⟨by omega, by omega⟩, ?_⟩
        conv => whnf
        have hk : a.tmod ((l.length : Int) + 1) = ((a.toNat % (l.length + 1) : Nat) : Int) := by
          obtain ⟨n, rfl⟩ : ∃ n : Nat, a = n := ⟨a.toNat, by omega⟩
          rfl
        simp only [hk]
        have hki : a.toNat % (l.length + 1) ≤ l.length := Nat.le_of_lt_succ (Nat.mod_lt _ (by omega))
        generalize a.toNat % (l.length + 1) = i at hki ⊢
        conv => whnf
        apply DrawVC.mix
        conv => whnf
        refine ⟨⟨by omega, by omega, by omega⟩, ?_⟩
        conv => whnf
        have hs1 : List.drop (Int.toNat 0) (List.take ((i : Int)).toNat l) = l.take i := rfl
        simp only [hs1]
        refine ⟨⟨by omega, by rw [List.length_take]; omega⟩, ?_⟩
        conv => whnf
        refine ⟨by kernel_rfl, ?_⟩
        have hl1 := allM_length m (l.take i)
        have hr1 := allR_length m (l.take i)
        rw [List.length_take] at hr1
        conv => whnf
        split
        · rename_i he
          have he : allE m (l.take i) ≠ 0 := by simpa using he
          conv => whnf
          refine ⟨_, rfl, Wk.eq ?_⟩
          simp [split_err m l i he]
        · rename_i he
          have he : allE m (l.take i) = 0 := by simpa using he
          obtain ⟨hb1, hb2⟩ := split_both m l i he
          conv => whnf
          apply DrawVC.mix
          conv => whnf
          refine ⟨⟨by omega, by omega, by omega⟩, ?_⟩
          conv => whnf
          have hs2 : List.drop ((i : Int)).toNat (List.take ((l.length : Int)).toNat l) = l.drop i := by simp
          simp only [hs2]
          refine ⟨⟨by omega, by rw [List.length_drop]; omega⟩, ?_⟩
          conv => whnf
          refine ⟨by kernel_rfl, ?_⟩
          have hl2 := allM_length (allM m (l.take i)) (l.drop i)
          have hr2 := allR_length (allM m (l.take i)) (l.drop i)
          rw [List.length_drop] at hr2
          conv => whnf
          split
          · rename_i he2
            have he2 : allE (allM m (l.take i)) (l.drop i) ≠ 0 := by simpa using he2
            conv => whnf
            refine ⟨_, rfl, Wk.eq ?_⟩
            simp [hb1 he2]
          · rename_i he2
            have he2 : allE (allM m (l.take i)) (l.drop i) = 0 := by simpa using he2
            obtain ⟨hc1, hc2, hc3⟩ := hb2 he2
            conv => whnf
            rw [show (allE m l == 0) = true by simp [hc1]]
            conv => whnf
            refine ⟨by omega, ?_⟩
            conv => whnf
            rw [show decide (allM m l = allM (allM m (l.take i)) (l.drop i)) = true by simp [hc2]]
            conv => whnf
            refine ⟨.inl rfl, ?_⟩
            conv => whnf
            refine ⟨?_, ?_⟩
            · simp only [List.length_nil, ET.bytes]; omega
            conv => whnf
            refine ⟨?_, ?_⟩
            · simp only [List.nil_append, ET.bytes]; omega
            conv => whnf
            refine ⟨by omega, ?_⟩
            conv => whnf
            refine ⟨_, rfl, Wk.eq ?_⟩
            simp [hc3]
  · simp at h

end Go.Proofs.Ythakgbecpkfeoaa.Ev
