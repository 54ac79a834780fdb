/- Layer 2: mem.Do. -/
import Derived.Test.YthakgbecpkfeoaaMa
set_option linter.unusedVariables false
set_option linter.unusedSimpArgs false
set_option maxRecDepth 100000
namespace Go.Proofs.Ythakgbecpkfeoaa.Ev

/-- One access: memory, result, error. -/
def doA (m : List Int) (k c o n : Int) (s : ByteArray) : List Int × Res × Int :=
  if rightA k c o n s = true then
    if c ≥ m.length then (m, ⟨0, false⟩, 8)
    else
      let was := m.getD c.toNat 0
      let r := nextA was k o n
      (if r.1 = was then m else m.set c.toNat r.1, ⟨was, r.2⟩, 0)
  else (m, ⟨0, false⟩, 1)

def h37 : List AV → Option (Prop × AV)
  | [.agg [.sl .i64 m], .agg [.int .i64 k, .int .i64 c, .int .i64 o, .int .i64 n, .str s]] =>
    some (m.length ≤ 1000000, .tup [.agg [.sl .i64 (doA m k c o n s).1], .agg [.int .i64 (doA m k c o n s).2.1.val, .bool (doA m k c o n s).2.1.ok], .int .i64 (doA m k c o n s).2.2])
  | _ => none

theorem rightA_pos {k c o n : Int} {s : ByteArray} (h : rightA k c o n s = true) : 0 ≤ c := by
  unfold rightA at h
  simp only [Bool.and_eq_true, decide_eq_true_eq] at h
  exact h.1.1

theorem dflt_i64 : (ET.i64.dflt : Int) = 0 := rfl

theorem copy_all (m : List Int) : List.take (List.replicate ((m.length : Int)).toNat (0 : Int)).length m ++ List.drop m.length (List.replicate ((m.length : Int)).toNat (0 : Int)) = m := by simp

theorem w37 : EnvOK Try.prog ⟨tys, [(37, .pure h37), (76, .pure h76), (40, .pure h40), (39, .pure h39)]⟩ := by
  refine addPure w76 (fn := Try.f37) (by kernel_rfl) (by kernel_rfl) (by kernel_rfl) ?_
  intro args p r h hp
  unfold h37 at h
  split at h
  · rename_i m k c o n s
    simp only [Option.some.injEq, Prod.mk.injEq] at h
    obtain ⟨rfl, rfl⟩ := h
    conv => whnf
    refine ⟨trivial, ?_⟩
    conv => whnf
    split
    · rename_i hr
      conv => whnf
      refine ⟨_, rfl, Wk.eq ?_⟩
      simp_all [doA]
    · rename_i hr
      have hr' : rightA k c o n s = true := by simpa using hr
      have h0 := rightA_pos hr'
      conv => whnf
      split
      · conv => whnf
        refine ⟨_, rfl, Wk.eq ?_⟩
        simp_all [doA]
      · rename_i hlt
        have hlt' : c < m.length := by simpa using hlt
        have hnl : ¬ (c ≥ m.length) := by omega
        have hne : m ≠ [] := by intro e; subst e; simp at hlt'; omega
        have hidx : c.toNat < m.length := by omega
        conv => whnf
        refine ⟨⟨h0, hlt'⟩, ?_⟩
        conv => whnf
        refine ⟨trivial, ?_⟩
        conv => whnf
        split
        · rename_i he
          conv => whnf
          apply DrawVC.any
          · conv => whnf
            repeat' (first | exact True.intro | exact ⟨rfl, rfl⟩ | apply And.intro | ((conv => whnf); first | exact True.intro | exact ⟨rfl, rfl⟩ | apply And.intro))
          · conv => whnf
            refine ⟨_, rfl, Wk.eq ?_⟩
            simp only [dflt_i64, beq_iff_eq] at he
            simp only [doA, hr', hnl, dflt_i64, he, if_true, if_false]
        · rename_i he
          conv => whnf
          refine ⟨⟨rfl, by omega, by omega⟩, ?_⟩
          conv => whnf
          refine ⟨⟨by simpa using hne, hne⟩, ?_⟩
          conv => whnf
          have hcp := copy_all m
          refine ⟨⟨h0, by rw [hcp]; exact hlt'⟩, ?_⟩
          conv => whnf
          refine ⟨by rw [hcp]; exact hidx, ?_⟩
          conv => whnf
          apply DrawVC.any
          · conv => whnf
            repeat' (first | exact True.intro | exact ⟨rfl, rfl⟩ | apply And.intro | ((conv => whnf); first | exact True.intro | exact ⟨rfl, rfl⟩ | apply And.intro))
          · conv => whnf
            refine ⟨_, rfl, Wk.eq ?_⟩
            simp only [dflt_i64, beq_eq_false_iff_ne] at he
            simp only [doA, hr', hnl, dflt_i64, he, if_true, if_false]
            rw [hcp]
  · simp at h

end Go.Proofs.Ythakgbecpkfeoaa.Ev
