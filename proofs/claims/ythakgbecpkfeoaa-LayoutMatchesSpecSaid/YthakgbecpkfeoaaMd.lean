/- Layer 2: memories that are equal. -/
import Derived.Test.YthakgbecpkfeoaaMc
set_option linter.unusedVariables false
set_option linter.unusedSimpArgs false
set_option maxRecDepth 100000
namespace Go.Proofs.Ythakgbecpkfeoaa.Ev

theorem wrap_small {n : Int} (h1 : -9223372036854775808 ≤ n) (h2 : n < 9223372036854775808) : IntKind.i64.wrap n = n := by
  rw [IntKind.wrap_i64]; omega

/-- Equal as far as an index. -/
def upto {α : Type} (d : α) (a b : List α) (i : Nat) : Prop := ∀ j, j < i → a.getD j d = b.getD j d
theorem upto_all {α : Type} {d : α} {a b : List α} (hl : a.length = b.length) (h : upto d a b a.length) : a = b := by
  apply List.ext_getElem hl
  intro i h1 h2
  have := h i h1
  simpa [List.getD_eq_getElem?_getD, h1, h2] using this
theorem upto_succ {α : Type} {d : α} {a b : List α} {i : Nat} (h : upto d a b i) (h2 : a.getD i d = b.getD i d) : upto d a b (i + 1) := by
  intro j hj
  by_cases e : j = i
  · subst e; exact h2
  · exact h j (by omega)

def h42 : List AV → Option (Prop × AV)
  | [.agg [.sl .i64 a], .agg [.sl .i64 b]] => some (a.length ≤ 1000000, .bool (decide (a = b)))
  | _ => none

abbrev sp38 : List (Nat × Spec) := [(38, .pure h38), (77, .pure h77), (37, .pure h37), (76, .pure h76), (40, .pure h40), (39, .pure h39)]
theorem w42 : EnvOK Try.prog ⟨tys, (42, .pure h42) :: sp38⟩ := by
  refine addPure w38 (fn := Try.f42) (by kernel_rfl) (by kernel_rfl) (by kernel_rfl) ?_
  intro args p r h hp
  unfold h42 at h
  split at h
  · rename_i a b
    simp only [Option.some.injEq, Prod.mk.injEq] at h
    obtain ⟨rfl, rfl⟩ := h
    conv => whnf
    split
    · rename_i he
      conv => whnf
      refine ⟨_, rfl, Wk.eq ?_⟩
      have : a ≠ b := by intro e; subst e; simp at he
      simp [this]
    · rename_i he
      have he : a.length = b.length := by have := he; simp at this; omega
      conv => whnf
      refine LoopVC.intro [] (fun i : Nat => [.agg [.sl .i64 a], .agg [.sl .i64 b], .ptr 2 0, .ptr 3 0, .bool false, .int .i64 i, .undef, .undef, .undef, .undef, .undef, .undef, .undef, .undef, .undef, .undef, .undef, .undef, .undef, .undef, .undef, .undef, .undef, .undef, .undef, .undef, .undef, .undef, .undef, .undef, .undef])
        (fun i => [(2, .box [.sl .i64 a]), (3, .box [.sl .i64 b])]) (fun i => i ≤ a.length ∧ upto 0 a b i) (fun i => a.length - i) 0 ⟨by omega, fun j hj => by omega⟩ ⟨?_, rfl⟩ ?_
      · repeat' (first | exact WeakL.nil | refine WeakL.cons ?_ ?_ | exact Weak1.undef _ | exact Weak1.same _)
      rintro i ⟨hi, hu⟩
      conv => whnf
      split
      · rename_i hlt
        have hlt : i < a.length := by simpa using hlt
        conv => whnf
        refine DrawVC.quiet (by kernel_rfl) ?_
        conv => whnf
        refine ⟨⟨by omega, by omega⟩, ?_⟩
        conv => whnf
        refine ⟨⟨by omega, by omega⟩, ?_⟩
        conv => whnf
        split
        · rename_i hne
          conv => whnf
          refine ⟨_, rfl, Wk.eq ?_⟩
          have : a ≠ b := by intro e; subst e; simp at hne
          simp [this]
        · rename_i heq
          conv => whnf
          have hw : IntKind.i64.wrap ((i : Int) + 1) = ((i + 1 : Nat) : Int) := by rw [wrap_small (by omega) (by omega)]; rfl
          refine ⟨i + 1, by omega, ⟨by omega, upto_succ hu (by simpa [dflt_i64] using heq)⟩, ⟨?_, rfl⟩⟩
          rw [hw]
          repeat' (first | exact WeakL.nil | refine WeakL.cons ?_ ?_ | exact Weak1.undef _ | exact Weak1.same _)
      · rename_i hge
        have hge : i = a.length := by have : ¬ i < a.length := by simpa using hge
                                      omega
        conv => whnf
        refine ⟨_, rfl, Wk.eq ?_⟩
        subst hge
        have := upto_all he hu
        simp [this]
  · simp at h

end Go.Proofs.Ythakgbecpkfeoaa.Ev
