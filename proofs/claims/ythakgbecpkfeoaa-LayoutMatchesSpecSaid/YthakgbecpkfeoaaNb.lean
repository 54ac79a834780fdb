/- Layer 2: results that are equal; new memories. -/
import Derived.Test.YthakgbecpkfeoaaNa
set_option linter.unusedVariables false
set_option linter.unusedSimpArgs false
set_option maxRecDepth 100000
namespace Go.Proofs.Ythakgbecpkfeoaa.Ev

def resD : Res := ⟨0, false⟩
theorem dflt_res : (ET.res.dflt : Res) = ⟨0, false⟩ := rfl

def h45 : List AV → Option (Prop × AV)
  | [.sl .res a, .sl .res b] => some (a.length ≤ 1000000, .bool (decide (a = b)))
  | _ => none
abbrev sp44 : List (Nat × Spec) := (44, .pure h44) :: sp36
theorem w45 : EnvOK Try.prog ⟨tys, (45, .pure h45) :: sp44⟩ := by
  refine addPure w44 (fn := Try.f45) (by kernel_rfl) (by kernel_rfl) (by kernel_rfl) ?_
  intro args p r h hp
  unfold h45 at h
  split at h
  · rename_i a b
    simp only [Option.some.injEq, Prod.mk.injEq] at h
    obtain ⟨rfl, rfl⟩ := h
    conv => whnf
    split
    · rename_i he
      conv => whnf
      refine ⟨_, rfl, Wk.eq ?_⟩
      have : a ≠ b := by intro e; subst e; simp at he
      simp [this]
    · rename_i he
      have he : a.length = b.length := by have := he; simp at this; omega
      conv => whnf
      refine LoopVC.intro [] (fun i : Nat => [.sl .res a, .sl .res b, .undef, .undef, .bool false, .int .i64 i, .undef, .undef, .undef, .undef, .undef, .undef, .undef, .undef, .undef, .undef, .undef, .undef, .undef, .undef, .undef, .undef, .undef, .undef, .undef, .undef])
        (fun i => []) (fun i => i ≤ a.length ∧ upto (⟨0, false⟩ : Res) a b i) (fun i => a.length - i) 0 ⟨by omega, fun j hj => by omega⟩ ⟨?_, rfl⟩ ?_
      · repeat' (first | exact WeakL.nil | refine WeakL.cons ?_ ?_ | exact Weak1.undef _ | exact Weak1.same _)
      rintro i ⟨hi, hu⟩
      conv => whnf
      split
      · rename_i hlt
        have hlt : i < a.length := by simpa using hlt
        conv => whnf
        refine DrawVC.quiet (by kernel_rfl) ?_
        conv => whnf
        refine ⟨⟨by omega, by omega⟩, ?_⟩
        conv => whnf
        refine ⟨⟨by omega, by omega⟩, ?_⟩
        conv => whnf
        split
        · rename_i hne
          conv => whnf
          refine ⟨_, rfl, Wk.eq ?_⟩
          have : a ≠ b := by intro e; subst e; simp at hne
          simp [this]
        · rename_i heq
          conv => whnf
          have hw : IntKind.i64.wrap ((i : Int) + 1) = ((i + 1 : Nat) : Int) := by rw [wrap_small (by omega) (by omega)]; rfl
          refine ⟨i + 1, by omega, ⟨by omega, upto_succ hu ?_⟩, ⟨?_, rfl⟩⟩
          · have h2 := heq
            simp only [Bool.not_eq_false', Bool.and_eq_true, beq_iff_eq, Bool.and_true, dflt_res, Int.toNat_natCast] at h2
            generalize a.getD i ⟨0, false⟩ = u at h2 ⊢
            generalize b.getD i ⟨0, false⟩ = v at h2 ⊢
            cases u; cases v; simp_all
          rw [hw]
          repeat' (first | exact WeakL.nil | refine WeakL.cons ?_ ?_ | exact Weak1.undef _ | exact Weak1.same _)
      · rename_i hge
        have hge : i = a.length := by have : ¬ i < a.length := by simpa using hge
                                      omega
        conv => whnf
        refine ⟨_, rfl, Wk.eq ?_⟩
        subst hge
        have := upto_all he hu
        simp [this]
  · simp at h

def h52 : List AV → Option (Prop × AV)
  | [.int .i64 n] => some (0 ≤ n ∧ n ≤ 1000000, .agg [.sl .i64 (List.replicate n.toNat (0 : Int))])
  | _ => none
abbrev sp45 : List (Nat × Spec) := (45, .pure h45) :: sp44
theorem w52 : EnvOK Try.prog ⟨tys, (52, .pure h52) :: sp45⟩ := by
  refine addPure w45 (fn := Try.f52) (by kernel_rfl) (by kernel_rfl) (by kernel_rfl) ?_
  intro args p r h hp
  unfold h52 at h
  split at h
  · rename_i n
    simp only [Option.some.injEq, Prod.mk.injEq] at h
    obtain ⟨rfl, rfl⟩ := h
    obtain ⟨h0, h1⟩ := hp
    conv => whnf
    refine ⟨⟨rfl, h0, by omega⟩, ?_⟩
    conv => whnf
    exact ⟨_, rfl, Wk.eq rfl⟩
  · simp at h
abbrev sp52 : List (Nat × Spec) := (52, .pure h52) :: sp45

end Go.Proofs.Ythakgbecpkfeoaa.Ev
