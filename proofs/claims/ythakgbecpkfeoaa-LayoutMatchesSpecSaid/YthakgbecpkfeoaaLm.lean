/- Layer 15: the reference's initializing accesses; the law LayoutMatchesSpec, walked. -/
import Derived.Test.YthakgbecpkfeoaaPe
set_option linter.unusedVariables false
set_option linter.unusedSimpArgs false
set_option maxRecDepth 100000
namespace Go.Proofs.Ythakgbecpkfeoaa.Ev

def h35 : List AV → Option (Prop × AV)
  | [.agg [.int .i64 t, .int .i64 l, .int .i64 k, .int .i64 s, .int .i64 m, .int .i64 c, .int .i64 st, .int .i64 lg, .int .i64 en, .int .i64 th, .int .i64 lk, .int .i64 lo, .int .i64 sz], .sl .i64 first] => some ((0 ≤ l ∧ l ≤ 1000) ∧ first.length ≤ 1000, .sl .acc (initU st lo l first (min first.length l.toNat)))
  | _ => none
theorem w35 : EnvOK Try.prog ⟨tys, (35, .pure h35) :: sp20⟩ := by
  refine addPure w20 (fn := Try.f35) (by kernel_rfl) (by kernel_rfl) (by kernel_rfl) ?_
  intro args p r h hp
  unfold h35 at h
  split at h
  · rename_i t l k s m c st lg en th lk lo sz first
    simp only [Option.some.injEq, Prod.mk.injEq] at h
    obtain ⟨rfl, rfl⟩ := h
    obtain ⟨hl, hf⟩ := hp
    conv => whnf
    refine LoopVC.intro [] (fun i : Nat => [.agg [.int .i64 t, .int .i64 l, .int .i64 k, .int .i64 s, .int .i64 m, .int .i64 c, .int .i64 st, .int .i64 lg, .int .i64 en, .int .i64 th, .int .i64 lk, .int .i64 lo, .int .i64 sz], .sl .i64 first, .ptr 2 0, .skp, .own 4, (match i with | 0 => .lit .acc [storeA st 1] | _ + 1 => .own 5), .int .i64 i, .undef, .undef, .undef, .undef, .undef, .undef, .undef, .undef, .undef, .undef, .undef, .undef, .undef, .undef, .undef, .undef, .undef, .undef, .undef, .undef, .undef, .undef, .undef, .undef, .undef, .undef, .undef, .undef, .undef])
      (fun i => match i with | 0 => [(2, .box [.int .i64 t, .int .i64 l, .int .i64 k, .int .i64 s, .int .i64 m, .int .i64 c, .int .i64 st, .int .i64 lg, .int .i64 en, .int .i64 th, .int .i64 lk, .int .i64 lo, .int .i64 sz]), (4, .arr .acc [])] | j + 1 => [(2, .box [.int .i64 t, .int .i64 l, .int .i64 k, .int .i64 s, .int .i64 m, .int .i64 c, .int .i64 st, .int .i64 lg, .int .i64 en, .int .i64 th, .int .i64 lk, .int .i64 lo, .int .i64 sz]), (4, .arr .acc []), (5, .arr .acc (initU st lo l first (j + 1)))])
      (fun i => i ≤ first.length ∧ i ≤ l.toNat) (fun i => first.length - i) 0 (by omega) ⟨?_, rfl⟩ ?_
    · repeat' (first | exact WeakL.nil | refine WeakL.cons ?_ ?_ | exact Weak1.undef _ | exact Weak1.same _)
    rintro i ⟨hi1, hi2⟩
    rcases i with _ | i
    · conv => whnf
      split
      · rename_i hlt
        have hlt : 0 < first.length := by have := hlt; simp at this; omega
        conv => whnf
        split
        · rename_i hlt2
          have hlt2 : 0 < l := by have := hlt2; simp at this; omega
          conv => whnf
          refine DrawVC.tail 10 ?_
          conv => whnf
          refine ⟨trivial, ?_⟩
          conv => whnf
          refine ⟨⟨by omega, by omega⟩, ?_⟩
          conv => whnf
          refine ⟨by kernel_rfl, ?_⟩
          conv => whnf
          refine ⟨.inr (by simp), ?_⟩
          conv => whnf
          refine ⟨by simp only [List.length_cons, List.length_nil, ET.bytes]; omega, ?_⟩
          conv => whnf
          refine ⟨1, by omega, by omega, ?_⟩
          conv => whnf
          refine ⟨?_, ?_⟩
          · repeat' (first | exact WeakL.nil | refine WeakL.cons ?_ ?_ | exact Weak1.undef _ | exact Weak1.same _)
          · have := initU_succ st lo l first 0
            dsimp only
            rw [this]
            rfl
        · rename_i hge
          have hge : l = 0 := by have := hge; simp at this; omega
          conv => whnf
          refine ⟨_, rfl, Wk.eq ?_⟩
          simp [hge, initU]
      · rename_i hge
        have hge : first = [] := by have := hge; simp at this; first | exact this | exact List.length_eq_zero_iff.1 (by omega)
        conv => whnf
        refine ⟨_, rfl, Wk.eq ?_⟩
        simp [hge, initU]
    · conv => whnf
      split
      · rename_i hlt
        have hlt : i + 1 < first.length := by have := hlt; simp at this; omega
        conv => whnf
        split
        · rename_i hlt2
          have hlt2 : ((i + 1 : Nat) : Int) < l := by have := hlt2; simp at this; omega
          conv => whnf
          refine DrawVC.tail 10 ?_
          conv => whnf
          refine ⟨trivial, ?_⟩
          conv => whnf
          refine ⟨⟨by omega, by omega⟩, ?_⟩
          conv => whnf
          refine ⟨by kernel_rfl, ?_⟩
          conv => whnf
          refine ⟨by simp only [List.length_cons, List.length_nil, ET.bytes, initU_length]; omega, ?_⟩
          conv => whnf
          have hw : IntKind.i64.wrap (((i + 1 : Nat) : Int) + 1) = ((i + 1 + 1 : Nat) : Int) := by rw [wrap_small (by omega) (by omega)]; rfl
          rw [hw]
          refine ⟨i + 1 + 1, by omega, by omega, ?_⟩
          conv => whnf
          refine ⟨?_, ?_⟩
          · repeat' (first | exact WeakL.nil | refine WeakL.cons ?_ ?_ | exact Weak1.undef _ | exact Weak1.same _)
          · have := initU_succ st lo l first (i + 1)
            dsimp only
            rw [this]
            rfl
        · rename_i hge
          have hge : i + 1 = l.toNat := by have := hge; simp at this; omega
          conv => whnf
          refine ⟨_, rfl, Wk.eq ?_⟩
          rw [show min first.length l.toNat = i + 1 by omega]
      · rename_i hge
        have hge : i + 1 = first.length := by have := hge; simp at this; omega
        conv => whnf
        refine ⟨_, rfl, Wk.eq ?_⟩
        rw [show min first.length l.toNat = i + 1 by omega]
  · simp at h
abbrev sp35 : List (Nat × Spec) := (35, .pure h35) :: sp20

theorem off_right {t l k s m : Int} : layRight t l k s m 0 0 0 0 0 0 0 0 = false := by simp [layRight]

def h5 : List AV → Option (Prop × AV)
  | [.agg [.int .i64 t, .int .i64 l, .int .i64 k, .int .i64 s, .int .i64 m], .int .i64 n, .sl .i64 first] => some (True, .bool true)
  | _ => none
theorem w5 : EnvOK Try.prog ⟨tys, (5, .pure h5) :: sp35⟩ := by
  refine addPure w35 (fn := Try.f5) (by kernel_rfl) (by kernel_rfl) (by kernel_rfl) ?_
  intro args p r h hp
  unfold h5 at h
  split at h
  · rename_i t l k s m n first
    simp only [Option.some.injEq, Prod.mk.injEq] at h
    obtain ⟨rfl, rfl⟩ := h
    conv => whnf
    refine ⟨trivial, ?_⟩
    conv => whnf
    split
    · conv => whnf
      exact ⟨_, rfl, Wk.eq rfl⟩
    rename_i hf
    have hf : first.length ≤ 60 := by have := hf; simp at this; omega
    conv => whnf
    refine ⟨trivial, ?_⟩
    conv => whnf
    refine ⟨trivial, ?_⟩
    cases hb : mayC t l k s m with
    | false =>
      conv => whnf
      refine ⟨trivial, ?_⟩
      conv => whnf
      refine ⟨_, rfl, Wk.eq ?_⟩
      rw [off_right]
      rfl
    | true =>
      obtain ⟨ht, hl, hk, hs, hm⟩ := mayC_of hb
      conv => whnf
      split
      · rename_i he
        exfalso
        simp at he
      conv => whnf
      refine DrawVC.quiet (by kernel_rfl) ?_
      conv => whnf
      refine ⟨trivial, ?_⟩
      rw [show layRight (ofI true t) (ofI true l) (ofI true k) (ofI true s) (ofI true m) (ofI true 0) (ofI true 1) (ofI true 2) (ofI true 3) (ofI true 4) (ofI true (4 + 4 * t)) (ofI true (4 + 4 * t + k)) (ofI true (4 + 4 * t + k + 4 * l)) = true by simp [layRight, ofI, hb]]
      conv => whnf
      refine ⟨trivial, ?_⟩
      conv => whnf
      refine ⟨trivial, ?_⟩
      conv => whnf
      refine ⟨by simp [nine], ?_⟩
      rw [show decide (nine (ofI true t) (ofI true l) (ofI true k) (ofI true 4) (ofI true (4 + 4 * t)) (ofI true (4 + 4 * t + k)) n = nine (ofI true t) (ofI true l) (ofI true k) (ofI true 4) (ofI true (4 + 4 * t)) (ofI true (4 + 4 * t + k)) n) = true by simp]
      conv => whnf
      have hol : ofI true l = l := rfl
      refine ⟨⟨by rw [hol]; omega, by omega⟩, ?_⟩
      conv => whnf
      refine ⟨⟨by rw [hol]; omega, by omega⟩, ?_⟩
      conv => whnf
      refine ⟨⟨rfl, by rw [initU_length]; omega⟩, ?_⟩
      conv => whnf
      exact ⟨_, rfl, Wk.eq rfl⟩
  · simp at h

end Go.Proofs.Ythakgbecpkfeoaa.Ev
