/- Layer 15: the law LayoutPartitions, walked: the program's part. -/
import Derived.Test.YthakgbecpkfeoaaLj
set_option linter.unusedVariables false
set_option linter.unusedSimpArgs false
set_option maxRecDepth 100000
namespace Go.Proofs.Ythakgbecpkfeoaa.Ev

def h6 : List AV → Option (Prop × AV)
  | [.agg [.int .i64 t, .int .i64 l, .int .i64 k, .int .i64 s, .int .i64 m]] => some (True, .bool true)
  | _ => none
theorem w6 : EnvOK Try.prog ⟨tys, (6, .pure h6) :: sp20⟩ := by
  refine addPure w20 (fn := Try.f6) (by kernel_rfl) (by kernel_rfl) (by kernel_rfl) ?_
  intro args p r h hp
  unfold h6 at h
  split at h
  · rename_i t l k s m
    simp only [Option.some.injEq, Prod.mk.injEq] at h
    obtain ⟨rfl, rfl⟩ := h
    conv => whnf
    refine ⟨trivial, ?_⟩
    conv => whnf
    refine ⟨trivial, ?_⟩
    cases hb : mayC t l k s m with
    | false =>
      conv => whnf
      exact ⟨_, rfl, Wk.eq rfl⟩
    | true =>
      obtain ⟨ht, hl, hk, hs, hm⟩ := mayC_of hb
      conv => whnf
      have hsz : ofI true (4 + 4 * t + k + 4 * l) = 4 + 4 * t + k + 4 * l := rfl
      refine ⟨⟨rfl, by rw [hsz]; omega, by rw [hsz]; omega⟩, ?_⟩
      conv => whnf
      have hrl : ∀ x : Int, (List.replicate (ofI true (4 + 4 * t + k + 4 * l)).toNat x).length = (4 + 4 * t + k + 4 * l).toNat := by intro x; rw [hsz]; simp
      generalize hR : List.replicate (ofI true (4 + 4 * t + k + 4 * l)).toNat (0 : Int) = R
      have hRl : R.length = (4 + 4 * t + k + 4 * l).toNat := by rw [← hR]; exact hrl 0
      have hR0 : ∀ c, R.getD c 0 = 0 := by
        intro c
        rw [← hR, List.getD_eq_getElem?_getD, List.getElem?_replicate]
        split <;> rfl
      have bd : ∀ (x : Int) (A : List Int), A.length = R.length → 0 ≤ x → x ≤ 3 → x.toNat < A.length ∧ x < (A.length : Int) := fun x A hA h1 h2 => by rw [hA, hRl]; omega
      refine ⟨⟨by decide, (bd _ R rfl (by decide) (by decide)).2⟩, ?_⟩
      conv => whnf
      refine ⟨(bd _ R rfl (by decide) (by decide)).1, ?_⟩
      conv => whnf
      refine ⟨⟨by decide, (bd _ R rfl (by decide) (by decide)).2⟩, ?_⟩
      show evOps _ _ _ _ _ _ _
      unfold evOps
      conv => whnf
      refine ⟨(bd _ R rfl (by decide) (by decide)).1, ?_⟩
      generalize eA0 : R.set (ofI true 0).toNat (IntKind.i64.wrap (R.getD (ofI true 0).toNat (0 : Int) + 1)) = A0
      have lA0 : A0.length = R.length := by rw [← eA0, List.length_set]
      conv => whnf
      refine ⟨⟨by decide, (bd _ A0 lA0 (by decide) (by decide)).2⟩, ?_⟩
      conv => whnf
      refine ⟨(bd _ A0 lA0 (by decide) (by decide)).1, ?_⟩
      conv => whnf
      refine ⟨⟨by decide, (bd _ A0 lA0 (by decide) (by decide)).2⟩, ?_⟩
      show evOps _ _ _ _ _ _ _
      unfold evOps
      conv => whnf
      refine ⟨(bd _ A0 lA0 (by decide) (by decide)).1, ?_⟩
      generalize eA1 : A0.set (ofI true 1).toNat (IntKind.i64.wrap (A0.getD (ofI true 1).toNat (0 : Int) + 1)) = A1
      have lA1 : A1.length = R.length := by rw [← eA1, List.length_set, lA0]
      conv => whnf
      refine ⟨⟨by decide, (bd _ A1 lA1 (by decide) (by decide)).2⟩, ?_⟩
      conv => whnf
      refine ⟨(bd _ A1 lA1 (by decide) (by decide)).1, ?_⟩
      conv => whnf
      refine ⟨⟨by decide, (bd _ A1 lA1 (by decide) (by decide)).2⟩, ?_⟩
      show evOps _ _ _ _ _ _ _
      unfold evOps
      conv => whnf
      refine ⟨(bd _ A1 lA1 (by decide) (by decide)).1, ?_⟩
      generalize eA2 : A1.set (ofI true 2).toNat (IntKind.i64.wrap (A1.getD (ofI true 2).toNat (0 : Int) + 1)) = A2
      have lA2 : A2.length = R.length := by rw [← eA2, List.length_set, lA1]
      conv => whnf
      refine ⟨⟨by decide, (bd _ A2 lA2 (by decide) (by decide)).2⟩, ?_⟩
      conv => whnf
      refine ⟨(bd _ A2 lA2 (by decide) (by decide)).1, ?_⟩
      conv => whnf
      refine ⟨⟨by decide, (bd _ A2 lA2 (by decide) (by decide)).2⟩, ?_⟩
      show evOps _ _ _ _ _ _ _
      unfold evOps
      conv => whnf
      refine ⟨(bd _ A2 lA2 (by decide) (by decide)).1, ?_⟩
      generalize eA3 : A2.set (ofI true 3).toNat (IntKind.i64.wrap (A2.getD (ofI true 3).toNat (0 : Int) + 1)) = A3
      have lA3 : A3.length = R.length := by rw [← eA3, List.length_set, lA2]
      conv => whnf
      have hlen : (A3.length : Int) = 4 + 4 * t + k + 4 * l := by rw [lA3, hRl]; omega
      have hstart : HadIs t l k A3 0 := by
        refine had_start ht hl hk A3 hlen fun c hc => ?_
        rw [lA3] at hc
        have e0 : (ofI true 0).toNat = 0 := rfl
        have e1 : (ofI true 1).toNat = 1 := rfl
        have e2 : (ofI true 2).toNat = 2 := rfl
        have e3 : (ofI true 3).toNat = 3 := rfl
        have hw1 : IntKind.i64.wrap (0 + 1) = 1 := wrap_small (by omega) (by omega)
        have hw2 : IntKind.i64.wrap 1 = 1 := wrap_small (by omega) (by omega)
        rw [← eA3, getD_set, lA2, ← eA2, getD_set, getD_set, lA1, ← eA1, getD_set, getD_set, getD_set, lA0, ← eA0, getD_set, getD_set, getD_set, getD_set, e0, e1, e2, e3]
        simp only [hR0, hw1, hc, and_true]
        have : c = 0 ∨ c = 1 ∨ c = 2 ∨ c = 3 ∨ 4 ≤ c := by omega
        rcases this with rfl | rfl | rfl | rfl | h4
        · simp [hw2]
        · simp [hw2]
        · simp [hw2]
        · simp [hw2]
        · have n0 : ¬ 0 = c := by omega
          have n1 : ¬ 1 = c := by omega
          have n2 : ¬ 2 = c := by omega
          have n3 : ¬ 3 = c := by omega
          have n4 : ¬ c < 4 := by omega
          simp [n0, n1, n2, n3, n4]
      clear eA3 eA2 eA1 eA0 hR hR0 lA0 lA1 lA2 bd
      refine LoopVC.intro [] (fun p : Nat × List Int => [.agg [.int .i64 t, .int .i64 l, .int .i64 k, .int .i64 s, .int .i64 m], .ptr 1 0, .bool false, .bool true, .ptr 4 0, .int .i64 0, .own 6, .int .i64 p.1, .undef, .undef, .undef, .undef, .undef, .undef, .undef, .undef, .undef, .undef, .undef, .undef, .undef, .undef, .undef, .undef, .undef, .undef, .undef, .undef, .undef, .undef, .undef, .undef, .undef, .undef, .undef, .undef, .undef, .undef, .undef, .undef, .undef, .undef, .undef, .undef, .undef, .undef, .undef, .undef, .undef, .undef, .undef, .undef, .undef, .undef, .undef, .undef, .undef, .undef, .undef, .undef, .undef, .undef, .undef, .undef, .undef, .undef, .undef, .undef, .undef, .undef, .undef, .undef, .undef, .undef, .undef, .undef, .undef, .undef, .undef, .undef, .undef, .undef, .undef, .undef, .undef, .undef, .undef, .undef, .undef, .undef, .undef, .undef, .undef, .undef, .undef, .undef, .undef, .undef, .undef, .undef, .undef, .undef, .undef, .undef])
        (fun p => [(1, .box [.int .i64 t, .int .i64 l, .int .i64 k, .int .i64 s, .int .i64 m]), (4, .box [.int .i64 t, .int .i64 l, .int .i64 k, .int .i64 s, .int .i64 m, .int .i64 0, .int .i64 1, .int .i64 2, .int .i64 3, .int .i64 4, .int .i64 (4 + 4 * t), .int .i64 (4 + 4 * t + k), .int .i64 (4 + 4 * t + k + 4 * l)]), (6, .arr .i64 p.2)])
        (fun p => p.1 ≤ 40 ∧ HadIs t l k p.2 (9 * (p.1 : Int))) (fun p => 40 - p.1) (0, A3) ⟨by simp, by simpa using hstart⟩ ⟨?_, rfl⟩ ?_
      · repeat' (first | exact WeakL.nil | refine WeakL.cons ?_ ?_ | exact Weak1.undef _ | exact Weak1.same _)
      rintro ⟨n, had⟩ ⟨hn, hhad⟩
      dsimp only at hn hhad ⊢
      conv => whnf
      split
      · rename_i hlt
        have hlt : n < 40 := by have := hlt; simp at this; omega
        conv => whnf
        refine ⟨trivial, ?_⟩
        conv => whnf
        refine LoopVC.intro [] (fun p : Nat × List Int => [.agg [.int .i64 t, .int .i64 l, .int .i64 k, .int .i64 s, .int .i64 m], .ptr 1 0, .bool false, .bool true, .ptr 4 0, .int .i64 0, .own 6, .int .i64 n, .sl .i64 (nine t l k 4 (4 + 4 * t) (4 + 4 * t + k) n), .int .i64 p.1, .undef, .undef, .undef, .undef, .undef, .undef, .undef, .undef, .undef, .undef, .undef, .undef, .undef, .undef, .undef, .undef, .undef, .undef, .undef, .undef, .undef, .undef, .undef, .undef, .undef, .undef, .undef, .undef, .undef, .undef, .undef, .undef, .undef, .undef, .undef, .undef, .undef, .undef, .undef, .undef, .undef, .undef, .undef, .undef, .undef, .undef, .undef, .undef, .undef, .undef, .undef, .undef, .undef, .undef, .undef, .undef, .undef, .undef, .undef, .undef, .undef, .undef, .undef, .undef, .undef, .undef, .undef, .undef, .undef, .undef, .undef, .undef, .undef, .undef, .undef, .undef, .undef, .undef, .undef, .undef, .undef, .undef, .undef, .undef, .undef, .undef, .undef, .undef, .undef, .undef, .undef, .undef, .undef, .undef])
          (fun p => [(1, .box [.int .i64 t, .int .i64 l, .int .i64 k, .int .i64 s, .int .i64 m]), (4, .box [.int .i64 t, .int .i64 l, .int .i64 k, .int .i64 s, .int .i64 m, .int .i64 0, .int .i64 1, .int .i64 2, .int .i64 3, .int .i64 4, .int .i64 (4 + 4 * t), .int .i64 (4 + 4 * t + k), .int .i64 (4 + 4 * t + k + 4 * l)]), (6, .arr .i64 p.2)])
          (fun p => p.1 ≤ 9 ∧ HadIs t l k p.2 (9 * (n : Int) + (p.1 : Nat))) (fun p => 9 - p.1) (0, had) ⟨by simp, by simpa using hhad⟩ ⟨?_, rfl⟩ ?_
        · repeat' (first | exact WeakL.nil | refine WeakL.cons ?_ ?_ | exact Weak1.undef _ | exact Weak1.same _)
        rintro ⟨j, had⟩ ⟨hj, hhad⟩
        dsimp only at hj hhad ⊢
        conv => whnf
        split
        · rename_i hjlt
          have hjlt : j < 9 := by have := hjlt; simp [nine] at this; omega
          have hln : (nine t l k 4 (4 + 4 * t) (4 + 4 * t + k) (n : Int)).length = 9 := rfl
          conv => whnf
          refine DrawVC.quiet (by kernel_rfl) ?_
          conv => whnf
          refine ⟨⟨by omega, by rw [hln]; omega⟩, ?_⟩
          conv => whnf
          generalize hP : (nine t l k 4 (4 + 4 * t) (4 + 4 * t + k) (n : Int)).getD ((j : Int)).toNat ET.i64.dflt = P
          have hcase := nine_case (n := n) ht hl hk (by omega) j hjlt P hP
          have hPm : -1 ≤ P ∧ P < 4 + 4 * t + k + 4 * l := by
            rcases hcase with ⟨h1, _⟩ | ⟨h1, _⟩ <;> omega
          rw [show decide (P < -1) = false by simp; omega]
          conv => whnf
          refine ⟨⟨by omega, by rw [hln]; omega⟩, ?_⟩
          conv => whnf
          rw [hP, show decide (P ≥ 4 + 4 * t + k + 4 * l) = false by simp; omega]
          conv => whnf
          refine ⟨⟨by omega, by rw [hln]; omega⟩, ?_⟩
          conv => whnf
          rw [hP]
          have hw : IntKind.i64.wrap ((j : Int) + 1) = ((j + 1 : Nat) : Int) := by rw [wrap_small (by omega) (by omega)]; rfl
          rcases hcase with ⟨hm1, hno⟩ | ⟨hin, hpos, huniq⟩
          · rw [show decide (P ≥ 0) = false by simp; omega]
            conv => whnf
            rw [hw]
            refine ⟨(j + 1, had), by simp only; omega, ⟨by simp only; omega, hhad.skip hno⟩, ?_⟩
            conv => whnf
            refine ⟨?_, rfl⟩
            repeat' (first | exact WeakL.nil | refine WeakL.cons ?_ ?_ | exact Weak1.undef _ | exact Weak1.same _)
          · rw [show decide (P ≥ 0) = true by simp; omega]
            have hhl := hhad.1
            conv => whnf
            refine ⟨⟨by omega, by rw [hln]; omega⟩, ?_⟩
            conv => whnf
            rw [hP]
            refine ⟨⟨by omega, by omega⟩, ?_⟩
            conv => whnf
            refine ⟨by omega, ?_⟩
            conv => whnf
            refine ⟨⟨by omega, by omega⟩, ?_⟩
            show evOps _ _ _ _ _ _ _
            unfold evOps
            conv => whnf
            refine ⟨by omega, ?_⟩
            conv => whnf
            rw [hw]
            refine ⟨(j + 1, had.set P.toNat (IntKind.i64.wrap (had.getD P.toNat 0 + 1))), by simp only; omega, ⟨by simp only; omega, hhad.hit hin hpos huniq⟩, ?_⟩
            conv => whnf
            refine ⟨?_, rfl⟩
            repeat' (first | exact WeakL.nil | refine WeakL.cons ?_ ?_ | exact Weak1.undef _ | exact Weak1.same _)
        · rename_i hge
          have hge : j = 9 := by have := hge; simp [nine] at this; omega
          have hw : IntKind.i64.wrap ((n : Int) + 1) = ((n + 1 : Nat) : Int) := by rw [wrap_small (by omega) (by omega)]; rfl
          conv => whnf
          rw [hw]
          refine ⟨(n + 1, had), by simp only; omega, ⟨by simp only; omega, ?_⟩, ?_⟩
          · subst hge
            simp only
            rw [show 9 * ((n + 1 : Nat) : Int) = 9 * (n : Int) + ((9 : Nat) : Int) by omega]
            exact hhad
          conv => whnf
          refine ⟨?_, rfl⟩
          repeat' (first | exact WeakL.nil | refine WeakL.cons ?_ ?_ | exact Weak1.undef _ | exact Weak1.same _)
      · rename_i hge
        have hge : n = 40 := by have := hge; simp at this; omega
        conv => whnf
        refine LoopVC.intro [] (fun i : Nat => [.agg [.int .i64 t, .int .i64 l, .int .i64 k, .int .i64 s, .int .i64 m], .ptr 1 0, .bool false, .bool true, .ptr 4 0, .int .i64 0, .own 6, .int .i64 n, .undef, .undef, .int .i64 i, .undef, .undef, .undef, .undef, .undef, .undef, .undef, .undef, .undef, .undef, .undef, .undef, .undef, .undef, .undef, .undef, .undef, .undef, .undef, .undef, .undef, .undef, .undef, .undef, .undef, .undef, .undef, .undef, .undef, .undef, .undef, .undef, .undef, .undef, .undef, .undef, .undef, .undef, .undef, .undef, .undef, .undef, .undef, .undef, .undef, .undef, .undef, .undef, .undef, .undef, .undef, .undef, .undef, .undef, .undef, .undef, .undef, .undef, .undef, .undef, .undef, .undef, .undef, .undef, .undef, .undef, .undef, .undef, .undef, .undef, .undef, .undef, .undef, .undef, .undef, .undef, .undef, .undef, .undef, .undef, .undef, .undef, .undef, .undef, .undef, .undef, .undef, .undef, .undef, .undef, .undef, .undef, .undef])
          (fun i => [(1, .box [.int .i64 t, .int .i64 l, .int .i64 k, .int .i64 s, .int .i64 m]), (4, .box [.int .i64 t, .int .i64 l, .int .i64 k, .int .i64 s, .int .i64 m, .int .i64 0, .int .i64 1, .int .i64 2, .int .i64 3, .int .i64 4, .int .i64 (4 + 4 * t), .int .i64 (4 + 4 * t + k), .int .i64 (4 + 4 * t + k + 4 * l)]), (6, .arr .i64 had)])
          (fun i => (i : Int) ≤ 4 + 4 * t + k + 4 * l) (fun i => (4 + 4 * t + k + 4 * l).toNat - i) 0 (by omega) ⟨?_, rfl⟩ ?_
        · repeat' (first | exact WeakL.nil | refine WeakL.cons ?_ ?_ | exact Weak1.undef _ | exact Weak1.same _)
        intro i hi
        have hhl := hhad.1
        conv => whnf
        split
        · rename_i hlt
          have hlt : (i : Int) < 4 + 4 * t + k + 4 * l := by have := hlt; simp at this; omega
          conv => whnf
          refine ⟨⟨by omega, by omega⟩, ?_⟩
          conv => whnf
          refine ⟨by omega, ?_⟩
          conv => whnf
          have h1 : had.getD ((i : Int)).toNat 0 = 1 := by
            have := hhad.2 i (by omega)
            rw [Int.toNat_natCast, this]
            by_cases h4 : (i : Int) < 4
            · simp [h4]
            · have h5 := pos9_lt (c := i) ht hl hk (by omega) hlt
              have : pos9 t k i < 9 * (n : Int) := by rw [hge]; omega
              simp [this]
          rw [h1]
          conv => whnf
          have hw : IntKind.i64.wrap ((i : Int) + 1) = ((i + 1 : Nat) : Int) := by rw [wrap_small (by omega) (by omega)]; rfl
          rw [hw]
          refine ⟨i + 1, by omega, by omega, ?_⟩
          conv => whnf
          refine ⟨?_, rfl⟩
          repeat' (first | exact WeakL.nil | refine WeakL.cons ?_ ?_ | exact Weak1.undef _ | exact Weak1.same _)
        · conv => whnf
          exact ⟨_, rfl, Wk.eq rfl⟩
  · simp at h

end Go.Proofs.Ythakgbecpkfeoaa.Ev
