/- Parts of the proof, joined. -/
import Derived.Test.YthakgbecpkfeoaaX4
/- Layer 16, the plays: a turn of thread 2, told by its code. -/
set_option linter.unusedVariables false
set_option linter.unusedSimpArgs false
set_option maxRecDepth 100000
namespace Go.Proofs.Ythakgbecpkfeoaa.Ev

set_option maxHeartbeats 4000000 in
theorem turn2_lit {w0 w1 w2 tu m : List Int} {n0 a0 v0 n1 a1 v1 n2 a2 v2 held : Int} {l0 l1 l2 : List Res} {vals : List Int} {bad : Bool}
    (hp : okT 2 ⟨m, ⟨n0, a0, l0, v0⟩, ⟨n1, a1, l1, v1⟩, ⟨n2, a2, l2, v2⟩, held, vals, bad, false⟩) :
    evFnT ⟨tys, sp56⟩ Try.f59 [.ptr 1000 0, .agg [.sl .u8 w0, .sl .u8 w1, .sl .u8 w2, .sl .u8 tu], .int .i64 2]
      [.sl .i64 m, .int .i64 n0, .int .i64 a0, .sl .res l0, .int .i64 v0, .int .i64 n1, .int .i64 a1, .sl .res l1, .int .i64 v1, .int .i64 n2, .int .i64 a2, .sl .res l2, .int .i64 v2, .int .i64 held, .lit .i64 vals, .bool bad] none
      fun cs1 ext1 => WkL cs1 (cellsT (put2 ⟨m, ⟨n0, a0, l0, v0⟩, ⟨n1, a1, l1, v1⟩, ⟨n2, a2, l2, v2⟩, held, vals, bad, false⟩ (turnX 2 w2 ⟨m, ⟨n2, a2, l2, v2⟩, held, vals, bad, false⟩))) ∧ ext1 = extT (put2 ⟨m, ⟨n0, a0, l0, v0⟩, ⟨n1, a1, l1, v1⟩, ⟨n2, a2, l2, v2⟩, held, vals, bad, false⟩ (turnX 2 w2 ⟨m, ⟨n2, a2, l2, v2⟩, held, vals, bad, false⟩)) := by
  obtain ⟨_, hm, ⟨hn0, hn0', hl0⟩, ⟨hn1, hn1', hl1⟩, ⟨hn2, hn2', hl2⟩, hv1, hv2⟩ := hp
  simp only at hm hn0 hn0' hl0 hn1 hn1' hl1 hn2 hn2' hl2 hv1 hv2
  generalize hR : turnX 2 w2 ⟨m, ⟨n2, a2, l2, v2⟩, held, vals, bad, false⟩ = R
  unfold turnX at hR
  simp only at hR
  conv => whnf
  refine ⟨by decide, ?_⟩
  conv => whnf
  apply DrawVC.quiet (by kernel_rfl)
  conv => whnf
  refine ⟨by decide, ?_⟩
  conv => whnf
  split
  · rename_i h1
    rw [h1] at hR
    conv => whnf
    subst hR
    refine ⟨?_, rfl⟩
    repeat' (first | exact WkL.nil | refine WkL.cons ?_ ?_ | exact Wk.nil _ | exact Wk.refl _)
  rename_i h1
  rw [h1] at hR
  have h1' : ¬ n2 ≥ (w2.length : Int) := of_decide_eq_false h1
  conv => whnf
  cases bad
  rotate_left
  · conv => whnf
    subst hR
    refine ⟨?_, rfl⟩
    repeat' (first | exact WkL.nil | refine WkL.cons ?_ ?_ | exact Wk.nil _ | exact Wk.refl _)
  conv => whnf
  apply DrawVC.quiet (by kernel_rfl)
  conv => whnf
  refine ⟨by decide, ?_⟩
  conv => whnf
  refine ⟨by omega, ?_⟩
  conv => whnf
  refine ⟨trivial, ?_⟩
  conv => whnf
  generalize hw : w2.getD n2.toNat ET.u8.dflt = w
  have hw2 : wantX w2 n2 = w := hw
  rw [hw2] at hR
  refine ⟨by decide, ?_⟩
  conv => whnf
  rcases Bool.eq_false_or_eq_true (w.tmod 3 != 0 && a2 == 1) with h2 | h2
  · have h3 : (w.tmod 3 != 0) = true := by revert h2; cases (w.tmod 3 != 0) <;> simp
    have h4 : (a2 == 1) = true := by revert h2; cases (a2 == 1) <;> simp
    rw [h2] at hR
    rw [h3]
    conv => whnf
    rw [h4]
    conv => whnf
    conv => whnf
    apply DrawVC.mix
    conv => whnf
    refine ⟨trivial, ?_⟩
    conv => whnf
    refine ⟨by omega, ?_⟩
    conv => whnf
    refine ⟨by kernel_rfl, ?_⟩
    conv => whnf
    refine ⟨.inr (by simp), by simp only [List.length_cons, List.length_nil, ET.bytes]; omega, ?_⟩
    conv => whnf
    apply DrawVC.mix
    conv => whnf
    refine ⟨by decide, ?_⟩
    conv => whnf
    refine ⟨by kernel_rfl, ?_⟩
    conv => whnf
    unfold storeX at hR
    subst hR
    refine ⟨?_, rfl⟩
    repeat' (first | exact WkL.nil | refine WkL.cons ?_ ?_ | exact Wk.nil _ | exact Wk.refl _)
  rw [h2] at hR
  simp only [Bool.false_eq_true, if_false] at hR
  unfold stepX at hR
  rcases Bool.eq_false_or_eq_true (w.tmod 3 != 0) with h3 | h3
  rotate_left
  · have h3' : (w.tmod 3 == 0) = true := by revert h3; cases h : (w.tmod 3 == 0) <;> simp_all
    rw [h3]
    conv => whnf
    apply DrawVC.mix
    conv => whnf
    refine ⟨trivial, ?_⟩
    conv => whnf
    refine ⟨⟨by omega, by decide, by decide⟩, ?_⟩
    conv => whnf
    generalize hN : nxt (cellA 16 2 0 4 0) (cellA 16 2 0 4 1) (opK w a2) (opB w a2 v2) 2 l2 = N at hR ⊢
    refine ⟨by kernel_rfl, ?_⟩
    conv => whnf
    cases hd : N.done
    · skip
      rw [hd] at hR
      simp only [Bool.false_eq_true, if_false] at hR
      unfold askX at hR
      simp only at hR
      rw [h3] at hR
      conv => whnf
      apply DrawVC.mix
      conv => whnf
      refine ⟨by omega, ?_⟩
      conv => whnf
      refine ⟨by kernel_rfl, ?_⟩
      conv => whnf
      apply DrawVC.tail 6
      conv => whnf
      refine ⟨.inl rfl, by simp only [List.length_cons, List.length_nil, List.length_append, ET.bytes]; omega, ?_⟩
      conv => whnf
      refine ⟨by kernel_rfl, ?_⟩
      conv => whnf
      refine ⟨by simp only [List.length_cons, List.length_nil, List.length_append, ET.bytes]; omega, ?_⟩
      conv => whnf
      refine ⟨by decide, ?_⟩
      conv => whnf
      rw [h3]
      conv => whnf
      refine ⟨by decide, ?_⟩
      conv => whnf
      rw [h3]
      conv => whnf
      apply DrawVC.mix
      conv => whnf
      refine ⟨by decide, ?_⟩
      conv => whnf
      refine ⟨by kernel_rfl, ?_⟩
      conv => whnf
      subst hR
      refine ⟨?_, rfl⟩
      repeat' (first | exact WkL.nil | refine WkL.cons ?_ ?_ | exact Wk.nil _ | exact Wk.refl _)
    · rw [hd] at hR
      simp only [if_true] at hR
      unfold gotX oddR at hR
      simp only at hR
      rw [h3'] at hR
      conv => whnf
      refine ⟨by decide, ?_⟩
      conv => whnf
      rw [h3']
      conv => whnf
      apply DrawVC.quiet (by kernel_rfl)
      conv => whnf
      --GOT
      rcases Bool.eq_false_or_eq_true (N.is) with hi | hi
      · rw [hi] at hR
        rw [hi]
        conv => whnf
        rcases Bool.eq_false_or_eq_true (decide (N.ver < 0)) with hv | hv
        · rw [hv] at hR
          rw [hv]
          conv => whnf
          apply DrawVC.mix
          conv => whnf
          refine ⟨by decide, ?_⟩
          conv => whnf
          refine ⟨by kernel_rfl, ?_⟩
          conv => whnf
          subst hR
          refine ⟨?_, rfl⟩
          repeat' (first | exact WkL.nil | refine WkL.cons ?_ ?_ | exact Wk.nil _ | exact Wk.refl _)
        · rw [hv] at hR
          rw [hv]
          conv => whnf
          rcases Bool.eq_false_or_eq_true (decide (N.ver ≥ (vals.length : Int))) with hg | hg
          · rw [hg] at hR
            rw [hg]
            conv => whnf
            apply DrawVC.mix
            conv => whnf
            refine ⟨by decide, ?_⟩
            conv => whnf
            refine ⟨by kernel_rfl, ?_⟩
            conv => whnf
            subst hR
            refine ⟨?_, rfl⟩
            repeat' (first | exact WkL.nil | refine WkL.cons ?_ ?_ | exact Wk.nil _ | exact Wk.refl _)
          · rw [hg] at hR
            rw [hg]
            conv => whnf
            have hwl : IntKind.i64.wrap ((vals.length : Int) - 1) = (vals.length : Int) - 1 := wrap_small (by omega) (by omega)
            refine ⟨?_, ?_⟩
            · rw [hwl]
              have q1 : ¬ N.ver < 0 := of_decide_eq_false hv
              have q2 : ¬ N.ver ≥ (vals.length : Int) := of_decide_eq_false hg
              refine ⟨?_, ?_⟩
              all_goals (repeat' split)
              all_goals omega
            conv => whnf
            split
            · rename_i hq
              have hq : (N.val != vals.getD (idxV N.ver vals).toNat 0) = true := hq
              rw [hq] at hR
              conv => whnf
              apply DrawVC.mix
              conv => whnf
              refine ⟨by decide, ?_⟩
              conv => whnf
              refine ⟨by kernel_rfl, ?_⟩
              conv => whnf
              subst hR
              refine ⟨?_, rfl⟩
              repeat' (first | exact WkL.nil | refine WkL.cons ?_ ?_ | exact Wk.nil _ | exact Wk.refl _)
            · rename_i hq
              have hq : (N.val != vals.getD (idxV N.ver vals).toNat 0) = false := hq
              rw [hq] at hR
              conv => whnf
              apply DrawVC.mix
              conv => whnf
              refine ⟨by decide, ?_⟩
              conv => whnf
              refine ⟨by kernel_rfl, ?_⟩
              conv => whnf
              subst hR
              refine ⟨?_, rfl⟩
              repeat' (first | exact WkL.nil | refine WkL.cons ?_ ?_ | exact Wk.nil _ | exact Wk.refl _)
      · rw [hi] at hR
        rw [hi]
        conv => whnf
        apply DrawVC.mix
        conv => whnf
        refine ⟨by decide, ?_⟩
        conv => whnf
        refine ⟨by kernel_rfl, ?_⟩
        conv => whnf
        subst hR
        refine ⟨?_, rfl⟩
        repeat' (first | exact WkL.nil | refine WkL.cons ?_ ?_ | exact Wk.nil _ | exact Wk.refl _)
  have h3' : (w.tmod 3 == 0) = false := by revert h3; cases h : (w.tmod 3 == 0) <;> simp_all
  rw [h3]
  conv => whnf
  have h4 : (a2 == 1) = false := by rw [h3] at h2; simpa using h2
  rw [h4]
  conv => whnf
  apply DrawVC.mix
  conv => whnf
  refine ⟨trivial, ?_⟩
  conv => whnf
  refine ⟨⟨by omega, by decide, by decide⟩, ?_⟩
  conv => whnf
  generalize hN : nxt (cellA 16 2 0 4 0) (cellA 16 2 0 4 1) (opK w a2) (opB w a2 v2) 2 l2 = N at hR ⊢
  refine ⟨by kernel_rfl, ?_⟩
  conv => whnf
  cases hd : N.done
  · skip
    rw [hd] at hR
    simp only [Bool.false_eq_true, if_false] at hR
    unfold askX at hR
    simp only at hR
    rw [h3] at hR
    conv => whnf
    apply DrawVC.mix
    conv => whnf
    refine ⟨by omega, ?_⟩
    conv => whnf
    refine ⟨by kernel_rfl, ?_⟩
    conv => whnf
    apply DrawVC.tail 6
    conv => whnf
    refine ⟨.inl rfl, by simp only [List.length_cons, List.length_nil, List.length_append, ET.bytes]; omega, ?_⟩
    conv => whnf
    refine ⟨by kernel_rfl, ?_⟩
    conv => whnf
    refine ⟨by simp only [List.length_cons, List.length_nil, List.length_append, ET.bytes]; omega, ?_⟩
    conv => whnf
    refine ⟨by decide, ?_⟩
    conv => whnf
    rw [h3]
    conv => whnf
    rcases Bool.eq_false_or_eq_true (a2 == 0) with h5 | h5
    · rw [h5] at hR
      rw [h5]
      conv => whnf
      rcases Bool.eq_false_or_eq_true (N.acc.kind == 3) with h6 | h6
      · rw [h6] at hR
        rw [h6]
        conv => whnf
        split
        · rename_i h7
          have h7 : (doA m N.acc.kind N.acc.cell N.acc.old N.acc.new N.acc.bytes).2.1.ok = true := h7
          rw [h7] at hR
          conv => whnf
          rcases Bool.eq_false_or_eq_true ((doA m N.acc.kind N.acc.cell N.acc.old N.acc.new N.acc.bytes).2.2 != 0) with h8 | h8
          · rw [h8] at hR
            rw [h8]
            conv => whnf
            refine ⟨by decide, ?_⟩
            conv => whnf
            rw [h3]
            conv => whnf
            have h9 : (a2 == 2) = false := by have := eq_of_beq h5; subst this; rfl
            rw [h9] at hR
            rw [h9]
            conv => whnf
            apply DrawVC.mix
            conv => whnf
            refine ⟨by decide, ?_⟩
            conv => whnf
            refine ⟨by kernel_rfl, ?_⟩
            conv => whnf
            subst hR
            refine ⟨?_, rfl⟩
            repeat' (first | exact WkL.nil | refine WkL.cons ?_ ?_ | exact Wk.nil _ | exact Wk.refl _)
          · rw [h8] at hR
            rw [h8]
            conv => whnf
            refine ⟨by decide, ?_⟩
            conv => whnf
            rw [h3]
            conv => whnf
            have h9 : (a2 == 2) = false := by have := eq_of_beq h5; subst this; rfl
            rw [h9] at hR
            rw [h9]
            conv => whnf
            apply DrawVC.mix
            conv => whnf
            refine ⟨by decide, ?_⟩
            conv => whnf
            refine ⟨by kernel_rfl, ?_⟩
            conv => whnf
            subst hR
            refine ⟨?_, rfl⟩
            repeat' (first | exact WkL.nil | refine WkL.cons ?_ ?_ | exact Wk.nil _ | exact Wk.refl _)
        · rename_i h7
          have h7 : (doA m N.acc.kind N.acc.cell N.acc.old N.acc.new N.acc.bytes).2.1.ok = false := h7
          rw [h7] at hR
          conv => whnf
          refine ⟨by decide, ?_⟩
          conv => whnf
          rw [h3]
          conv => whnf
          have h9 : (a2 == 2) = false := by have := eq_of_beq h5; subst this; rfl
          rw [h9] at hR
          rw [h9]
          conv => whnf
          apply DrawVC.mix
          conv => whnf
          refine ⟨by decide, ?_⟩
          conv => whnf
          refine ⟨by kernel_rfl, ?_⟩
          conv => whnf
          subst hR
          refine ⟨?_, rfl⟩
          repeat' (first | exact WkL.nil | refine WkL.cons ?_ ?_ | exact Wk.nil _ | exact Wk.refl _)
      · rw [h6] at hR
        rw [h6]
        conv => whnf
        refine ⟨by decide, ?_⟩
        conv => whnf
        rw [h3]
        conv => whnf
        have h9 : (a2 == 2) = false := by have := eq_of_beq h5; subst this; rfl
        rw [h9] at hR
        rw [h9]
        conv => whnf
        apply DrawVC.mix
        conv => whnf
        refine ⟨by decide, ?_⟩
        conv => whnf
        refine ⟨by kernel_rfl, ?_⟩
        conv => whnf
        subst hR
        refine ⟨?_, rfl⟩
        repeat' (first | exact WkL.nil | refine WkL.cons ?_ ?_ | exact Wk.nil _ | exact Wk.refl _)
    · rw [h5] at hR
      rw [h5]
      conv => whnf
      refine ⟨by decide, ?_⟩
      conv => whnf
      rw [h3]
      conv => whnf
      rcases Bool.eq_false_or_eq_true (a2 == 2) with h9 | h9
      · rw [h9] at hR
        rw [h9]
        conv => whnf
        apply DrawVC.mix
        conv => whnf
        refine ⟨by decide, ?_⟩
        conv => whnf
        refine ⟨by kernel_rfl, ?_⟩
        conv => whnf
        subst hR
        refine ⟨?_, rfl⟩
        repeat' (first | exact WkL.nil | refine WkL.cons ?_ ?_ | exact Wk.nil _ | exact Wk.refl _)
      · rw [h9] at hR
        rw [h9]
        conv => whnf
        apply DrawVC.mix
        conv => whnf
        refine ⟨by decide, ?_⟩
        conv => whnf
        refine ⟨by kernel_rfl, ?_⟩
        conv => whnf
        subst hR
        refine ⟨?_, rfl⟩
        repeat' (first | exact WkL.nil | refine WkL.cons ?_ ?_ | exact Wk.nil _ | exact Wk.refl _)
  · rw [hd] at hR
    simp only [if_true] at hR
    unfold gotX at hR
    simp only at hR
    rw [h3'] at hR
    conv => whnf
    refine ⟨by decide, ?_⟩
    conv => whnf
    rw [h3']
    conv => whnf
    rcases Bool.eq_false_or_eq_true (a2 == 0) with h5 | h5
    · rw [h5] at hR
      rw [h5]
      conv => whnf
      rcases Bool.eq_false_or_eq_true (N.is) with hi | hi
      · rw [hi] at hR
        rw [hi]
        conv => whnf
        apply DrawVC.mix
        conv => whnf
        refine ⟨by kernel_rfl, ?_⟩
        conv => whnf
        apply DrawVC.mix
        conv => whnf
        refine ⟨by decide, ?_⟩
        conv => whnf
        refine ⟨by kernel_rfl, ?_⟩
        conv => whnf
        subst hR
        refine ⟨?_, rfl⟩
        repeat' (first | exact WkL.nil | refine WkL.cons ?_ ?_ | exact Wk.nil _ | exact Wk.refl _)
      · rw [hi] at hR
        rw [hi]
        conv => whnf
        apply DrawVC.mix
        conv => whnf
        refine ⟨by decide, ?_⟩
        conv => whnf
        refine ⟨by kernel_rfl, ?_⟩
        conv => whnf
        subst hR
        refine ⟨?_, rfl⟩
        repeat' (first | exact WkL.nil | refine WkL.cons ?_ ?_ | exact Wk.nil _ | exact Wk.refl _)
    · rw [h5] at hR
      rw [h5]
      conv => whnf
      apply DrawVC.mix
      conv => whnf
      refine ⟨by decide, ?_⟩
      conv => whnf
      refine ⟨by kernel_rfl, ?_⟩
      conv => whnf
      subst hR
      refine ⟨?_, rfl⟩
      repeat' (first | exact WkL.nil | refine WkL.cons ?_ ?_ | exact Wk.nil _ | exact Wk.refl _)

set_option maxHeartbeats 4000000 in
theorem turn2_own {w0 w1 w2 tu m : List Int} {n0 a0 v0 n1 a1 v1 n2 a2 v2 held : Int} {l0 l1 l2 : List Res} {vals : List Int} {bad : Bool}
    (hp : okT 2 ⟨m, ⟨n0, a0, l0, v0⟩, ⟨n1, a1, l1, v1⟩, ⟨n2, a2, l2, v2⟩, held, vals, bad, true⟩) :
    evFnT ⟨tys, sp56⟩ Try.f59 [.ptr 1000 0, .agg [.sl .u8 w0, .sl .u8 w1, .sl .u8 w2, .sl .u8 tu], .int .i64 2]
      [.sl .i64 m, .int .i64 n0, .int .i64 a0, .sl .res l0, .int .i64 v0, .int .i64 n1, .int .i64 a1, .sl .res l1, .int .i64 v1, .int .i64 n2, .int .i64 a2, .sl .res l2, .int .i64 v2, .int .i64 held, .own 1001, .bool bad] (some vals)
      fun cs1 ext1 => WkL cs1 (cellsT (put2 ⟨m, ⟨n0, a0, l0, v0⟩, ⟨n1, a1, l1, v1⟩, ⟨n2, a2, l2, v2⟩, held, vals, bad, true⟩ (turnX 2 w2 ⟨m, ⟨n2, a2, l2, v2⟩, held, vals, bad, true⟩))) ∧ ext1 = extT (put2 ⟨m, ⟨n0, a0, l0, v0⟩, ⟨n1, a1, l1, v1⟩, ⟨n2, a2, l2, v2⟩, held, vals, bad, true⟩ (turnX 2 w2 ⟨m, ⟨n2, a2, l2, v2⟩, held, vals, bad, true⟩)) := by
  obtain ⟨_, hm, ⟨hn0, hn0', hl0⟩, ⟨hn1, hn1', hl1⟩, ⟨hn2, hn2', hl2⟩, hv1, hv2⟩ := hp
  simp only at hm hn0 hn0' hl0 hn1 hn1' hl1 hn2 hn2' hl2 hv1 hv2
  generalize hR : turnX 2 w2 ⟨m, ⟨n2, a2, l2, v2⟩, held, vals, bad, true⟩ = R
  unfold turnX at hR
  simp only at hR
  conv => whnf
  refine ⟨by decide, ?_⟩
  conv => whnf
  apply DrawVC.quiet (by kernel_rfl)
  conv => whnf
  refine ⟨by decide, ?_⟩
  conv => whnf
  split
  · rename_i h1
    rw [h1] at hR
    conv => whnf
    subst hR
    refine ⟨?_, rfl⟩
    repeat' (first | exact WkL.nil | refine WkL.cons ?_ ?_ | exact Wk.nil _ | exact Wk.refl _)
  rename_i h1
  rw [h1] at hR
  have h1' : ¬ n2 ≥ (w2.length : Int) := of_decide_eq_false h1
  conv => whnf
  cases bad
  rotate_left
  · conv => whnf
    subst hR
    refine ⟨?_, rfl⟩
    repeat' (first | exact WkL.nil | refine WkL.cons ?_ ?_ | exact Wk.nil _ | exact Wk.refl _)
  conv => whnf
  apply DrawVC.quiet (by kernel_rfl)
  conv => whnf
  refine ⟨by decide, ?_⟩
  conv => whnf
  refine ⟨by omega, ?_⟩
  conv => whnf
  refine ⟨trivial, ?_⟩
  conv => whnf
  generalize hw : w2.getD n2.toNat ET.u8.dflt = w
  have hw2 : wantX w2 n2 = w := hw
  rw [hw2] at hR
  refine ⟨by decide, ?_⟩
  conv => whnf
  rcases Bool.eq_false_or_eq_true (w.tmod 3 != 0 && a2 == 1) with h2 | h2
  · have h3 : (w.tmod 3 != 0) = true := by revert h2; cases (w.tmod 3 != 0) <;> simp
    have h4 : (a2 == 1) = true := by revert h2; cases (a2 == 1) <;> simp
    rw [h2] at hR
    rw [h3]
    conv => whnf
    rw [h4]
    conv => whnf
    conv => whnf
    apply DrawVC.mix
    conv => whnf
    refine ⟨trivial, ?_⟩
    conv => whnf
    refine ⟨by omega, ?_⟩
    conv => whnf
    refine ⟨by kernel_rfl, ?_⟩
    conv => whnf
    refine ⟨by simp only [List.length_cons, List.length_nil, ET.bytes]; omega, ?_⟩
    conv => whnf
    apply DrawVC.mix
    conv => whnf
    refine ⟨by decide, ?_⟩
    conv => whnf
    refine ⟨by kernel_rfl, ?_⟩
    conv => whnf
    unfold storeX at hR
    subst hR
    refine ⟨?_, rfl⟩
    repeat' (first | exact WkL.nil | refine WkL.cons ?_ ?_ | exact Wk.nil _ | exact Wk.refl _)
  rw [h2] at hR
  simp only [Bool.false_eq_true, if_false] at hR
  unfold stepX at hR
  rcases Bool.eq_false_or_eq_true (w.tmod 3 != 0) with h3 | h3
  rotate_left
  · have h3' : (w.tmod 3 == 0) = true := by revert h3; cases h : (w.tmod 3 == 0) <;> simp_all
    rw [h3]
    conv => whnf
    apply DrawVC.mix
    conv => whnf
    refine ⟨trivial, ?_⟩
    conv => whnf
    refine ⟨⟨by omega, by decide, by decide⟩, ?_⟩
    conv => whnf
    generalize hN : nxt (cellA 16 2 0 4 0) (cellA 16 2 0 4 1) (opK w a2) (opB w a2 v2) 2 l2 = N at hR ⊢
    refine ⟨by kernel_rfl, ?_⟩
    conv => whnf
    cases hd : N.done
    · skip
      rw [hd] at hR
      simp only [Bool.false_eq_true, if_false] at hR
      unfold askX at hR
      simp only at hR
      rw [h3] at hR
      conv => whnf
      apply DrawVC.mix
      conv => whnf
      refine ⟨by omega, ?_⟩
      conv => whnf
      refine ⟨by kernel_rfl, ?_⟩
      conv => whnf
      apply DrawVC.tail 6
      conv => whnf
      refine ⟨.inl rfl, by simp only [List.length_cons, List.length_nil, List.length_append, ET.bytes]; omega, ?_⟩
      conv => whnf
      refine ⟨by kernel_rfl, ?_⟩
      conv => whnf
      refine ⟨by simp only [List.length_cons, List.length_nil, List.length_append, ET.bytes]; omega, ?_⟩
      conv => whnf
      refine ⟨by decide, ?_⟩
      conv => whnf
      rw [h3]
      conv => whnf
      refine ⟨by decide, ?_⟩
      conv => whnf
      rw [h3]
      conv => whnf
      apply DrawVC.mix
      conv => whnf
      refine ⟨by decide, ?_⟩
      conv => whnf
      refine ⟨by kernel_rfl, ?_⟩
      conv => whnf
      subst hR
      refine ⟨?_, rfl⟩
      repeat' (first | exact WkL.nil | refine WkL.cons ?_ ?_ | exact Wk.nil _ | exact Wk.refl _)
    · rw [hd] at hR
      simp only [if_true] at hR
      unfold gotX oddR at hR
      simp only at hR
      rw [h3'] at hR
      conv => whnf
      refine ⟨by decide, ?_⟩
      conv => whnf
      rw [h3']
      conv => whnf
      apply DrawVC.quiet (by kernel_rfl)
      conv => whnf
      --GOT
      rcases Bool.eq_false_or_eq_true (N.is) with hi | hi
      · rw [hi] at hR
        rw [hi]
        conv => whnf
        rcases Bool.eq_false_or_eq_true (decide (N.ver < 0)) with hv | hv
        · rw [hv] at hR
          rw [hv]
          conv => whnf
          apply DrawVC.mix
          conv => whnf
          refine ⟨by decide, ?_⟩
          conv => whnf
          refine ⟨by kernel_rfl, ?_⟩
          conv => whnf
          subst hR
          refine ⟨?_, rfl⟩
          repeat' (first | exact WkL.nil | refine WkL.cons ?_ ?_ | exact Wk.nil _ | exact Wk.refl _)
        · rw [hv] at hR
          rw [hv]
          conv => whnf
          rcases Bool.eq_false_or_eq_true (decide (N.ver ≥ (vals.length : Int))) with hg | hg
          · rw [hg] at hR
            rw [hg]
            conv => whnf
            apply DrawVC.mix
            conv => whnf
            refine ⟨by decide, ?_⟩
            conv => whnf
            refine ⟨by kernel_rfl, ?_⟩
            conv => whnf
            subst hR
            refine ⟨?_, rfl⟩
            repeat' (first | exact WkL.nil | refine WkL.cons ?_ ?_ | exact Wk.nil _ | exact Wk.refl _)
          · rw [hg] at hR
            rw [hg]
            conv => whnf
            have hwl : IntKind.i64.wrap ((vals.length : Int) - 1) = (vals.length : Int) - 1 := wrap_small (by omega) (by omega)
            refine ⟨?_, ?_⟩
            · rw [hwl]
              have q1 : ¬ N.ver < 0 := of_decide_eq_false hv
              have q2 : ¬ N.ver ≥ (vals.length : Int) := of_decide_eq_false hg
              refine ⟨?_, ?_⟩
              all_goals (repeat' split)
              all_goals omega
            conv => whnf
            refine ⟨?_, ?_⟩
            · rw [hwl]
              have q1 : ¬ N.ver < 0 := of_decide_eq_false hv
              have q2 : ¬ N.ver ≥ (vals.length : Int) := of_decide_eq_false hg
              repeat' split
              all_goals omega
            conv => whnf
            split
            · rename_i hq
              have hq : (N.val != vals.getD (idxV N.ver vals).toNat 0) = true := hq
              rw [hq] at hR
              conv => whnf
              apply DrawVC.mix
              conv => whnf
              refine ⟨by decide, ?_⟩
              conv => whnf
              refine ⟨by kernel_rfl, ?_⟩
              conv => whnf
              subst hR
              refine ⟨?_, rfl⟩
              repeat' (first | exact WkL.nil | refine WkL.cons ?_ ?_ | exact Wk.nil _ | exact Wk.refl _)
            · rename_i hq
              have hq : (N.val != vals.getD (idxV N.ver vals).toNat 0) = false := hq
              rw [hq] at hR
              conv => whnf
              apply DrawVC.mix
              conv => whnf
              refine ⟨by decide, ?_⟩
              conv => whnf
              refine ⟨by kernel_rfl, ?_⟩
              conv => whnf
              subst hR
              refine ⟨?_, rfl⟩
              repeat' (first | exact WkL.nil | refine WkL.cons ?_ ?_ | exact Wk.nil _ | exact Wk.refl _)
      · rw [hi] at hR
        rw [hi]
        conv => whnf
        apply DrawVC.mix
        conv => whnf
        refine ⟨by decide, ?_⟩
        conv => whnf
        refine ⟨by kernel_rfl, ?_⟩
        conv => whnf
        subst hR
        refine ⟨?_, rfl⟩
        repeat' (first | exact WkL.nil | refine WkL.cons ?_ ?_ | exact Wk.nil _ | exact Wk.refl _)
  have h3' : (w.tmod 3 == 0) = false := by revert h3; cases h : (w.tmod 3 == 0) <;> simp_all
  rw [h3]
  conv => whnf
  have h4 : (a2 == 1) = false := by rw [h3] at h2; simpa using h2
  rw [h4]
  conv => whnf
  apply DrawVC.mix
  conv => whnf
  refine ⟨trivial, ?_⟩
  conv => whnf
  refine ⟨⟨by omega, by decide, by decide⟩, ?_⟩
  conv => whnf
  generalize hN : nxt (cellA 16 2 0 4 0) (cellA 16 2 0 4 1) (opK w a2) (opB w a2 v2) 2 l2 = N at hR ⊢
  refine ⟨by kernel_rfl, ?_⟩
  conv => whnf
  cases hd : N.done
  · skip
    rw [hd] at hR
    simp only [Bool.false_eq_true, if_false] at hR
    unfold askX at hR
    simp only at hR
    rw [h3] at hR
    conv => whnf
    apply DrawVC.mix
    conv => whnf
    refine ⟨by omega, ?_⟩
    conv => whnf
    refine ⟨by kernel_rfl, ?_⟩
    conv => whnf
    apply DrawVC.tail 6
    conv => whnf
    refine ⟨.inl rfl, by simp only [List.length_cons, List.length_nil, List.length_append, ET.bytes]; omega, ?_⟩
    conv => whnf
    refine ⟨by kernel_rfl, ?_⟩
    conv => whnf
    refine ⟨by simp only [List.length_cons, List.length_nil, List.length_append, ET.bytes]; omega, ?_⟩
    conv => whnf
    refine ⟨by decide, ?_⟩
    conv => whnf
    rw [h3]
    conv => whnf
    rcases Bool.eq_false_or_eq_true (a2 == 0) with h5 | h5
    · rw [h5] at hR
      rw [h5]
      conv => whnf
      rcases Bool.eq_false_or_eq_true (N.acc.kind == 3) with h6 | h6
      · rw [h6] at hR
        rw [h6]
        conv => whnf
        split
        · rename_i h7
          have h7 : (doA m N.acc.kind N.acc.cell N.acc.old N.acc.new N.acc.bytes).2.1.ok = true := h7
          rw [h7] at hR
          conv => whnf
          rcases Bool.eq_false_or_eq_true ((doA m N.acc.kind N.acc.cell N.acc.old N.acc.new N.acc.bytes).2.2 != 0) with h8 | h8
          · rw [h8] at hR
            rw [h8]
            conv => whnf
            refine ⟨by decide, ?_⟩
            conv => whnf
            rw [h3]
            conv => whnf
            have h9 : (a2 == 2) = false := by have := eq_of_beq h5; subst this; rfl
            rw [h9] at hR
            rw [h9]
            conv => whnf
            apply DrawVC.mix
            conv => whnf
            refine ⟨by decide, ?_⟩
            conv => whnf
            refine ⟨by kernel_rfl, ?_⟩
            conv => whnf
            subst hR
            refine ⟨?_, rfl⟩
            repeat' (first | exact WkL.nil | refine WkL.cons ?_ ?_ | exact Wk.nil _ | exact Wk.refl _)
          · rw [h8] at hR
            rw [h8]
            conv => whnf
            refine ⟨by decide, ?_⟩
            conv => whnf
            rw [h3]
            conv => whnf
            have h9 : (a2 == 2) = false := by have := eq_of_beq h5; subst this; rfl
            rw [h9] at hR
            rw [h9]
            conv => whnf
            apply DrawVC.mix
            conv => whnf
            refine ⟨by decide, ?_⟩
            conv => whnf
            refine ⟨by kernel_rfl, ?_⟩
            conv => whnf
            subst hR
            refine ⟨?_, rfl⟩
            repeat' (first | exact WkL.nil | refine WkL.cons ?_ ?_ | exact Wk.nil _ | exact Wk.refl _)
        · rename_i h7
          have h7 : (doA m N.acc.kind N.acc.cell N.acc.old N.acc.new N.acc.bytes).2.1.ok = false := h7
          rw [h7] at hR
          conv => whnf
          refine ⟨by decide, ?_⟩
          conv => whnf
          rw [h3]
          conv => whnf
          have h9 : (a2 == 2) = false := by have := eq_of_beq h5; subst this; rfl
          rw [h9] at hR
          rw [h9]
          conv => whnf
          apply DrawVC.mix
          conv => whnf
          refine ⟨by decide, ?_⟩
          conv => whnf
          refine ⟨by kernel_rfl, ?_⟩
          conv => whnf
          subst hR
          refine ⟨?_, rfl⟩
          repeat' (first | exact WkL.nil | refine WkL.cons ?_ ?_ | exact Wk.nil _ | exact Wk.refl _)
      · rw [h6] at hR
        rw [h6]
        conv => whnf
        refine ⟨by decide, ?_⟩
        conv => whnf
        rw [h3]
        conv => whnf
        have h9 : (a2 == 2) = false := by have := eq_of_beq h5; subst this; rfl
        rw [h9] at hR
        rw [h9]
        conv => whnf
        apply DrawVC.mix
        conv => whnf
        refine ⟨by decide, ?_⟩
        conv => whnf
        refine ⟨by kernel_rfl, ?_⟩
        conv => whnf
        subst hR
        refine ⟨?_, rfl⟩
        repeat' (first | exact WkL.nil | refine WkL.cons ?_ ?_ | exact Wk.nil _ | exact Wk.refl _)
    · rw [h5] at hR
      rw [h5]
      conv => whnf
      refine ⟨by decide, ?_⟩
      conv => whnf
      rw [h3]
      conv => whnf
      rcases Bool.eq_false_or_eq_true (a2 == 2) with h9 | h9
      · rw [h9] at hR
        rw [h9]
        conv => whnf
        apply DrawVC.mix
        conv => whnf
        refine ⟨by decide, ?_⟩
        conv => whnf
        refine ⟨by kernel_rfl, ?_⟩
        conv => whnf
        subst hR
        refine ⟨?_, rfl⟩
        repeat' (first | exact WkL.nil | refine WkL.cons ?_ ?_ | exact Wk.nil _ | exact Wk.refl _)
      · rw [h9] at hR
        rw [h9]
        conv => whnf
        apply DrawVC.mix
        conv => whnf
        refine ⟨by decide, ?_⟩
        conv => whnf
        refine ⟨by kernel_rfl, ?_⟩
        conv => whnf
        subst hR
        refine ⟨?_, rfl⟩
        repeat' (first | exact WkL.nil | refine WkL.cons ?_ ?_ | exact Wk.nil _ | exact Wk.refl _)
  · rw [hd] at hR
    simp only [if_true] at hR
    unfold gotX at hR
    simp only at hR
    rw [h3'] at hR
    conv => whnf
    refine ⟨by decide, ?_⟩
    conv => whnf
    rw [h3']
    conv => whnf
    rcases Bool.eq_false_or_eq_true (a2 == 0) with h5 | h5
    · rw [h5] at hR
      rw [h5]
      conv => whnf
      rcases Bool.eq_false_or_eq_true (N.is) with hi | hi
      · rw [hi] at hR
        rw [hi]
        conv => whnf
        apply DrawVC.mix
        conv => whnf
        refine ⟨by kernel_rfl, ?_⟩
        conv => whnf
        apply DrawVC.mix
        conv => whnf
        refine ⟨by decide, ?_⟩
        conv => whnf
        refine ⟨by kernel_rfl, ?_⟩
        conv => whnf
        subst hR
        refine ⟨?_, rfl⟩
        repeat' (first | exact WkL.nil | refine WkL.cons ?_ ?_ | exact Wk.nil _ | exact Wk.refl _)
      · rw [hi] at hR
        rw [hi]
        conv => whnf
        apply DrawVC.mix
        conv => whnf
        refine ⟨by decide, ?_⟩
        conv => whnf
        refine ⟨by kernel_rfl, ?_⟩
        conv => whnf
        subst hR
        refine ⟨?_, rfl⟩
        repeat' (first | exact WkL.nil | refine WkL.cons ?_ ?_ | exact Wk.nil _ | exact Wk.refl _)
    · rw [h5] at hR
      rw [h5]
      conv => whnf
      apply DrawVC.mix
      conv => whnf
      refine ⟨by decide, ?_⟩
      conv => whnf
      refine ⟨by kernel_rfl, ?_⟩
      conv => whnf
      subst hR
      refine ⟨?_, rfl⟩
      repeat' (first | exact WkL.nil | refine WkL.cons ?_ ?_ | exact Wk.nil _ | exact Wk.refl _)

end Go.Proofs.Ythakgbecpkfeoaa.Ev

/- Layer 16, the plays: a turn, told by its code. -/
set_option linter.unusedVariables false
set_option linter.unusedSimpArgs false
set_option maxRecDepth 100000
namespace Go.Proofs.Ythakgbecpkfeoaa.Ev

theorem w59 : EnvOK Try.prog ⟨tys, (59, .tab h59) :: sp56⟩ := by
  refine addTab w56 (fn := Try.f59) (by kernel_rfl) (by kernel_rfl) (by kernel_rfl) (by kernel_rfl) ?_
  intro args cs ext p cs' ext' h hp
  unfold h59 at h
  split at h
  · simp only [Option.some.injEq, Prod.mk.injEq] at h
    obtain ⟨rfl, rfl, rfl⟩ := h
    rename_i who _ _ _ _ _ _ _ _ _ _ _ _ _ _ _ _
    obtain ⟨⟨h1, h2⟩, hr⟩ := hp
    have hw : who = 0 ∨ who = 1 ∨ who = 2 := by omega
    rcases hw with rfl | rfl | rfl
    · unfold turnS; exact turn0_lit ⟨⟨h1, h2⟩, hr⟩
    · unfold turnS; exact turn1_lit ⟨⟨h1, h2⟩, hr⟩
    · unfold turnS; exact turn2_lit ⟨⟨h1, h2⟩, hr⟩
  · simp only [Option.some.injEq, Prod.mk.injEq] at h
    obtain ⟨rfl, rfl, rfl⟩ := h
    rename_i who _ _ _ _ _ _ _ _ _ _ _ _ _ _ _ _
    obtain ⟨⟨h1, h2⟩, hr⟩ := hp
    have hw : who = 0 ∨ who = 1 ∨ who = 2 := by omega
    rcases hw with rfl | rfl | rfl
    · unfold turnS; exact turn0_own ⟨⟨h1, h2⟩, hr⟩
    · unfold turnS; exact turn1_own ⟨⟨h1, h2⟩, hr⟩
    · unfold turnS; exact turn2_own ⟨⟨h1, h2⟩, hr⟩
  · simp at h
abbrev sp59 : List (Nat × Spec) := (59, .tab h59) :: sp56

end Go.Proofs.Ythakgbecpkfeoaa.Ev

/- Layer 16: LockAlone. -/
set_option linter.unusedVariables false
set_option linter.unusedSimpArgs false
set_option maxRecDepth 100000
namespace Go.Proofs.Ythakgbecpkfeoaa.Ev

def mV (x y : Int) : List Int := ((List.replicate 24 (0 : Int)).set 16 x).set 17 y
theorem alW0 : alW 0 = 16 := by kernel_rfl
theorem alV0 : alV 0 = 17 := by kernel_rfl
theorem mV_len (x y : Int) : (mV x y).length ≤ 1000000 := by simp [mV]
theorem mV_okW (x y : Int) : okM (mV x y) (alW 0) := by rw [alW0]; exact ⟨by omega, by simp [mV]⟩
theorem mV_okV (x y : Int) : okM (mV x y) (alV 0) := by rw [alV0]; exact ⟨by omega, by simp [mV]⟩
theorem mV_getW (x y : Int) : (mV x y).getD (alW 0).toNat 0 = x := by rw [alW0]; simp [mV, List.getD_eq_getElem?_getD, List.getElem?_set]
theorem mV_getV (x y : Int) : (mV x y).getD (alV 0).toNat 0 = y := by rw [alV0]; simp [mV, List.getD_eq_getElem?_getD, List.getElem?_set]
theorem mV_setW (x y z : Int) : (mV x y).set (alW 0).toNat z = mV z y := by
  rw [alW0]
  simp only [mV]
  rw [show (16 : Int).toNat = 16 from rfl, List.set_comm _ _ (by decide), List.set_set]
theorem mV_all (x y : Int) : runA (List.replicate 24 (0 : Int)) [⟨2, cellA 16 2 0 4 0, 0, x, ⟨#[]⟩⟩, ⟨2, cellA 16 2 0 4 1, 0, y, ⟨#[]⟩⟩] = .inr (mV x y, [⟨0, true⟩, ⟨0, true⟩]) := by
  have h1 : doAcc (List.replicate 24 (0 : Int)) ⟨2, cellA 16 2 0 4 0, 0, x, ⟨#[]⟩⟩ = ((List.replicate 24 (0 : Int)).set 16 x, ⟨0, true⟩, 0) := by
    have : okM (List.replicate 24 (0 : Int)) (alW 0) := by rw [alW0]; exact ⟨by omega, by simp⟩
    have := do_store (n := x) this
    rw [alW0] at this
    exact this
  have h2 : doAcc ((List.replicate 24 (0 : Int)).set 16 x) ⟨2, cellA 16 2 0 4 1, 0, y, ⟨#[]⟩⟩ = (mV x y, ⟨0, true⟩, 0) := by
    have : okM ((List.replicate 24 (0 : Int)).set 16 x) (alV 0) := by rw [alV0]; exact ⟨by omega, by simp⟩
    have := do_store (n := y) this
    rw [alV0] at this
    refine Eq.trans this ?_
    simp [mV, List.getD_eq_getElem?_getD, List.getElem?_set]
  simp only [runA, h1, h2, if_true]
theorem all2M (x y : Int) : allM (List.replicate 24 (0 : Int)) [⟨2, cellA 16 2 0 4 0, 0, x, ⟨#[]⟩⟩, ⟨2, cellA 16 2 0 4 1, 0, y, ⟨#[]⟩⟩] = mV x y := by simp only [allM, mV_all]
theorem all2R (x y : Int) : allR (List.replicate 24 (0 : Int)) [⟨2, cellA 16 2 0 4 0, 0, x, ⟨#[]⟩⟩, ⟨2, cellA 16 2 0 4 1, 0, y, ⟨#[]⟩⟩] = [⟨0, true⟩, ⟨0, true⟩] := by simp only [allR, mV_all]
theorem all2E (x y : Int) : allE (List.replicate 24 (0 : Int)) [⟨2, cellA 16 2 0 4 0, 0, x, ⟨#[]⟩⟩, ⟨2, cellA 16 2 0 4 1, 0, y, ⟨#[]⟩⟩] = 0 := by simp only [allE, mV_all]
theorem v_take {x y B me : Int} (hl : lockedW x = false) : aloneF (alW 0) (alV 0) 1 B me 20 0 (mV x y) [] = (outI 0 (x / 2) true, mV (2 * me + 1) y, 2) := by
  rw [al_take_free (mV_okW x y) (by rw [mV_getW]; exact hl), mV_getW, mV_setW]
theorem v_take_held {x y B me : Int} (hl : lockedW x = true) : aloneF (alW 0) (alV 0) 1 B me 20 0 (mV x y) [] = (outI (x / 2) 0 false, mV x y, 1) := by
  rw [al_take_held (mV_okW x y) (by rw [mV_getW]; exact hl), mV_getW]
theorem v_read {x y B me : Int} (hl : lockedW x = false) : aloneF (alW 0) (alV 0) 4 B me 20 0 (mV x y) [] = (outI y (x / 2) true, mV x y, 3) := by
  rw [al_read_free (mV_okW x y) (mV_okV x y) (by rw [mV_getW]; exact hl), mV_getW, mV_getV]
theorem v_read_held {x y B me : Int} (hl : lockedW x = true) : aloneF (alW 0) (alV 0) 4 B me 20 0 (mV x y) [] = (outI (x / 2) (-1) false, mV x y, 1) := by
  rw [al_read_held (mV_okW x y) (by rw [mV_getW]; exact hl), mV_getW]
theorem v_give {x y B me : Int} : aloneF (alW 0) (alV 0) 2 B me 20 0 (mV x y) [] = (outI 0 0 true, mV (IntKind.i64.wrap (2 * B)) y, 1) := by
  rw [al_give (mV_okW x y), mV_setW]
theorem v_even (x : Int) : lockedW (2 * x) = false := by simp [lockedW]
theorem v_odd (x : Int) : lockedW (2 * x + 1) = true := by simp only [lockedW, beq_iff_eq]; omega

def h11 : List AV → Option (Prop × AV)
  | [.int .u32 v, .int .u8 a, .int .u8 b, .int .i64 val] => some ((0 ≤ v ∧ v < 4294967296) ∧ (0 ≤ a ∧ a < 256) ∧ (0 ≤ b ∧ b < 256), .bool true)
  | _ => none
theorem w11 : EnvOK Try.prog ⟨tys, (11, .pure h11) :: sp46⟩ := by
  refine addPure w46 (fn := Try.f11) (by kernel_rfl) (by kernel_rfl) (by kernel_rfl) ?_
  intro args p r h hp
  unfold h11 at h
  split at h
  · rename_i v a b val
    simp only [Option.some.injEq, Prod.mk.injEq] at h
    obtain ⟨rfl, rfl⟩ := h
    obtain ⟨hv, ha, hb⟩ := hp
    have hwv : IntKind.i64.wrap v = v := wrap_small (by omega) (by omega)
    have hv2 : IntKind.i64.wrap (2 * v) = 2 * v := wrap_small (by omega) (by omega)
    have hX : ∃ X : Int, IntKind.i64.wrap (a.tmod 3) = X ∧ 0 ≤ X ∧ X ≤ 2 := ⟨_, rfl, by rw [Int.tmod_eq_emod_of_nonneg ha.1, wrap_small (by omega) (by omega)]; omega, by rw [Int.tmod_eq_emod_of_nonneg ha.1, wrap_small (by omega) (by omega)]; omega⟩
    obtain ⟨X, hX, hX0⟩ := hX
    have hY : ∃ Y : Int, IntKind.i64.wrap (b.tmod 3) = Y ∧ 0 ≤ Y ∧ Y ≤ 2 := ⟨_, rfl, by rw [Int.tmod_eq_emod_of_nonneg hb.1, wrap_small (by omega) (by omega)]; omega, by rw [Int.tmod_eq_emod_of_nonneg hb.1, wrap_small (by omega) (by omega)]; omega⟩
    obtain ⟨Y, hY, hY0⟩ := hY
    conv => whnf
    refine ⟨trivial, ?_⟩
    conv => whnf
    refine ⟨trivial, ?_⟩
    conv => whnf
    apply DrawVC.mix
    conv => whnf
    refine ⟨trivial, ?_⟩
    conv => whnf
    refine ⟨trivial, ?_⟩
    conv => whnf
    refine ⟨trivial, ?_⟩
    conv => whnf
    refine ⟨trivial, ?_⟩
    conv => whnf
    refine ⟨⟨by simp, by simp⟩, ?_⟩
    rw [hwv, hv2, all2M, all2R, all2E]
    conv => whnf
    refine ⟨by kernel_rfl, ?_⟩
    conv => whnf
    refine ⟨by decide, ?_⟩
    conv => whnf
    rw [hY]
    try conv => whnf
    refine ⟨⟨mV_len _ _, hY0⟩, ?_⟩
    rw [v_read (v_even v)]
    conv => whnf
    refine ⟨by decide, ?_⟩
    conv => whnf
    rw [hX]
    try conv => whnf
    refine ⟨⟨mV_len _ _, hX0⟩, ?_⟩
    rw [v_take (v_even v)]
    conv => whnf
    refine ⟨by decide, ?_⟩
    conv => whnf
    rw [hY]
    try conv => whnf
    refine ⟨⟨mV_len _ _, hY0⟩, ?_⟩
    rw [v_take_held (v_odd X)]
    conv => whnf
    refine ⟨by decide, ?_⟩
    conv => whnf
    rw [hY]
    try conv => whnf
    refine ⟨⟨mV_len _ _, hY0⟩, ?_⟩
    rw [v_read_held (v_odd X)]
    conv => whnf
    refine ⟨by decide, ?_⟩
    conv => whnf
    rw [hX]
    try conv => whnf
    refine ⟨⟨mV_len _ _, hX0⟩, ?_⟩
    rw [hwv, v_give, hv2]
    conv => whnf
    have e1 : 2 * v / 2 = v := by omega
    have e2 : (2 * X + 1) / 2 = X := by omega
    split
    case' h_2 => rename_i hf; simp [hwv, hX, e1, e2] at hf
    conv => whnf
    refine ⟨mV_len _ _, ?_⟩
    conv => whnf
    split
    case' h_2 => rename_i hf; simp [hwv, hX, e1, e2] at hf
    conv => whnf
    split
    case' h_2 => rename_i hf; simp [hwv, hX, e1, e2] at hf
    conv => whnf
    refine ⟨by decide, ?_⟩
    conv => whnf
    split
    case' h_2 => rename_i hf; simp [hwv, hX, e1, e2] at hf
    conv => whnf
    refine ⟨by decide, ?_⟩
    conv => whnf
    split
    case' h_2 => rename_i hf; simp [hwv, hX, e1, e2] at hf
    conv => whnf
    refine ⟨mV_len _ _, ?_⟩
    conv => whnf
    split
    case' h_2 => rename_i hf; simp [hwv, hX, e1, e2] at hf
    conv => whnf
    refine ⟨mV_len _ _, ?_⟩
    conv => whnf
    exact ⟨_, rfl, Wk.eq (by simp)⟩
  · simp at h

end Go.Proofs.Ythakgbecpkfeoaa.Ev

/- Layer 16, the plays, plain: a turn by the thread's state. -/
set_option linter.unusedVariables false
set_option linter.unusedSimpArgs false
namespace Go.Proofs.Ythakgbecpkfeoaa.Ev

/-! ### Accesses to the lock's two cells -/
abbrev wdC : Int := cellA 16 2 0 4 0
abbrev vlC : Int := cellA 16 2 0 4 1
theorem mV_setV (x y z : Int) : (mV x y).set (alV 0).toNat z = mV x z := by
  rw [alV0]
  simp only [mV]
  rw [show (17 : Int).toNat = 17 from rfl, List.set_set]
theorem wd_pos : ¬ wdC < 0 := by rw [show wdC = 16 from alW0]; omega
theorem v_loadW (x y : Int) : doAcc (mV x y) (accL wdC) = (mV x y, ⟨x, true⟩, 0) := by
  have h : doAcc (mV x y) (accL wdC) = (mV x y, ⟨(mV x y).getD (alW 0).toNat 0, true⟩, 0) := do_load (mV_okW x y)
  rw [h, mV_getW]
theorem v_loadV (x y : Int) : doAcc (mV x y) (accL vlC) = (mV x y, ⟨y, true⟩, 0) := by
  have h : doAcc (mV x y) (accL vlC) = (mV x y, ⟨(mV x y).getD (alV 0).toNat 0, true⟩, 0) := do_load (mV_okV x y)
  rw [h, mV_getV]
theorem v_storeW (x y n : Int) : doAcc (mV x y) (accS wdC n) = (mV n y, ⟨x, true⟩, 0) := by
  have h : doAcc (mV x y) (accS wdC n) = ((mV x y).set (alW 0).toNat n, ⟨(mV x y).getD (alW 0).toNat 0, true⟩, 0) := do_store (mV_okW x y)
  rw [h, mV_getW, mV_setW]
theorem v_storeV (x y n : Int) : doAcc (mV x y) (accS vlC n) = (mV x n, ⟨y, true⟩, 0) := by
  have h : doAcc (mV x y) (accS vlC n) = ((mV x y).set (alV 0).toNat n, ⟨(mV x y).getD (alV 0).toNat 0, true⟩, 0) := do_store (mV_okV x y)
  rw [h, mV_getV, mV_setV]
theorem v_cas (x y o n : Int) : doAcc (mV x y) (accC wdC o n) = (if x = o then mV n y else mV x y, ⟨x, decide (x = o)⟩, 0) := by
  have h : doAcc (mV x y) (accC wdC o n) = (if (mV x y).getD (alW 0).toNat 0 = o then (mV x y).set (alW 0).toNat n else mV x y, ⟨(mV x y).getD (alW 0).toNat 0, decide ((mV x y).getD (alW 0).toNat 0 = o)⟩, 0) := do_cas (mV_okW x y)
  rw [h, mV_getW, mV_setW]

/-! ### A turn, by what is wanted -/
section
variable {who : Int} {ws : List Int} {n ver held at_ : Int} {m m' : List Int} {log : List Res} {vals : List Int} {own : Bool} {w : Int} {q : Res}

theorem t_fin (h : n ≥ (ws.length : Int)) (bad : Bool) : turnX who ws ⟨m, ⟨n, at_, log, ver⟩, held, vals, bad, own⟩ = ⟨m, ⟨n, at_, log, ver⟩, held, vals, bad, own⟩ := by
  unfold turnX
  rw [if_pos (by simpa using h)]
theorem t_step (h : ¬ n ≥ (ws.length : Int)) (h2 : ((wantX ws n).tmod 3 != 0 && (at_ == 1)) = false) : turnX who ws ⟨m, ⟨n, at_, log, ver⟩, held, vals, false, own⟩ =
    stepX (wantX ws n) ⟨m, ⟨n, at_, log, ver⟩, held, vals, false, own⟩ (nxt wdC vlC (opK (wantX ws n) at_) (opB (wantX ws n) at_ ver) who log) := by
  unfold turnX
  rw [if_neg (by simpa using h), if_neg (by simp)]
  rw [if_neg (by rw [h2]; decide)]
theorem t_rd (h : ¬ n ≥ (ws.length : Int)) (hw : (wantX ws n).tmod 3 = 0) : turnX who ws ⟨m, ⟨n, 0, log, ver⟩, held, vals, false, own⟩ =
    stepX (wantX ws n) ⟨m, ⟨n, 0, log, ver⟩, held, vals, false, own⟩ (rdN wdC vlC log) := by
  rw [t_step h (by simp)]
  have e1 : opK (wantX ws n) 0 = 4 := by unfold opK; rw [if_pos (by simp [hw])]
  rw [e1, nxt_rd wd_pos]
theorem t_tk (h : ¬ n ≥ (ws.length : Int)) (hw : (wantX ws n).tmod 3 ≠ 0) : turnX who ws ⟨m, ⟨n, 0, log, ver⟩, held, vals, false, own⟩ =
    stepX (wantX ws n) ⟨m, ⟨n, 0, log, ver⟩, held, vals, false, own⟩ (tkN wdC who log) := by
  rw [t_step h (by simp)]
  have e1 : opK (wantX ws n) 0 = 1 := by unfold opK; rw [if_neg (by simpa using hw), if_pos (by rfl)]
  rw [e1, nxt_tk wd_pos]
theorem t_gv (h : ¬ n ≥ (ws.length : Int)) (hw : (wantX ws n).tmod 3 ≠ 0) : turnX who ws ⟨m, ⟨n, 2, log, ver⟩, held, vals, false, own⟩ =
    stepX (wantX ws n) ⟨m, ⟨n, 2, log, ver⟩, held, vals, false, own⟩ (gvN wdC (IntKind.i64.wrap (ver + 1)) log) := by
  rw [t_step h (by simp)]
  have e1 : opK (wantX ws n) 2 = 2 := by unfold opK; rw [if_neg (by simpa using hw), if_neg (by decide)]
  have e2 : opB (wantX ws n) 2 ver = IntKind.i64.wrap (ver + 1) := by unfold opB; rw [if_neg (by simpa using hw), if_neg (by decide)]
  rw [e1, e2, nxt_gv wd_pos]
theorem t_st {x y : Int} (h : ¬ n ≥ (ws.length : Int)) (hw : (wantX ws n).tmod 3 ≠ 0) : turnX who ws ⟨mV x y, ⟨n, 1, log, ver⟩, held, vals, false, own⟩ =
    ⟨mV x (valT who n), ⟨n, 2, log, ver⟩, held, vals ++ [valT who n], false, true⟩ := by
  unfold turnX
  rw [if_neg (by simpa using h), if_neg (by simp), if_pos (by simpa using hw)]
  unfold storeX
  have e : doA (mV x y) 2 vlC 0 (valT who n) ⟨#[]⟩ = (mV x (valT who n), ⟨y, true⟩, 0) := v_storeV x y (valT who n)
  simp only [e]
  rfl

theorem s_ask_rd {a : Acc} (hw : w.tmod 3 = 0) (hd : doAcc m a = (m', q, 0)) : stepX w ⟨m, ⟨n, at_, log, ver⟩, held, vals, false, own⟩ (askN a) = ⟨m', ⟨n, at_, log ++ [q], ver⟩, held, vals, false, own⟩ := by
  unfold stepX
  rw [if_neg (by simp [askN])]
  unfold askX
  have e : doA m a.kind a.cell a.old a.new a.bytes = (m', q, 0) := hd
  have e2 : (w.tmod 3 != 0) = false := by simp [hw]
  simp only [askN, e, e2, Bool.false_and]
  rfl
theorem s_ask_tk {a : Acc} (hw : w.tmod 3 ≠ 0) (hd : doAcc m a = (m', q, 0)) (hk : ((a.kind == 3) && q.ok) = false) : stepX w ⟨m, ⟨n, 0, log, ver⟩, held, vals, false, own⟩ (askN a) = ⟨m', ⟨n, 0, log ++ [q], ver⟩, held, vals, false, own⟩ := by
  unfold stepX
  rw [if_neg (by simp [askN])]
  unfold askX
  have e : doA m a.kind a.cell a.old a.new a.bytes = (m', q, 0) := hd
  have e2 : (w.tmod 3 != 0) = true := by simpa using hw
  simp only [askN, e, e2, hk]
  rfl
theorem s_win {a : Acc} (hw : w.tmod 3 ≠ 0) (hd : doAcc m a = (m', q, 0)) (hk : a.kind = 3) (hq : q.ok = true) : stepX w ⟨m, ⟨n, 0, log, ver⟩, 0, vals, false, own⟩ (askN a) = ⟨m', ⟨n, 0, log ++ [q], ver⟩, 1, vals, false, own⟩ := by
  unfold stepX
  rw [if_neg (by simp [askN])]
  unfold askX
  have e : doA m 3 a.cell a.old a.new a.bytes = (m', q, 0) := by rw [← hk]; exact hd
  have e2 : (w.tmod 3 != 0) = true := by simpa using hw
  simp only [askN, hk, e, e2, hq]
  rfl
theorem s_give {a : Acc} (hw : w.tmod 3 ≠ 0) (hd : doAcc m a = (m', q, 0)) : stepX w ⟨m, ⟨n, 2, log, ver⟩, 1, vals, false, own⟩ (askN a) = ⟨m', ⟨n, 2, log ++ [q], ver⟩, 0, vals, false, own⟩ := by
  unfold stepX
  rw [if_neg (by simp [askN])]
  unfold askX
  have e : doA m a.kind a.cell a.old a.new a.bytes = (m', q, 0) := hd
  have e2 : (w.tmod 3 != 0) = true := by simpa using hw
  simp only [askN, e, e2]
  rfl
theorem s_got_rd {v d : Int} {is : Bool} (hw : w.tmod 3 = 0) (ho : oddR (gotN v d is) vals = false) : stepX w ⟨m, ⟨n, at_, log, ver⟩, held, vals, false, own⟩ (gotN v d is) = ⟨m, ⟨IntKind.i64.wrap (n + 1), at_, [], ver⟩, held, vals, false, own⟩ := by
  unfold stepX
  rw [if_pos (by simp [gotN])]
  unfold gotX
  rw [if_pos (by simp [hw])]
  simp only [ho]
  rfl
theorem s_got_no {v d : Int} (hw : w.tmod 3 ≠ 0) : stepX w ⟨m, ⟨n, 0, log, ver⟩, held, vals, false, own⟩ (gotN v d false) = ⟨m, ⟨n, 0, [], ver⟩, held, vals, false, own⟩ := by
  unfold stepX
  rw [if_pos (by simp [gotN])]
  unfold gotX
  rw [if_neg (by simpa using hw), if_pos (by rfl), if_neg (by simp [gotN])]
theorem s_got_yes {v d : Int} (hw : w.tmod 3 ≠ 0) (hd : d = lastI vals) : stepX w ⟨m, ⟨n, 0, log, ver⟩, held, vals, false, own⟩ (gotN v d true) = ⟨m, ⟨n, 1, [], d⟩, held, vals, false, own⟩ := by
  unfold stepX
  rw [if_pos (by simp [gotN])]
  unfold gotX
  rw [if_neg (by simpa using hw), if_pos (by rfl), if_pos (by simp [gotN])]
  simp [gotN, hd]
theorem s_got_gv {v d : Int} {is : Bool} (hw : w.tmod 3 ≠ 0) : stepX w ⟨m, ⟨n, 2, log, ver⟩, held, vals, false, own⟩ (gotN v d is) = ⟨m, ⟨IntKind.i64.wrap (n + 1), 0, [], 0⟩, held, vals, false, own⟩ := by
  unfold stepX
  rw [if_pos (by simp [gotN])]
  unfold gotX
  rw [if_neg (by simpa using hw), if_neg (by simp)]
theorem odd_no {v d : Int} : oddR (gotN v d false) vals = false := by simp [oddR, gotN]
theorem odd_yes {v : Int} {j : Nat} (hj : j < vals.length) (hb : vals.length < 1000000) (hv : v = vals.getD j 0) : oddR (gotN v (j : Int) true) vals = false := by
  have hl : lastI vals = (vals.length : Int) - 1 := by unfold lastI; exact wrap_small (by omega) (by omega)
  have hi : idxV (j : Int) vals = (j : Int) := by
    unfold idxV
    simp only [hl]
    repeat' split
    all_goals omega
  show (true && (decide ((j : Int) < 0) || (decide ((j : Int) ≥ (vals.length : Int)) || (v != vals.getD (idxV (j : Int) vals).toNat 0)))) = false
  have h1 : decide ((j : Int) < 0) = false := by simp
  have h2 : decide ((j : Int) ≥ (vals.length : Int)) = false := by simp; omega
  rw [h1, h2, hi, Int.toNat_natCast, hv]
  simp
end

end Go.Proofs.Ythakgbecpkfeoaa.Ev

/- Layer 16, the plays, plain: what a thread's turn keeps. -/
set_option linter.unusedVariables false
set_option linter.unusedSimpArgs false
namespace Go.Proofs.Ythakgbecpkfeoaa.Ev

def rdW (ws : List Int) (n : Nat) : Prop := (ws.getD n 0).tmod 3 = 0
/-- A first result of an operation: the lock was held, or free with a version between these. -/
def okR (k lo : Nat) (r : Res) : Prop := lockedW r.val = true ∨ ∃ j : Nat, r.val = 2 * (j : Int) ∧ lo ≤ j ∧ j ≤ k

/-- The states of a thread (k: the number of releases; free: the lock is free; lo: below which no read falls); the last index: it holds the lock. -/
inductive Ph (ws vals : List Int) (k : Nat) (y : Int) (free : Prop) (lo : Nat) : Bool → Seat → Prop
  | fin (n : Nat) (at_ ver : Int) (hn : n = ws.length) (ha : at_ ≠ 2) : Ph ws vals k y free lo false ⟨n, at_, [], ver⟩
  | rd0 (n : Nat) (ver : Int) (hn : n < ws.length) (hw : rdW ws n) : Ph ws vals k y free lo false ⟨n, 0, [], ver⟩
  | rd1 (n : Nat) (ver : Int) (r : Res) (hn : n < ws.length) (hw : rdW ws n) (hr : okR k lo r) : Ph ws vals k y free lo false ⟨n, 0, [r], ver⟩
  | rd2 (n : Nat) (ver : Int) (r u : Res) (j : Nat) (hn : n < ws.length) (hw : rdW ws n) (hr : r.val = 2 * (j : Int)) (h1 : lo ≤ j) (h2 : j ≤ k) (hf : free → k = j → u.val = vals.getD j 0) :
      Ph ws vals k y free lo false ⟨n, 0, [r, u], ver⟩
  | rd3 (n : Nat) (ver : Int) (r u q : Res) (j : Nat) (hn : n < ws.length) (hw : rdW ws n) (hr : r.val = 2 * (j : Int)) (h1 : lo ≤ j) (h2 : j ≤ k) (hf : q.val = 2 * (j : Int) → u.val = vals.getD j 0) :
      Ph ws vals k y free lo false ⟨n, 0, [r, u, q], ver⟩
  | tk0 (n : Nat) (ver : Int) (hn : n < ws.length) (hw : ¬ rdW ws n) : Ph ws vals k y free lo false ⟨n, 0, [], ver⟩
  | tk1 (n : Nat) (ver : Int) (r : Res) (hn : n < ws.length) (hw : ¬ rdW ws n) (hr : okR k 0 r) : Ph ws vals k y free lo false ⟨n, 0, [r], ver⟩
  | tk2 (n : Nat) (ver : Int) (r c : Res) (j : Nat) (hn : n < ws.length) (hw : ¬ rdW ws n) (hr : r.val = 2 * (j : Int)) (hc : c.ok = false) : Ph ws vals k y free lo false ⟨n, 0, [r, c], ver⟩
  | p1 (n : Nat) (ver : Int) (r c : Res) (hn : n < ws.length) (hw : ¬ rdW ws n) (hr : r.val = 2 * (k : Int)) (hc : c.ok = true) (hl : vals.length = k + 1) : Ph ws vals k y free lo true ⟨n, 0, [r, c], ver⟩
  | p2 (n : Nat) (hn : n < ws.length) (hw : ¬ rdW ws n) (hl : vals.length = k + 1) : Ph ws vals k y free lo true ⟨n, 1, [], (k : Int)⟩
  | p3 (n : Nat) (hn : n < ws.length) (hw : ¬ rdW ws n) (hl : vals.length = k + 2) (hy : y = vals.getD (k + 1) 0) : Ph ws vals k y free lo true ⟨n, 2, [], (k : Int)⟩
  | rel (n : Nat) (ver : Int) (r : Res) (hn : n < ws.length) (hw : ¬ rdW ws n) : Ph ws vals k y free lo false ⟨n, 2, [r], ver⟩

section
variable {ws vals vals' : List Int} {k k' : Nat} {y y' : Int} {free free' : Prop} {lo lo' : Nat} {own : Bool} {s : Seat}

theorem okR.up {r : Res} (h : okR k lo r) (hk : k ≤ k') : okR k' lo r := by
  rcases h with h | ⟨j, h1, h2, h3⟩
  · exact .inl h
  · exact .inr ⟨j, h1, h2, by omega⟩

/-- What other threads' turns leave of a thread that does not hold the lock. -/
theorem Ph.others (h : Ph ws vals k y free lo false s) (hk : k ≤ k') (hl : k + 1 ≤ vals.length) (hv : ∃ l, vals' = vals ++ l) (hf : free' → k' = k → free) : Ph ws vals' k' y' free' lo false s := by
  obtain ⟨l, rfl⟩ := hv
  have hg : ∀ j, j ≤ k → (vals ++ l).getD j 0 = vals.getD j 0 := fun j hj => by
    simp only [List.getD_eq_getElem?_getD]
    rw [List.getElem?_append_left (by omega)]
  cases h with
  | fin n at_ ver hn ha => exact .fin n at_ ver hn ha
  | rd0 n ver hn hw => exact .rd0 n ver hn hw
  | rd1 n ver r hn hw hr => exact .rd1 n ver r hn hw (hr.up hk)
  | rd2 n ver r u j hn hw hr h1 h2 h3 => exact .rd2 n ver r u j hn hw hr h1 (by omega) (fun q1 q2 => by rw [hg j h2]; exact h3 (hf q1 (by omega)) (by omega))
  | rd3 n ver r u q j hn hw hr h1 h2 h3 => exact .rd3 n ver r u q j hn hw hr h1 (by omega) (fun q1 => by rw [hg j h2]; exact h3 q1)
  | tk0 n ver hn hw => exact .tk0 n ver hn hw
  | tk1 n ver r hn hw hr => exact .tk1 n ver r hn hw (hr.up hk)
  | tk2 n ver r c j hn hw hr hc => exact .tk2 n ver r c j hn hw hr hc
  | rel n ver r hn hw => exact .rel n ver r hn hw

/-- Between reads the mark may be set anew. -/
theorem Ph.relo (h : Ph ws vals k y free lo own s) (hs : s.log = []) : Ph ws vals k y free lo' own s := by
  cases h <;> first | (simp at hs; done) | skip
  · exact .fin _ _ _ ‹_› ‹_›
  · exact .rd0 _ _ ‹_› ‹_›
  · exact .tk0 _ _ ‹_› ‹_›
  · exact .p2 _ ‹_› ‹_› ‹_›
  · exact .p3 _ ‹_› ‹_› ‹_› ‹_›
end

/-- How many of the first n wishes write. -/
def cntW (ws : List Int) (n : Nat) : Nat := ((ws.take n).filter fun w => w.tmod 3 != 0).length
theorem cntW_rd {ws : List Int} {n : Nat} (h : n < ws.length) (hw : rdW ws n) : cntW ws (n + 1) = cntW ws n := by
  unfold cntW rdW at *
  rw [List.take_succ_eq_append_getElem h, List.filter_append]
  rw [List.getD_eq_getElem?_getD, List.getElem?_eq_getElem h] at hw
  simp at hw
  simp [hw]
theorem cntW_wr {ws : List Int} {n : Nat} (h : n < ws.length) (hw : ¬ rdW ws n) : cntW ws (n + 1) = cntW ws n + 1 := by
  unfold cntW rdW at *
  rw [List.take_succ_eq_append_getElem h, List.filter_append]
  rw [List.getD_eq_getElem?_getD, List.getElem?_eq_getElem h] at hw
  simp at hw
  simp [hw]
/-- Written by a thread so far. -/
def cw (ws : List Int) (s : Seat) : Nat := cntW ws s.nx.toNat + if s.at_ = 2 then 1 else 0

/-- Turns of its own that a thread needs at most, while nobody else holds the lock (x: the lock's word). -/
def costL (ws : List Int) (x : Int) (s : Seat) : Nat :=
  if (ws.getD s.nx.toNat 0).tmod 3 = 0 then
    (match s.log with
    | [] => 4
    | [r] => if lockedW r.val = true then 1 else 3
    | [_, _] => 2
    | _ => 1)
  else if s.at_ = 1 then 3
  else if s.at_ = 2 then (match s.log with | [] => 2 | _ => 1)
  else (match s.log with
    | [] => 6
    | [r] => if r.val = x ∧ lockedW x = false then 5 else 8
    | _ :: c :: _ => if c.ok = true then 4 else 7)
def cost (ws : List Int) (x : Int) (s : Seat) : Nat := if s.nx ≥ (ws.length : Int) then 0 else 9 * (ws.length - s.nx.toNat - 1) + costL ws x s
theorem costL_le (ws : List Int) (x : Int) (s : Seat) : 1 ≤ costL ws x s ∧ costL ws x s ≤ 8 := by
  unfold costL
  repeat' split
  all_goals omega
theorem costL_new (ws : List Int) (x : Int) (n : Int) (ver : Int) : costL ws x ⟨n, 0, [], ver⟩ ≤ 6 := by
  unfold costL
  repeat' split
  all_goals first | omega | simp_all
theorem costL_r {ws : List Int} {x : Int} {n : Nat} {at_ ver : Int} {log : List Res} (hw : rdW ws n) : costL ws x ⟨(n : Int), at_, log, ver⟩ = (match log with
    | [] => 4
    | [r] => if lockedW r.val = true then 1 else 3
    | [_, _] => 2
    | _ => 1) := by
  unfold costL
  exact if_pos hw
theorem costL_w {ws : List Int} {x : Int} {n : Nat} {at_ ver : Int} {log : List Res} (hw : ¬ rdW ws n) : costL ws x ⟨(n : Int), at_, log, ver⟩ = if at_ = 1 then 3
  else if at_ = 2 then (match log with | [] => 2 | _ => 1)
  else (match log with
    | [] => 6
    | [r] => if r.val = x ∧ lockedW x = false then 5 else 8
    | _ :: c :: _ => if c.ok = true then 4 else 7) := by
  unfold costL
  exact if_neg hw
theorem cost_next {ws : List Int} {x x' : Int} {n : Nat} {ver ver' at_ : Int} {log : List Res} (h : n < ws.length) : cost ws x' ⟨((n + 1 : Nat) : Int), 0, [], ver'⟩ < cost ws x ⟨(n : Int), at_, log, ver⟩ := by
  have h1 := (costL_le ws x ⟨(n : Int), at_, log, ver⟩).1
  have h2 := costL_new ws x' ((n + 1 : Nat) : Int) ver'
  unfold cost
  simp only
  rw [if_neg (show ¬ (n : Int) ≥ (ws.length : Int) by omega)]
  split
  · omega
  · simp only [Int.toNat_natCast]; omega
theorem cost_same {ws : List Int} {x x' : Int} {n : Nat} {ver ver' at_ at_' : Int} {log log' : List Res} (h : n < ws.length) (hc : costL ws x' ⟨(n : Int), at_', log', ver'⟩ < costL ws x ⟨(n : Int), at_, log, ver⟩) :
    cost ws x' ⟨(n : Int), at_', log', ver'⟩ < cost ws x ⟨(n : Int), at_, log, ver⟩ := by
  unfold cost
  simp only
  rw [if_neg (show ¬ (n : Int) ≥ (ws.length : Int) by omega), if_neg (show ¬ (n : Int) ≥ (ws.length : Int) by omega)]
  omega

/-- What holds of all threads: the lock's word x, the value's cell y, the number of holders, the values, the number of releases, the holder. -/
structure Gl (x y held : Int) (vals : List Int) (k : Nat) (hold : Option Nat) : Prop where
  hk : k + 1 ≤ vals.length
  free : hold = none → x = 2 * (k : Int) ∧ held = 0 ∧ vals.length = k + 1 ∧ y = vals.getD k 0
  lock : ∀ h, hold = some h → x = 2 * (h : Int) + 1 ∧ held = 1 ∧ h < 3

/-- What a turn of thread 'who' does. -/
structure Stp (who : Nat) (ws : List Int) (lo : Nat) (x y held : Int) (vals : List Int) (k : Nat) (hold : Option Nat) (s : Seat) (x' y' held' : Int) (vals' : List Int) (k' : Nat) (hold' : Option Nat) (s' : Seat) : Prop where
  gl : Gl x' y' held' vals' k' hold'
  ph : Ph ws vals' k' y' (hold' = none) lo (decide (hold' = some who)) s'
  more : ∃ l, vals' = vals ++ l
  up : k ≤ k'
  calm : hold' = none → k' = k → hold = none
  turn : hold' = hold ∨ (hold = none ∧ hold' = some who) ∨ (hold = some who ∧ hold' = none)
  cnt : cw ws s' + vals.length = cw ws s + vals'.length
  cst : hold = none ∨ hold = some who → s.nx ≥ (ws.length : Int) ∨ cost ws x' s' < cost ws x s
  one : s.nx ≤ s'.nx
  alone : hold ≠ some who → vals' = vals ∧ k' = k ∧ y' = y

end Go.Proofs.Ythakgbecpkfeoaa.Ev

/- Layer 16, the plays, plain: every turn keeps the lock's laws. -/
set_option linter.unusedVariables false
set_option linter.unusedSimpArgs false
namespace Go.Proofs.Ythakgbecpkfeoaa.Ev

section
variable {who : Nat} {ws : List Int} {x y held : Int} {vals : List Int} {k : Nat} {hold : Option Nat} {lo : Nat} {s s' : Seat} {own : Bool} {fl : Bool}

theorem Ph.new {free : Prop} (n : Nat) (ver : Int) (hn : n ≤ ws.length) : Ph ws vals k y free lo false ⟨(n : Int), 0, [], ver⟩ := by
  by_cases h : n < ws.length
  · by_cases hw : rdW ws n
    · exact .rd0 n ver h hw
    · exact .tk0 n ver h hw
  · exact .fin n 0 ver (by omega) (by omega)

/-- A step that leaves the lock as it is. -/
theorem Stp.still (hg : Gl x y held vals k hold) (ho : own = decide (hold = some who)) (hp : Ph ws vals k y (hold = none) lo own s') (hc : cw ws s' = cw ws s)
    (hcost : hold = none ∨ hold = some who → s.nx ≥ (ws.length : Int) ∨ cost ws x s' < cost ws x s) (h1 : s.nx ≤ s'.nx) : Stp who ws lo x y held vals k hold s x y held vals k hold s' :=
  ⟨hg, ho ▸ hp, ⟨[], by simp⟩, Nat.le_refl _, fun h _ => h, .inl rfl, by rw [hc], hcost, h1, fun _ => ⟨rfl, rfl, rfl⟩⟩

theorem Gl.word (hg : Gl x y held vals k hold) : (hold = none ∧ x = 2 * (k : Int)) ∨ ∃ h, hold = some h ∧ x = 2 * (h : Int) + 1 := by
  cases hold with
  | none => exact .inl ⟨rfl, (hg.free rfl).1⟩
  | some h => exact .inr ⟨h, rfl, (hg.lock h rfl).1⟩
theorem Gl.okR (hg : Gl x y held vals k hold) (hlo : lo ≤ k) : okR k lo ⟨x, true⟩ := by
  rcases hg.word with ⟨_, h⟩ | ⟨h, _, e⟩
  · exact .inr ⟨k, h, hlo, Nat.le_refl _⟩
  · exact .inl (by simp only [e]; exact v_odd _)
theorem not_own (ho : false = decide (hold = some who)) : hold ≠ some who := by
  intro e
  simp [e] at ho
theorem is_own (ho : true = decide (hold = some who)) : hold = some who := by simpa using ho.symm
theorem wrapN (n : Nat) (h : n < 1000000) : IntKind.i64.wrap ((n : Int) + 1) = ((n + 1 : Nat) : Int) := by
  rw [wrap_small (by omega) (by omega)]
  rfl

theorem half (j : Nat) : (2 * (j : Int)) / 2 = (j : Int) := by omega

theorem turn_ph (h3 : who < 3) (hws : ws.length ≤ 8) (hg : Gl x y held vals k hold) (hp : Ph ws vals k y (hold = none) lo own s) (ho : own = decide (hold = some who)) (hlo : lo ≤ k) (hb : vals.length ≤ 100) :
    ∃ x' y' held' vals' k' hold' s' fl', turnX (who : Int) ws ⟨mV x y, s, held, vals, false, fl⟩ = ⟨mV x' y', s', held', vals', false, fl'⟩ ∧ Stp who ws lo x y held vals k hold s x' y' held' vals' k' hold' s' := by
  cases hp with
  | fin n at_ ver hn ha =>
    refine ⟨x, y, held, vals, k, hold, _, fl, t_fin (by omega) false, ?_⟩
    exact Stp.still hg ho (.fin n at_ ver hn ha) rfl (fun _ => .inl (by simp only; omega)) (Int.le_refl _)
  | rd0 n ver hn hw =>
    have hw' : (wantX ws (n : Int)).tmod 3 = 0 := hw
    refine ⟨x, y, held, vals, k, hold, ⟨n, 0, [⟨x, true⟩], ver⟩, fl, ?_, ?_⟩
    · rw [t_rd (by omega) hw']
      exact s_ask_rd (log := []) hw' (v_loadW x y)
    · refine Stp.still hg ho (.rd1 n ver _ hn hw (hg.okR hlo)) rfl (fun h => .inr (cost_same hn ?_)) (Int.le_refl _)
      have hf : hold = none := h.resolve_right (not_own ho)
      have hx := (hg.free hf).1
      rw [costL_r hw, costL_r hw]
      simp only [hx, v_even, Bool.false_eq_true, if_false]
      omega
  | rd1 n ver r hn hw hr =>
    have hw' : (wantX ws (n : Int)).tmod 3 = 0 := hw
    have hw2 : (ws.getD (n : Int).toNat 0).tmod 3 = 0 := hw
    by_cases hl : lockedW r.val = true
    · refine ⟨x, y, held, vals, k, hold, ⟨((n + 1 : Nat) : Int), 0, [], ver⟩, fl, ?_, ?_⟩
      · rw [t_rd (by omega) hw', show rdN wdC vlC [r] = gotN (r.val / 2) (-1) false by simp [rdN, hl], s_got_rd hw' odd_no, wrapN n (by omega)]
      · refine Stp.still hg ho (.new (n + 1) ver (by omega)) ?_ (fun h => .inr (cost_next hn)) (by simp only; omega)
        show cntW ws (n + 1) + _ = cntW ws n + _
        rw [cntW_rd hn hw]
    · obtain ⟨j, hj, h1, h2⟩ := hr.resolve_left hl
      refine ⟨x, y, held, vals, k, hold, ⟨n, 0, [r, ⟨y, true⟩], ver⟩, fl, ?_, ?_⟩
      · rw [t_rd (by omega) hw', show rdN wdC vlC [r] = askN (accL vlC) by simp [rdN, hl]]
        exact s_ask_rd (log := [r]) hw' (v_loadV x y)
      · refine Stp.still hg ho (.rd2 n ver r _ j hn hw hj h1 h2 (fun q1 q2 => by subst q2; exact (hg.free q1).2.2.2)) rfl (fun h => .inr (cost_same hn ?_)) (Int.le_refl _)
        rw [costL_r hw, costL_r hw]
        simp only [hl, Bool.false_eq_true, if_false]
        omega
  | rd2 n ver r u j hn hw hr h1 h2 hf =>
    have hw' : (wantX ws (n : Int)).tmod 3 = 0 := hw
    have hw2 : (ws.getD (n : Int).toNat 0).tmod 3 = 0 := hw
    have hl : lockedW r.val = false := by rw [hr]; exact v_even _
    refine ⟨x, y, held, vals, k, hold, ⟨n, 0, [r, u, ⟨x, true⟩], ver⟩, fl, ?_, ?_⟩
    · rw [t_rd (by omega) hw', show rdN wdC vlC [r, u] = askN (accL wdC) by simp [rdN, hl]]
      exact s_ask_rd (log := [r, u]) hw' (v_loadW x y)
    · refine Stp.still hg ho (.rd3 n ver r u _ j hn hw hr h1 h2 (fun q1 => ?_)) rfl (fun h => .inr (cost_same hn ?_)) (Int.le_refl _)
      · simp only at q1
        rcases hg.word with ⟨e1, e2⟩ | ⟨h, _, e⟩
        · exact hf e1 (by omega)
        · omega
      · rw [costL_r hw, costL_r hw]
        simp only
        omega
  | rd3 n ver r u q j hn hw hr h1 h2 hf =>
    have hw' : (wantX ws (n : Int)).tmod 3 = 0 := hw
    have hl : lockedW r.val = false := by rw [hr]; exact v_even _
    refine ⟨x, y, held, vals, k, hold, ⟨((n + 1 : Nat) : Int), 0, [], ver⟩, fl, ?_, ?_⟩
    · rw [t_rd (by omega) hw']
      by_cases hq : q.val = r.val
      · rw [show rdN wdC vlC [r, u, q] = gotN u.val (j : Int) true by (show (if lockedW r.val = true then gotN (r.val / 2) (-1) false else if q.val = r.val then gotN u.val (r.val / 2) true else gotN (-1) (-1) false) = _; rw [if_neg (by rw [hl]; decide), if_pos hq, hr, half]), s_got_rd hw' (odd_yes (by have := hg.hk; omega) (by omega) (hf (hq.trans hr))), wrapN n (by omega)]
      · rw [show rdN wdC vlC [r, u, q] = gotN (-1) (-1) false by simp [rdN, hl, hq], s_got_rd hw' odd_no, wrapN n (by omega)]
    · refine Stp.still hg ho (.new (n + 1) ver (by omega)) ?_ (fun h => .inr (cost_next hn)) (by simp only; omega)
      show cntW ws (n + 1) + _ = cntW ws n + _
      rw [cntW_rd hn hw]
  | tk0 n ver hn hw =>
    have hw' : (wantX ws (n : Int)).tmod 3 ≠ 0 := hw
    have hw2 : ¬ (ws.getD (n : Int).toNat 0).tmod 3 = 0 := hw
    refine ⟨x, y, held, vals, k, hold, ⟨n, 0, [⟨x, true⟩], ver⟩, fl, ?_, ?_⟩
    · rw [t_tk (by omega) hw']
      exact s_ask_tk (log := []) hw' (v_loadW x y) rfl
    · refine Stp.still hg ho (.tk1 n ver _ hn hw (hg.okR (Nat.zero_le _))) rfl (fun h => .inr (cost_same hn ?_)) (Int.le_refl _)
      have hf : hold = none := h.resolve_right (not_own ho)
      have hx := (hg.free hf).1
      have hle : lockedW x = false := by rw [hx]; exact v_even _
      rw [costL_w hw, costL_w hw]
      simp [hle]
  | tk1 n ver r hn hw hr =>
    have hw' : (wantX ws (n : Int)).tmod 3 ≠ 0 := hw
    have hw2 : ¬ (ws.getD (n : Int).toNat 0).tmod 3 = 0 := hw
    by_cases hl : lockedW r.val = true
    · refine ⟨x, y, held, vals, k, hold, ⟨n, 0, [], ver⟩, fl, ?_, ?_⟩
      · rw [t_tk (by omega) hw', show tkN wdC (who : Int) [r] = gotN (r.val / 2) 0 false by simp [tkN, hl], s_got_no hw']
      · refine Stp.still hg ho (.tk0 n ver hn hw) rfl (fun h => .inr (cost_same hn ?_)) (Int.le_refl _)
        have hx : ¬ (r.val = x ∧ lockedW x = false) := by rintro ⟨e1, e2⟩; rw [e1] at hl; rw [hl] at e2; simp at e2
        rw [costL_w hw, costL_w hw]
        simp only [if_neg hx]
        decide
    · obtain ⟨j, hj, _, h2⟩ := hr.resolve_left hl
      have hN : tkN wdC (who : Int) [r] = askN (accC wdC r.val (2 * (who : Int) + 1)) := by simp [tkN, hl]
      by_cases hx : x = r.val
      · have hf : hold = none ∧ k = j := by
          rcases hg.word with ⟨e1, e2⟩ | ⟨h, _, e⟩
          · exact ⟨e1, by omega⟩
          · omega
        obtain ⟨hf, rfl⟩ := hf
        obtain ⟨hx1, hh, hv, hy⟩ := hg.free hf
        refine ⟨2 * (who : Int) + 1, y, 1, vals, k, some who, ⟨n, 0, [r, ⟨x, true⟩], ver⟩, fl, ?_, ?_⟩
        · rw [t_tk (by omega) hw', hN, hh]
          refine s_win (log := [r]) hw' ?_ rfl rfl
          rw [v_cas, if_pos hx]
          simp [hx]
        · refine ⟨⟨hg.hk, fun h => by simp at h, fun h e => ?_⟩, ?_, ⟨[], by simp⟩, Nat.le_refl _, fun h => by simp at h, .inr (.inl ⟨hf, rfl⟩), rfl, fun h => .inr (cost_same hn ?_), Int.le_refl _, fun _ => ⟨rfl, rfl, rfl⟩⟩
          · obtain rfl : who = h := by simpa using e
            exact ⟨rfl, rfl, h3⟩
          · rw [decide_eq_true (rfl : some who = some who)]
            exact .p1 n ver r _ hn hw hj rfl hv
          · have hle : lockedW x = false := by rw [hx1]; exact v_even _
            rw [costL_w hw, costL_w hw]
            simp only [if_pos (And.intro hx.symm hle)]
            decide
      · refine ⟨x, y, held, vals, k, hold, ⟨n, 0, [r, ⟨x, false⟩], ver⟩, fl, ?_, ?_⟩
        · rw [t_tk (by omega) hw', hN]
          refine s_ask_tk (log := [r]) hw' ?_ rfl
          rw [v_cas, if_neg hx]
          simp [hx]
        · refine Stp.still hg ho (.tk2 n ver r _ j hn hw hj rfl) rfl (fun h => .inr (cost_same hn ?_)) (Int.le_refl _)
          have hx2 : ¬ (r.val = x ∧ lockedW x = false) := fun e => hx e.1.symm
          rw [costL_w hw, costL_w hw]
          simp only [if_neg hx2]
          simp
  | tk2 n ver r c j hn hw hr hc =>
    have hw' : (wantX ws (n : Int)).tmod 3 ≠ 0 := hw
    have hw2 : ¬ (ws.getD (n : Int).toNat 0).tmod 3 = 0 := hw
    have hl : lockedW r.val = false := by rw [hr]; exact v_even _
    refine ⟨x, y, held, vals, k, hold, ⟨n, 0, [], ver⟩, fl, ?_, ?_⟩
    · rw [t_tk (by omega) hw', show tkN wdC (who : Int) [r, c] = gotN (-1) 0 false by simp [tkN, hl, hc], s_got_no hw']
    · refine Stp.still hg ho (.tk0 n ver hn hw) rfl (fun h => .inr (cost_same hn ?_)) (Int.le_refl _)
      rw [costL_w hw, costL_w hw]
      simp [hc]
  | p1 n ver r c hn hw hr hc hl =>
    have hw' : (wantX ws (n : Int)).tmod 3 ≠ 0 := hw
    have hw2 : ¬ (ws.getD (n : Int).toNat 0).tmod 3 = 0 := hw
    have hlk : lockedW r.val = false := by rw [hr]; exact v_even _
    have hla : ((k : Nat) : Int) = lastI vals := by
      unfold lastI
      rw [wrap_small (by omega) (by omega), hl]
      omega
    refine ⟨x, y, held, vals, k, hold, ⟨n, 1, [], (k : Int)⟩, fl, ?_, ?_⟩
    · rw [t_tk (by omega) hw', show tkN wdC (who : Int) [r, c] = gotN 0 (k : Int) true by (show (if lockedW r.val = true then gotN (r.val / 2) 0 false else if c.ok = true then gotN 0 (r.val / 2) true else gotN (-1) 0 false) = _; rw [if_neg (by rw [hlk]; decide), if_pos hc, hr, half]), s_got_yes hw' hla]
    · refine Stp.still hg ho (.p2 n hn hw hl) rfl (fun h => .inr (cost_same hn ?_)) (Int.le_refl _)
      rw [costL_w hw, costL_w hw]
      simp [hc]
  | p2 n hn hw hl =>
    have hw' : (wantX ws (n : Int)).tmod 3 ≠ 0 := hw
    have hw2 : ¬ (ws.getD (n : Int).toNat 0).tmod 3 = 0 := hw
    have hh := is_own ho
    refine ⟨x, valT who n, held, vals ++ [valT who n], k, hold, ⟨n, 2, [], (k : Int)⟩, true, ?_, ?_⟩
    · rw [t_st (by omega) hw']
    · refine ⟨⟨by rw [List.length_append]; omega, fun h => by rw [hh] at h; simp at h, hg.lock⟩, ?_, ⟨_, rfl⟩, Nat.le_refl _, fun h _ => h, .inl rfl, ?_, fun h => .inr (cost_same hn ?_), Int.le_refl _, fun h => absurd hh h⟩
      · rw [← ho]
        refine .p3 n hn hw (by simp [hl]) ?_
        simp [List.getD_eq_getElem?_getD, hl]
      · show cntW ws n + 1 + _ = cntW ws n + 0 + _
        rw [List.length_append, List.length_singleton]
        omega
      · rw [costL_w hw, costL_w hw]
        simp
  | p3 n hn hw hl hy =>
    have hw' : (wantX ws (n : Int)).tmod 3 ≠ 0 := hw
    have hw2 : ¬ (ws.getD (n : Int).toNat 0).tmod 3 = 0 := hw
    have hh := is_own ho
    obtain ⟨hx, hd, _⟩ := hg.lock who hh
    have e1 : IntKind.i64.wrap (2 * IntKind.i64.wrap ((k : Int) + 1)) = 2 * ((k + 1 : Nat) : Int) := by
      rw [wrapN k (by omega), wrap_small (by omega) (by omega)]
    refine ⟨2 * ((k + 1 : Nat) : Int), y, 0, vals, k + 1, none, ⟨n, 2, [⟨x, true⟩], (k : Int)⟩, fl, ?_, ?_⟩
    · rw [t_gv (by omega) hw', hd, show gvN wdC (IntKind.i64.wrap ((k : Int) + 1)) [] = askN (accS wdC (2 * ((k + 1 : Nat) : Int))) by simp only [gvN, e1]]
      exact s_give (log := []) hw' (v_storeW x y _)
    · refine ⟨⟨by omega, fun _ => ⟨rfl, rfl, hl, hy⟩, fun h e => by simp at e⟩, ?_, ⟨[], by simp⟩, by omega, fun _ e => by omega, .inr (.inr ⟨hh, rfl⟩), rfl, fun h => .inr (cost_same hn ?_), Int.le_refl _, fun h => absurd hh h⟩
      · rw [show decide ((none : Option Nat) = some who) = false by simp]
        exact .rel n _ _ hn hw
      · rw [costL_w hw, costL_w hw]
        simp
  | rel n ver r hn hw =>
    have hw' : (wantX ws (n : Int)).tmod 3 ≠ 0 := hw
    refine ⟨x, y, held, vals, k, hold, ⟨((n + 1 : Nat) : Int), 0, [], 0⟩, fl, ?_, ?_⟩
    · rw [t_gv (by omega) hw', show gvN wdC (IntKind.i64.wrap (ver + 1)) [r] = gotN 0 0 true from rfl, s_got_gv hw', wrapN n (by omega)]
    · refine Stp.still hg ho (.new (n + 1) 0 (by omega)) ?_ (fun h => .inr (cost_next hn)) (by simp only; omega)
      show cntW ws (n + 1) + 0 = cntW ws n + 1
      rw [cntW_wr hn hw]
end

end Go.Proofs.Ythakgbecpkfeoaa.Ev

/- Layer 16, the plays, plain: three threads; every play ends well. -/
set_option linter.unusedVariables false
set_option linter.unusedSimpArgs false
namespace Go.Proofs.Ythakgbecpkfeoaa.Ev

structure Gd (w0 w1 w2 : List Int) (lo0 lo1 lo2 : Nat) (x y : Int) (k : Nat) (hold : Option Nat) (s : St) : Prop where
  m : s.m = mV x y
  bad : s.bad = false
  gl : Gl x y s.held s.vals k hold
  p0 : Ph w0 s.vals k y (hold = none) lo0 (decide (hold = some 0)) s.s0
  p1 : Ph w1 s.vals k y (hold = none) lo1 (decide (hold = some 1)) s.s1
  p2 : Ph w2 s.vals k y (hold = none) lo2 (decide (hold = some 2)) s.s2
  l0 : lo0 ≤ k
  l1 : lo1 ≤ k
  l2 : lo2 ≤ k
  cnt : s.vals.length = 1 + (cw w0 s.s0 + cw w1 s.s1 + cw w2 s.s2)
structure Small (w0 w1 w2 : List Int) : Prop where
  h0 : w0.length ≤ 8
  h1 : w1.length ≤ 8
  h2 : w2.length ≤ 8

section
variable {w0 w1 w2 : List Int} {lo0 lo1 lo2 : Nat} {x y : Int} {k : Nat} {hold : Option Nat} {s : St}

theorem cw_le {ws : List Int} (h : ws.length ≤ 8) (x : Seat) : cw ws x ≤ 9 := by
  unfold cw cntW
  have h1 := List.length_filter_le (fun w : Int => w.tmod 3 != 0) (ws.take x.nx.toNat)
  have h2 : (ws.take x.nx.toNat).length ≤ ws.length := by rw [List.length_take]; omega
  split <;> omega
theorem Gd.len (hs : Small w0 w1 w2) (h : Gd w0 w1 w2 lo0 lo1 lo2 x y k hold s) : s.vals.length ≤ 100 := by
  have := h.cnt
  have := cw_le hs.h0 s.s0
  have := cw_le hs.h1 s.s1
  have := cw_le hs.h2 s.s2
  omega
theorem Ph.ok {ws vals : List Int} {free : Prop} {lo : Nat} {own : Bool} {x : Seat} (hw : ws.length ≤ 8) (h : Ph ws vals k y free lo own x) : okSeat x := by
  unfold okSeat
  cases h <;> refine ⟨by simp only; omega, by simp only; omega, by simp⟩
theorem Gd.ok (hs : Small w0 w1 w2) (h : Gd w0 w1 w2 lo0 lo1 lo2 x y k hold s) {who : Int} (hw : 0 ≤ who ∧ who ≤ 2) : okT who s :=
  ⟨hw, by rw [h.m]; exact mV_len x y, h.p0.ok hs.h0, h.p1.ok hs.h1, h.p2.ok hs.h2, by have := h.gl.hk; omega, by have := h.len hs; omega⟩

/-- What a turn of thread 'who' does to the three. -/
structure Nxt (who : Nat) (w0 w1 w2 : List Int) (lo0 lo1 lo2 : Nat) (x : Int) (k : Nat) (hold : Option Nat) (s : St) (x' y' : Int) (k' : Nat) (hold' : Option Nat) (s' : St) : Prop where
  gd : Gd w0 w1 w2 lo0 lo1 lo2 x' y' k' hold' s'
  up : k ≤ k'
  turn : hold' = hold ∨ (hold = none ∧ hold' = some who) ∨ (hold = some who ∧ hold' = none)

theorem ne_dec {hold hold' : Option Nat} {who j : Nat} (hj : who ≠ j) (h : hold' = hold ∨ (hold = none ∧ hold' = some who) ∨ (hold = some who ∧ hold' = none)) : decide (hold' = some j) = decide (hold = some j) := by
  rcases h with rfl | ⟨rfl, rfl⟩ | ⟨rfl, rfl⟩
  · rfl
  · simp [hj]
  · simp [hj]
theorem Ph.beside {ws vals vals' : List Int} {k' : Nat} {y' : Int} {hold' : Option Nat} {who j lo : Nat} {z : Seat} (h : Ph ws vals k y (hold = none) lo (decide (hold = some j)) z) (hj : who ≠ j) (hk : k ≤ k') (hl : k + 1 ≤ vals.length) (hv : ∃ l, vals' = vals ++ l)
    (hc : hold' = none → k' = k → hold = none) (ht : hold' = hold ∨ (hold = none ∧ hold' = some who) ∨ (hold = some who ∧ hold' = none)) (hy : hold = some j → vals' = vals ∧ k' = k ∧ y' = y) :
    Ph ws vals' k' y' (hold' = none) lo (decide (hold' = some j)) z := by
  rw [ne_dec hj ht]
  by_cases e : hold = some j
  · obtain ⟨rfl, rfl, rfl⟩ := hy e
    have e2 : hold' = some j := by
      rcases ht with h1 | ⟨h1, _⟩ | ⟨h1, _⟩
      · rw [h1, e]
      · rw [e] at h1; simp at h1
      · rw [e] at h1; simp only [Option.some.injEq] at h1; exact absurd h1.symm hj
    subst e2
    subst e
    exact h
  · rw [decide_eq_false e] at h ⊢
    exact h.others hk hl hv hc

theorem Gd.turn0 (hs : Small w0 w1 w2) (h : Gd w0 w1 w2 lo0 lo1 lo2 x y k hold s) : ∃ x' y' k' hold', Nxt 0 w0 w1 w2 lo0 lo1 lo2 x k hold s x' y' k' hold' (turnS 0 w0 w1 w2 s) ∧
    (hold = none ∨ hold = some 0 → s.s0.nx ≥ (w0.length : Int) ∨ cost w0 x' (turnS 0 w0 w1 w2 s).s0 < cost w0 x s.s0) ∧ s.s0.nx ≤ (turnS 0 w0 w1 w2 s).s0.nx ∧ (turnS 0 w0 w1 w2 s).s1 = s.s1 ∧ (turnS 0 w0 w1 w2 s).s2 = s.s2 := by
  obtain ⟨x', y', held', vals', k', hold', s', fl', e, hst⟩ := turn_ph (fl := s.own) (who := 0) (by omega) hs.h0 h.gl h.p0 rfl h.l0 (h.len hs)
  have e2 : turnS 0 w0 w1 w2 s = ⟨mV x' y', s', s.s1, s.s2, held', vals', false, fl'⟩ := by
    unfold turnS
    rw [if_pos rfl]
    have : s.tr s.s0 = ⟨mV x y, s.s0, s.held, s.vals, false, s.own⟩ := by unfold St.tr; rw [h.m, h.bad]
    rw [this]
    have e' : turnX 0 w0 ⟨mV x y, s.s0, s.held, s.vals, false, s.own⟩ = ⟨mV x' y', s', held', vals', false, fl'⟩ := e
    rw [e']
    rfl
  rw [e2]
  have hy : ∀ j : Nat, 0 ≠ j → hold = some j → vals' = s.vals ∧ k' = k ∧ y' = y := fun j hj hh => hst.alone (by rw [hh]; simp only [ne_eq, Option.some.injEq]; exact fun e => hj e.symm)
  refine ⟨x', y', k', hold', ⟨⟨rfl, rfl, hst.gl, hst.ph, h.p1.beside (who := 0) (by omega) hst.up h.gl.hk hst.more hst.calm hst.turn (hy 1 (by omega)), h.p2.beside (who := 0) (by omega) hst.up h.gl.hk hst.more hst.calm hst.turn (hy 2 (by omega)),
    Nat.le_trans h.l0 hst.up, Nat.le_trans h.l1 hst.up, Nat.le_trans h.l2 hst.up, ?_⟩, hst.up, hst.turn⟩, hst.cst, hst.one, rfl, rfl⟩
  have := hst.cnt
  have := h.cnt
  simp only
  omega
theorem Gd.turn1 (hs : Small w0 w1 w2) (h : Gd w0 w1 w2 lo0 lo1 lo2 x y k hold s) : ∃ x' y' k' hold', Nxt 1 w0 w1 w2 lo0 lo1 lo2 x k hold s x' y' k' hold' (turnS 1 w0 w1 w2 s) ∧
    (hold = none ∨ hold = some 1 → s.s1.nx ≥ (w1.length : Int) ∨ cost w1 x' (turnS 1 w0 w1 w2 s).s1 < cost w1 x s.s1) ∧ s.s1.nx ≤ (turnS 1 w0 w1 w2 s).s1.nx ∧ (turnS 1 w0 w1 w2 s).s0 = s.s0 ∧ (turnS 1 w0 w1 w2 s).s2 = s.s2 := by
  obtain ⟨x', y', held', vals', k', hold', s', fl', e, hst⟩ := turn_ph (fl := s.own) (who := 1) (by omega) hs.h1 h.gl h.p1 rfl h.l1 (h.len hs)
  have e2 : turnS 1 w0 w1 w2 s = ⟨mV x' y', s.s0, s', s.s2, held', vals', false, fl'⟩ := by
    unfold turnS
    rw [if_neg (by decide), if_pos rfl]
    have : s.tr s.s1 = ⟨mV x y, s.s1, s.held, s.vals, false, s.own⟩ := by unfold St.tr; rw [h.m, h.bad]
    rw [this]
    have e' : turnX 1 w1 ⟨mV x y, s.s1, s.held, s.vals, false, s.own⟩ = ⟨mV x' y', s', held', vals', false, fl'⟩ := e
    rw [e']
    rfl
  rw [e2]
  have hy : ∀ j : Nat, 1 ≠ j → hold = some j → vals' = s.vals ∧ k' = k ∧ y' = y := fun j hj hh => hst.alone (by rw [hh]; simp only [ne_eq, Option.some.injEq]; exact fun e => hj e.symm)
  refine ⟨x', y', k', hold', ⟨⟨rfl, rfl, hst.gl, h.p0.beside (who := 1) (by omega) hst.up h.gl.hk hst.more hst.calm hst.turn (hy 0 (by omega)), hst.ph, h.p2.beside (who := 1) (by omega) hst.up h.gl.hk hst.more hst.calm hst.turn (hy 2 (by omega)),
    Nat.le_trans h.l0 hst.up, Nat.le_trans h.l1 hst.up, Nat.le_trans h.l2 hst.up, ?_⟩, hst.up, hst.turn⟩, hst.cst, hst.one, rfl, rfl⟩
  have := hst.cnt
  have := h.cnt
  simp only
  omega
theorem Gd.turn2 (hs : Small w0 w1 w2) (h : Gd w0 w1 w2 lo0 lo1 lo2 x y k hold s) : ∃ x' y' k' hold', Nxt 2 w0 w1 w2 lo0 lo1 lo2 x k hold s x' y' k' hold' (turnS 2 w0 w1 w2 s) ∧
    (hold = none ∨ hold = some 2 → s.s2.nx ≥ (w2.length : Int) ∨ cost w2 x' (turnS 2 w0 w1 w2 s).s2 < cost w2 x s.s2) ∧ s.s2.nx ≤ (turnS 2 w0 w1 w2 s).s2.nx ∧ (turnS 2 w0 w1 w2 s).s0 = s.s0 ∧ (turnS 2 w0 w1 w2 s).s1 = s.s1 := by
  obtain ⟨x', y', held', vals', k', hold', s', fl', e, hst⟩ := turn_ph (fl := s.own) (who := 2) (by omega) hs.h2 h.gl h.p2 rfl h.l2 (h.len hs)
  have e2 : turnS 2 w0 w1 w2 s = ⟨mV x' y', s.s0, s.s1, s', held', vals', false, fl'⟩ := by
    unfold turnS
    rw [if_neg (by decide), if_neg (by decide)]
    have : s.tr s.s2 = ⟨mV x y, s.s2, s.held, s.vals, false, s.own⟩ := by unfold St.tr; rw [h.m, h.bad]
    rw [this]
    have e' : turnX 2 w2 ⟨mV x y, s.s2, s.held, s.vals, false, s.own⟩ = ⟨mV x' y', s', held', vals', false, fl'⟩ := e
    rw [e']
    rfl
  rw [e2]
  have hy : ∀ j : Nat, 2 ≠ j → hold = some j → vals' = s.vals ∧ k' = k ∧ y' = y := fun j hj hh => hst.alone (by rw [hh]; simp only [ne_eq, Option.some.injEq]; exact fun e => hj e.symm)
  refine ⟨x', y', k', hold', ⟨⟨rfl, rfl, hst.gl, h.p0.beside (who := 2) (by omega) hst.up h.gl.hk hst.more hst.calm hst.turn (hy 0 (by omega)), h.p1.beside (who := 2) (by omega) hst.up h.gl.hk hst.more hst.calm hst.turn (hy 1 (by omega)), hst.ph,
    Nat.le_trans h.l0 hst.up, Nat.le_trans h.l1 hst.up, Nat.le_trans h.l2 hst.up, ?_⟩, hst.up, hst.turn⟩, hst.cst, hst.one, rfl, rfl⟩
  have := hst.cnt
  have := h.cnt
  simp only
  omega
theorem mV_inj {x y x' y' : Int} (h : mV x y = mV x' y') : x = x' ∧ y = y' := by
  have h1 := congrArg (fun l : List Int => l.getD (alW 0).toNat 0) h
  have h2 := congrArg (fun l : List Int => l.getD (alV 0).toNat 0) h
  simp only [mV_getW, mV_getV] at h1 h2
  exact ⟨h1, h2⟩
end

end Go.Proofs.Ythakgbecpkfeoaa.Ev

/- Layer 16, the plays, plain: every play ends well. -/
set_option linter.unusedVariables false
set_option linter.unusedSimpArgs false
namespace Go.Proofs.Ythakgbecpkfeoaa.Ev

def wsel (w0 w1 w2 : List Int) : Nat → List Int
  | 0 => w0 | 1 => w1 | _ => w2
def St.seat (s : St) : Nat → Seat
  | 0 => s.s0 | 1 => s.s1 | _ => s.s2
def Fin' (w0 w1 w2 : List Int) (a : Nat) (s : St) : Prop := (s.seat a).nx ≥ ((wsel w0 w1 w2 a).length : Int)
def Gx (w0 w1 w2 : List Int) (h : Option Nat) (s : St) : Prop := ∃ x y k, Gd w0 w1 w2 0 0 0 x y k h s
def GoodE (w0 w1 w2 : List Int) (s : St) : Prop := ∃ h, Gx w0 w1 w2 h s

def runN (w0 w1 w2 : List Int) (who : Int) : Nat → St → St
  | 0, s => s
  | n + 1, s => runN w0 w1 w2 who n (turnS who w0 w1 w2 s)
def runW (w0 w1 w2 : List Int) : Nat → Int → St → St
  | 0, _, s => s
  | n + 1, who, s => runW w0 w1 w2 n (who + 1) (runN w0 w1 w2 who 150 s)
def runK (w0 w1 w2 : List Int) : Nat → St → St
  | 0, s => s
  | n + 1, s => runK w0 w1 w2 n (runW w0 w1 w2 3 0 s)
def sched (w0 w1 w2 : List Int) : List Int → St → St
  | [], s => s
  | t :: l, s => sched w0 w1 w2 l (turnS ((IntKind.i64.wrap t).tmod 3) w0 w1 w2 s)
def seat0 : Seat := ⟨0, 0, [], 0⟩
def st0 : St := ⟨List.replicate 24 0, seat0, seat0, seat0, 0, [0], false, false⟩
def playedS (w0 w1 w2 tu : List Int) : St := runK w0 w1 w2 3 (sched w0 w1 w2 tu st0)

section
variable {w0 w1 w2 : List Int} {lo0 lo1 lo2 : Nat} {x y : Int} {k : Nat} {hold : Option Nat} {s : St}

theorem Gd.turn (hs : Small w0 w1 w2) (h : Gd w0 w1 w2 lo0 lo1 lo2 x y k hold s) {a : Nat} (ha : a < 3) : ∃ x' y' k' hold', Nxt a w0 w1 w2 lo0 lo1 lo2 x k hold s x' y' k' hold' (turnS (a : Int) w0 w1 w2 s) ∧
    (hold = none ∨ hold = some a → Fin' w0 w1 w2 a s ∨ cost (wsel w0 w1 w2 a) x' ((turnS (a : Int) w0 w1 w2 s).seat a) < cost (wsel w0 w1 w2 a) x (s.seat a)) ∧ (s.seat a).nx ≤ ((turnS (a : Int) w0 w1 w2 s).seat a).nx ∧
    ∀ b, b < 3 → b ≠ a → (turnS (a : Int) w0 w1 w2 s).seat b = s.seat b := by
  have ha' : a = 0 ∨ a = 1 ∨ a = 2 := by omega
  rcases ha' with rfl | rfl | rfl
  · obtain ⟨x', y', k', hold', h1, h2, h3, h4, h5⟩ := h.turn0 hs
    refine ⟨x', y', k', hold', h1, h2, h3, fun b hb hne => ?_⟩
    have : b = 1 ∨ b = 2 := by omega
    rcases this with rfl | rfl
    · exact h4
    · exact h5
  · obtain ⟨x', y', k', hold', h1, h2, h3, h4, h5⟩ := h.turn1 hs
    refine ⟨x', y', k', hold', h1, h2, h3, fun b hb hne => ?_⟩
    have : b = 0 ∨ b = 2 := by omega
    rcases this with rfl | rfl
    · exact h4
    · exact h5
  · obtain ⟨x', y', k', hold', h1, h2, h3, h4, h5⟩ := h.turn2 hs
    refine ⟨x', y', k', hold', h1, h2, h3, fun b hb hne => ?_⟩
    have : b = 0 ∨ b = 1 := by omega
    rcases this with rfl | rfl
    · exact h4
    · exact h5

theorem Gd.seatP (h : Gd w0 w1 w2 lo0 lo1 lo2 x y k hold s) {a : Nat} (ha : a < 3) : ∃ lo, Ph (wsel w0 w1 w2 a) s.vals k y (hold = none) lo (decide (hold = some a)) (s.seat a) := by
  have ha' : a = 0 ∨ a = 1 ∨ a = 2 := by omega
  rcases ha' with rfl | rfl | rfl
  · exact ⟨_, h.p0⟩
  · exact ⟨_, h.p1⟩
  · exact ⟨_, h.p2⟩

theorem Ph.done {ws vals : List Int} {free : Prop} {lo : Nat} {own : Bool} {z : Seat} (h : Ph ws vals k y free lo own z) (hf : z.nx ≥ (ws.length : Int)) : own = false ∧ z.nx = (ws.length : Int) ∧ z.at_ ≠ 2 := by
  cases h with
  | fin n at_ ver hn ha => exact ⟨rfl, by simp [hn], ha⟩
  | _ => exact absurd hf (by simp only; omega)
theorem cost_zero {ws : List Int} {z : Seat} (h : cost ws x z ≤ 0) : z.nx ≥ (ws.length : Int) := by
  unfold cost at h
  split at h
  · assumption
  · have := (costL_le ws x z).1; omega
theorem cost_max {ws : List Int} {z : Seat} (hws : ws.length ≤ 8) : cost ws x z ≤ 150 := by
  unfold cost
  have := (costL_le ws x z).2
  split <;> omega
theorem Small.sel (hs : Small w0 w1 w2) (a : Nat) : (wsel w0 w1 w2 a).length ≤ 8 := by
  unfold wsel
  split
  · exact hs.h0
  · exact hs.h1
  · exact hs.h2

theorem drive (hs : Small w0 w1 w2) {a : Nat} (ha : a < 3) : ∀ (n : Nat) (s : St) (x y : Int) (k : Nat) (hold : Option Nat), Gd w0 w1 w2 0 0 0 x y k hold s → (hold = none ∨ hold = some a) → (Fin' w0 w1 w2 a s ∨ cost (wsel w0 w1 w2 a) x (s.seat a) ≤ n) →
    Gx w0 w1 w2 none (runN w0 w1 w2 (a : Int) n s) ∧ Fin' w0 w1 w2 a (runN w0 w1 w2 (a : Int) n s) ∧ ∀ b, b < 3 → b ≠ a → (runN w0 w1 w2 (a : Int) n s).seat b = s.seat b
  | 0, s, x, y, k, hold, h, hh, hc => by
    have hf : Fin' w0 w1 w2 a s := hc.elim id cost_zero
    obtain ⟨lo, hp⟩ := h.seatP ha
    have hd := (hp.done hf).1
    have hn : hold = none := hh.resolve_right (by simpa using hd)
    subst hn
    exact ⟨⟨x, y, k, h⟩, hf, fun b _ _ => rfl⟩
  | n + 1, s, x, y, k, hold, h, hh, hc => by
    obtain ⟨x', y', k', hold', h1, h2, h3, h4⟩ := h.turn hs ha
    have hh' : hold' = none ∨ hold' = some a := by
      rcases h1.turn with e | ⟨_, e⟩ | ⟨_, e⟩
      · rw [e]; exact hh
      · exact .inr e
      · exact .inl e
    have hc' : Fin' w0 w1 w2 a (turnS (a : Int) w0 w1 w2 s) ∨ cost (wsel w0 w1 w2 a) x' ((turnS (a : Int) w0 w1 w2 s).seat a) ≤ n := by
      rcases h2 hh with e | e
      · exact .inl (Int.le_trans e h3)
      · rcases hc with e2 | e2
        · exact .inl (Int.le_trans e2 h3)
        · exact .inr (by omega)
    obtain ⟨q1, q2, q3⟩ := drive hs ha n _ x' y' k' hold' h1.gd hh' hc'
    exact ⟨q1, q2, fun b hb hne => (q3 b hb hne).trans (h4 b hb hne)⟩
theorem Gx.drive (hs : Small w0 w1 w2) {a : Nat} (ha : a < 3) {h : Option Nat} (hg : Gx w0 w1 w2 h s) (hh : h = none ∨ h = some a) :
    Gx w0 w1 w2 none (runN w0 w1 w2 (a : Int) 150 s) ∧ Fin' w0 w1 w2 a (runN w0 w1 w2 (a : Int) 150 s) ∧ ∀ b, b < 3 → b ≠ a → (runN w0 w1 w2 (a : Int) 150 s).seat b = s.seat b := by
  obtain ⟨x, y, k, hg⟩ := hg
  exact Ev.drive hs ha 150 s x y k h hg hh (.inr (cost_max (hs.sel a)))
theorem Gx.wait (hs : Small w0 w1 w2) {a c : Nat} (ha : a < 3) (hne : c ≠ a) : ∀ (n : Nat) (s : St), Gx w0 w1 w2 (some c) s → Gx w0 w1 w2 (some c) (runN w0 w1 w2 (a : Int) n s)
  | 0, s, h => h
  | n + 1, s, ⟨x, y, k, h⟩ => by
    obtain ⟨x', y', k', hold', h1, _⟩ := h.turn hs ha
    have e : hold' = some c := by
      rcases h1.turn with e | ⟨e, _⟩ | ⟨e, _⟩
      · exact e
      · simp at e
      · simp only [Option.some.injEq] at e; exact absurd e hne
    subst e
    exact Gx.wait hs ha hne n _ ⟨x', y', k', h1.gd⟩

theorem runW_eq (s : St) : runW w0 w1 w2 3 0 s = runN w0 w1 w2 2 150 (runN w0 w1 w2 1 150 (runN w0 w1 w2 0 150 s)) := rfl
/-- A round from a free lock: all are served. -/
theorem round_free (hs : Small w0 w1 w2) (h : Gx w0 w1 w2 none s) : Gx w0 w1 w2 none (runW w0 w1 w2 3 0 s) ∧ ∀ a, a < 3 → Fin' w0 w1 w2 a (runW w0 w1 w2 3 0 s) := by
  rw [runW_eq]
  obtain ⟨a1, a2, a3⟩ := h.drive hs (a := 0) (by omega) (.inl rfl)
  obtain ⟨b1, b2, b3⟩ := a1.drive hs (a := 1) (by omega) (.inl rfl)
  obtain ⟨c1, c2, c3⟩ := b1.drive hs (a := 2) (by omega) (.inl rfl)
  refine ⟨c1, fun a ha => ?_⟩
  have ha' : a = 0 ∨ a = 1 ∨ a = 2 := by omega
  rcases ha' with rfl | rfl | rfl
  · unfold Fin'
    have e1 := c3 0 (by omega) (by omega)
    have e2 := b3 0 (by omega) (by omega)
    exact (congrArg Seat.nx (e1.trans e2)).symm ▸ a2
  · unfold Fin'
    have e1 := c3 1 (by omega) (by omega)
    exact (congrArg Seat.nx e1).symm ▸ b2
  · exact c2
/-- A round from any lock: it is free. -/
theorem round_any (hs : Small w0 w1 w2) {h : Option Nat} (hg : Gx w0 w1 w2 h s) : Gx w0 w1 w2 none (runW w0 w1 w2 3 0 s) := by
  cases h with
  | none => exact (round_free hs hg).1
  | some c =>
    have hc : c < 3 := by obtain ⟨x, y, k, h⟩ := hg; exact (h.gl.lock c rfl).2.2
    rw [runW_eq]
    have hc' : c = 0 ∨ c = 1 ∨ c = 2 := by omega
    rcases hc' with rfl | rfl | rfl
    · have a1 := (hg.drive hs (a := 0) (by omega) (.inr rfl)).1
      have b1 := (a1.drive hs (a := 1) (by omega) (.inl rfl)).1
      exact (b1.drive hs (a := 2) (by omega) (.inl rfl)).1
    · have a1 := Gx.wait hs (a := 0) (by omega) (by omega) 150 s hg
      have b1 := (a1.drive hs (a := 1) (by omega) (.inr rfl)).1
      exact (b1.drive hs (a := 2) (by omega) (.inl rfl)).1
    · have a1 := Gx.wait hs (a := 0) (by omega) (by omega) 150 s hg
      have b1 := Gx.wait hs (a := 1) (by omega) (by omega) 150 _ a1
      exact (b1.drive hs (a := 2) (by omega) (.inr rfl)).1

theorem GoodE.turn (hs : Small w0 w1 w2) (h : GoodE w0 w1 w2 s) {who : Int} (hw : 0 ≤ who ∧ who ≤ 2) : GoodE w0 w1 w2 (turnS who w0 w1 w2 s) := by
  obtain ⟨hold, x, y, k, h⟩ := h
  obtain ⟨a, rfl⟩ := Int.eq_ofNat_of_zero_le hw.1
  obtain ⟨x', y', k', hold', h1, _⟩ := h.turn hs (a := a) (by omega)
  exact ⟨hold', x', y', k', h1.gd⟩
theorem GoodE.ok (hs : Small w0 w1 w2) (h : GoodE w0 w1 w2 s) {who : Int} (hw : 0 ≤ who ∧ who ≤ 2) : okT who s := by
  obtain ⟨hold, x, y, k, h⟩ := h
  exact h.ok hs hw
theorem who_in (t : Int) (h : 0 ≤ t ∧ t < 256) : 0 ≤ (IntKind.i64.wrap t).tmod 3 ∧ (IntKind.i64.wrap t).tmod 3 ≤ 2 := by
  rw [wrap_small (by omega) (by omega), Int.tmod_eq_emod_of_nonneg h.1]
  omega
theorem GoodE.sched (hs : Small w0 w1 w2) : ∀ (tu : List Int) (s : St), (∀ t ∈ tu, 0 ≤ t ∧ t < 256) → GoodE w0 w1 w2 s → GoodE w0 w1 w2 (sched w0 w1 w2 tu s)
  | [], s, _, h => h
  | t :: l, s, ht, h => GoodE.sched hs l _ (fun x hx => ht x (by simp [hx])) (h.turn hs (who_in t (ht t (by simp))))
theorem mV00 : mV 0 0 = List.replicate 24 0 := by rfl
theorem good0 : Gd w0 w1 w2 0 0 0 0 0 0 none st0 where
  m := mV00.symm
  bad := rfl
  gl := ⟨by simp [st0], fun _ => ⟨rfl, rfl, rfl, rfl⟩, fun h e => by simp at e⟩
  p0 := by rw [show decide ((none : Option Nat) = some 0) = false by simp]; exact Ph.new 0 0 (Nat.zero_le _)
  p1 := by rw [show decide ((none : Option Nat) = some 1) = false by simp]; exact Ph.new 0 0 (Nat.zero_le _)
  p2 := by rw [show decide ((none : Option Nat) = some 2) = false by simp]; exact Ph.new 0 0 (Nat.zero_le _)
  l0 := Nat.le_refl _
  l1 := Nat.le_refl _
  l2 := Nat.le_refl _
  cnt := by simp [st0, seat0, cw, cntW]

/-- EVERY PLAY ENDS WELL. -/
theorem played_ends (hs : Small w0 w1 w2) {tu : List Int} (ht : ∀ t ∈ tu, 0 ≤ t ∧ t < 256) :
    (∀ a, a < 3 → ((playedS w0 w1 w2 tu).seat a).nx = ((wsel w0 w1 w2 a).length : Int)) ∧ (playedS w0 w1 w2 tu).bad = false ∧ (playedS w0 w1 w2 tu).held = 0 ∧
      (playedS w0 w1 w2 tu).vals.length = cntW w0 w0.length + cntW w1 w1.length + cntW w2 w2.length + 1 ∧
      ∃ y, (playedS w0 w1 w2 tu).m = mV (2 * ((cntW w0 w0.length + cntW w1 w1.length + cntW w2 w2.length : Nat) : Int)) y := by
  obtain ⟨h, hg⟩ := GoodE.sched hs tu st0 ht ⟨none, 0, 0, 0, good0⟩
  have h1 := round_any hs hg
  have h2 := (round_free hs h1).1
  obtain ⟨⟨x, y, k, h3⟩, hf⟩ := round_free hs h2
  have e : playedS w0 w1 w2 tu = runW w0 w1 w2 3 0 (runW w0 w1 w2 3 0 (runW w0 w1 w2 3 0 (sched w0 w1 w2 tu st0))) := rfl
  rw [← e] at h3 hf
  generalize playedS w0 w1 w2 tu = s at h3 hf ⊢
  have d0 := h3.p0.done (hf 0 (by omega))
  have d1 := h3.p1.done (hf 1 (by omega))
  have d2 := h3.p2.done (hf 2 (by omega))
  obtain ⟨f1, f2, f3, f4⟩ := h3.gl.free rfl
  have hc := h3.cnt
  simp only [cw, d0.2.1, d1.2.1, d2.2.1, if_neg d0.2.2, if_neg d1.2.2, if_neg d2.2.2, Int.toNat_natCast] at hc
  refine ⟨fun a ha => ?_, h3.bad, f2, by omega, y, ?_⟩
  · have ha' : a = 0 ∨ a = 1 ∨ a = 2 := by omega
    rcases ha' with rfl | rfl | rfl
    · exact d0.2.1
    · exact d1.2.1
    · exact d2.2.1
  · rw [h3.m, f1]
    congr 2
    omega
end

end Go.Proofs.Ythakgbecpkfeoaa.Ev

/- Layer 16, the plays: played, told by its code. -/
set_option linter.unusedVariables false
set_option linter.unusedSimpArgs false
set_option maxRecDepth 100000
namespace Go.Proofs.Ythakgbecpkfeoaa.Ev

/-- A table's cells, around its values. -/
def cellsV (s : St) (v : AV) : List AV := [.sl .i64 s.m, .int .i64 s.s0.nx, .int .i64 s.s0.at_, .sl .res s.s0.log, .int .i64 s.s0.ver, .int .i64 s.s1.nx, .int .i64 s.s1.at_, .sl .res s.s1.log, .int .i64 s.s1.ver,
  .int .i64 s.s2.nx, .int .i64 s.s2.at_, .sl .res s.s2.log, .int .i64 s.s2.ver, .int .i64 s.held, v, .bool s.bad]
def valsC (s : St) : AV := match s.own with | false => .lit .i64 s.vals | true => .own 999
def tailH (s : St) : Hp := match s.own with | false => [] | true => [(999, .arr .i64 s.vals)]
/-- The table's box (number o), and its array. -/
def tabH (o : Nat) (s : St) (h : Hp) : Hp := (o, .box (cellsV s (valsC s))) :: (h ++ tailH s)
def playH (w0 w1 w2 tu : List Int) (s : St) : Hp := (1, .box [.sl .u8 w0, .sl .u8 w1, .sl .u8 w2, .sl .u8 tu]) :: tabH 11 s []
def h57 : List AV → Option (Prop × AV)
  | [.agg [.sl .u8 w0, .sl .u8 w1, .sl .u8 w2, .sl .u8 tu]] => some (Small w0 w1 w2 ∧ (∀ t ∈ tu, 0 ≤ t ∧ t < 256) ∧ tu.length ≤ 1000, .kp (cellsV (playedS w0 w1 w2 tu) (.sl .i64 (playedS w0 w1 w2 tu).vals)))
  | _ => none

set_option maxHeartbeats 4000000 in
theorem w57 : EnvOK Try.prog ⟨tys, (57, .pure h57) :: sp59⟩ := by
  refine addPure w59 (fn := Try.f57) (by kernel_rfl) (by kernel_rfl) (by kernel_rfl) ?_
  intro args p r h hp
  unfold h57 at h
  split at h
  · rename_i w0 w1 w2 tu
    simp only [Option.some.injEq, Prod.mk.injEq] at h
    obtain ⟨rfl, rfl⟩ := h
    obtain ⟨hs, ht, hl⟩ := hp
    generalize hF : playedS w0 w1 w2 tu = F
    conv => whnf
    refine ⟨trivial, ?_⟩
    conv => whnf
    generalize hS1 : sched w0 w1 w2 tu st0 = S1
    have hF1 : runK w0 w1 w2 3 S1 = F := by rw [← hS1]; exact hF
    refine LoopVC.introW [] (fun q : Nat × St => [.agg [.sl .u8 w0, .sl .u8 w1, .sl .u8 w2, .sl .u8 tu], .ptr 1 0, .opq (.pointer none), .ptr 11 0, .int .i64 (q.1 : Nat), .skp, .skp, .skp, .undef, .undef, .undef, .undef, .undef, .undef, .undef, .undef, .undef, .undef, .undef, .undef, .undef, .undef, .undef, .undef, .undef, .undef, .undef, .undef, .undef, .undef, .undef, .undef, .undef, .undef, .undef, .undef, .undef, .undef, .undef, .undef, .undef, .undef, .undef, .undef, .undef, .undef])
      (fun q => playH w0 w1 w2 tu q.2) (fun q => q.1 ≤ tu.length ∧ GoodE w0 w1 w2 q.2 ∧ sched w0 w1 w2 (tu.drop q.1) q.2 = S1) (fun q => tu.length - q.1) (0, st0) ⟨Nat.zero_le _, ⟨none, 0, 0, 0, good0⟩, hS1⟩ ?_ ?_
    · conv => whnf
      refine ⟨?_, ?_⟩
      · repeat' (first | exact WeakL.nil | refine WeakL.cons ?_ ?_ | exact Weak1.undef _ | exact Weak1.same _ | exact Weak1.nil _ | exact Weak1.lit _ _ | exact WeakH.nil | refine WeakH.cons _ ?_ ?_ | exact WeakA.same _ | refine WeakA.box ?_)
      · show WeakH [_, _] _
        repeat' (first | exact WeakL.nil | refine WeakL.cons ?_ ?_ | exact Weak1.undef _ | exact Weak1.same _ | exact Weak1.nil _ | exact Weak1.lit _ _ | exact WeakH.nil | refine WeakH.cons _ ?_ ?_ | exact WeakA.same _ | refine WeakA.box ?_)
    · rintro ⟨i, s⟩ ⟨hi, hg, hR⟩
      dsimp only at hi hg hR ⊢
      conv => whnf
      split
      · rename_i hlt
        have hlt : i < tu.length := by have := of_decide_eq_true hlt; omega
        conv => whnf
        apply DrawVC.tail 9
        conv => whnf
        refine ⟨⟨by omega, by omega⟩, ?_⟩
        conv => whnf
        refine ⟨by decide, ?_⟩
        conv => whnf
        refine ⟨by kernel_rfl, ?_⟩
        generalize ht2 : tu.getD (i : Int).toNat ET.u8.dflt = t
        have hmem : t ∈ tu := by rw [← ht2]; simp only [Int.toNat_natCast]; rw [List.getD_eq_getElem?_getD, List.getElem?_eq_getElem hlt]; simp
        have hwho := who_in t (ht t hmem)
        have hdr : tu.drop i = t :: tu.drop (i + 1) := by rw [List.drop_eq_getElem_cons hlt]; congr 1; rw [← ht2]; simp only [Int.toNat_natCast]; rw [List.getD_eq_getElem?_getD, List.getElem?_eq_getElem hlt]; rfl
        rw [hdr] at hR
        have hR' := hR
        simp only [sched] at hR'
        obtain ⟨m, ⟨n0, a0, l0, v0⟩, ⟨n1, a1, l1, v1⟩, ⟨n2, a2, l2, v2⟩, held, vals, bad, own⟩ := s
        cases own
        · conv => whnf
          refine ⟨hg.ok hs hwho, ?_⟩
          have hg2 := hg.turn hs hwho
          generalize hT : turnS ((IntKind.i64.wrap t).tmod 3) w0 w1 w2 _ = R at hR' hg2 ⊢
          obtain ⟨m', ⟨n0', a0', l0', v0'⟩, ⟨n1', a1', l1', v1'⟩, ⟨n2', a2', l2', v2'⟩, held', vals', bad', own'⟩ := R
          have hw : IntKind.i64.wrap ((i : Int) + 1) = ((i + 1 : Nat) : Int) := wrapN i (by omega)
          cases own'
          · conv => whnf
            rw [hw]
            refine ⟨(i + 1, ⟨m', ⟨n0', a0', l0', v0'⟩, ⟨n1', a1', l1', v1'⟩, ⟨n2', a2', l2', v2'⟩, held', vals', bad', false⟩), by simp only; omega, ⟨by simp only; omega, hg2, hR'⟩, ?_⟩
            conv => whnf
            refine ⟨?_, ?_⟩
            · repeat' (first | exact WeakL.nil | refine WeakL.cons ?_ ?_ | exact Weak1.undef _ | exact Weak1.same _ | exact Weak1.nil _ | exact Weak1.lit _ _ | exact WeakH.nil | refine WeakH.cons _ ?_ ?_ | exact WeakA.same _ | refine WeakA.box ?_)
            · show WeakH [_, _] _
              repeat' (first | exact WeakL.nil | refine WeakL.cons ?_ ?_ | exact Weak1.undef _ | exact Weak1.same _ | exact Weak1.nil _ | exact Weak1.lit _ _ | exact WeakH.nil | refine WeakH.cons _ ?_ ?_ | exact WeakA.same _ | refine WeakA.box ?_)
          · conv => whnf
            rw [hw]
            refine ⟨(i + 1, ⟨m', ⟨n0', a0', l0', v0'⟩, ⟨n1', a1', l1', v1'⟩, ⟨n2', a2', l2', v2'⟩, held', vals', bad', true⟩), by simp only; omega, ⟨by simp only; omega, hg2, hR'⟩, ?_⟩
            conv => whnf
            refine ⟨?_, ?_⟩
            · repeat' (first | exact WeakL.nil | refine WeakL.cons ?_ ?_ | exact Weak1.undef _ | exact Weak1.same _ | exact Weak1.nil _ | exact Weak1.lit _ _ | exact WeakH.nil | refine WeakH.cons _ ?_ ?_ | exact WeakA.same _ | refine WeakA.box ?_)
            · show WeakH [_, _, _] _
              repeat' (first | exact WeakL.nil | refine WeakL.cons ?_ ?_ | exact Weak1.undef _ | exact Weak1.same _ | exact Weak1.nil _ | exact Weak1.lit _ _ | exact WeakH.nil | refine WeakH.cons _ ?_ ?_ | exact WeakA.same _ | refine WeakA.box ?_)
        · conv => whnf
          refine ⟨hg.ok hs hwho, ?_⟩
          have hg2 := hg.turn hs hwho
          generalize hT : turnS ((IntKind.i64.wrap t).tmod 3) w0 w1 w2 _ = R at hR' hg2 ⊢
          obtain ⟨m', ⟨n0', a0', l0', v0'⟩, ⟨n1', a1', l1', v1'⟩, ⟨n2', a2', l2', v2'⟩, held', vals', bad', own'⟩ := R
          have hw : IntKind.i64.wrap ((i : Int) + 1) = ((i + 1 : Nat) : Int) := wrapN i (by omega)
          cases own'
          · conv => whnf
            rw [hw]
            refine ⟨(i + 1, ⟨m', ⟨n0', a0', l0', v0'⟩, ⟨n1', a1', l1', v1'⟩, ⟨n2', a2', l2', v2'⟩, held', vals', bad', false⟩), by simp only; omega, ⟨by simp only; omega, hg2, hR'⟩, ?_⟩
            conv => whnf
            refine ⟨?_, ?_⟩
            · repeat' (first | exact WeakL.nil | refine WeakL.cons ?_ ?_ | exact Weak1.undef _ | exact Weak1.same _ | exact Weak1.nil _ | exact Weak1.lit _ _ | exact WeakH.nil | refine WeakH.cons _ ?_ ?_ | exact WeakA.same _ | refine WeakA.box ?_)
            · show WeakH [_, _] _
              repeat' (first | exact WeakL.nil | refine WeakL.cons ?_ ?_ | exact Weak1.undef _ | exact Weak1.same _ | exact Weak1.nil _ | exact Weak1.lit _ _ | exact WeakH.nil | refine WeakH.cons _ ?_ ?_ | exact WeakA.same _ | refine WeakA.box ?_)
          · conv => whnf
            rw [hw]
            refine ⟨(i + 1, ⟨m', ⟨n0', a0', l0', v0'⟩, ⟨n1', a1', l1', v1'⟩, ⟨n2', a2', l2', v2'⟩, held', vals', bad', true⟩), by simp only; omega, ⟨by simp only; omega, hg2, hR'⟩, ?_⟩
            conv => whnf
            refine ⟨?_, ?_⟩
            · repeat' (first | exact WeakL.nil | refine WeakL.cons ?_ ?_ | exact Weak1.undef _ | exact Weak1.same _ | exact Weak1.nil _ | exact Weak1.lit _ _ | exact WeakH.nil | refine WeakH.cons _ ?_ ?_ | exact WeakA.same _ | refine WeakA.box ?_)
            · show WeakH [_, _, _] _
              repeat' (first | exact WeakL.nil | refine WeakL.cons ?_ ?_ | exact Weak1.undef _ | exact Weak1.same _ | exact Weak1.nil _ | exact Weak1.lit _ _ | exact WeakH.nil | refine WeakH.cons _ ?_ ?_ | exact WeakA.same _ | refine WeakA.box ?_)
      · rename_i hlt
        have hlt : i = tu.length := by have := of_decide_eq_false hlt; omega
        subst hlt
        simp only [List.drop_length, sched] at hR
        subst hR
        conv => whnf
        refine LoopVC.introW [] (fun q : Nat × St => [.agg [.sl .u8 w0, .sl .u8 w1, .sl .u8 w2, .sl .u8 tu], .ptr 1 0, .opq (.pointer none), .ptr 11 0, .undef, .int .i64 (q.1 : Nat), .undef, .undef, .undef, .undef, .undef, .undef, .undef, .undef, .undef, .undef, .undef, .undef, .undef, .undef, .undef, .undef, .undef, .undef, .undef, .undef, .undef, .undef, .undef, .undef, .undef, .undef, .undef, .undef, .undef, .undef, .undef, .undef, .undef, .undef, .undef, .undef, .undef, .undef, .undef, .undef])
          (fun q => playH w0 w1 w2 tu q.2) (fun q => q.1 ≤ 3 ∧ GoodE w0 w1 w2 q.2 ∧ runK w0 w1 w2 (3 - q.1) q.2 = F) (fun q => 3 - q.1) (0, s) ⟨by simp only; omega, hg, hF1⟩ ?_ ?_
        · conv => whnf
          refine ⟨?_, WeakH.rfl _⟩
          repeat' (first | exact WeakL.nil | refine WeakL.cons ?_ ?_ | exact Weak1.undef _ | exact Weak1.same _ | exact Weak1.nil _ | exact Weak1.lit _ _)
        rintro ⟨k, s⟩ ⟨hk, hg, hR⟩
        dsimp only at hk hg hR ⊢
        conv => whnf
        split
        · rename_i hlt
          have hlt : k < 3 := by have := of_decide_eq_true hlt; omega
          rw [show 3 - k = (3 - (k + 1)) + 1 by omega] at hR
          simp only [runK] at hR
          generalize hK : runW w0 w1 w2 3 0 s = K at hR
          conv => whnf
          refine LoopVC.introW [] (fun q : Nat × St => [.agg [.sl .u8 w0, .sl .u8 w1, .sl .u8 w2, .sl .u8 tu], .ptr 1 0, .opq (.pointer none), .ptr 11 0, .undef, .int .i64 (k : Nat), .int .i64 (q.1 : Nat), .undef, .undef, .undef, .undef, .undef, .undef, .undef, .undef, .undef, .undef, .undef, .undef, .undef, .undef, .undef, .undef, .undef, .undef, .undef, .undef, .undef, .undef, .undef, .undef, .undef, .undef, .undef, .undef, .undef, .undef, .undef, .undef, .undef, .undef, .undef, .undef, .undef, .undef, .undef])
            (fun q => playH w0 w1 w2 tu q.2) (fun q => q.1 ≤ 3 ∧ GoodE w0 w1 w2 q.2 ∧ runW w0 w1 w2 (3 - q.1) (q.1 : Nat) q.2 = K) (fun q => 3 - q.1) (0, s) ⟨by simp only; omega, hg, hK⟩ ?_ ?_
          · conv => whnf
            refine ⟨?_, WeakH.rfl _⟩
            repeat' (first | exact WeakL.nil | refine WeakL.cons ?_ ?_ | exact Weak1.undef _ | exact Weak1.same _ | exact Weak1.nil _ | exact Weak1.lit _ _)
          rintro ⟨a, s⟩ ⟨ha, hg, hA⟩
          dsimp only at ha hg hA ⊢
          conv => whnf
          split
          · rename_i hlt
            have hlt : a < 3 := by have := of_decide_eq_true hlt; omega
            rw [show 3 - a = (3 - (a + 1)) + 1 by omega] at hA
            simp only [runW] at hA
            generalize hN : runN w0 w1 w2 (a : Int) 150 s = N at hA
            conv => whnf
            refine LoopVC.introW [] (fun q : Nat × St => [.agg [.sl .u8 w0, .sl .u8 w1, .sl .u8 w2, .sl .u8 tu], .ptr 1 0, .opq (.pointer none), .ptr 11 0, .undef, .int .i64 (k : Nat), .int .i64 (a : Nat), .int .i64 (q.1 : Nat), .undef, .undef, .undef, .undef, .undef, .undef, .undef, .undef, .undef, .undef, .undef, .undef, .undef, .undef, .undef, .undef, .undef, .undef, .undef, .undef, .undef, .undef, .undef, .undef, .undef, .undef, .undef, .undef, .undef, .undef, .undef, .undef, .undef, .undef, .undef, .undef, .undef, .undef])
              (fun q => playH w0 w1 w2 tu q.2) (fun q => q.1 ≤ 150 ∧ GoodE w0 w1 w2 q.2 ∧ runN w0 w1 w2 (a : Int) (150 - q.1) q.2 = N) (fun q => 150 - q.1) (0, s) ⟨by simp only; omega, hg, hN⟩ ?_ ?_
            · conv => whnf
              refine ⟨?_, WeakH.rfl _⟩
              repeat' (first | exact WeakL.nil | refine WeakL.cons ?_ ?_ | exact Weak1.undef _ | exact Weak1.same _ | exact Weak1.nil _ | exact Weak1.lit _ _)
            rintro ⟨i, s⟩ ⟨hi, hg, hI⟩
            dsimp only at hi hg hI ⊢
            conv => whnf
            split
            · rename_i hlt
              have hlt : i < 150 := by have := of_decide_eq_true hlt; omega
              rw [show 150 - i = (150 - (i + 1)) + 1 by omega] at hI
              have hR' := hI
              simp only [runN] at hR'
              have hwho : 0 ≤ (a : Int) ∧ (a : Int) ≤ 2 := by omega
              obtain ⟨m, ⟨n0, a0, l0, v0⟩, ⟨n1, a1, l1, v1⟩, ⟨n2, a2, l2, v2⟩, held, vals, bad, own⟩ := s
              cases own
              · conv => whnf
                refine ⟨hg.ok hs hwho, ?_⟩
                have hg2 := hg.turn hs hwho
                generalize hT : turnS (a : Int) w0 w1 w2 _ = R at hR' hg2 ⊢
                obtain ⟨m', ⟨n0', a0', l0', v0'⟩, ⟨n1', a1', l1', v1'⟩, ⟨n2', a2', l2', v2'⟩, held', vals', bad', own'⟩ := R
                have hw : IntKind.i64.wrap ((i : Int) + 1) = ((i + 1 : Nat) : Int) := wrapN i (by omega)
                cases own'
                · conv => whnf
                  rw [hw]
                  refine ⟨(i + 1, ⟨m', ⟨n0', a0', l0', v0'⟩, ⟨n1', a1', l1', v1'⟩, ⟨n2', a2', l2', v2'⟩, held', vals', bad', false⟩), by simp only; omega, ⟨by simp only; omega, hg2, hR'⟩, ?_⟩
                  conv => whnf
                  refine ⟨?_, ?_⟩
                  · repeat' (first | exact WeakL.nil | refine WeakL.cons ?_ ?_ | exact Weak1.undef _ | exact Weak1.same _ | exact Weak1.nil _ | exact Weak1.lit _ _ | exact WeakH.nil | refine WeakH.cons _ ?_ ?_ | exact WeakA.same _ | refine WeakA.box ?_)
                  · show WeakH [_, _] _
                    repeat' (first | exact WeakL.nil | refine WeakL.cons ?_ ?_ | exact Weak1.undef _ | exact Weak1.same _ | exact Weak1.nil _ | exact Weak1.lit _ _ | exact WeakH.nil | refine WeakH.cons _ ?_ ?_ | exact WeakA.same _ | refine WeakA.box ?_)
                · conv => whnf
                  rw [hw]
                  refine ⟨(i + 1, ⟨m', ⟨n0', a0', l0', v0'⟩, ⟨n1', a1', l1', v1'⟩, ⟨n2', a2', l2', v2'⟩, held', vals', bad', true⟩), by simp only; omega, ⟨by simp only; omega, hg2, hR'⟩, ?_⟩
                  conv => whnf
                  refine ⟨?_, ?_⟩
                  · repeat' (first | exact WeakL.nil | refine WeakL.cons ?_ ?_ | exact Weak1.undef _ | exact Weak1.same _ | exact Weak1.nil _ | exact Weak1.lit _ _ | exact WeakH.nil | refine WeakH.cons _ ?_ ?_ | exact WeakA.same _ | refine WeakA.box ?_)
                  · show WeakH [_, _, _] _
                    repeat' (first | exact WeakL.nil | refine WeakL.cons ?_ ?_ | exact Weak1.undef _ | exact Weak1.same _ | exact Weak1.nil _ | exact Weak1.lit _ _ | exact WeakH.nil | refine WeakH.cons _ ?_ ?_ | exact WeakA.same _ | refine WeakA.box ?_)
              · conv => whnf
                refine ⟨hg.ok hs hwho, ?_⟩
                have hg2 := hg.turn hs hwho
                generalize hT : turnS (a : Int) w0 w1 w2 _ = R at hR' hg2 ⊢
                obtain ⟨m', ⟨n0', a0', l0', v0'⟩, ⟨n1', a1', l1', v1'⟩, ⟨n2', a2', l2', v2'⟩, held', vals', bad', own'⟩ := R
                have hw : IntKind.i64.wrap ((i : Int) + 1) = ((i + 1 : Nat) : Int) := wrapN i (by omega)
                cases own'
                · conv => whnf
                  rw [hw]
                  refine ⟨(i + 1, ⟨m', ⟨n0', a0', l0', v0'⟩, ⟨n1', a1', l1', v1'⟩, ⟨n2', a2', l2', v2'⟩, held', vals', bad', false⟩), by simp only; omega, ⟨by simp only; omega, hg2, hR'⟩, ?_⟩
                  conv => whnf
                  refine ⟨?_, ?_⟩
                  · repeat' (first | exact WeakL.nil | refine WeakL.cons ?_ ?_ | exact Weak1.undef _ | exact Weak1.same _ | exact Weak1.nil _ | exact Weak1.lit _ _ | exact WeakH.nil | refine WeakH.cons _ ?_ ?_ | exact WeakA.same _ | refine WeakA.box ?_)
                  · show WeakH [_, _] _
                    repeat' (first | exact WeakL.nil | refine WeakL.cons ?_ ?_ | exact Weak1.undef _ | exact Weak1.same _ | exact Weak1.nil _ | exact Weak1.lit _ _ | exact WeakH.nil | refine WeakH.cons _ ?_ ?_ | exact WeakA.same _ | refine WeakA.box ?_)
                · conv => whnf
                  rw [hw]
                  refine ⟨(i + 1, ⟨m', ⟨n0', a0', l0', v0'⟩, ⟨n1', a1', l1', v1'⟩, ⟨n2', a2', l2', v2'⟩, held', vals', bad', true⟩), by simp only; omega, ⟨by simp only; omega, hg2, hR'⟩, ?_⟩
                  conv => whnf
                  refine ⟨?_, ?_⟩
                  · repeat' (first | exact WeakL.nil | refine WeakL.cons ?_ ?_ | exact Weak1.undef _ | exact Weak1.same _ | exact Weak1.nil _ | exact Weak1.lit _ _ | exact WeakH.nil | refine WeakH.cons _ ?_ ?_ | exact WeakA.same _ | refine WeakA.box ?_)
                  · show WeakH [_, _, _] _
                    repeat' (first | exact WeakL.nil | refine WeakL.cons ?_ ?_ | exact Weak1.undef _ | exact Weak1.same _ | exact Weak1.nil _ | exact Weak1.lit _ _ | exact WeakH.nil | refine WeakH.cons _ ?_ ?_ | exact WeakA.same _ | refine WeakA.box ?_)
            · rename_i hlt
              have hlt : i = 150 := by have := of_decide_eq_false hlt; omega
              subst hlt
              simp only [Nat.sub_self, runN] at hI
              subst hI
              conv => whnf
              have hw : IntKind.i64.wrap ((a : Int) + 1) = ((a + 1 : Nat) : Int) := wrapN a (by omega)
              rw [hw]
              refine ⟨(a + 1, s), by simp only; omega, ⟨by simp only; omega, hg, hA⟩, ?_⟩
              conv => whnf
              refine ⟨?_, WeakH.rfl _⟩
              repeat' (first | exact WeakL.nil | refine WeakL.cons ?_ ?_ | exact Weak1.undef _ | exact Weak1.same _ | exact Weak1.nil _ | exact Weak1.lit _ _)
          · rename_i hlt
            have hlt : a = 3 := by have := of_decide_eq_false hlt; omega
            subst hlt
            simp only [Nat.sub_self, runW] at hA
            subst hA
            conv => whnf
            have hw : IntKind.i64.wrap ((k : Int) + 1) = ((k + 1 : Nat) : Int) := wrapN k (by omega)
            rw [hw]
            refine ⟨(k + 1, s), by simp only; omega, ⟨by simp only; omega, hg, hR⟩, ?_⟩
            conv => whnf
            refine ⟨?_, WeakH.rfl _⟩
            repeat' (first | exact WeakL.nil | refine WeakL.cons ?_ ?_ | exact Weak1.undef _ | exact Weak1.same _ | exact Weak1.nil _ | exact Weak1.lit _ _)
        · rename_i hlt
          have hlt : k = 3 := by have := of_decide_eq_false hlt; omega
          subst hlt
          simp only [Nat.sub_self, runK] at hR
          subst hR
          conv => whnf
          obtain ⟨m, ⟨n0, a0, l0, v0⟩, ⟨n1, a1, l1, v1⟩, ⟨n2, a2, l2, v2⟩, held, vals, bad, own⟩ := s
          cases own
          · conv => whnf
            exact ⟨_, rfl, Wk.eq rfl⟩
          · conv => whnf
            exact ⟨_, rfl, Wk.eq rfl⟩
  · simp at h
abbrev sp57 : List (Nat × Spec) := (57, .pure h57) :: sp59
  
end Go.Proofs.Ythakgbecpkfeoaa.Ev

/- Layer 16: LockExclusive, told by its code. -/
set_option linter.unusedVariables false
set_option linter.unusedSimpArgs false
set_option maxRecDepth 100000
namespace Go.Proofs.Ythakgbecpkfeoaa.Ev

def h17 : List AV → Option (Prop × AV)
  | [.agg [.sl .u8 w0, .sl .u8 w1, .sl .u8 w2, .sl .u8 tu]] => some (∀ t ∈ tu, 0 ≤ t ∧ t < 256, .bool true)
  | _ => none
theorem few_of {w0 w1 w2 tu : List Int} (h : fewB w0 w1 w2 tu = true) : tu.length ≤ 200 ∧ Small w0 w1 w2 := by
  unfold fewB at h
  simp only [Bool.and_eq_true, decide_eq_true_eq] at h
  exact ⟨by omega, ⟨by omega, by omega, by omega⟩⟩
/-- The wishes of the threads below. -/
def sumW (w0 w1 w2 : List Int) : Nat → Nat
  | 0 => 0
  | 1 => cntW w0 w0.length
  | 2 => cntW w0 w0.length + cntW w1 w1.length
  | _ => cntW w0 w0.length + cntW w1 w1.length + cntW w2 w2.length
theorem cntW_le {ws : List Int} (h : ws.length ≤ 8) (n : Nat) : cntW ws n ≤ 8 := by
  unfold cntW
  have h1 := List.length_filter_le (fun w : Int => w.tmod 3 != 0) (ws.take n)
  have h2 : (ws.take n).length ≤ ws.length := by rw [List.length_take]; omega
  omega
theorem cntW_next {ws : List Int} {i : Nat} (h : i < ws.length) : cntW ws (i + 1) = cntW ws i + (if (ws.getD i 0).tmod 3 = 0 then 0 else 1) := by
  by_cases hw : rdW ws i
  · have hw' : (ws.getD i 0).tmod 3 = 0 := hw
    rw [cntW_rd h hw, if_pos hw']
    rfl
  · have hw' : ¬ (ws.getD i 0).tmod 3 = 0 := hw
    rw [cntW_wr h hw, if_neg hw']
theorem cellM_word (x y : Int) : cellM (mV x y) (cellA 16 2 0 4 0) = x := by
  have h1 : (cellA 16 2 0 4 0 : Int) = 16 := alW0
  have h2 := mV_getW x y
  rw [alW0] at h2
  unfold cellM
  rw [h1, if_neg (by omega), if_neg (by simp [mV])]
  exact h2

set_option maxHeartbeats 4000000 in
theorem w17 : EnvOK Try.prog ⟨tys, (17, .pure h17) :: sp57⟩ := by
  refine addPure w57 (fn := Try.f17) (by kernel_rfl) (by kernel_rfl) (by kernel_rfl) ?_
  intro args p r h ht
  unfold h17 at h
  split at h
  · rename_i w0 w1 w2 tu
    simp only [Option.some.injEq, Prod.mk.injEq] at h
    obtain ⟨rfl, rfl⟩ := h
    conv => whnf
    refine ⟨trivial, ?_⟩
    conv => whnf
    refine ⟨trivial, ?_⟩
    conv => whnf
    cases hfew : fewB w0 w1 w2 tu
    · conv => whnf
      exact ⟨_, rfl, Wk.eq rfl⟩
    obtain ⟨hl, hs⟩ := few_of hfew
    conv => whnf
    refine ⟨⟨hs, ht, by omega⟩, ?_⟩
    conv => whnf
    obtain ⟨hnx, hbad, hheld, hlen, y, hm⟩ := played_ends hs ht
    generalize playedS w0 w1 w2 tu = S at hnx hbad hheld hlen hm ⊢
    have hc0 := cntW_le hs.h0
    have hc1 := cntW_le hs.h1
    have hc2 := cntW_le hs.h2
    refine LoopVC.intro [] (fun q : Nat => [.agg [.sl .u8 w0, .sl .u8 w1, .sl .u8 w2, .sl .u8 tu], .ptr 1 0, .bool false, .bool true, .kp (cellsV S (.sl .i64 S.vals)), .int .i64 (sumW w0 w1 w2 q : Nat), .int .i64 (q : Nat), .undef, .undef, .undef, .undef, .undef, .undef, .undef, .undef, .undef, .undef, .undef, .undef, .undef, .undef, .undef, .undef, .undef, .undef, .undef, .undef, .undef, .undef, .undef, .undef, .undef, .undef, .undef, .undef, .undef, .undef, .undef, .undef, .undef, .undef, .undef, .undef, .undef, .undef, .undef, .undef, .undef, .undef, .undef, .undef, .undef, .undef, .undef, .undef, .undef, .undef, .undef, .undef, .undef, .undef, .undef, .undef, .undef, .undef, .undef, .undef, .undef, .undef, .undef, .undef, .undef, .undef, .undef, .undef, .undef, .undef, .undef, .undef, .undef, .undef, .undef, .undef, .undef, .undef, .undef, .undef, .undef, .undef])
      (fun q => [(1, .box [.sl .u8 w0, .sl .u8 w1, .sl .u8 w2, .sl .u8 tu])]) (fun q => q ≤ 3) (fun q => 3 - q) 0 (by omega) ?_ ?_
    · conv => whnf
      refine ⟨?_, rfl⟩
      repeat' (first | exact WeakL.nil | refine WeakL.cons ?_ ?_ | exact Weak1.undef _ | exact Weak1.same _ | exact Weak1.nil _ | exact Weak1.lit _ _)
    intro a ha
    dsimp only at ha ⊢
    conv => whnf
    split
    · rename_i hlt
      have hlt : a < 3 := by have := of_decide_eq_true hlt; omega
      have ha' : a = 0 ∨ a = 1 ∨ a = 2 := by omega
      rcases ha' with rfl | rfl | rfl
      · conv => whnf
        refine LoopVC.intro [] (fun q : Nat => [.agg [.sl .u8 w0, .sl .u8 w1, .sl .u8 w2, .sl .u8 tu], .ptr 1 0, .bool false, .bool true, .kp (cellsV S (.sl .i64 S.vals)), .int .i64 ((sumW w0 w1 w2 0 + cntW w0 q : Nat) : Int), .int .i64 (0 : Int), .int .i64 (q : Nat), .undef, .undef, .undef, .undef, .undef, .undef, .undef, .undef, .undef, .undef, .undef, .undef, .undef, .undef, .undef, .undef, .undef, .undef, .undef, .undef, .undef, .undef, .undef, .undef, .undef, .undef, .undef, .undef, .undef, .undef, .undef, .undef, .undef, .undef, .undef, .undef, .undef, .undef, .undef, .undef, .undef, .undef, .undef, .undef, .undef, .undef, .undef, .undef, .undef, .undef, .undef, .undef, .undef, .undef, .undef, .undef, .undef, .undef, .undef, .undef, .undef, .undef, .undef, .undef, .undef, .undef, .undef, .undef, .undef, .undef, .undef, .undef, .undef, .undef, .undef, .undef, .undef, .undef, .undef, .undef, .undef])
          (fun q => [(1, .box [.sl .u8 w0, .sl .u8 w1, .sl .u8 w2, .sl .u8 tu])]) (fun q => q ≤ w0.length) (fun q => w0.length - q) 0 (by omega) ?_ ?_
        · conv => whnf
          refine ⟨?_, rfl⟩
          repeat' (first | exact WeakL.nil | refine WeakL.cons ?_ ?_ | exact Weak1.undef _ | exact Weak1.same _ | exact Weak1.nil _ | exact Weak1.lit _ _)
        intro i hi
        dsimp only at hi ⊢
        conv => whnf
        refine ⟨by decide, ?_⟩
        conv => whnf
        split
        · rename_i hlt2
          have hlt2 : i < w0.length := by have := of_decide_eq_true hlt2; omega
          conv => whnf
          refine ⟨by decide, ?_⟩
          conv => whnf
          refine ⟨⟨by omega, by omega⟩, ?_⟩
          conv => whnf
          refine ⟨by decide, ?_⟩
          conv => whnf
          have hw : IntKind.i64.wrap ((i : Int) + 1) = ((i + 1 : Nat) : Int) := wrapN i (by have := hs.h0; omega)
          have hcn := cntW_next hlt2
          split
          · rename_i hb
            have hb2 : ¬ (w0.getD i 0).tmod 3 = 0 := by have hb3 : ((w0.getD i 0).tmod 3 != 0) = true := hb; simpa using hb3
            rw [if_neg hb2] at hcn
            conv => whnf
            rw [hw]
            have hw2 : IntKind.i64.wrap (((sumW w0 w1 w2 0 + cntW w0 i : Nat) : Int) + 1) = ((sumW w0 w1 w2 0 + cntW w0 (i + 1) : Nat) : Int) := by rw [wrapN _ (by have := hc0 w0.length; have := hc1 w1.length; have := hc0 i; simp only [sumW]; omega), hcn]; rfl
            rw [hw2]
            refine ⟨i + 1, by omega, by omega, ?_⟩
            conv => whnf
            refine ⟨?_, rfl⟩
            repeat' (first | exact WeakL.nil | refine WeakL.cons ?_ ?_ | exact Weak1.undef _ | exact Weak1.same _ | exact Weak1.nil _ | exact Weak1.lit _ _)
          · rename_i hb
            have hb2 : (w0.getD i 0).tmod 3 = 0 := by have hb3 : ((w0.getD i 0).tmod 3 != 0) = false := hb; simpa using hb3
            rw [if_pos hb2] at hcn
            conv => whnf
            rw [hw]
            rw [show cntW w0 i = cntW w0 (i + 1) from hcn.symm]
            refine ⟨i + 1, by omega, by omega, ?_⟩
            conv => whnf
            refine ⟨?_, rfl⟩
            repeat' (first | exact WeakL.nil | refine WeakL.cons ?_ ?_ | exact Weak1.undef _ | exact Weak1.same _ | exact Weak1.nil _ | exact Weak1.lit _ _)
        · rename_i hlt2
          have hlt2 : i = w0.length := by have := of_decide_eq_false hlt2; omega
          subst hlt2
          conv => whnf
          apply DrawVC.quiet (by kernel_rfl)
          conv => whnf
          refine ⟨by decide, ?_⟩
          conv => whnf
          refine ⟨by decide, ?_⟩
          conv => whnf
          have hne : (S.s0.nx != (w0.length : Int)) = false := by have h9 : S.s0.nx = (w0.length : Int) := hnx 0 (by omega); simp [h9]
          rw [hne]
          conv => whnf
          have hsm : sumW w0 w1 w2 0 + cntW w0 w0.length = sumW w0 w1 w2 1 := by simp [sumW]
          rw [hsm]
          refine ⟨1, by omega, by omega, ?_⟩
          conv => whnf
          refine ⟨?_, rfl⟩
          repeat' (first | exact WeakL.nil | refine WeakL.cons ?_ ?_ | exact Weak1.undef _ | exact Weak1.same _ | exact Weak1.nil _ | exact Weak1.lit _ _)
      · conv => whnf
        refine LoopVC.intro [] (fun q : Nat => [.agg [.sl .u8 w0, .sl .u8 w1, .sl .u8 w2, .sl .u8 tu], .ptr 1 0, .bool false, .bool true, .kp (cellsV S (.sl .i64 S.vals)), .int .i64 ((sumW w0 w1 w2 1 + cntW w1 q : Nat) : Int), .int .i64 (1 : Int), .int .i64 (q : Nat), .undef, .undef, .undef, .undef, .undef, .undef, .undef, .undef, .undef, .undef, .undef, .undef, .undef, .undef, .undef, .undef, .undef, .undef, .undef, .undef, .undef, .undef, .undef, .undef, .undef, .undef, .undef, .undef, .undef, .undef, .undef, .undef, .undef, .undef, .undef, .undef, .undef, .undef, .undef, .undef, .undef, .undef, .undef, .undef, .undef, .undef, .undef, .undef, .undef, .undef, .undef, .undef, .undef, .undef, .undef, .undef, .undef, .undef, .undef, .undef, .undef, .undef, .undef, .undef, .undef, .undef, .undef, .undef, .undef, .undef, .undef, .undef, .undef, .undef, .undef, .undef, .undef, .undef, .undef, .undef, .undef])
          (fun q => [(1, .box [.sl .u8 w0, .sl .u8 w1, .sl .u8 w2, .sl .u8 tu])]) (fun q => q ≤ w1.length) (fun q => w1.length - q) 0 (by omega) ?_ ?_
        · conv => whnf
          refine ⟨?_, rfl⟩
          repeat' (first | exact WeakL.nil | refine WeakL.cons ?_ ?_ | exact Weak1.undef _ | exact Weak1.same _ | exact Weak1.nil _ | exact Weak1.lit _ _)
        intro i hi
        dsimp only at hi ⊢
        conv => whnf
        refine ⟨by decide, ?_⟩
        conv => whnf
        split
        · rename_i hlt2
          have hlt2 : i < w1.length := by have := of_decide_eq_true hlt2; omega
          conv => whnf
          refine ⟨by decide, ?_⟩
          conv => whnf
          refine ⟨⟨by omega, by omega⟩, ?_⟩
          conv => whnf
          refine ⟨by decide, ?_⟩
          conv => whnf
          have hw : IntKind.i64.wrap ((i : Int) + 1) = ((i + 1 : Nat) : Int) := wrapN i (by have := hs.h1; omega)
          have hcn := cntW_next hlt2
          split
          · rename_i hb
            have hb2 : ¬ (w1.getD i 0).tmod 3 = 0 := by have hb3 : ((w1.getD i 0).tmod 3 != 0) = true := hb; simpa using hb3
            rw [if_neg hb2] at hcn
            conv => whnf
            rw [hw]
            have hw2 : IntKind.i64.wrap (((sumW w0 w1 w2 1 + cntW w1 i : Nat) : Int) + 1) = ((sumW w0 w1 w2 1 + cntW w1 (i + 1) : Nat) : Int) := by rw [wrapN _ (by have := hc0 w0.length; have := hc1 w1.length; have := hc1 i; simp only [sumW]; omega), hcn]; rfl
            rw [hw2]
            refine ⟨i + 1, by omega, by omega, ?_⟩
            conv => whnf
            refine ⟨?_, rfl⟩
            repeat' (first | exact WeakL.nil | refine WeakL.cons ?_ ?_ | exact Weak1.undef _ | exact Weak1.same _ | exact Weak1.nil _ | exact Weak1.lit _ _)
          · rename_i hb
            have hb2 : (w1.getD i 0).tmod 3 = 0 := by have hb3 : ((w1.getD i 0).tmod 3 != 0) = false := hb; simpa using hb3
            rw [if_pos hb2] at hcn
            conv => whnf
            rw [hw]
            rw [show cntW w1 i = cntW w1 (i + 1) from hcn.symm]
            refine ⟨i + 1, by omega, by omega, ?_⟩
            conv => whnf
            refine ⟨?_, rfl⟩
            repeat' (first | exact WeakL.nil | refine WeakL.cons ?_ ?_ | exact Weak1.undef _ | exact Weak1.same _ | exact Weak1.nil _ | exact Weak1.lit _ _)
        · rename_i hlt2
          have hlt2 : i = w1.length := by have := of_decide_eq_false hlt2; omega
          subst hlt2
          conv => whnf
          apply DrawVC.quiet (by kernel_rfl)
          conv => whnf
          refine ⟨by decide, ?_⟩
          conv => whnf
          refine ⟨by decide, ?_⟩
          conv => whnf
          have hne : (S.s1.nx != (w1.length : Int)) = false := by have h9 : S.s1.nx = (w1.length : Int) := hnx 1 (by omega); simp [h9]
          rw [hne]
          conv => whnf
          have hsm : sumW w0 w1 w2 1 + cntW w1 w1.length = sumW w0 w1 w2 2 := by simp [sumW]
          rw [hsm]
          refine ⟨2, by omega, by omega, ?_⟩
          conv => whnf
          refine ⟨?_, rfl⟩
          repeat' (first | exact WeakL.nil | refine WeakL.cons ?_ ?_ | exact Weak1.undef _ | exact Weak1.same _ | exact Weak1.nil _ | exact Weak1.lit _ _)
      · conv => whnf
        refine LoopVC.intro [] (fun q : Nat => [.agg [.sl .u8 w0, .sl .u8 w1, .sl .u8 w2, .sl .u8 tu], .ptr 1 0, .bool false, .bool true, .kp (cellsV S (.sl .i64 S.vals)), .int .i64 ((sumW w0 w1 w2 2 + cntW w2 q : Nat) : Int), .int .i64 (2 : Int), .int .i64 (q : Nat), .undef, .undef, .undef, .undef, .undef, .undef, .undef, .undef, .undef, .undef, .undef, .undef, .undef, .undef, .undef, .undef, .undef, .undef, .undef, .undef, .undef, .undef, .undef, .undef, .undef, .undef, .undef, .undef, .undef, .undef, .undef, .undef, .undef, .undef, .undef, .undef, .undef, .undef, .undef, .undef, .undef, .undef, .undef, .undef, .undef, .undef, .undef, .undef, .undef, .undef, .undef, .undef, .undef, .undef, .undef, .undef, .undef, .undef, .undef, .undef, .undef, .undef, .undef, .undef, .undef, .undef, .undef, .undef, .undef, .undef, .undef, .undef, .undef, .undef, .undef, .undef, .undef, .undef, .undef, .undef, .undef])
          (fun q => [(1, .box [.sl .u8 w0, .sl .u8 w1, .sl .u8 w2, .sl .u8 tu])]) (fun q => q ≤ w2.length) (fun q => w2.length - q) 0 (by omega) ?_ ?_
        · conv => whnf
          refine ⟨?_, rfl⟩
          repeat' (first | exact WeakL.nil | refine WeakL.cons ?_ ?_ | exact Weak1.undef _ | exact Weak1.same _ | exact Weak1.nil _ | exact Weak1.lit _ _)
        intro i hi
        dsimp only at hi ⊢
        conv => whnf
        refine ⟨by decide, ?_⟩
        conv => whnf
        split
        · rename_i hlt2
          have hlt2 : i < w2.length := by have := of_decide_eq_true hlt2; omega
          conv => whnf
          refine ⟨by decide, ?_⟩
          conv => whnf
          refine ⟨⟨by omega, by omega⟩, ?_⟩
          conv => whnf
          refine ⟨by decide, ?_⟩
          conv => whnf
          have hw : IntKind.i64.wrap ((i : Int) + 1) = ((i + 1 : Nat) : Int) := wrapN i (by have := hs.h2; omega)
          have hcn := cntW_next hlt2
          split
          · rename_i hb
            have hb2 : ¬ (w2.getD i 0).tmod 3 = 0 := by have hb3 : ((w2.getD i 0).tmod 3 != 0) = true := hb; simpa using hb3
            rw [if_neg hb2] at hcn
            conv => whnf
            rw [hw]
            have hw2 : IntKind.i64.wrap (((sumW w0 w1 w2 2 + cntW w2 i : Nat) : Int) + 1) = ((sumW w0 w1 w2 2 + cntW w2 (i + 1) : Nat) : Int) := by rw [wrapN _ (by have := hc0 w0.length; have := hc1 w1.length; have := hc2 i; simp only [sumW]; omega), hcn]; rfl
            rw [hw2]
            refine ⟨i + 1, by omega, by omega, ?_⟩
            conv => whnf
            refine ⟨?_, rfl⟩
            repeat' (first | exact WeakL.nil | refine WeakL.cons ?_ ?_ | exact Weak1.undef _ | exact Weak1.same _ | exact Weak1.nil _ | exact Weak1.lit _ _)
          · rename_i hb
            have hb2 : (w2.getD i 0).tmod 3 = 0 := by have hb3 : ((w2.getD i 0).tmod 3 != 0) = false := hb; simpa using hb3
            rw [if_pos hb2] at hcn
            conv => whnf
            rw [hw]
            rw [show cntW w2 i = cntW w2 (i + 1) from hcn.symm]
            refine ⟨i + 1, by omega, by omega, ?_⟩
            conv => whnf
            refine ⟨?_, rfl⟩
            repeat' (first | exact WeakL.nil | refine WeakL.cons ?_ ?_ | exact Weak1.undef _ | exact Weak1.same _ | exact Weak1.nil _ | exact Weak1.lit _ _)
        · rename_i hlt2
          have hlt2 : i = w2.length := by have := of_decide_eq_false hlt2; omega
          subst hlt2
          conv => whnf
          apply DrawVC.quiet (by kernel_rfl)
          conv => whnf
          refine ⟨by decide, ?_⟩
          conv => whnf
          refine ⟨by decide, ?_⟩
          conv => whnf
          have hne : (S.s2.nx != (w2.length : Int)) = false := by have h9 : S.s2.nx = (w2.length : Int) := hnx 2 (by omega); simp [h9]
          rw [hne]
          conv => whnf
          have hsm : sumW w0 w1 w2 2 + cntW w2 w2.length = sumW w0 w1 w2 3 := by simp [sumW]
          rw [hsm]
          refine ⟨3, by omega, by omega, ?_⟩
          conv => whnf
          refine ⟨?_, rfl⟩
          repeat' (first | exact WeakL.nil | refine WeakL.cons ?_ ?_ | exact Weak1.undef _ | exact Weak1.same _ | exact Weak1.nil _ | exact Weak1.lit _ _)
    · rename_i hlt
      have hlt : a = 3 := by have := of_decide_eq_false hlt; omega
      subst hlt
      conv => whnf
      apply DrawVC.quiet (by kernel_rfl)
      conv => whnf
      rw [hbad]
      conv => whnf
      rw [hheld]
      conv => whnf
      have hsum : sumW w0 w1 w2 3 = cntW w0 w0.length + cntW w1 w1.length + cntW w2 w2.length := rfl
      have hw3 : IntKind.i64.wrap (((sumW w0 w1 w2 3 : Nat) : Int) + 1) = ((sumW w0 w1 w2 3 + 1 : Nat) : Int) := wrapN _ (by have := hc0 w0.length; have := hc1 w1.length; have := hc2 w2.length; omega)
      have hq : (((S.vals.length : Nat) : Int) == IntKind.i64.wrap (((sumW w0 w1 w2 3 : Nat) : Int) + 1)) = true := by rw [hw3, hlen, ← hsum]; simp
      rw [hq]
      conv => whnf
      refine ⟨trivial, ?_⟩
      conv => whnf
      refine ⟨trivial, ?_⟩
      conv => whnf
      refine ⟨trivial, ?_⟩
      conv => whnf
      refine ⟨trivial, ?_⟩
      conv => whnf
      have hq2 : (cellM S.m (cellA 16 2 0 4 0) == IntKind.i64.wrap (2 * ((sumW w0 w1 w2 3 : Nat) : Int))) = true := by rw [hm, cellM_word, ← hsum, wrap_small (by omega) (by have := hc0 w0.length; have := hc1 w1.length; have := hc2 w2.length; omega)]; simp
      refine ⟨_, rfl, Wk.eq ?_⟩
      exact congrArg AV.bool hq2
  · simp at h
abbrev sp17 : List (Nat × Spec) := (17, .pure h17) :: sp57

end Go.Proofs.Ythakgbecpkfeoaa.Ev

/- Layer 16, the plays, plain: reads never fall back. -/
set_option linter.unusedVariables false
set_option linter.unusedSimpArgs false
namespace Go.Proofs.Ythakgbecpkfeoaa.Ev

section
variable {w0 w1 w2 ws vals : List Int} {lo0 lo1 lo2 lo lo' : Nat} {x y : Int} {k : Nat} {hold : Option Nat} {s : St} {own : Bool} {free : Prop} {z : Seat} {who : Int}

/-- What a read tells: a version that is no older than those told before. -/
theorem Ph.told (h : Ph ws vals k y free lo own z) (hn : z.nx < (ws.length : Int)) (hw : (wantX ws z.nx).tmod 3 = 0) (hd : (nxt wdC vlC 4 0 who z.log).done = true) (hi : (nxt wdC vlC 4 0 who z.log).is = true) :
    ∃ j : Nat, (nxt wdC vlC 4 0 who z.log).ver = (j : Int) ∧ lo ≤ j ∧ j ≤ k := by
  rw [nxt_rd wd_pos] at hd hi ⊢
  cases h with
  | fin n at_ ver hn' ha => simp only at hn; omega
  | rd0 n ver hn' hw' => simp [rdN, askN] at hd
  | rd1 n ver r hn' hw' hr =>
    by_cases hl : lockedW r.val = true
    · simp [rdN, hl, gotN] at hi
    · simp [rdN, hl, askN] at hd
  | rd2 n ver r u j hn' hw' hr h1 h2 hf =>
    have hl : lockedW r.val = false := by rw [hr]; exact v_even _
    simp [rdN, hl, askN] at hd
  | rd3 n ver r u q j hn' hw' hr h1 h2 hf =>
    have hl : lockedW r.val = false := by rw [hr]; exact v_even _
    by_cases hq : q.val = r.val
    · refine ⟨j, ?_, h1, h2⟩
      show (if lockedW r.val = true then gotN (r.val / 2) (-1) false else if q.val = r.val then gotN u.val (r.val / 2) true else gotN (-1) (-1) false).ver = _
      rw [if_neg (by rw [hl]; decide), if_pos hq, hr, half]
      rfl
    · have hi' : (if lockedW r.val = true then gotN (r.val / 2) (-1) false else if q.val = r.val then gotN u.val (r.val / 2) true else gotN (-1) (-1) false).is = true := hi
      rw [if_neg (by rw [hl]; decide), if_neg hq] at hi'
      simp [gotN] at hi'
  | tk0 n ver hn' hw' => exact absurd hw hw'
  | tk1 n ver r hn' hw' hr => exact absurd hw hw'
  | tk2 n ver r c j hn' hw' hr hc => exact absurd hw hw'
  | p1 n ver r c hn' hw' hr hc hl => exact absurd hw hw'
  | p2 n hn' hw' hl => exact absurd hw hw'
  | p3 n hn' hw' hl hy => exact absurd hw hw'
  | rel n ver r hn' hw' => exact absurd hw hw'
theorem Ph.at0 (h : Ph ws vals k y free lo own z) (hn : z.nx < (ws.length : Int)) (hw : (wantX ws z.nx).tmod 3 = 0) : z.at_ = 0 := by
  cases h with
  | fin n at_ ver hn' ha => simp only at hn; omega
  | rd0 => rfl
  | rd1 => rfl
  | rd2 => rfl
  | rd3 => rfl
  | tk0 n ver hn' hw' => rfl
  | tk1 n ver r hn' hw' hr => rfl
  | tk2 n ver r c j hn' hw' hr hc => rfl
  | p1 n ver r c hn' hw' hr hc hl => rfl
  | p2 n hn' hw' hl => exact absurd hw hw'
  | p3 n hn' hw' hl hy => exact absurd hw hw'
  | rel n ver r hn' hw' => exact absurd hw hw'

/-- When an operation is done, its log is empty. -/
theorem log_done {r : TR} (hn : r.x.nx < (ws.length : Int)) (hb : r.bad = false) (ha : r.x.at_ = 0) (hw : (wantX ws r.x.nx).tmod 3 = 0) (hd : (nxt wdC vlC 4 0 who r.x.log).done = true) : (turnX who ws r).x.log = [] := by
  obtain ⟨m, ⟨n, at_, log, ver⟩, held, vals, bad, own⟩ := r
  simp only at hn hb ha hw hd
  subst ha
  subst hb
  rw [nxt_rd wd_pos] at hd
  rw [t_rd (by omega) hw]
  unfold stepX
  rw [if_pos hd]
  unfold gotX
  repeat' split
  all_goals rfl

theorem Gd.relo0 (h : Gd w0 w1 w2 lo0 lo1 lo2 x y k hold s) (hl : s.s0.log = []) (hk : lo ≤ k) : Gd w0 w1 w2 lo lo1 lo2 x y k hold s := { h with p0 := h.p0.relo hl, l0 := hk }
theorem Gd.relo1 (h : Gd w0 w1 w2 lo0 lo1 lo2 x y k hold s) (hl : s.s1.log = []) (hk : lo ≤ k) : Gd w0 w1 w2 lo0 lo lo2 x y k hold s := { h with p1 := h.p1.relo hl, l1 := hk }
theorem Gd.relo2 (h : Gd w0 w1 w2 lo0 lo1 lo2 x y k hold s) (hl : s.s2.log = []) (hk : lo ≤ k) : Gd w0 w1 w2 lo0 lo1 lo x y k hold s := { h with p2 := h.p2.relo hl, l2 := hk }

def GoodL (w0 w1 w2 : List Int) (lo0 lo1 lo2 : Nat) (s : St) : Prop := ∃ x y k hold, Gd w0 w1 w2 lo0 lo1 lo2 x y k hold s
theorem GoodL.turn (hs : Small w0 w1 w2) (h : GoodL w0 w1 w2 lo0 lo1 lo2 s) (hw : 0 ≤ who ∧ who ≤ 2) : GoodL w0 w1 w2 lo0 lo1 lo2 (turnS who w0 w1 w2 s) := by
  obtain ⟨x, y, k, hold, h⟩ := h
  obtain ⟨a, rfl⟩ := Int.eq_ofNat_of_zero_le hw.1
  obtain ⟨x', y', k', hold', h1, _⟩ := h.turn hs (a := a) (by omega)
  exact ⟨x', y', k', hold', h1.gd⟩
theorem GoodL.ok (hs : Small w0 w1 w2) (h : GoodL w0 w1 w2 lo0 lo1 lo2 s) (hw : 0 ≤ who ∧ who ≤ 2) : okT who s := by
  obtain ⟨x, y, k, hold, h⟩ := h
  exact h.ok hs hw
theorem GoodL.bad (h : GoodL w0 w1 w2 lo0 lo1 lo2 s) : s.bad = false := by
  obtain ⟨x, y, k, hold, h⟩ := h
  exact h.bad

theorem GoodL.read0 (hs : Small w0 w1 w2) (h : GoodL w0 w1 w2 lo0 lo1 lo2 s) (hn : s.s0.nx < (w0.length : Int)) (hw : (wantX w0 s.s0.nx).tmod 3 = 0) (hd : (nxt wdC vlC 4 0 0 s.s0.log).done = true) (hi : (nxt wdC vlC 4 0 0 s.s0.log).is = true) :
    ∃ j : Nat, (nxt wdC vlC 4 0 0 s.s0.log).ver = (j : Int) ∧ lo0 ≤ j ∧ GoodL w0 w1 w2 j lo1 lo2 (turnS 0 w0 w1 w2 s) := by
  obtain ⟨x, y, k, hold, h⟩ := h
  obtain ⟨j, h1, h2, h3⟩ := h.p0.told hn hw hd hi
  obtain ⟨x', y', k', hold', q1, _⟩ := h.turn0 hs
  refine ⟨j, h1, h2, x', y', k', hold', q1.gd.relo0 ?_ (Nat.le_trans h3 q1.up)⟩
  unfold turnS
  rw [if_pos rfl]
  exact log_done (r := s.tr s.s0) hn h.bad (h.p0.at0 hn hw) hw hd
theorem GoodL.read1 (hs : Small w0 w1 w2) (h : GoodL w0 w1 w2 lo0 lo1 lo2 s) (hn : s.s1.nx < (w1.length : Int)) (hw : (wantX w1 s.s1.nx).tmod 3 = 0) (hd : (nxt wdC vlC 4 0 1 s.s1.log).done = true) (hi : (nxt wdC vlC 4 0 1 s.s1.log).is = true) :
    ∃ j : Nat, (nxt wdC vlC 4 0 1 s.s1.log).ver = (j : Int) ∧ lo1 ≤ j ∧ GoodL w0 w1 w2 lo0 j lo2 (turnS 1 w0 w1 w2 s) := by
  obtain ⟨x, y, k, hold, h⟩ := h
  obtain ⟨j, h1, h2, h3⟩ := h.p1.told hn hw hd hi
  obtain ⟨x', y', k', hold', q1, _⟩ := h.turn1 hs
  refine ⟨j, h1, h2, x', y', k', hold', q1.gd.relo1 ?_ (Nat.le_trans h3 q1.up)⟩
  unfold turnS
  rw [if_neg (by decide), if_pos rfl]
  exact log_done (r := s.tr s.s1) hn h.bad (h.p1.at0 hn hw) hw hd
theorem GoodL.read2 (hs : Small w0 w1 w2) (h : GoodL w0 w1 w2 lo0 lo1 lo2 s) (hn : s.s2.nx < (w2.length : Int)) (hw : (wantX w2 s.s2.nx).tmod 3 = 0) (hd : (nxt wdC vlC 4 0 2 s.s2.log).done = true) (hi : (nxt wdC vlC 4 0 2 s.s2.log).is = true) :
    ∃ j : Nat, (nxt wdC vlC 4 0 2 s.s2.log).ver = (j : Int) ∧ lo2 ≤ j ∧ GoodL w0 w1 w2 lo0 lo1 j (turnS 2 w0 w1 w2 s) := by
  obtain ⟨x, y, k, hold, h⟩ := h
  obtain ⟨j, h1, h2, h3⟩ := h.p2.told hn hw hd hi
  obtain ⟨x', y', k', hold', q1, _⟩ := h.turn2 hs
  refine ⟨j, h1, h2, x', y', k', hold', q1.gd.relo2 ?_ (Nat.le_trans h3 q1.up)⟩
  unfold turnS
  rw [if_neg (by decide), if_neg (by decide)]
  exact log_done (r := s.tr s.s2) hn h.bad (h.p2.at0 hn hw) hw hd
end

end Go.Proofs.Ythakgbecpkfeoaa.Ev

/- Layer 16: LockRead, told by its code. -/
set_option linter.unusedVariables false
set_option linter.unusedSimpArgs false
set_option maxRecDepth 100000
namespace Go.Proofs.Ythakgbecpkfeoaa.Ev

def h18 : List AV → Option (Prop × AV)
  | [.agg [.sl .u8 w0, .sl .u8 w1, .sl .u8 w2, .sl .u8 tu]] => some (∀ t ∈ tu, 0 ≤ t ∧ t < 256, .bool true)
  | _ => none
def readH (w0 w1 w2 tu : List Int) (q : Nat × St × Nat × Nat × Nat) : Hp := (1, .box [.sl .u8 w0, .sl .u8 w1, .sl .u8 w2, .sl .u8 tu]) :: tabH 20 q.2.1 [(5, .box [.int .i64 (q.2.2.1 : Nat), .int .i64 (q.2.2.2.1 : Nat), .int .i64 (q.2.2.2.2 : Nat)])]

set_option maxHeartbeats 16000000 in
theorem w18 : EnvOK Try.prog ⟨tys, (18, .pure h18) :: sp17⟩ := by
  refine addPure w17 (fn := Try.f18) (by kernel_rfl) (by kernel_rfl) (by kernel_rfl) ?_
  intro args p r h ht
  unfold h18 at h
  split at h
  · rename_i w0 w1 w2 tu
    simp only [Option.some.injEq, Prod.mk.injEq] at h
    obtain ⟨rfl, rfl⟩ := h
    conv => whnf
    refine ⟨trivial, ?_⟩
    conv => whnf
    refine ⟨trivial, ?_⟩
    conv => whnf
    cases hfew : fewB w0 w1 w2 tu
    · conv => whnf
      exact ⟨_, rfl, Wk.eq rfl⟩
    obtain ⟨hl, hs⟩ := few_of hfew
    conv => whnf
    refine ⟨trivial, ?_⟩
    conv => whnf
    refine LoopVC.introW [8, 9, 10] (fun q : Nat × St × Nat × Nat × Nat => [.agg [.sl .u8 w0, .sl .u8 w1, .sl .u8 w2, .sl .u8 tu], .ptr 1 0, .bool false, .bool true, .ptr 20 0, .ptr 5 0, .int .i64 (q.1 : Nat), .undef, .undef, .undef, .undef, .undef, .undef, .undef, .undef, .undef, .undef, .undef, .undef, .undef, .undef, .undef, .undef, .undef, .undef, .undef, .undef, .undef, .undef, .undef, .undef, .undef, .undef, .undef, .undef, .undef, .undef, .undef, .undef, .undef, .undef, .undef, .undef, .undef, .undef, .undef, .undef, .undef, .undef, .undef, .undef, .undef, .undef, .undef, .undef, .undef, .undef, .undef, .undef, .undef, .undef, .undef, .undef, .undef, .undef, .undef, .undef, .undef, .undef, .undef, .undef, .undef, .undef, .undef, .undef, .undef, .undef, .undef, .undef, .undef, .undef, .undef, .undef, .undef, .undef, .undef, .undef, .undef, .undef, .undef, .undef, .undef, .undef, .undef, .undef, .undef, .undef])
      (readH w0 w1 w2 tu) (fun q => q.1 ≤ tu.length ∧ GoodL w0 w1 w2 q.2.2.1 q.2.2.2.1 q.2.2.2.2 q.2.1) (fun q => tu.length - q.1) (0, st0, 0, 0, 0) ⟨Nat.zero_le _, ⟨0, 0, 0, none, good0⟩⟩ ?_ ?_
    · conv => whnf
      refine ⟨?_, ?_⟩
      · repeat' (first | exact WeakL.nil | refine WeakL.cons ?_ ?_ | exact Weak1.undef _ | exact Weak1.same _ | exact Weak1.nil _ | exact Weak1.lit _ _ | exact WeakH.nil | refine WeakH.cons _ ?_ ?_ | exact WeakA.same _ | refine WeakA.box ?_)
      · show WeakH [_, _, _] _
        repeat' (first | exact WeakL.nil | refine WeakL.cons ?_ ?_ | exact Weak1.undef _ | exact Weak1.same _ | exact Weak1.nil _ | exact Weak1.lit _ _ | exact WeakH.nil | refine WeakH.cons _ ?_ ?_ | exact WeakA.same _ | refine WeakA.box ?_)
    rintro ⟨i, ⟨m, ⟨n0, a0, l0, v0⟩, ⟨n1, a1, l1, v1⟩, ⟨n2, a2, l2, v2⟩, held, vals, bad, own⟩, y0, y1, y2⟩ ⟨hi, hg⟩
    dsimp only at hi hg ⊢
    conv => whnf
    split
    · rename_i hlt
      have hlt : i < tu.length := by have := of_decide_eq_true hlt; omega
      have hw : IntKind.i64.wrap ((i : Int) + 1) = ((i + 1 : Nat) : Int) := wrapN i (by omega)
      cases own
      · conv => whnf
        refine ⟨⟨by omega, by omega⟩, ?_⟩
        conv => whnf
        refine ⟨by decide, ?_⟩
        generalize ht2 : tu.getD (i : Int).toNat ET.u8.dflt = t
        have hmem : t ∈ tu := by rw [← ht2]; simp only [Int.toNat_natCast]; rw [List.getD_eq_getElem?_getD, List.getElem?_eq_getElem hlt]; simp
        have hwho := who_in t (ht t hmem)
        have hwc : (IntKind.i64.wrap t).tmod 3 = 0 ∨ (IntKind.i64.wrap t).tmod 3 = 1 ∨ (IntKind.i64.wrap t).tmod 3 = 2 := by omega
        rcases hwc with hwa | hwa | hwa
        · rw [hwa]
          conv => whnf
          refine ⟨by decide, ?_⟩
          conv => whnf
          apply DrawVC.quiet (by kernel_rfl)
          conv => whnf
          refine ⟨by decide, ?_⟩
          conv => whnf
          have hok := hg.ok hs (who := 0) (by omega)
          have hnn : 0 ≤ n0 := by have h9 := hok.2.2.1; exact h9.1
          have hll : l0.length ≤ 1000 := by have h9 := hok.2.2.1; exact h9.2.2
          split
          · rename_i hlt2
            have hlt2 : n0 < (w0.length : Int) := of_decide_eq_true hlt2
            conv => whnf
            apply DrawVC.quiet (by kernel_rfl)
            conv => whnf
            refine ⟨by decide, ?_⟩
            conv => whnf
            refine ⟨⟨by omega, by omega⟩, ?_⟩
            conv => whnf
            refine ⟨by decide, ?_⟩
            conv => whnf
            generalize hwv : w0.getD n0.toNat ET.u8.dflt = w
            have hwv2 : wantX w0 n0 = w := hwv
            rcases Bool.eq_false_or_eq_true (w.tmod 3 == 0) with hb | hb
            · rw [hb]
              have hb2 : (wantX w0 n0).tmod 3 = 0 := by rw [hwv2]; simpa using hb
              conv => whnf
              apply DrawVC.mix
              conv => whnf
              refine ⟨trivial, ?_⟩
              conv => whnf
              refine ⟨⟨Nat.le_trans hll (by omega), by decide, by decide⟩, ?_⟩
              conv => whnf
              generalize hN : nxt (cellA 16 2 0 4 0) (cellA 16 2 0 4 1) 4 0 0 l0 = N
              refine ⟨by kernel_rfl, ?_⟩
              conv => whnf
              cases hd : N.done
              · skip
                conv => whnf
                refine ⟨hg.ok hs (by omega), ?_⟩
                have hg2 := hg.turn hs (who := 0) (by omega)
                generalize turnS 0 w0 w1 w2 _ = R at hg2 ⊢
                obtain ⟨m', ⟨n0', a0', l0', v0'⟩, ⟨n1', a1', l1', v1'⟩, ⟨n2', a2', l2', v2'⟩, held', vals', bad', own'⟩ := R
                cases own'
                · conv => whnf
                  rw [hw]
                  refine ⟨(i + 1, ⟨m', ⟨n0', a0', l0', v0'⟩, ⟨n1', a1', l1', v1'⟩, ⟨n2', a2', l2', v2'⟩, held', vals', bad', false⟩, y0, y1, y2), by simp only; omega, ⟨by simp only; omega, hg2⟩, ?_⟩
                  conv => whnf
                  refine ⟨?_, ?_⟩
                  · repeat' (first | exact WeakL.nil | refine WeakL.cons ?_ ?_ | exact Weak1.undef _ | exact Weak1.same _ | exact Weak1.nil _ | exact Weak1.lit _ _ | exact WeakH.nil | refine WeakH.cons _ ?_ ?_ | exact WeakA.same _ | refine WeakA.box ?_)
                  · show WeakH [_, _, _] _
                    repeat' (first | exact WeakL.nil | refine WeakL.cons ?_ ?_ | exact Weak1.undef _ | exact Weak1.same _ | exact Weak1.nil _ | exact Weak1.lit _ _ | exact WeakH.nil | refine WeakH.cons _ ?_ ?_ | exact WeakA.same _ | refine WeakA.box ?_)
                · conv => whnf
                  rw [hw]
                  refine ⟨(i + 1, ⟨m', ⟨n0', a0', l0', v0'⟩, ⟨n1', a1', l1', v1'⟩, ⟨n2', a2', l2', v2'⟩, held', vals', bad', true⟩, y0, y1, y2), by simp only; omega, ⟨by simp only; omega, hg2⟩, ?_⟩
                  conv => whnf
                  refine ⟨?_, ?_⟩
                  · repeat' (first | exact WeakL.nil | refine WeakL.cons ?_ ?_ | exact Weak1.undef _ | exact Weak1.same _ | exact Weak1.nil _ | exact Weak1.lit _ _ | exact WeakH.nil | refine WeakH.cons _ ?_ ?_ | exact WeakA.same _ | refine WeakA.box ?_)
                  · show WeakH [_, _, _, _] _
                    repeat' (first | exact WeakL.nil | refine WeakL.cons ?_ ?_ | exact Weak1.undef _ | exact Weak1.same _ | exact Weak1.nil _ | exact Weak1.lit _ _ | exact WeakH.nil | refine WeakH.cons _ ?_ ?_ | exact WeakA.same _ | refine WeakA.box ?_)
              · conv => whnf
                cases hi2 : N.is
                · skip
                  conv => whnf
                  refine ⟨hg.ok hs (by omega), ?_⟩
                  have hg2 := hg.turn hs (who := 0) (by omega)
                  generalize turnS 0 w0 w1 w2 _ = R at hg2 ⊢
                  obtain ⟨m', ⟨n0', a0', l0', v0'⟩, ⟨n1', a1', l1', v1'⟩, ⟨n2', a2', l2', v2'⟩, held', vals', bad', own'⟩ := R
                  cases own'
                  · conv => whnf
                    rw [hw]
                    refine ⟨(i + 1, ⟨m', ⟨n0', a0', l0', v0'⟩, ⟨n1', a1', l1', v1'⟩, ⟨n2', a2', l2', v2'⟩, held', vals', bad', false⟩, y0, y1, y2), by simp only; omega, ⟨by simp only; omega, hg2⟩, ?_⟩
                    conv => whnf
                    refine ⟨?_, ?_⟩
                    · repeat' (first | exact WeakL.nil | refine WeakL.cons ?_ ?_ | exact Weak1.undef _ | exact Weak1.same _ | exact Weak1.nil _ | exact Weak1.lit _ _ | exact WeakH.nil | refine WeakH.cons _ ?_ ?_ | exact WeakA.same _ | refine WeakA.box ?_)
                    · show WeakH [_, _, _] _
                      repeat' (first | exact WeakL.nil | refine WeakL.cons ?_ ?_ | exact Weak1.undef _ | exact Weak1.same _ | exact Weak1.nil _ | exact Weak1.lit _ _ | exact WeakH.nil | refine WeakH.cons _ ?_ ?_ | exact WeakA.same _ | refine WeakA.box ?_)
                  · conv => whnf
                    rw [hw]
                    refine ⟨(i + 1, ⟨m', ⟨n0', a0', l0', v0'⟩, ⟨n1', a1', l1', v1'⟩, ⟨n2', a2', l2', v2'⟩, held', vals', bad', true⟩, y0, y1, y2), by simp only; omega, ⟨by simp only; omega, hg2⟩, ?_⟩
                    conv => whnf
                    refine ⟨?_, ?_⟩
                    · repeat' (first | exact WeakL.nil | refine WeakL.cons ?_ ?_ | exact Weak1.undef _ | exact Weak1.same _ | exact Weak1.nil _ | exact Weak1.lit _ _ | exact WeakH.nil | refine WeakH.cons _ ?_ ?_ | exact WeakA.same _ | refine WeakA.box ?_)
                    · show WeakH [_, _, _, _] _
                      repeat' (first | exact WeakL.nil | refine WeakL.cons ?_ ?_ | exact Weak1.undef _ | exact Weak1.same _ | exact Weak1.nil _ | exact Weak1.lit _ _ | exact WeakH.nil | refine WeakH.cons _ ?_ ?_ | exact WeakA.same _ | refine WeakA.box ?_)
                · conv => whnf
                  obtain ⟨j, hj1, hj2, hj3⟩ := hg.read0 hs hlt2 hb2 (by rw [show nxt wdC vlC 4 0 0 _ = N from hN]; exact hd) (by rw [show nxt wdC vlC 4 0 0 _ = N from hN]; exact hi2)
                  have hj4 : N.ver = (j : Int) := by rw [← hN]; exact hj1
                  apply DrawVC.quiet (by kernel_rfl)
                  conv => whnf
                  refine ⟨by decide, ?_⟩
                  conv => whnf
                  rw [hj4]
                  have hlt3 : decide ((j : Int) < (y0 : Int)) = false := decide_eq_false (by omega)
                  rw [hlt3]
                  conv => whnf
                  refine ⟨by decide, ?_⟩
                  conv => whnf
                  refine ⟨hg.ok hs (by omega), ?_⟩
                  have hg2 := hj3
                  generalize turnS 0 w0 w1 w2 _ = R at hg2 ⊢
                  obtain ⟨m', ⟨n0', a0', l0', v0'⟩, ⟨n1', a1', l1', v1'⟩, ⟨n2', a2', l2', v2'⟩, held', vals', bad', own'⟩ := R
                  cases own'
                  · conv => whnf
                    rw [hw]
                    refine ⟨(i + 1, ⟨m', ⟨n0', a0', l0', v0'⟩, ⟨n1', a1', l1', v1'⟩, ⟨n2', a2', l2', v2'⟩, held', vals', bad', false⟩, j, y1, y2), by simp only; omega, ⟨by simp only; omega, hg2⟩, ?_⟩
                    conv => whnf
                    refine ⟨?_, ?_⟩
                    · repeat' (first | exact WeakL.nil | refine WeakL.cons ?_ ?_ | exact Weak1.undef _ | exact Weak1.same _ | exact Weak1.nil _ | exact Weak1.lit _ _ | exact WeakH.nil | refine WeakH.cons _ ?_ ?_ | exact WeakA.same _ | refine WeakA.box ?_)
                    · show WeakH [_, _, _] _
                      repeat' (first | exact WeakL.nil | refine WeakL.cons ?_ ?_ | exact Weak1.undef _ | exact Weak1.same _ | exact Weak1.nil _ | exact Weak1.lit _ _ | exact WeakH.nil | refine WeakH.cons _ ?_ ?_ | exact WeakA.same _ | refine WeakA.box ?_)
                  · conv => whnf
                    rw [hw]
                    refine ⟨(i + 1, ⟨m', ⟨n0', a0', l0', v0'⟩, ⟨n1', a1', l1', v1'⟩, ⟨n2', a2', l2', v2'⟩, held', vals', bad', true⟩, j, y1, y2), by simp only; omega, ⟨by simp only; omega, hg2⟩, ?_⟩
                    conv => whnf
                    refine ⟨?_, ?_⟩
                    · repeat' (first | exact WeakL.nil | refine WeakL.cons ?_ ?_ | exact Weak1.undef _ | exact Weak1.same _ | exact Weak1.nil _ | exact Weak1.lit _ _ | exact WeakH.nil | refine WeakH.cons _ ?_ ?_ | exact WeakA.same _ | refine WeakA.box ?_)
                    · show WeakH [_, _, _, _] _
                      repeat' (first | exact WeakL.nil | refine WeakL.cons ?_ ?_ | exact Weak1.undef _ | exact Weak1.same _ | exact Weak1.nil _ | exact Weak1.lit _ _ | exact WeakH.nil | refine WeakH.cons _ ?_ ?_ | exact WeakA.same _ | refine WeakA.box ?_)
            · rw [hb]
              conv => whnf
              refine ⟨hg.ok hs (by omega), ?_⟩
              have hg2 := hg.turn hs (who := 0) (by omega)
              generalize turnS 0 w0 w1 w2 _ = R at hg2 ⊢
              obtain ⟨m', ⟨n0', a0', l0', v0'⟩, ⟨n1', a1', l1', v1'⟩, ⟨n2', a2', l2', v2'⟩, held', vals', bad', own'⟩ := R
              cases own'
              · conv => whnf
                rw [hw]
                refine ⟨(i + 1, ⟨m', ⟨n0', a0', l0', v0'⟩, ⟨n1', a1', l1', v1'⟩, ⟨n2', a2', l2', v2'⟩, held', vals', bad', false⟩, y0, y1, y2), by simp only; omega, ⟨by simp only; omega, hg2⟩, ?_⟩
                conv => whnf
                refine ⟨?_, ?_⟩
                · repeat' (first | exact WeakL.nil | refine WeakL.cons ?_ ?_ | exact Weak1.undef _ | exact Weak1.same _ | exact Weak1.nil _ | exact Weak1.lit _ _ | exact WeakH.nil | refine WeakH.cons _ ?_ ?_ | exact WeakA.same _ | refine WeakA.box ?_)
                · show WeakH [_, _, _] _
                  repeat' (first | exact WeakL.nil | refine WeakL.cons ?_ ?_ | exact Weak1.undef _ | exact Weak1.same _ | exact Weak1.nil _ | exact Weak1.lit _ _ | exact WeakH.nil | refine WeakH.cons _ ?_ ?_ | exact WeakA.same _ | refine WeakA.box ?_)
              · conv => whnf
                rw [hw]
                refine ⟨(i + 1, ⟨m', ⟨n0', a0', l0', v0'⟩, ⟨n1', a1', l1', v1'⟩, ⟨n2', a2', l2', v2'⟩, held', vals', bad', true⟩, y0, y1, y2), by simp only; omega, ⟨by simp only; omega, hg2⟩, ?_⟩
                conv => whnf
                refine ⟨?_, ?_⟩
                · repeat' (first | exact WeakL.nil | refine WeakL.cons ?_ ?_ | exact Weak1.undef _ | exact Weak1.same _ | exact Weak1.nil _ | exact Weak1.lit _ _ | exact WeakH.nil | refine WeakH.cons _ ?_ ?_ | exact WeakA.same _ | refine WeakA.box ?_)
                · show WeakH [_, _, _, _] _
                  repeat' (first | exact WeakL.nil | refine WeakL.cons ?_ ?_ | exact Weak1.undef _ | exact Weak1.same _ | exact Weak1.nil _ | exact Weak1.lit _ _ | exact WeakH.nil | refine WeakH.cons _ ?_ ?_ | exact WeakA.same _ | refine WeakA.box ?_)
          · rename_i hlt2
            conv => whnf
            refine ⟨hg.ok hs (by omega), ?_⟩
            have hg2 := hg.turn hs (who := 0) (by omega)
            generalize turnS 0 w0 w1 w2 _ = R at hg2 ⊢
            obtain ⟨m', ⟨n0', a0', l0', v0'⟩, ⟨n1', a1', l1', v1'⟩, ⟨n2', a2', l2', v2'⟩, held', vals', bad', own'⟩ := R
            cases own'
            · conv => whnf
              rw [hw]
              refine ⟨(i + 1, ⟨m', ⟨n0', a0', l0', v0'⟩, ⟨n1', a1', l1', v1'⟩, ⟨n2', a2', l2', v2'⟩, held', vals', bad', false⟩, y0, y1, y2), by simp only; omega, ⟨by simp only; omega, hg2⟩, ?_⟩
              conv => whnf
              refine ⟨?_, ?_⟩
              · repeat' (first | exact WeakL.nil | refine WeakL.cons ?_ ?_ | exact Weak1.undef _ | exact Weak1.same _ | exact Weak1.nil _ | exact Weak1.lit _ _ | exact WeakH.nil | refine WeakH.cons _ ?_ ?_ | exact WeakA.same _ | refine WeakA.box ?_)
              · show WeakH [_, _, _] _
                repeat' (first | exact WeakL.nil | refine WeakL.cons ?_ ?_ | exact Weak1.undef _ | exact Weak1.same _ | exact Weak1.nil _ | exact Weak1.lit _ _ | exact WeakH.nil | refine WeakH.cons _ ?_ ?_ | exact WeakA.same _ | refine WeakA.box ?_)
            · conv => whnf
              rw [hw]
              refine ⟨(i + 1, ⟨m', ⟨n0', a0', l0', v0'⟩, ⟨n1', a1', l1', v1'⟩, ⟨n2', a2', l2', v2'⟩, held', vals', bad', true⟩, y0, y1, y2), by simp only; omega, ⟨by simp only; omega, hg2⟩, ?_⟩
              conv => whnf
              refine ⟨?_, ?_⟩
              · repeat' (first | exact WeakL.nil | refine WeakL.cons ?_ ?_ | exact Weak1.undef _ | exact Weak1.same _ | exact Weak1.nil _ | exact Weak1.lit _ _ | exact WeakH.nil | refine WeakH.cons _ ?_ ?_ | exact WeakA.same _ | refine WeakA.box ?_)
              · show WeakH [_, _, _, _] _
                repeat' (first | exact WeakL.nil | refine WeakL.cons ?_ ?_ | exact Weak1.undef _ | exact Weak1.same _ | exact Weak1.nil _ | exact Weak1.lit _ _ | exact WeakH.nil | refine WeakH.cons _ ?_ ?_ | exact WeakA.same _ | refine WeakA.box ?_)
        · rw [hwa]
          conv => whnf
          refine ⟨by decide, ?_⟩
          conv => whnf
          apply DrawVC.quiet (by kernel_rfl)
          conv => whnf
          refine ⟨by decide, ?_⟩
          conv => whnf
          have hok := hg.ok hs (who := 1) (by omega)
          have hnn : 0 ≤ n1 := by have h9 := hok.2.2.2.1; exact h9.1
          have hll : l1.length ≤ 1000 := by have h9 := hok.2.2.2.1; exact h9.2.2
          split
          · rename_i hlt2
            have hlt2 : n1 < (w1.length : Int) := of_decide_eq_true hlt2
            conv => whnf
            apply DrawVC.quiet (by kernel_rfl)
            conv => whnf
            refine ⟨by decide, ?_⟩
            conv => whnf
            refine ⟨⟨by omega, by omega⟩, ?_⟩
            conv => whnf
            refine ⟨by decide, ?_⟩
            conv => whnf
            generalize hwv : w1.getD n1.toNat ET.u8.dflt = w
            have hwv2 : wantX w1 n1 = w := hwv
            rcases Bool.eq_false_or_eq_true (w.tmod 3 == 0) with hb | hb
            · rw [hb]
              have hb2 : (wantX w1 n1).tmod 3 = 0 := by rw [hwv2]; simpa using hb
              conv => whnf
              apply DrawVC.mix
              conv => whnf
              refine ⟨trivial, ?_⟩
              conv => whnf
              refine ⟨⟨Nat.le_trans hll (by omega), by decide, by decide⟩, ?_⟩
              conv => whnf
              generalize hN : nxt (cellA 16 2 0 4 0) (cellA 16 2 0 4 1) 4 0 1 l1 = N
              refine ⟨by kernel_rfl, ?_⟩
              conv => whnf
              cases hd : N.done
              · skip
                conv => whnf
                refine ⟨hg.ok hs (by omega), ?_⟩
                have hg2 := hg.turn hs (who := 1) (by omega)
                generalize turnS 1 w0 w1 w2 _ = R at hg2 ⊢
                obtain ⟨m', ⟨n0', a0', l0', v0'⟩, ⟨n1', a1', l1', v1'⟩, ⟨n2', a2', l2', v2'⟩, held', vals', bad', own'⟩ := R
                cases own'
                · conv => whnf
                  rw [hw]
                  refine ⟨(i + 1, ⟨m', ⟨n0', a0', l0', v0'⟩, ⟨n1', a1', l1', v1'⟩, ⟨n2', a2', l2', v2'⟩, held', vals', bad', false⟩, y0, y1, y2), by simp only; omega, ⟨by simp only; omega, hg2⟩, ?_⟩
                  conv => whnf
                  refine ⟨?_, ?_⟩
                  · repeat' (first | exact WeakL.nil | refine WeakL.cons ?_ ?_ | exact Weak1.undef _ | exact Weak1.same _ | exact Weak1.nil _ | exact Weak1.lit _ _ | exact WeakH.nil | refine WeakH.cons _ ?_ ?_ | exact WeakA.same _ | refine WeakA.box ?_)
                  · show WeakH [_, _, _] _
                    repeat' (first | exact WeakL.nil | refine WeakL.cons ?_ ?_ | exact Weak1.undef _ | exact Weak1.same _ | exact Weak1.nil _ | exact Weak1.lit _ _ | exact WeakH.nil | refine WeakH.cons _ ?_ ?_ | exact WeakA.same _ | refine WeakA.box ?_)
                · conv => whnf
                  rw [hw]
                  refine ⟨(i + 1, ⟨m', ⟨n0', a0', l0', v0'⟩, ⟨n1', a1', l1', v1'⟩, ⟨n2', a2', l2', v2'⟩, held', vals', bad', true⟩, y0, y1, y2), by simp only; omega, ⟨by simp only; omega, hg2⟩, ?_⟩
                  conv => whnf
                  refine ⟨?_, ?_⟩
                  · repeat' (first | exact WeakL.nil | refine WeakL.cons ?_ ?_ | exact Weak1.undef _ | exact Weak1.same _ | exact Weak1.nil _ | exact Weak1.lit _ _ | exact WeakH.nil | refine WeakH.cons _ ?_ ?_ | exact WeakA.same _ | refine WeakA.box ?_)
                  · show WeakH [_, _, _, _] _
                    repeat' (first | exact WeakL.nil | refine WeakL.cons ?_ ?_ | exact Weak1.undef _ | exact Weak1.same _ | exact Weak1.nil _ | exact Weak1.lit _ _ | exact WeakH.nil | refine WeakH.cons _ ?_ ?_ | exact WeakA.same _ | refine WeakA.box ?_)
              · conv => whnf
                cases hi2 : N.is
                · skip
                  conv => whnf
                  refine ⟨hg.ok hs (by omega), ?_⟩
                  have hg2 := hg.turn hs (who := 1) (by omega)
                  generalize turnS 1 w0 w1 w2 _ = R at hg2 ⊢
                  obtain ⟨m', ⟨n0', a0', l0', v0'⟩, ⟨n1', a1', l1', v1'⟩, ⟨n2', a2', l2', v2'⟩, held', vals', bad', own'⟩ := R
                  cases own'
                  · conv => whnf
                    rw [hw]
                    refine ⟨(i + 1, ⟨m', ⟨n0', a0', l0', v0'⟩, ⟨n1', a1', l1', v1'⟩, ⟨n2', a2', l2', v2'⟩, held', vals', bad', false⟩, y0, y1, y2), by simp only; omega, ⟨by simp only; omega, hg2⟩, ?_⟩
                    conv => whnf
                    refine ⟨?_, ?_⟩
                    · repeat' (first | exact WeakL.nil | refine WeakL.cons ?_ ?_ | exact Weak1.undef _ | exact Weak1.same _ | exact Weak1.nil _ | exact Weak1.lit _ _ | exact WeakH.nil | refine WeakH.cons _ ?_ ?_ | exact WeakA.same _ | refine WeakA.box ?_)
                    · show WeakH [_, _, _] _
                      repeat' (first | exact WeakL.nil | refine WeakL.cons ?_ ?_ | exact Weak1.undef _ | exact Weak1.same _ | exact Weak1.nil _ | exact Weak1.lit _ _ | exact WeakH.nil | refine WeakH.cons _ ?_ ?_ | exact WeakA.same _ | refine WeakA.box ?_)
                  · conv => whnf
                    rw [hw]
                    refine ⟨(i + 1, ⟨m', ⟨n0', a0', l0', v0'⟩, ⟨n1', a1', l1', v1'⟩, ⟨n2', a2', l2', v2'⟩, held', vals', bad', true⟩, y0, y1, y2), by simp only; omega, ⟨by simp only; omega, hg2⟩, ?_⟩
                    conv => whnf
                    refine ⟨?_, ?_⟩
                    · repeat' (first | exact WeakL.nil | refine WeakL.cons ?_ ?_ | exact Weak1.undef _ | exact Weak1.same _ | exact Weak1.nil _ | exact Weak1.lit _ _ | exact WeakH.nil | refine WeakH.cons _ ?_ ?_ | exact WeakA.same _ | refine WeakA.box ?_)
                    · show WeakH [_, _, _, _] _
                      repeat' (first | exact WeakL.nil | refine WeakL.cons ?_ ?_ | exact Weak1.undef _ | exact Weak1.same _ | exact Weak1.nil _ | exact Weak1.lit _ _ | exact WeakH.nil | refine WeakH.cons _ ?_ ?_ | exact WeakA.same _ | refine WeakA.box ?_)
                · conv => whnf
                  obtain ⟨j, hj1, hj2, hj3⟩ := hg.read1 hs hlt2 hb2 (by rw [show nxt wdC vlC 4 0 1 _ = N from hN]; exact hd) (by rw [show nxt wdC vlC 4 0 1 _ = N from hN]; exact hi2)
                  have hj4 : N.ver = (j : Int) := by rw [← hN]; exact hj1
                  apply DrawVC.quiet (by kernel_rfl)
                  conv => whnf
                  refine ⟨by decide, ?_⟩
                  conv => whnf
                  rw [hj4]
                  have hlt3 : decide ((j : Int) < (y1 : Int)) = false := decide_eq_false (by omega)
                  rw [hlt3]
                  conv => whnf
                  refine ⟨by decide, ?_⟩
                  conv => whnf
                  refine ⟨hg.ok hs (by omega), ?_⟩
                  have hg2 := hj3
                  generalize turnS 1 w0 w1 w2 _ = R at hg2 ⊢
                  obtain ⟨m', ⟨n0', a0', l0', v0'⟩, ⟨n1', a1', l1', v1'⟩, ⟨n2', a2', l2', v2'⟩, held', vals', bad', own'⟩ := R
                  cases own'
                  · conv => whnf
                    rw [hw]
                    refine ⟨(i + 1, ⟨m', ⟨n0', a0', l0', v0'⟩, ⟨n1', a1', l1', v1'⟩, ⟨n2', a2', l2', v2'⟩, held', vals', bad', false⟩, y0, j, y2), by simp only; omega, ⟨by simp only; omega, hg2⟩, ?_⟩
                    conv => whnf
                    refine ⟨?_, ?_⟩
                    · repeat' (first | exact WeakL.nil | refine WeakL.cons ?_ ?_ | exact Weak1.undef _ | exact Weak1.same _ | exact Weak1.nil _ | exact Weak1.lit _ _ | exact WeakH.nil | refine WeakH.cons _ ?_ ?_ | exact WeakA.same _ | refine WeakA.box ?_)
                    · show WeakH [_, _, _] _
                      repeat' (first | exact WeakL.nil | refine WeakL.cons ?_ ?_ | exact Weak1.undef _ | exact Weak1.same _ | exact Weak1.nil _ | exact Weak1.lit _ _ | exact WeakH.nil | refine WeakH.cons _ ?_ ?_ | exact WeakA.same _ | refine WeakA.box ?_)
                  · conv => whnf
                    rw [hw]
                    refine ⟨(i + 1, ⟨m', ⟨n0', a0', l0', v0'⟩, ⟨n1', a1', l1', v1'⟩, ⟨n2', a2', l2', v2'⟩, held', vals', bad', true⟩, y0, j, y2), by simp only; omega, ⟨by simp only; omega, hg2⟩, ?_⟩
                    conv => whnf
                    refine ⟨?_, ?_⟩
                    · repeat' (first | exact WeakL.nil | refine WeakL.cons ?_ ?_ | exact Weak1.undef _ | exact Weak1.same _ | exact Weak1.nil _ | exact Weak1.lit _ _ | exact WeakH.nil | refine WeakH.cons _ ?_ ?_ | exact WeakA.same _ | refine WeakA.box ?_)
                    · show WeakH [_, _, _, _] _
                      repeat' (first | exact WeakL.nil | refine WeakL.cons ?_ ?_ | exact Weak1.undef _ | exact Weak1.same _ | exact Weak1.nil _ | exact Weak1.lit _ _ | exact WeakH.nil | refine WeakH.cons _ ?_ ?_ | exact WeakA.same _ | refine WeakA.box ?_)
            · rw [hb]
              conv => whnf
              refine ⟨hg.ok hs (by omega), ?_⟩
              have hg2 := hg.turn hs (who := 1) (by omega)
              generalize turnS 1 w0 w1 w2 _ = R at hg2 ⊢
              obtain ⟨m', ⟨n0', a0', l0', v0'⟩, ⟨n1', a1', l1', v1'⟩, ⟨n2', a2', l2', v2'⟩, held', vals', bad', own'⟩ := R
              cases own'
              · conv => whnf
                rw [hw]
                refine ⟨(i + 1, ⟨m', ⟨n0', a0', l0', v0'⟩, ⟨n1', a1', l1', v1'⟩, ⟨n2', a2', l2', v2'⟩, held', vals', bad', false⟩, y0, y1, y2), by simp only; omega, ⟨by simp only; omega, hg2⟩, ?_⟩
                conv => whnf
                refine ⟨?_, ?_⟩
                · repeat' (first | exact WeakL.nil | refine WeakL.cons ?_ ?_ | exact Weak1.undef _ | exact Weak1.same _ | exact Weak1.nil _ | exact Weak1.lit _ _ | exact WeakH.nil | refine WeakH.cons _ ?_ ?_ | exact WeakA.same _ | refine WeakA.box ?_)
                · show WeakH [_, _, _] _
                  repeat' (first | exact WeakL.nil | refine WeakL.cons ?_ ?_ | exact Weak1.undef _ | exact Weak1.same _ | exact Weak1.nil _ | exact Weak1.lit _ _ | exact WeakH.nil | refine WeakH.cons _ ?_ ?_ | exact WeakA.same _ | refine WeakA.box ?_)
              · conv => whnf
                rw [hw]
                refine ⟨(i + 1, ⟨m', ⟨n0', a0', l0', v0'⟩, ⟨n1', a1', l1', v1'⟩, ⟨n2', a2', l2', v2'⟩, held', vals', bad', true⟩, y0, y1, y2), by simp only; omega, ⟨by simp only; omega, hg2⟩, ?_⟩
                conv => whnf
                refine ⟨?_, ?_⟩
                · repeat' (first | exact WeakL.nil | refine WeakL.cons ?_ ?_ | exact Weak1.undef _ | exact Weak1.same _ | exact Weak1.nil _ | exact Weak1.lit _ _ | exact WeakH.nil | refine WeakH.cons _ ?_ ?_ | exact WeakA.same _ | refine WeakA.box ?_)
                · show WeakH [_, _, _, _] _
                  repeat' (first | exact WeakL.nil | refine WeakL.cons ?_ ?_ | exact Weak1.undef _ | exact Weak1.same _ | exact Weak1.nil _ | exact Weak1.lit _ _ | exact WeakH.nil | refine WeakH.cons _ ?_ ?_ | exact WeakA.same _ | refine WeakA.box ?_)
          · rename_i hlt2
            conv => whnf
            refine ⟨hg.ok hs (by omega), ?_⟩
            have hg2 := hg.turn hs (who := 1) (by omega)
            generalize turnS 1 w0 w1 w2 _ = R at hg2 ⊢
            obtain ⟨m', ⟨n0', a0', l0', v0'⟩, ⟨n1', a1', l1', v1'⟩, ⟨n2', a2', l2', v2'⟩, held', vals', bad', own'⟩ := R
            cases own'
            · conv => whnf
              rw [hw]
              refine ⟨(i + 1, ⟨m', ⟨n0', a0', l0', v0'⟩, ⟨n1', a1', l1', v1'⟩, ⟨n2', a2', l2', v2'⟩, held', vals', bad', false⟩, y0, y1, y2), by simp only; omega, ⟨by simp only; omega, hg2⟩, ?_⟩
              conv => whnf
              refine ⟨?_, ?_⟩
              · repeat' (first | exact WeakL.nil | refine WeakL.cons ?_ ?_ | exact Weak1.undef _ | exact Weak1.same _ | exact Weak1.nil _ | exact Weak1.lit _ _ | exact WeakH.nil | refine WeakH.cons _ ?_ ?_ | exact WeakA.same _ | refine WeakA.box ?_)
              · show WeakH [_, _, _] _
                repeat' (first | exact WeakL.nil | refine WeakL.cons ?_ ?_ | exact Weak1.undef _ | exact Weak1.same _ | exact Weak1.nil _ | exact Weak1.lit _ _ | exact WeakH.nil | refine WeakH.cons _ ?_ ?_ | exact WeakA.same _ | refine WeakA.box ?_)
            · conv => whnf
              rw [hw]
              refine ⟨(i + 1, ⟨m', ⟨n0', a0', l0', v0'⟩, ⟨n1', a1', l1', v1'⟩, ⟨n2', a2', l2', v2'⟩, held', vals', bad', true⟩, y0, y1, y2), by simp only; omega, ⟨by simp only; omega, hg2⟩, ?_⟩
              conv => whnf
              refine ⟨?_, ?_⟩
              · repeat' (first | exact WeakL.nil | refine WeakL.cons ?_ ?_ | exact Weak1.undef _ | exact Weak1.same _ | exact Weak1.nil _ | exact Weak1.lit _ _ | exact WeakH.nil | refine WeakH.cons _ ?_ ?_ | exact WeakA.same _ | refine WeakA.box ?_)
              · show WeakH [_, _, _, _] _
                repeat' (first | exact WeakL.nil | refine WeakL.cons ?_ ?_ | exact Weak1.undef _ | exact Weak1.same _ | exact Weak1.nil _ | exact Weak1.lit _ _ | exact WeakH.nil | refine WeakH.cons _ ?_ ?_ | exact WeakA.same _ | refine WeakA.box ?_)
        · rw [hwa]
          conv => whnf
          refine ⟨by decide, ?_⟩
          conv => whnf
          apply DrawVC.quiet (by kernel_rfl)
          conv => whnf
          refine ⟨by decide, ?_⟩
          conv => whnf
          have hok := hg.ok hs (who := 2) (by omega)
          have hnn : 0 ≤ n2 := by have h9 := hok.2.2.2.2.1; exact h9.1
          have hll : l2.length ≤ 1000 := by have h9 := hok.2.2.2.2.1; exact h9.2.2
          split
          · rename_i hlt2
            have hlt2 : n2 < (w2.length : Int) := of_decide_eq_true hlt2
            conv => whnf
            apply DrawVC.quiet (by kernel_rfl)
            conv => whnf
            refine ⟨by decide, ?_⟩
            conv => whnf
            refine ⟨⟨by omega, by omega⟩, ?_⟩
            conv => whnf
            refine ⟨by decide, ?_⟩
            conv => whnf
            generalize hwv : w2.getD n2.toNat ET.u8.dflt = w
            have hwv2 : wantX w2 n2 = w := hwv
            rcases Bool.eq_false_or_eq_true (w.tmod 3 == 0) with hb | hb
            · rw [hb]
              have hb2 : (wantX w2 n2).tmod 3 = 0 := by rw [hwv2]; simpa using hb
              conv => whnf
              apply DrawVC.mix
              conv => whnf
              refine ⟨trivial, ?_⟩
              conv => whnf
              refine ⟨⟨Nat.le_trans hll (by omega), by decide, by decide⟩, ?_⟩
              conv => whnf
              generalize hN : nxt (cellA 16 2 0 4 0) (cellA 16 2 0 4 1) 4 0 2 l2 = N
              refine ⟨by kernel_rfl, ?_⟩
              conv => whnf
              cases hd : N.done
              · skip
                conv => whnf
                refine ⟨hg.ok hs (by omega), ?_⟩
                have hg2 := hg.turn hs (who := 2) (by omega)
                generalize turnS 2 w0 w1 w2 _ = R at hg2 ⊢
                obtain ⟨m', ⟨n0', a0', l0', v0'⟩, ⟨n1', a1', l1', v1'⟩, ⟨n2', a2', l2', v2'⟩, held', vals', bad', own'⟩ := R
                cases own'
                · conv => whnf
                  rw [hw]
                  refine ⟨(i + 1, ⟨m', ⟨n0', a0', l0', v0'⟩, ⟨n1', a1', l1', v1'⟩, ⟨n2', a2', l2', v2'⟩, held', vals', bad', false⟩, y0, y1, y2), by simp only; omega, ⟨by simp only; omega, hg2⟩, ?_⟩
                  conv => whnf
                  refine ⟨?_, ?_⟩
                  · repeat' (first | exact WeakL.nil | refine WeakL.cons ?_ ?_ | exact Weak1.undef _ | exact Weak1.same _ | exact Weak1.nil _ | exact Weak1.lit _ _ | exact WeakH.nil | refine WeakH.cons _ ?_ ?_ | exact WeakA.same _ | refine WeakA.box ?_)
                  · show WeakH [_, _, _] _
                    repeat' (first | exact WeakL.nil | refine WeakL.cons ?_ ?_ | exact Weak1.undef _ | exact Weak1.same _ | exact Weak1.nil _ | exact Weak1.lit _ _ | exact WeakH.nil | refine WeakH.cons _ ?_ ?_ | exact WeakA.same _ | refine WeakA.box ?_)
                · conv => whnf
                  rw [hw]
                  refine ⟨(i + 1, ⟨m', ⟨n0', a0', l0', v0'⟩, ⟨n1', a1', l1', v1'⟩, ⟨n2', a2', l2', v2'⟩, held', vals', bad', true⟩, y0, y1, y2), by simp only; omega, ⟨by simp only; omega, hg2⟩, ?_⟩
                  conv => whnf
                  refine ⟨?_, ?_⟩
                  · repeat' (first | exact WeakL.nil | refine WeakL.cons ?_ ?_ | exact Weak1.undef _ | exact Weak1.same _ | exact Weak1.nil _ | exact Weak1.lit _ _ | exact WeakH.nil | refine WeakH.cons _ ?_ ?_ | exact WeakA.same _ | refine WeakA.box ?_)
                  · show WeakH [_, _, _, _] _
                    repeat' (first | exact WeakL.nil | refine WeakL.cons ?_ ?_ | exact Weak1.undef _ | exact Weak1.same _ | exact Weak1.nil _ | exact Weak1.lit _ _ | exact WeakH.nil | refine WeakH.cons _ ?_ ?_ | exact WeakA.same _ | refine WeakA.box ?_)
              · conv => whnf
                cases hi2 : N.is
                · skip
                  conv => whnf
                  refine ⟨hg.ok hs (by omega), ?_⟩
                  have hg2 := hg.turn hs (who := 2) (by omega)
                  generalize turnS 2 w0 w1 w2 _ = R at hg2 ⊢
                  obtain ⟨m', ⟨n0', a0', l0', v0'⟩, ⟨n1', a1', l1', v1'⟩, ⟨n2', a2', l2', v2'⟩, held', vals', bad', own'⟩ := R
                  cases own'
                  · conv => whnf
                    rw [hw]
                    refine ⟨(i + 1, ⟨m', ⟨n0', a0', l0', v0'⟩, ⟨n1', a1', l1', v1'⟩, ⟨n2', a2', l2', v2'⟩, held', vals', bad', false⟩, y0, y1, y2), by simp only; omega, ⟨by simp only; omega, hg2⟩, ?_⟩
                    conv => whnf
                    refine ⟨?_, ?_⟩
                    · repeat' (first | exact WeakL.nil | refine WeakL.cons ?_ ?_ | exact Weak1.undef _ | exact Weak1.same _ | exact Weak1.nil _ | exact Weak1.lit _ _ | exact WeakH.nil | refine WeakH.cons _ ?_ ?_ | exact WeakA.same _ | refine WeakA.box ?_)
                    · show WeakH [_, _, _] _
                      repeat' (first | exact WeakL.nil | refine WeakL.cons ?_ ?_ | exact Weak1.undef _ | exact Weak1.same _ | exact Weak1.nil _ | exact Weak1.lit _ _ | exact WeakH.nil | refine WeakH.cons _ ?_ ?_ | exact WeakA.same _ | refine WeakA.box ?_)
                  · conv => whnf
                    rw [hw]
                    refine ⟨(i + 1, ⟨m', ⟨n0', a0', l0', v0'⟩, ⟨n1', a1', l1', v1'⟩, ⟨n2', a2', l2', v2'⟩, held', vals', bad', true⟩, y0, y1, y2), by simp only; omega, ⟨by simp only; omega, hg2⟩, ?_⟩
                    conv => whnf
                    refine ⟨?_, ?_⟩
                    · repeat' (first | exact WeakL.nil | refine WeakL.cons ?_ ?_ | exact Weak1.undef _ | exact Weak1.same _ | exact Weak1.nil _ | exact Weak1.lit _ _ | exact WeakH.nil | refine WeakH.cons _ ?_ ?_ | exact WeakA.same _ | refine WeakA.box ?_)
                    · show WeakH [_, _, _, _] _
                      repeat' (first | exact WeakL.nil | refine WeakL.cons ?_ ?_ | exact Weak1.undef _ | exact Weak1.same _ | exact Weak1.nil _ | exact Weak1.lit _ _ | exact WeakH.nil | refine WeakH.cons _ ?_ ?_ | exact WeakA.same _ | refine WeakA.box ?_)
                · conv => whnf
                  obtain ⟨j, hj1, hj2, hj3⟩ := hg.read2 hs hlt2 hb2 (by rw [show nxt wdC vlC 4 0 2 _ = N from hN]; exact hd) (by rw [show nxt wdC vlC 4 0 2 _ = N from hN]; exact hi2)
                  have hj4 : N.ver = (j : Int) := by rw [← hN]; exact hj1
                  apply DrawVC.quiet (by kernel_rfl)
                  conv => whnf
                  refine ⟨by decide, ?_⟩
                  conv => whnf
                  rw [hj4]
                  have hlt3 : decide ((j : Int) < (y2 : Int)) = false := decide_eq_false (by omega)
                  rw [hlt3]
                  conv => whnf
                  refine ⟨by decide, ?_⟩
                  conv => whnf
                  refine ⟨hg.ok hs (by omega), ?_⟩
                  have hg2 := hj3
                  generalize turnS 2 w0 w1 w2 _ = R at hg2 ⊢
                  obtain ⟨m', ⟨n0', a0', l0', v0'⟩, ⟨n1', a1', l1', v1'⟩, ⟨n2', a2', l2', v2'⟩, held', vals', bad', own'⟩ := R
                  cases own'
                  · conv => whnf
                    rw [hw]
                    refine ⟨(i + 1, ⟨m', ⟨n0', a0', l0', v0'⟩, ⟨n1', a1', l1', v1'⟩, ⟨n2', a2', l2', v2'⟩, held', vals', bad', false⟩, y0, y1, j), by simp only; omega, ⟨by simp only; omega, hg2⟩, ?_⟩
                    conv => whnf
                    refine ⟨?_, ?_⟩
                    · repeat' (first | exact WeakL.nil | refine WeakL.cons ?_ ?_ | exact Weak1.undef _ | exact Weak1.same _ | exact Weak1.nil _ | exact Weak1.lit _ _ | exact WeakH.nil | refine WeakH.cons _ ?_ ?_ | exact WeakA.same _ | refine WeakA.box ?_)
                    · show WeakH [_, _, _] _
                      repeat' (first | exact WeakL.nil | refine WeakL.cons ?_ ?_ | exact Weak1.undef _ | exact Weak1.same _ | exact Weak1.nil _ | exact Weak1.lit _ _ | exact WeakH.nil | refine WeakH.cons _ ?_ ?_ | exact WeakA.same _ | refine WeakA.box ?_)
                  · conv => whnf
                    rw [hw]
                    refine ⟨(i + 1, ⟨m', ⟨n0', a0', l0', v0'⟩, ⟨n1', a1', l1', v1'⟩, ⟨n2', a2', l2', v2'⟩, held', vals', bad', true⟩, y0, y1, j), by simp only; omega, ⟨by simp only; omega, hg2⟩, ?_⟩
                    conv => whnf
                    refine ⟨?_, ?_⟩
                    · repeat' (first | exact WeakL.nil | refine WeakL.cons ?_ ?_ | exact Weak1.undef _ | exact Weak1.same _ | exact Weak1.nil _ | exact Weak1.lit _ _ | exact WeakH.nil | refine WeakH.cons _ ?_ ?_ | exact WeakA.same _ | refine WeakA.box ?_)
                    · show WeakH [_, _, _, _] _
                      repeat' (first | exact WeakL.nil | refine WeakL.cons ?_ ?_ | exact Weak1.undef _ | exact Weak1.same _ | exact Weak1.nil _ | exact Weak1.lit _ _ | exact WeakH.nil | refine WeakH.cons _ ?_ ?_ | exact WeakA.same _ | refine WeakA.box ?_)
            · rw [hb]
              conv => whnf
              refine ⟨hg.ok hs (by omega), ?_⟩
              have hg2 := hg.turn hs (who := 2) (by omega)
              generalize turnS 2 w0 w1 w2 _ = R at hg2 ⊢
              obtain ⟨m', ⟨n0', a0', l0', v0'⟩, ⟨n1', a1', l1', v1'⟩, ⟨n2', a2', l2', v2'⟩, held', vals', bad', own'⟩ := R
              cases own'
              · conv => whnf
                rw [hw]
                refine ⟨(i + 1, ⟨m', ⟨n0', a0', l0', v0'⟩, ⟨n1', a1', l1', v1'⟩, ⟨n2', a2', l2', v2'⟩, held', vals', bad', false⟩, y0, y1, y2), by simp only; omega, ⟨by simp only; omega, hg2⟩, ?_⟩
                conv => whnf
                refine ⟨?_, ?_⟩
                · repeat' (first | exact WeakL.nil | refine WeakL.cons ?_ ?_ | exact Weak1.undef _ | exact Weak1.same _ | exact Weak1.nil _ | exact Weak1.lit _ _ | exact WeakH.nil | refine WeakH.cons _ ?_ ?_ | exact WeakA.same _ | refine WeakA.box ?_)
                · show WeakH [_, _, _] _
                  repeat' (first | exact WeakL.nil | refine WeakL.cons ?_ ?_ | exact Weak1.undef _ | exact Weak1.same _ | exact Weak1.nil _ | exact Weak1.lit _ _ | exact WeakH.nil | refine WeakH.cons _ ?_ ?_ | exact WeakA.same _ | refine WeakA.box ?_)
              · conv => whnf
                rw [hw]
                refine ⟨(i + 1, ⟨m', ⟨n0', a0', l0', v0'⟩, ⟨n1', a1', l1', v1'⟩, ⟨n2', a2', l2', v2'⟩, held', vals', bad', true⟩, y0, y1, y2), by simp only; omega, ⟨by simp only; omega, hg2⟩, ?_⟩
                conv => whnf
                refine ⟨?_, ?_⟩
                · repeat' (first | exact WeakL.nil | refine WeakL.cons ?_ ?_ | exact Weak1.undef _ | exact Weak1.same _ | exact Weak1.nil _ | exact Weak1.lit _ _ | exact WeakH.nil | refine WeakH.cons _ ?_ ?_ | exact WeakA.same _ | refine WeakA.box ?_)
                · show WeakH [_, _, _, _] _
                  repeat' (first | exact WeakL.nil | refine WeakL.cons ?_ ?_ | exact Weak1.undef _ | exact Weak1.same _ | exact Weak1.nil _ | exact Weak1.lit _ _ | exact WeakH.nil | refine WeakH.cons _ ?_ ?_ | exact WeakA.same _ | refine WeakA.box ?_)
          · rename_i hlt2
            conv => whnf
            refine ⟨hg.ok hs (by omega), ?_⟩
            have hg2 := hg.turn hs (who := 2) (by omega)
            generalize turnS 2 w0 w1 w2 _ = R at hg2 ⊢
            obtain ⟨m', ⟨n0', a0', l0', v0'⟩, ⟨n1', a1', l1', v1'⟩, ⟨n2', a2', l2', v2'⟩, held', vals', bad', own'⟩ := R
            cases own'
            · conv => whnf
              rw [hw]
              refine ⟨(i + 1, ⟨m', ⟨n0', a0', l0', v0'⟩, ⟨n1', a1', l1', v1'⟩, ⟨n2', a2', l2', v2'⟩, held', vals', bad', false⟩, y0, y1, y2), by simp only; omega, ⟨by simp only; omega, hg2⟩, ?_⟩
              conv => whnf
              refine ⟨?_, ?_⟩
              · repeat' (first | exact WeakL.nil | refine WeakL.cons ?_ ?_ | exact Weak1.undef _ | exact Weak1.same _ | exact Weak1.nil _ | exact Weak1.lit _ _ | exact WeakH.nil | refine WeakH.cons _ ?_ ?_ | exact WeakA.same _ | refine WeakA.box ?_)
              · show WeakH [_, _, _] _
                repeat' (first | exact WeakL.nil | refine WeakL.cons ?_ ?_ | exact Weak1.undef _ | exact Weak1.same _ | exact Weak1.nil _ | exact Weak1.lit _ _ | exact WeakH.nil | refine WeakH.cons _ ?_ ?_ | exact WeakA.same _ | refine WeakA.box ?_)
            · conv => whnf
              rw [hw]
              refine ⟨(i + 1, ⟨m', ⟨n0', a0', l0', v0'⟩, ⟨n1', a1', l1', v1'⟩, ⟨n2', a2', l2', v2'⟩, held', vals', bad', true⟩, y0, y1, y2), by simp only; omega, ⟨by simp only; omega, hg2⟩, ?_⟩
              conv => whnf
              refine ⟨?_, ?_⟩
              · repeat' (first | exact WeakL.nil | refine WeakL.cons ?_ ?_ | exact Weak1.undef _ | exact Weak1.same _ | exact Weak1.nil _ | exact Weak1.lit _ _ | exact WeakH.nil | refine WeakH.cons _ ?_ ?_ | exact WeakA.same _ | refine WeakA.box ?_)
              · show WeakH [_, _, _, _] _
                repeat' (first | exact WeakL.nil | refine WeakL.cons ?_ ?_ | exact Weak1.undef _ | exact Weak1.same _ | exact Weak1.nil _ | exact Weak1.lit _ _ | exact WeakH.nil | refine WeakH.cons _ ?_ ?_ | exact WeakA.same _ | refine WeakA.box ?_)
      · conv => whnf
        refine ⟨⟨by omega, by omega⟩, ?_⟩
        conv => whnf
        refine ⟨by decide, ?_⟩
        generalize ht2 : tu.getD (i : Int).toNat ET.u8.dflt = t
        have hmem : t ∈ tu := by rw [← ht2]; simp only [Int.toNat_natCast]; rw [List.getD_eq_getElem?_getD, List.getElem?_eq_getElem hlt]; simp
        have hwho := who_in t (ht t hmem)
        have hwc : (IntKind.i64.wrap t).tmod 3 = 0 ∨ (IntKind.i64.wrap t).tmod 3 = 1 ∨ (IntKind.i64.wrap t).tmod 3 = 2 := by omega
        rcases hwc with hwa | hwa | hwa
        · rw [hwa]
          conv => whnf
          refine ⟨by decide, ?_⟩
          conv => whnf
          apply DrawVC.quiet (by kernel_rfl)
          conv => whnf
          refine ⟨by decide, ?_⟩
          conv => whnf
          have hok := hg.ok hs (who := 0) (by omega)
          have hnn : 0 ≤ n0 := by have h9 := hok.2.2.1; exact h9.1
          have hll : l0.length ≤ 1000 := by have h9 := hok.2.2.1; exact h9.2.2
          split
          · rename_i hlt2
            have hlt2 : n0 < (w0.length : Int) := of_decide_eq_true hlt2
            conv => whnf
            apply DrawVC.quiet (by kernel_rfl)
            conv => whnf
            refine ⟨by decide, ?_⟩
            conv => whnf
            refine ⟨⟨by omega, by omega⟩, ?_⟩
            conv => whnf
            refine ⟨by decide, ?_⟩
            conv => whnf
            generalize hwv : w0.getD n0.toNat ET.u8.dflt = w
            have hwv2 : wantX w0 n0 = w := hwv
            rcases Bool.eq_false_or_eq_true (w.tmod 3 == 0) with hb | hb
            · rw [hb]
              have hb2 : (wantX w0 n0).tmod 3 = 0 := by rw [hwv2]; simpa using hb
              conv => whnf
              apply DrawVC.mix
              conv => whnf
              refine ⟨trivial, ?_⟩
              conv => whnf
              refine ⟨⟨Nat.le_trans hll (by omega), by decide, by decide⟩, ?_⟩
              conv => whnf
              generalize hN : nxt (cellA 16 2 0 4 0) (cellA 16 2 0 4 1) 4 0 0 l0 = N
              refine ⟨by kernel_rfl, ?_⟩
              conv => whnf
              cases hd : N.done
              · skip
                conv => whnf
                refine ⟨hg.ok hs (by omega), ?_⟩
                have hg2 := hg.turn hs (who := 0) (by omega)
                generalize turnS 0 w0 w1 w2 _ = R at hg2 ⊢
                obtain ⟨m', ⟨n0', a0', l0', v0'⟩, ⟨n1', a1', l1', v1'⟩, ⟨n2', a2', l2', v2'⟩, held', vals', bad', own'⟩ := R
                cases own'
                · conv => whnf
                  rw [hw]
                  refine ⟨(i + 1, ⟨m', ⟨n0', a0', l0', v0'⟩, ⟨n1', a1', l1', v1'⟩, ⟨n2', a2', l2', v2'⟩, held', vals', bad', false⟩, y0, y1, y2), by simp only; omega, ⟨by simp only; omega, hg2⟩, ?_⟩
                  conv => whnf
                  refine ⟨?_, ?_⟩
                  · repeat' (first | exact WeakL.nil | refine WeakL.cons ?_ ?_ | exact Weak1.undef _ | exact Weak1.same _ | exact Weak1.nil _ | exact Weak1.lit _ _ | exact WeakH.nil | refine WeakH.cons _ ?_ ?_ | exact WeakA.same _ | refine WeakA.box ?_)
                  · show WeakH [_, _, _] _
                    repeat' (first | exact WeakL.nil | refine WeakL.cons ?_ ?_ | exact Weak1.undef _ | exact Weak1.same _ | exact Weak1.nil _ | exact Weak1.lit _ _ | exact WeakH.nil | refine WeakH.cons _ ?_ ?_ | exact WeakA.same _ | refine WeakA.box ?_)
                · conv => whnf
                  rw [hw]
                  refine ⟨(i + 1, ⟨m', ⟨n0', a0', l0', v0'⟩, ⟨n1', a1', l1', v1'⟩, ⟨n2', a2', l2', v2'⟩, held', vals', bad', true⟩, y0, y1, y2), by simp only; omega, ⟨by simp only; omega, hg2⟩, ?_⟩
                  conv => whnf
                  refine ⟨?_, ?_⟩
                  · repeat' (first | exact WeakL.nil | refine WeakL.cons ?_ ?_ | exact Weak1.undef _ | exact Weak1.same _ | exact Weak1.nil _ | exact Weak1.lit _ _ | exact WeakH.nil | refine WeakH.cons _ ?_ ?_ | exact WeakA.same _ | refine WeakA.box ?_)
                  · show WeakH [_, _, _, _] _
                    repeat' (first | exact WeakL.nil | refine WeakL.cons ?_ ?_ | exact Weak1.undef _ | exact Weak1.same _ | exact Weak1.nil _ | exact Weak1.lit _ _ | exact WeakH.nil | refine WeakH.cons _ ?_ ?_ | exact WeakA.same _ | refine WeakA.box ?_)
              · conv => whnf
                cases hi2 : N.is
                · skip
                  conv => whnf
                  refine ⟨hg.ok hs (by omega), ?_⟩
                  have hg2 := hg.turn hs (who := 0) (by omega)
                  generalize turnS 0 w0 w1 w2 _ = R at hg2 ⊢
                  obtain ⟨m', ⟨n0', a0', l0', v0'⟩, ⟨n1', a1', l1', v1'⟩, ⟨n2', a2', l2', v2'⟩, held', vals', bad', own'⟩ := R
                  cases own'
                  · conv => whnf
                    rw [hw]
                    refine ⟨(i + 1, ⟨m', ⟨n0', a0', l0', v0'⟩, ⟨n1', a1', l1', v1'⟩, ⟨n2', a2', l2', v2'⟩, held', vals', bad', false⟩, y0, y1, y2), by simp only; omega, ⟨by simp only; omega, hg2⟩, ?_⟩
                    conv => whnf
                    refine ⟨?_, ?_⟩
                    · repeat' (first | exact WeakL.nil | refine WeakL.cons ?_ ?_ | exact Weak1.undef _ | exact Weak1.same _ | exact Weak1.nil _ | exact Weak1.lit _ _ | exact WeakH.nil | refine WeakH.cons _ ?_ ?_ | exact WeakA.same _ | refine WeakA.box ?_)
                    · show WeakH [_, _, _] _
                      repeat' (first | exact WeakL.nil | refine WeakL.cons ?_ ?_ | exact Weak1.undef _ | exact Weak1.same _ | exact Weak1.nil _ | exact Weak1.lit _ _ | exact WeakH.nil | refine WeakH.cons _ ?_ ?_ | exact WeakA.same _ | refine WeakA.box ?_)
                  · conv => whnf
                    rw [hw]
                    refine ⟨(i + 1, ⟨m', ⟨n0', a0', l0', v0'⟩, ⟨n1', a1', l1', v1'⟩, ⟨n2', a2', l2', v2'⟩, held', vals', bad', true⟩, y0, y1, y2), by simp only; omega, ⟨by simp only; omega, hg2⟩, ?_⟩
                    conv => whnf
                    refine ⟨?_, ?_⟩
                    · repeat' (first | exact WeakL.nil | refine WeakL.cons ?_ ?_ | exact Weak1.undef _ | exact Weak1.same _ | exact Weak1.nil _ | exact Weak1.lit _ _ | exact WeakH.nil | refine WeakH.cons _ ?_ ?_ | exact WeakA.same _ | refine WeakA.box ?_)
                    · show WeakH [_, _, _, _] _
                      repeat' (first | exact WeakL.nil | refine WeakL.cons ?_ ?_ | exact Weak1.undef _ | exact Weak1.same _ | exact Weak1.nil _ | exact Weak1.lit _ _ | exact WeakH.nil | refine WeakH.cons _ ?_ ?_ | exact WeakA.same _ | refine WeakA.box ?_)
                · conv => whnf
                  obtain ⟨j, hj1, hj2, hj3⟩ := hg.read0 hs hlt2 hb2 (by rw [show nxt wdC vlC 4 0 0 _ = N from hN]; exact hd) (by rw [show nxt wdC vlC 4 0 0 _ = N from hN]; exact hi2)
                  have hj4 : N.ver = (j : Int) := by rw [← hN]; exact hj1
                  apply DrawVC.quiet (by kernel_rfl)
                  conv => whnf
                  refine ⟨by decide, ?_⟩
                  conv => whnf
                  rw [hj4]
                  have hlt3 : decide ((j : Int) < (y0 : Int)) = false := decide_eq_false (by omega)
                  rw [hlt3]
                  conv => whnf
                  refine ⟨by decide, ?_⟩
                  conv => whnf
                  refine ⟨hg.ok hs (by omega), ?_⟩
                  have hg2 := hj3
                  generalize turnS 0 w0 w1 w2 _ = R at hg2 ⊢
                  obtain ⟨m', ⟨n0', a0', l0', v0'⟩, ⟨n1', a1', l1', v1'⟩, ⟨n2', a2', l2', v2'⟩, held', vals', bad', own'⟩ := R
                  cases own'
                  · conv => whnf
                    rw [hw]
                    refine ⟨(i + 1, ⟨m', ⟨n0', a0', l0', v0'⟩, ⟨n1', a1', l1', v1'⟩, ⟨n2', a2', l2', v2'⟩, held', vals', bad', false⟩, j, y1, y2), by simp only; omega, ⟨by simp only; omega, hg2⟩, ?_⟩
                    conv => whnf
                    refine ⟨?_, ?_⟩
                    · repeat' (first | exact WeakL.nil | refine WeakL.cons ?_ ?_ | exact Weak1.undef _ | exact Weak1.same _ | exact Weak1.nil _ | exact Weak1.lit _ _ | exact WeakH.nil | refine WeakH.cons _ ?_ ?_ | exact WeakA.same _ | refine WeakA.box ?_)
                    · show WeakH [_, _, _] _
                      repeat' (first | exact WeakL.nil | refine WeakL.cons ?_ ?_ | exact Weak1.undef _ | exact Weak1.same _ | exact Weak1.nil _ | exact Weak1.lit _ _ | exact WeakH.nil | refine WeakH.cons _ ?_ ?_ | exact WeakA.same _ | refine WeakA.box ?_)
                  · conv => whnf
                    rw [hw]
                    refine ⟨(i + 1, ⟨m', ⟨n0', a0', l0', v0'⟩, ⟨n1', a1', l1', v1'⟩, ⟨n2', a2', l2', v2'⟩, held', vals', bad', true⟩, j, y1, y2), by simp only; omega, ⟨by simp only; omega, hg2⟩, ?_⟩
                    conv => whnf
                    refine ⟨?_, ?_⟩
                    · repeat' (first | exact WeakL.nil | refine WeakL.cons ?_ ?_ | exact Weak1.undef _ | exact Weak1.same _ | exact Weak1.nil _ | exact Weak1.lit _ _ | exact WeakH.nil | refine WeakH.cons _ ?_ ?_ | exact WeakA.same _ | refine WeakA.box ?_)
                    · show WeakH [_, _, _, _] _
                      repeat' (first | exact WeakL.nil | refine WeakL.cons ?_ ?_ | exact Weak1.undef _ | exact Weak1.same _ | exact Weak1.nil _ | exact Weak1.lit _ _ | exact WeakH.nil | refine WeakH.cons _ ?_ ?_ | exact WeakA.same _ | refine WeakA.box ?_)
            · rw [hb]
              conv => whnf
              refine ⟨hg.ok hs (by omega), ?_⟩
              have hg2 := hg.turn hs (who := 0) (by omega)
              generalize turnS 0 w0 w1 w2 _ = R at hg2 ⊢
              obtain ⟨m', ⟨n0', a0', l0', v0'⟩, ⟨n1', a1', l1', v1'⟩, ⟨n2', a2', l2', v2'⟩, held', vals', bad', own'⟩ := R
              cases own'
              · conv => whnf
                rw [hw]
                refine ⟨(i + 1, ⟨m', ⟨n0', a0', l0', v0'⟩, ⟨n1', a1', l1', v1'⟩, ⟨n2', a2', l2', v2'⟩, held', vals', bad', false⟩, y0, y1, y2), by simp only; omega, ⟨by simp only; omega, hg2⟩, ?_⟩
                conv => whnf
                refine ⟨?_, ?_⟩
                · repeat' (first | exact WeakL.nil | refine WeakL.cons ?_ ?_ | exact Weak1.undef _ | exact Weak1.same _ | exact Weak1.nil _ | exact Weak1.lit _ _ | exact WeakH.nil | refine WeakH.cons _ ?_ ?_ | exact WeakA.same _ | refine WeakA.box ?_)
                · show WeakH [_, _, _] _
                  repeat' (first | exact WeakL.nil | refine WeakL.cons ?_ ?_ | exact Weak1.undef _ | exact Weak1.same _ | exact Weak1.nil _ | exact Weak1.lit _ _ | exact WeakH.nil | refine WeakH.cons _ ?_ ?_ | exact WeakA.same _ | refine WeakA.box ?_)
              · conv => whnf
                rw [hw]
                refine ⟨(i + 1, ⟨m', ⟨n0', a0', l0', v0'⟩, ⟨n1', a1', l1', v1'⟩, ⟨n2', a2', l2', v2'⟩, held', vals', bad', true⟩, y0, y1, y2), by simp only; omega, ⟨by simp only; omega, hg2⟩, ?_⟩
                conv => whnf
                refine ⟨?_, ?_⟩
                · repeat' (first | exact WeakL.nil | refine WeakL.cons ?_ ?_ | exact Weak1.undef _ | exact Weak1.same _ | exact Weak1.nil _ | exact Weak1.lit _ _ | exact WeakH.nil | refine WeakH.cons _ ?_ ?_ | exact WeakA.same _ | refine WeakA.box ?_)
                · show WeakH [_, _, _, _] _
                  repeat' (first | exact WeakL.nil | refine WeakL.cons ?_ ?_ | exact Weak1.undef _ | exact Weak1.same _ | exact Weak1.nil _ | exact Weak1.lit _ _ | exact WeakH.nil | refine WeakH.cons _ ?_ ?_ | exact WeakA.same _ | refine WeakA.box ?_)
          · rename_i hlt2
            conv => whnf
            refine ⟨hg.ok hs (by omega), ?_⟩
            have hg2 := hg.turn hs (who := 0) (by omega)
            generalize turnS 0 w0 w1 w2 _ = R at hg2 ⊢
            obtain ⟨m', ⟨n0', a0', l0', v0'⟩, ⟨n1', a1', l1', v1'⟩, ⟨n2', a2', l2', v2'⟩, held', vals', bad', own'⟩ := R
            cases own'
            · conv => whnf
              rw [hw]
              refine ⟨(i + 1, ⟨m', ⟨n0', a0', l0', v0'⟩, ⟨n1', a1', l1', v1'⟩, ⟨n2', a2', l2', v2'⟩, held', vals', bad', false⟩, y0, y1, y2), by simp only; omega, ⟨by simp only; omega, hg2⟩, ?_⟩
              conv => whnf
              refine ⟨?_, ?_⟩
              · repeat' (first | exact WeakL.nil | refine WeakL.cons ?_ ?_ | exact Weak1.undef _ | exact Weak1.same _ | exact Weak1.nil _ | exact Weak1.lit _ _ | exact WeakH.nil | refine WeakH.cons _ ?_ ?_ | exact WeakA.same _ | refine WeakA.box ?_)
              · show WeakH [_, _, _] _
                repeat' (first | exact WeakL.nil | refine WeakL.cons ?_ ?_ | exact Weak1.undef _ | exact Weak1.same _ | exact Weak1.nil _ | exact Weak1.lit _ _ | exact WeakH.nil | refine WeakH.cons _ ?_ ?_ | exact WeakA.same _ | refine WeakA.box ?_)
            · conv => whnf
              rw [hw]
              refine ⟨(i + 1, ⟨m', ⟨n0', a0', l0', v0'⟩, ⟨n1', a1', l1', v1'⟩, ⟨n2', a2', l2', v2'⟩, held', vals', bad', true⟩, y0, y1, y2), by simp only; omega, ⟨by simp only; omega, hg2⟩, ?_⟩
              conv => whnf
              refine ⟨?_, ?_⟩
              · repeat' (first | exact WeakL.nil | refine WeakL.cons ?_ ?_ | exact Weak1.undef _ | exact Weak1.same _ | exact Weak1.nil _ | exact Weak1.lit _ _ | exact WeakH.nil | refine WeakH.cons _ ?_ ?_ | exact WeakA.same _ | refine WeakA.box ?_)
              · show WeakH [_, _, _, _] _
                repeat' (first | exact WeakL.nil | refine WeakL.cons ?_ ?_ | exact Weak1.undef _ | exact Weak1.same _ | exact Weak1.nil _ | exact Weak1.lit _ _ | exact WeakH.nil | refine WeakH.cons _ ?_ ?_ | exact WeakA.same _ | refine WeakA.box ?_)
        · rw [hwa]
          conv => whnf
          refine ⟨by decide, ?_⟩
          conv => whnf
          apply DrawVC.quiet (by kernel_rfl)
          conv => whnf
          refine ⟨by decide, ?_⟩
          conv => whnf
          have hok := hg.ok hs (who := 1) (by omega)
          have hnn : 0 ≤ n1 := by have h9 := hok.2.2.2.1; exact h9.1
          have hll : l1.length ≤ 1000 := by have h9 := hok.2.2.2.1; exact h9.2.2
          split
          · rename_i hlt2
            have hlt2 : n1 < (w1.length : Int) := of_decide_eq_true hlt2
            conv => whnf
            apply DrawVC.quiet (by kernel_rfl)
            conv => whnf
            refine ⟨by decide, ?_⟩
            conv => whnf
            refine ⟨⟨by omega, by omega⟩, ?_⟩
            conv => whnf
            refine ⟨by decide, ?_⟩
            conv => whnf
            generalize hwv : w1.getD n1.toNat ET.u8.dflt = w
            have hwv2 : wantX w1 n1 = w := hwv
            rcases Bool.eq_false_or_eq_true (w.tmod 3 == 0) with hb | hb
            · rw [hb]
              have hb2 : (wantX w1 n1).tmod 3 = 0 := by rw [hwv2]; simpa using hb
              conv => whnf
              apply DrawVC.mix
              conv => whnf
              refine ⟨trivial, ?_⟩
              conv => whnf
              refine ⟨⟨Nat.le_trans hll (by omega), by decide, by decide⟩, ?_⟩
              conv => whnf
              generalize hN : nxt (cellA 16 2 0 4 0) (cellA 16 2 0 4 1) 4 0 1 l1 = N
              refine ⟨by kernel_rfl, ?_⟩
              conv => whnf
              cases hd : N.done
              · skip
                conv => whnf
                refine ⟨hg.ok hs (by omega), ?_⟩
                have hg2 := hg.turn hs (who := 1) (by omega)
                generalize turnS 1 w0 w1 w2 _ = R at hg2 ⊢
                obtain ⟨m', ⟨n0', a0', l0', v0'⟩, ⟨n1', a1', l1', v1'⟩, ⟨n2', a2', l2', v2'⟩, held', vals', bad', own'⟩ := R
                cases own'
                · conv => whnf
                  rw [hw]
                  refine ⟨(i + 1, ⟨m', ⟨n0', a0', l0', v0'⟩, ⟨n1', a1', l1', v1'⟩, ⟨n2', a2', l2', v2'⟩, held', vals', bad', false⟩, y0, y1, y2), by simp only; omega, ⟨by simp only; omega, hg2⟩, ?_⟩
                  conv => whnf
                  refine ⟨?_, ?_⟩
                  · repeat' (first | exact WeakL.nil | refine WeakL.cons ?_ ?_ | exact Weak1.undef _ | exact Weak1.same _ | exact Weak1.nil _ | exact Weak1.lit _ _ | exact WeakH.nil | refine WeakH.cons _ ?_ ?_ | exact WeakA.same _ | refine WeakA.box ?_)
                  · show WeakH [_, _, _] _
                    repeat' (first | exact WeakL.nil | refine WeakL.cons ?_ ?_ | exact Weak1.undef _ | exact Weak1.same _ | exact Weak1.nil _ | exact Weak1.lit _ _ | exact WeakH.nil | refine WeakH.cons _ ?_ ?_ | exact WeakA.same _ | refine WeakA.box ?_)
                · conv => whnf
                  rw [hw]
                  refine ⟨(i + 1, ⟨m', ⟨n0', a0', l0', v0'⟩, ⟨n1', a1', l1', v1'⟩, ⟨n2', a2', l2', v2'⟩, held', vals', bad', true⟩, y0, y1, y2), by simp only; omega, ⟨by simp only; omega, hg2⟩, ?_⟩
                  conv => whnf
                  refine ⟨?_, ?_⟩
                  · repeat' (first | exact WeakL.nil | refine WeakL.cons ?_ ?_ | exact Weak1.undef _ | exact Weak1.same _ | exact Weak1.nil _ | exact Weak1.lit _ _ | exact WeakH.nil | refine WeakH.cons _ ?_ ?_ | exact WeakA.same _ | refine WeakA.box ?_)
                  · show WeakH [_, _, _, _] _
                    repeat' (first | exact WeakL.nil | refine WeakL.cons ?_ ?_ | exact Weak1.undef _ | exact Weak1.same _ | exact Weak1.nil _ | exact Weak1.lit _ _ | exact WeakH.nil | refine WeakH.cons _ ?_ ?_ | exact WeakA.same _ | refine WeakA.box ?_)
              · conv => whnf
                cases hi2 : N.is
                · skip
                  conv => whnf
                  refine ⟨hg.ok hs (by omega), ?_⟩
                  have hg2 := hg.turn hs (who := 1) (by omega)
                  generalize turnS 1 w0 w1 w2 _ = R at hg2 ⊢
                  obtain ⟨m', ⟨n0', a0', l0', v0'⟩, ⟨n1', a1', l1', v1'⟩, ⟨n2', a2', l2', v2'⟩, held', vals', bad', own'⟩ := R
                  cases own'
                  · conv => whnf
                    rw [hw]
                    refine ⟨(i + 1, ⟨m', ⟨n0', a0', l0', v0'⟩, ⟨n1', a1', l1', v1'⟩, ⟨n2', a2', l2', v2'⟩, held', vals', bad', false⟩, y0, y1, y2), by simp only; omega, ⟨by simp only; omega, hg2⟩, ?_⟩
                    conv => whnf
                    refine ⟨?_, ?_⟩
                    · repeat' (first | exact WeakL.nil | refine WeakL.cons ?_ ?_ | exact Weak1.undef _ | exact Weak1.same _ | exact Weak1.nil _ | exact Weak1.lit _ _ | exact WeakH.nil | refine WeakH.cons _ ?_ ?_ | exact WeakA.same _ | refine WeakA.box ?_)
                    · show WeakH [_, _, _] _
                      repeat' (first | exact WeakL.nil | refine WeakL.cons ?_ ?_ | exact Weak1.undef _ | exact Weak1.same _ | exact Weak1.nil _ | exact Weak1.lit _ _ | exact WeakH.nil | refine WeakH.cons _ ?_ ?_ | exact WeakA.same _ | refine WeakA.box ?_)
                  · conv => whnf
                    rw [hw]
                    refine ⟨(i + 1, ⟨m', ⟨n0', a0', l0', v0'⟩, ⟨n1', a1', l1', v1'⟩, ⟨n2', a2', l2', v2'⟩, held', vals', bad', true⟩, y0, y1, y2), by simp only; omega, ⟨by simp only; omega, hg2⟩, ?_⟩
                    conv => whnf
                    refine ⟨?_, ?_⟩
                    · repeat' (first | exact WeakL.nil | refine WeakL.cons ?_ ?_ | exact Weak1.undef _ | exact Weak1.same _ | exact Weak1.nil _ | exact Weak1.lit _ _ | exact WeakH.nil | refine WeakH.cons _ ?_ ?_ | exact WeakA.same _ | refine WeakA.box ?_)
                    · show WeakH [_, _, _, _] _
                      repeat' (first | exact WeakL.nil | refine WeakL.cons ?_ ?_ | exact Weak1.undef _ | exact Weak1.same _ | exact Weak1.nil _ | exact Weak1.lit _ _ | exact WeakH.nil | refine WeakH.cons _ ?_ ?_ | exact WeakA.same _ | refine WeakA.box ?_)
                · conv => whnf
                  obtain ⟨j, hj1, hj2, hj3⟩ := hg.read1 hs hlt2 hb2 (by rw [show nxt wdC vlC 4 0 1 _ = N from hN]; exact hd) (by rw [show nxt wdC vlC 4 0 1 _ = N from hN]; exact hi2)
                  have hj4 : N.ver = (j : Int) := by rw [← hN]; exact hj1
                  apply DrawVC.quiet (by kernel_rfl)
                  conv => whnf
                  refine ⟨by decide, ?_⟩
                  conv => whnf
                  rw [hj4]
                  have hlt3 : decide ((j : Int) < (y1 : Int)) = false := decide_eq_false (by omega)
                  rw [hlt3]
                  conv => whnf
                  refine ⟨by decide, ?_⟩
                  conv => whnf
                  refine ⟨hg.ok hs (by omega), ?_⟩
                  have hg2 := hj3
                  generalize turnS 1 w0 w1 w2 _ = R at hg2 ⊢
                  obtain ⟨m', ⟨n0', a0', l0', v0'⟩, ⟨n1', a1', l1', v1'⟩, ⟨n2', a2', l2', v2'⟩, held', vals', bad', own'⟩ := R
                  cases own'
                  · conv => whnf
                    rw [hw]
                    refine ⟨(i + 1, ⟨m', ⟨n0', a0', l0', v0'⟩, ⟨n1', a1', l1', v1'⟩, ⟨n2', a2', l2', v2'⟩, held', vals', bad', false⟩, y0, j, y2), by simp only; omega, ⟨by simp only; omega, hg2⟩, ?_⟩
                    conv => whnf
                    refine ⟨?_, ?_⟩
                    · repeat' (first | exact WeakL.nil | refine WeakL.cons ?_ ?_ | exact Weak1.undef _ | exact Weak1.same _ | exact Weak1.nil _ | exact Weak1.lit _ _ | exact WeakH.nil | refine WeakH.cons _ ?_ ?_ | exact WeakA.same _ | refine WeakA.box ?_)
                    · show WeakH [_, _, _] _
                      repeat' (first | exact WeakL.nil | refine WeakL.cons ?_ ?_ | exact Weak1.undef _ | exact Weak1.same _ | exact Weak1.nil _ | exact Weak1.lit _ _ | exact WeakH.nil | refine WeakH.cons _ ?_ ?_ | exact WeakA.same _ | refine WeakA.box ?_)
                  · conv => whnf
                    rw [hw]
                    refine ⟨(i + 1, ⟨m', ⟨n0', a0', l0', v0'⟩, ⟨n1', a1', l1', v1'⟩, ⟨n2', a2', l2', v2'⟩, held', vals', bad', true⟩, y0, j, y2), by simp only; omega, ⟨by simp only; omega, hg2⟩, ?_⟩
                    conv => whnf
                    refine ⟨?_, ?_⟩
                    · repeat' (first | exact WeakL.nil | refine WeakL.cons ?_ ?_ | exact Weak1.undef _ | exact Weak1.same _ | exact Weak1.nil _ | exact Weak1.lit _ _ | exact WeakH.nil | refine WeakH.cons _ ?_ ?_ | exact WeakA.same _ | refine WeakA.box ?_)
                    · show WeakH [_, _, _, _] _
                      repeat' (first | exact WeakL.nil | refine WeakL.cons ?_ ?_ | exact Weak1.undef _ | exact Weak1.same _ | exact Weak1.nil _ | exact Weak1.lit _ _ | exact WeakH.nil | refine WeakH.cons _ ?_ ?_ | exact WeakA.same _ | refine WeakA.box ?_)
            · rw [hb]
              conv => whnf
              refine ⟨hg.ok hs (by omega), ?_⟩
              have hg2 := hg.turn hs (who := 1) (by omega)
              generalize turnS 1 w0 w1 w2 _ = R at hg2 ⊢
              obtain ⟨m', ⟨n0', a0', l0', v0'⟩, ⟨n1', a1', l1', v1'⟩, ⟨n2', a2', l2', v2'⟩, held', vals', bad', own'⟩ := R
              cases own'
              · conv => whnf
                rw [hw]
                refine ⟨(i + 1, ⟨m', ⟨n0', a0', l0', v0'⟩, ⟨n1', a1', l1', v1'⟩, ⟨n2', a2', l2', v2'⟩, held', vals', bad', false⟩, y0, y1, y2), by simp only; omega, ⟨by simp only; omega, hg2⟩, ?_⟩
                conv => whnf
                refine ⟨?_, ?_⟩
                · repeat' (first | exact WeakL.nil | refine WeakL.cons ?_ ?_ | exact Weak1.undef _ | exact Weak1.same _ | exact Weak1.nil _ | exact Weak1.lit _ _ | exact WeakH.nil | refine WeakH.cons _ ?_ ?_ | exact WeakA.same _ | refine WeakA.box ?_)
                · show WeakH [_, _, _] _
                  repeat' (first | exact WeakL.nil | refine WeakL.cons ?_ ?_ | exact Weak1.undef _ | exact Weak1.same _ | exact Weak1.nil _ | exact Weak1.lit _ _ | exact WeakH.nil | refine WeakH.cons _ ?_ ?_ | exact WeakA.same _ | refine WeakA.box ?_)
              · conv => whnf
                rw [hw]
                refine ⟨(i + 1, ⟨m', ⟨n0', a0', l0', v0'⟩, ⟨n1', a1', l1', v1'⟩, ⟨n2', a2', l2', v2'⟩, held', vals', bad', true⟩, y0, y1, y2), by simp only; omega, ⟨by simp only; omega, hg2⟩, ?_⟩
                conv => whnf
                refine ⟨?_, ?_⟩
                · repeat' (first | exact WeakL.nil | refine WeakL.cons ?_ ?_ | exact Weak1.undef _ | exact Weak1.same _ | exact Weak1.nil _ | exact Weak1.lit _ _ | exact WeakH.nil | refine WeakH.cons _ ?_ ?_ | exact WeakA.same _ | refine WeakA.box ?_)
                · show WeakH [_, _, _, _] _
                  repeat' (first | exact WeakL.nil | refine WeakL.cons ?_ ?_ | exact Weak1.undef _ | exact Weak1.same _ | exact Weak1.nil _ | exact Weak1.lit _ _ | exact WeakH.nil | refine WeakH.cons _ ?_ ?_ | exact WeakA.same _ | refine WeakA.box ?_)
          · rename_i hlt2
            conv => whnf
            refine ⟨hg.ok hs (by omega), ?_⟩
            have hg2 := hg.turn hs (who := 1) (by omega)
            generalize turnS 1 w0 w1 w2 _ = R at hg2 ⊢
            obtain ⟨m', ⟨n0', a0', l0', v0'⟩, ⟨n1', a1', l1', v1'⟩, ⟨n2', a2', l2', v2'⟩, held', vals', bad', own'⟩ := R
            cases own'
            · conv => whnf
              rw [hw]
              refine ⟨(i + 1, ⟨m', ⟨n0', a0', l0', v0'⟩, ⟨n1', a1', l1', v1'⟩, ⟨n2', a2', l2', v2'⟩, held', vals', bad', false⟩, y0, y1, y2), by simp only; omega, ⟨by simp only; omega, hg2⟩, ?_⟩
              conv => whnf
              refine ⟨?_, ?_⟩
              · repeat' (first | exact WeakL.nil | refine WeakL.cons ?_ ?_ | exact Weak1.undef _ | exact Weak1.same _ | exact Weak1.nil _ | exact Weak1.lit _ _ | exact WeakH.nil | refine WeakH.cons _ ?_ ?_ | exact WeakA.same _ | refine WeakA.box ?_)
              · show WeakH [_, _, _] _
                repeat' (first | exact WeakL.nil | refine WeakL.cons ?_ ?_ | exact Weak1.undef _ | exact Weak1.same _ | exact Weak1.nil _ | exact Weak1.lit _ _ | exact WeakH.nil | refine WeakH.cons _ ?_ ?_ | exact WeakA.same _ | refine WeakA.box ?_)
            · conv => whnf
              rw [hw]
              refine ⟨(i + 1, ⟨m', ⟨n0', a0', l0', v0'⟩, ⟨n1', a1', l1', v1'⟩, ⟨n2', a2', l2', v2'⟩, held', vals', bad', true⟩, y0, y1, y2), by simp only; omega, ⟨by simp only; omega, hg2⟩, ?_⟩
              conv => whnf
              refine ⟨?_, ?_⟩
              · repeat' (first | exact WeakL.nil | refine WeakL.cons ?_ ?_ | exact Weak1.undef _ | exact Weak1.same _ | exact Weak1.nil _ | exact Weak1.lit _ _ | exact WeakH.nil | refine WeakH.cons _ ?_ ?_ | exact WeakA.same _ | refine WeakA.box ?_)
              · show WeakH [_, _, _, _] _
                repeat' (first | exact WeakL.nil | refine WeakL.cons ?_ ?_ | exact Weak1.undef _ | exact Weak1.same _ | exact Weak1.nil _ | exact Weak1.lit _ _ | exact WeakH.nil | refine WeakH.cons _ ?_ ?_ | exact WeakA.same _ | refine WeakA.box ?_)
        · rw [hwa]
          conv => whnf
          refine ⟨by decide, ?_⟩
          conv => whnf
          apply DrawVC.quiet (by kernel_rfl)
          conv => whnf
          refine ⟨by decide, ?_⟩
          conv => whnf
          have hok := hg.ok hs (who := 2) (by omega)
          have hnn : 0 ≤ n2 := by have h9 := hok.2.2.2.2.1; exact h9.1
          have hll : l2.length ≤ 1000 := by have h9 := hok.2.2.2.2.1; exact h9.2.2
          split
          · rename_i hlt2
            have hlt2 : n2 < (w2.length : Int) := of_decide_eq_true hlt2
            conv => whnf
            apply DrawVC.quiet (by kernel_rfl)
            conv => whnf
            refine ⟨by decide, ?_⟩
            conv => whnf
            refine ⟨⟨by omega, by omega⟩, ?_⟩
            conv => whnf
            refine ⟨by decide, ?_⟩
            conv => whnf
            generalize hwv : w2.getD n2.toNat ET.u8.dflt = w
            have hwv2 : wantX w2 n2 = w := hwv
            rcases Bool.eq_false_or_eq_true (w.tmod 3 == 0) with hb | hb
            · rw [hb]
              have hb2 : (wantX w2 n2).tmod 3 = 0 := by rw [hwv2]; simpa using hb
              conv => whnf
              apply DrawVC.mix
              conv => whnf
              refine ⟨trivial, ?_⟩
              conv => whnf
              refine ⟨⟨Nat.le_trans hll (by omega), by decide, by decide⟩, ?_⟩
              conv => whnf
              generalize hN : nxt (cellA 16 2 0 4 0) (cellA 16 2 0 4 1) 4 0 2 l2 = N
              refine ⟨by kernel_rfl, ?_⟩
              conv => whnf
              cases hd : N.done
              · skip
                conv => whnf
                refine ⟨hg.ok hs (by omega), ?_⟩
                have hg2 := hg.turn hs (who := 2) (by omega)
                generalize turnS 2 w0 w1 w2 _ = R at hg2 ⊢
                obtain ⟨m', ⟨n0', a0', l0', v0'⟩, ⟨n1', a1', l1', v1'⟩, ⟨n2', a2', l2', v2'⟩, held', vals', bad', own'⟩ := R
                cases own'
                · conv => whnf
                  rw [hw]
                  refine ⟨(i + 1, ⟨m', ⟨n0', a0', l0', v0'⟩, ⟨n1', a1', l1', v1'⟩, ⟨n2', a2', l2', v2'⟩, held', vals', bad', false⟩, y0, y1, y2), by simp only; omega, ⟨by simp only; omega, hg2⟩, ?_⟩
                  conv => whnf
                  refine ⟨?_, ?_⟩
                  · repeat' (first | exact WeakL.nil | refine WeakL.cons ?_ ?_ | exact Weak1.undef _ | exact Weak1.same _ | exact Weak1.nil _ | exact Weak1.lit _ _ | exact WeakH.nil | refine WeakH.cons _ ?_ ?_ | exact WeakA.same _ | refine WeakA.box ?_)
                  · show WeakH [_, _, _] _
                    repeat' (first | exact WeakL.nil | refine WeakL.cons ?_ ?_ | exact Weak1.undef _ | exact Weak1.same _ | exact Weak1.nil _ | exact Weak1.lit _ _ | exact WeakH.nil | refine WeakH.cons _ ?_ ?_ | exact WeakA.same _ | refine WeakA.box ?_)
                · conv => whnf
                  rw [hw]
                  refine ⟨(i + 1, ⟨m', ⟨n0', a0', l0', v0'⟩, ⟨n1', a1', l1', v1'⟩, ⟨n2', a2', l2', v2'⟩, held', vals', bad', true⟩, y0, y1, y2), by simp only; omega, ⟨by simp only; omega, hg2⟩, ?_⟩
                  conv => whnf
                  refine ⟨?_, ?_⟩
                  · repeat' (first | exact WeakL.nil | refine WeakL.cons ?_ ?_ | exact Weak1.undef _ | exact Weak1.same _ | exact Weak1.nil _ | exact Weak1.lit _ _ | exact WeakH.nil | refine WeakH.cons _ ?_ ?_ | exact WeakA.same _ | refine WeakA.box ?_)
                  · show WeakH [_, _, _, _] _
                    repeat' (first | exact WeakL.nil | refine WeakL.cons ?_ ?_ | exact Weak1.undef _ | exact Weak1.same _ | exact Weak1.nil _ | exact Weak1.lit _ _ | exact WeakH.nil | refine WeakH.cons _ ?_ ?_ | exact WeakA.same _ | refine WeakA.box ?_)
              · conv => whnf
                cases hi2 : N.is
                · skip
                  conv => whnf
                  refine ⟨hg.ok hs (by omega), ?_⟩
                  have hg2 := hg.turn hs (who := 2) (by omega)
                  generalize turnS 2 w0 w1 w2 _ = R at hg2 ⊢
                  obtain ⟨m', ⟨n0', a0', l0', v0'⟩, ⟨n1', a1', l1', v1'⟩, ⟨n2', a2', l2', v2'⟩, held', vals', bad', own'⟩ := R
                  cases own'
                  · conv => whnf
                    rw [hw]
                    refine ⟨(i + 1, ⟨m', ⟨n0', a0', l0', v0'⟩, ⟨n1', a1', l1', v1'⟩, ⟨n2', a2', l2', v2'⟩, held', vals', bad', false⟩, y0, y1, y2), by simp only; omega, ⟨by simp only; omega, hg2⟩, ?_⟩
                    conv => whnf
                    refine ⟨?_, ?_⟩
                    · repeat' (first | exact WeakL.nil | refine WeakL.cons ?_ ?_ | exact Weak1.undef _ | exact Weak1.same _ | exact Weak1.nil _ | exact Weak1.lit _ _ | exact WeakH.nil | refine WeakH.cons _ ?_ ?_ | exact WeakA.same _ | refine WeakA.box ?_)
                    · show WeakH [_, _, _] _
                      repeat' (first | exact WeakL.nil | refine WeakL.cons ?_ ?_ | exact Weak1.undef _ | exact Weak1.same _ | exact Weak1.nil _ | exact Weak1.lit _ _ | exact WeakH.nil | refine WeakH.cons _ ?_ ?_ | exact WeakA.same _ | refine WeakA.box ?_)
                  · conv => whnf
                    rw [hw]
                    refine ⟨(i + 1, ⟨m', ⟨n0', a0', l0', v0'⟩, ⟨n1', a1', l1', v1'⟩, ⟨n2', a2', l2', v2'⟩, held', vals', bad', true⟩, y0, y1, y2), by simp only; omega, ⟨by simp only; omega, hg2⟩, ?_⟩
                    conv => whnf
                    refine ⟨?_, ?_⟩
                    · repeat' (first | exact WeakL.nil | refine WeakL.cons ?_ ?_ | exact Weak1.undef _ | exact Weak1.same _ | exact Weak1.nil _ | exact Weak1.lit _ _ | exact WeakH.nil | refine WeakH.cons _ ?_ ?_ | exact WeakA.same _ | refine WeakA.box ?_)
                    · show WeakH [_, _, _, _] _
                      repeat' (first | exact WeakL.nil | refine WeakL.cons ?_ ?_ | exact Weak1.undef _ | exact Weak1.same _ | exact Weak1.nil _ | exact Weak1.lit _ _ | exact WeakH.nil | refine WeakH.cons _ ?_ ?_ | exact WeakA.same _ | refine WeakA.box ?_)
                · conv => whnf
                  obtain ⟨j, hj1, hj2, hj3⟩ := hg.read2 hs hlt2 hb2 (by rw [show nxt wdC vlC 4 0 2 _ = N from hN]; exact hd) (by rw [show nxt wdC vlC 4 0 2 _ = N from hN]; exact hi2)
                  have hj4 : N.ver = (j : Int) := by rw [← hN]; exact hj1
                  apply DrawVC.quiet (by kernel_rfl)
                  conv => whnf
                  refine ⟨by decide, ?_⟩
                  conv => whnf
                  rw [hj4]
                  have hlt3 : decide ((j : Int) < (y2 : Int)) = false := decide_eq_false (by omega)
                  rw [hlt3]
                  conv => whnf
                  refine ⟨by decide, ?_⟩
                  conv => whnf
                  refine ⟨hg.ok hs (by omega), ?_⟩
                  have hg2 := hj3
                  generalize turnS 2 w0 w1 w2 _ = R at hg2 ⊢
                  obtain ⟨m', ⟨n0', a0', l0', v0'⟩, ⟨n1', a1', l1', v1'⟩, ⟨n2', a2', l2', v2'⟩, held', vals', bad', own'⟩ := R
                  cases own'
                  · conv => whnf
                    rw [hw]
                    refine ⟨(i + 1, ⟨m', ⟨n0', a0', l0', v0'⟩, ⟨n1', a1', l1', v1'⟩, ⟨n2', a2', l2', v2'⟩, held', vals', bad', false⟩, y0, y1, j), by simp only; omega, ⟨by simp only; omega, hg2⟩, ?_⟩
                    conv => whnf
                    refine ⟨?_, ?_⟩
                    · repeat' (first | exact WeakL.nil | refine WeakL.cons ?_ ?_ | exact Weak1.undef _ | exact Weak1.same _ | exact Weak1.nil _ | exact Weak1.lit _ _ | exact WeakH.nil | refine WeakH.cons _ ?_ ?_ | exact WeakA.same _ | refine WeakA.box ?_)
                    · show WeakH [_, _, _] _
                      repeat' (first | exact WeakL.nil | refine WeakL.cons ?_ ?_ | exact Weak1.undef _ | exact Weak1.same _ | exact Weak1.nil _ | exact Weak1.lit _ _ | exact WeakH.nil | refine WeakH.cons _ ?_ ?_ | exact WeakA.same _ | refine WeakA.box ?_)
                  · conv => whnf
                    rw [hw]
                    refine ⟨(i + 1, ⟨m', ⟨n0', a0', l0', v0'⟩, ⟨n1', a1', l1', v1'⟩, ⟨n2', a2', l2', v2'⟩, held', vals', bad', true⟩, y0, y1, j), by simp only; omega, ⟨by simp only; omega, hg2⟩, ?_⟩
                    conv => whnf
                    refine ⟨?_, ?_⟩
                    · repeat' (first | exact WeakL.nil | refine WeakL.cons ?_ ?_ | exact Weak1.undef _ | exact Weak1.same _ | exact Weak1.nil _ | exact Weak1.lit _ _ | exact WeakH.nil | refine WeakH.cons _ ?_ ?_ | exact WeakA.same _ | refine WeakA.box ?_)
                    · show WeakH [_, _, _, _] _
                      repeat' (first | exact WeakL.nil | refine WeakL.cons ?_ ?_ | exact Weak1.undef _ | exact Weak1.same _ | exact Weak1.nil _ | exact Weak1.lit _ _ | exact WeakH.nil | refine WeakH.cons _ ?_ ?_ | exact WeakA.same _ | refine WeakA.box ?_)
            · rw [hb]
              conv => whnf
              refine ⟨hg.ok hs (by omega), ?_⟩
              have hg2 := hg.turn hs (who := 2) (by omega)
              generalize turnS 2 w0 w1 w2 _ = R at hg2 ⊢
              obtain ⟨m', ⟨n0', a0', l0', v0'⟩, ⟨n1', a1', l1', v1'⟩, ⟨n2', a2', l2', v2'⟩, held', vals', bad', own'⟩ := R
              cases own'
              · conv => whnf
                rw [hw]
                refine ⟨(i + 1, ⟨m', ⟨n0', a0', l0', v0'⟩, ⟨n1', a1', l1', v1'⟩, ⟨n2', a2', l2', v2'⟩, held', vals', bad', false⟩, y0, y1, y2), by simp only; omega, ⟨by simp only; omega, hg2⟩, ?_⟩
                conv => whnf
                refine ⟨?_, ?_⟩
                · repeat' (first | exact WeakL.nil | refine WeakL.cons ?_ ?_ | exact Weak1.undef _ | exact Weak1.same _ | exact Weak1.nil _ | exact Weak1.lit _ _ | exact WeakH.nil | refine WeakH.cons _ ?_ ?_ | exact WeakA.same _ | refine WeakA.box ?_)
                · show WeakH [_, _, _] _
                  repeat' (first | exact WeakL.nil | refine WeakL.cons ?_ ?_ | exact Weak1.undef _ | exact Weak1.same _ | exact Weak1.nil _ | exact Weak1.lit _ _ | exact WeakH.nil | refine WeakH.cons _ ?_ ?_ | exact WeakA.same _ | refine WeakA.box ?_)
              · conv => whnf
                rw [hw]
                refine ⟨(i + 1, ⟨m', ⟨n0', a0', l0', v0'⟩, ⟨n1', a1', l1', v1'⟩, ⟨n2', a2', l2', v2'⟩, held', vals', bad', true⟩, y0, y1, y2), by simp only; omega, ⟨by simp only; omega, hg2⟩, ?_⟩
                conv => whnf
                refine ⟨?_, ?_⟩
                · repeat' (first | exact WeakL.nil | refine WeakL.cons ?_ ?_ | exact Weak1.undef _ | exact Weak1.same _ | exact Weak1.nil _ | exact Weak1.lit _ _ | exact WeakH.nil | refine WeakH.cons _ ?_ ?_ | exact WeakA.same _ | refine WeakA.box ?_)
                · show WeakH [_, _, _, _] _
                  repeat' (first | exact WeakL.nil | refine WeakL.cons ?_ ?_ | exact Weak1.undef _ | exact Weak1.same _ | exact Weak1.nil _ | exact Weak1.lit _ _ | exact WeakH.nil | refine WeakH.cons _ ?_ ?_ | exact WeakA.same _ | refine WeakA.box ?_)
          · rename_i hlt2
            conv => whnf
            refine ⟨hg.ok hs (by omega), ?_⟩
            have hg2 := hg.turn hs (who := 2) (by omega)
            generalize turnS 2 w0 w1 w2 _ = R at hg2 ⊢
            obtain ⟨m', ⟨n0', a0', l0', v0'⟩, ⟨n1', a1', l1', v1'⟩, ⟨n2', a2', l2', v2'⟩, held', vals', bad', own'⟩ := R
            cases own'
            · conv => whnf
              rw [hw]
              refine ⟨(i + 1, ⟨m', ⟨n0', a0', l0', v0'⟩, ⟨n1', a1', l1', v1'⟩, ⟨n2', a2', l2', v2'⟩, held', vals', bad', false⟩, y0, y1, y2), by simp only; omega, ⟨by simp only; omega, hg2⟩, ?_⟩
              conv => whnf
              refine ⟨?_, ?_⟩
              · repeat' (first | exact WeakL.nil | refine WeakL.cons ?_ ?_ | exact Weak1.undef _ | exact Weak1.same _ | exact Weak1.nil _ | exact Weak1.lit _ _ | exact WeakH.nil | refine WeakH.cons _ ?_ ?_ | exact WeakA.same _ | refine WeakA.box ?_)
              · show WeakH [_, _, _] _
                repeat' (first | exact WeakL.nil | refine WeakL.cons ?_ ?_ | exact Weak1.undef _ | exact Weak1.same _ | exact Weak1.nil _ | exact Weak1.lit _ _ | exact WeakH.nil | refine WeakH.cons _ ?_ ?_ | exact WeakA.same _ | refine WeakA.box ?_)
            · conv => whnf
              rw [hw]
              refine ⟨(i + 1, ⟨m', ⟨n0', a0', l0', v0'⟩, ⟨n1', a1', l1', v1'⟩, ⟨n2', a2', l2', v2'⟩, held', vals', bad', true⟩, y0, y1, y2), by simp only; omega, ⟨by simp only; omega, hg2⟩, ?_⟩
              conv => whnf
              refine ⟨?_, ?_⟩
              · repeat' (first | exact WeakL.nil | refine WeakL.cons ?_ ?_ | exact Weak1.undef _ | exact Weak1.same _ | exact Weak1.nil _ | exact Weak1.lit _ _ | exact WeakH.nil | refine WeakH.cons _ ?_ ?_ | exact WeakA.same _ | refine WeakA.box ?_)
              · show WeakH [_, _, _, _] _
                repeat' (first | exact WeakL.nil | refine WeakL.cons ?_ ?_ | exact Weak1.undef _ | exact Weak1.same _ | exact Weak1.nil _ | exact Weak1.lit _ _ | exact WeakH.nil | refine WeakH.cons _ ?_ ?_ | exact WeakA.same _ | refine WeakA.box ?_)
    · rename_i hlt
      have hbad := hg.bad
      simp only at hbad
      subst hbad
      conv => whnf
      exact ⟨_, rfl, Wk.eq rfl⟩
  · simp at h
abbrev sp18 : List (Nat × Spec) := (18, .pure h18) :: sp17

end Go.Proofs.Ythakgbecpkfeoaa.Ev
