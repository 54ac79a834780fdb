/- Layer 15: the law LayoutInitStores, walked. -/
import Derived.Test.YthakgbecpkfeoaaPe
set_option linter.unusedVariables false
set_option linter.unusedSimpArgs false
set_option maxRecDepth 100000
namespace Go.Proofs.Ythakgbecpkfeoaa.Ev

theorem cell_in {f m n z a : Int} (hf : 0 ≤ f ∧ f ≤ 1000000) (hn : 0 ≤ n ∧ n < m) (hm : m ≤ 1000) (hz : z = 4 ∨ z = 1) (ha : 0 ≤ a ∧ a ≤ 3) : cellA f m n z a = f + z * n + a := by
  unfold cellA
  rw [if_pos hn]
  rcases hz with rfl | rfl
  · rw [wrap_small (n := 4 * n) (by omega) (by omega), wrap_small (n := f + 4 * n) (by omega) (by omega), wrap_small (by omega) (by omega)]
  · rw [wrap_small (n := 1 * n) (by omega) (by omega), wrap_small (n := f + 1 * n) (by omega) (by omega), wrap_small (by omega) (by omega)]

/-- The memory after a list of stores. -/
def stores (m : List Int) (l : List Acc) : List Int := l.foldl (fun m a => m.set a.cell.toNat a.new) m
theorem stores_length (m : List Int) (l : List Acc) : (stores m l).length = m.length := by
  induction l generalizing m with
  | nil => rfl
  | cons a l ih => simp only [stores, List.foldl_cons] at ih ⊢; rw [ih, List.length_set]
theorem runA_stores {m : List Int} {l : List Acc} (h : ∀ a ∈ l, ∃ c n, a = storeA c n ∧ 0 ≤ c ∧ c < m.length) : ∃ rs, runA m l = .inr (stores m l, rs) := by
  induction l generalizing m with
  | nil => exact ⟨[], rfl⟩
  | cons a l ih =>
    obtain ⟨c, n, rfl, h0, h1⟩ := h a (by simp)
    have hd : doAcc m (storeA c n) = (m.set c.toNat n, ⟨m.getD c.toNat 0, true⟩, 0) := by
      unfold doAcc storeA
      dsimp only
      rw [doA_ok (by simp [rightA, empty_list, h0]) (by omega)]
      simp [nextA]
    obtain ⟨rs, hrs⟩ := ih (m := m.set c.toNat n) (fun a ha => by
      obtain ⟨c', n', q1, q2, q3⟩ := h a (by simp [ha])
      exact ⟨c', n', q1, q2, by rw [List.length_set]; exact q3⟩)
    simp only [runA, hd, if_true, hrs]
    exact ⟨_, rfl⟩

theorem stores_append (m : List Int) (l l' : List Acc) : stores m (l ++ l') = stores (stores m l) l' := by simp [stores]
theorem stores_succ (m : List Int) (st lo l : Int) (first : List Int) (i : Nat) : stores m (initU st lo l first (i + 1)) = (stores m (initU st lo l first i)).set (cellA lo l (i : Int) 4 1).toNat (first.getD i 0) := by
  rw [initU_succ, stores_append]
  rfl

def h15 : List AV → Option (Prop × AV)
  | [.agg [.int .i64 t, .int .i64 l, .int .i64 k, .int .i64 s, .int .i64 m], .sl .i64 first] => some (True, .bool true)
  | _ => none
theorem w15 : EnvOK Try.prog ⟨tys, (15, .pure h15) :: sp20⟩ := by
  refine addPure w20 (fn := Try.f15) (by kernel_rfl) (by kernel_rfl) (by kernel_rfl) ?_
  intro args p r h hp
  unfold h15 at h
  split at h
  · rename_i t l k s m first
    simp only [Option.some.injEq, Prod.mk.injEq] at h
    obtain ⟨rfl, rfl⟩ := h
    conv => whnf
    refine ⟨trivial, ?_⟩
    conv => whnf
    refine ⟨trivial, ?_⟩
    cases hb : mayC t l k s m with
    | false =>
      conv => whnf
      exact ⟨_, rfl, Wk.eq rfl⟩
    | true =>
      obtain ⟨ht, hl, hk, hs, hm⟩ := mayC_of hb
      conv => whnf
      split
      · conv => whnf
        exact ⟨_, rfl, Wk.eq rfl⟩
      rename_i hf
      have hf : first.length ≤ 40 := by have := hf; simp at this; omega
      conv => whnf
      apply DrawVC.mix
      conv => whnf
      have hsz : ofI true (4 + 4 * t + k + 4 * l) = 4 + 4 * t + k + 4 * l := rfl
      have hol : ofI true l = l := rfl
      refine ⟨⟨by rw [hsz]; omega, by rw [hsz]; omega⟩, ?_⟩
      conv => whnf
      refine ⟨⟨by rw [hol]; omega, by omega⟩, ?_⟩
      conv => whnf
      have hZl : (List.replicate (ofI true (4 + 4 * t + k + 4 * l)).toNat (0 : Int)).length = (4 + 4 * t + k + 4 * l).toNat := by rw [hsz]; simp
      generalize hZ : List.replicate (ofI true (4 + 4 * t + k + 4 * l)).toNat (0 : Int) = Z at hZl ⊢
      have hmn1 : min first.length (ofI true l).toNat ≤ first.length := Nat.min_le_left _ _
      have hmn2 : min first.length (ofI true l).toNat ≤ l.toNat := Nat.min_le_right _ _
      have hmn3 : ∀ i, i ≤ first.length → i ≤ l.toNat → (i = first.length ∨ i = l.toNat) → min first.length (ofI true l).toNat = i := by intro i h1 h2 h3; rw [hol]; omega
      generalize min first.length (ofI true l).toNat = mn at hmn1 hmn2 hmn3 ⊢
      have hcell : ∀ j : Nat, (j : Int) < l → cellA (ofI true (4 + 4 * t + k)) (ofI true l) (j : Int) 4 1 = 4 + 4 * t + k + 4 * (j : Int) + 1 := by
        intro j hj
        have e1 : ofI true (4 + 4 * t + k) = 4 + 4 * t + k := rfl
        rw [e1, hol, cell_in (by omega) (by omega) (by omega) (.inl rfl) (by omega)]
      obtain ⟨rs, hrun⟩ := runA_stores (m := Z) (l := initU (ofI true 1) (ofI true (4 + 4 * t + k)) (ofI true l) first mn) (by
        intro a ha
        simp only [initU, List.mem_cons, List.mem_map, List.mem_range] at ha
        rcases ha with rfl | ⟨j, hj, rfl⟩
        · exact ⟨_, _, rfl, by decide, by rw [hZl]; show (1 : Int) < _; omega⟩
        · exact ⟨_, _, rfl, by rw [hcell j (by omega)]; omega, by rw [hcell j (by omega), hZl]; omega⟩)
      have hM : allM Z (initU (ofI true 1) (ofI true (4 + 4 * t + k)) (ofI true l) first mn) = stores Z (initU (ofI true 1) (ofI true (4 + 4 * t + k)) (ofI true l) first mn) := by simp only [allM, hrun]
      have hE : allE Z (initU (ofI true 1) (ofI true (4 + 4 * t + k)) (ofI true l) first mn) = 0 := by simp only [allE, hrun]
      refine ⟨⟨by omega, by rw [initU_length]; omega⟩, ?_⟩
      rw [hM, hE]
      conv => whnf
      refine ⟨by kernel_rfl, ?_⟩
      conv => whnf
      have hSl := stores_length Z (initU (ofI true 1) (ofI true (4 + 4 * t + k)) (ofI true l) first mn)
      rw [show (((stores Z (initU (ofI true 1) (ofI true (4 + 4 * t + k)) (ofI true l) first mn)).length : Int) != ofI true (4 + 4 * t + k + 4 * l)) = false by rw [hSl, hZl, hsz]; simp; omega]
      conv => whnf
      refine ⟨⟨rfl, by rw [hsz]; omega, by rw [hsz]; omega⟩, ?_⟩
      conv => whnf
      rw [hZ]
      refine ⟨⟨by decide, by rw [hZl]; show (1 : Int) < _; omega⟩, ?_⟩
      show evOps _ _ _ _ _ _ _
      unfold evOps
      conv => whnf
      refine ⟨by rw [hZl]; show 1 < _; omega, ?_⟩
      conv => whnf
      refine LoopVC.intro [] (fun i : Nat => [.agg [.int .i64 t, .int .i64 l, .int .i64 k, .int .i64 s, .int .i64 m], .sl .i64 first, .ptr 2 0, .skp, .bool false, .bool true, .ptr 6 0, .int .i64 0, .ptr 8 0, .undef, .int .i64 0, .own 11, .int .i64 i, .undef, .undef, .undef, .undef, .undef, .undef, .undef, .undef, .undef, .undef, .undef, .undef, .undef, .undef, .undef, .undef, .undef, .undef, .undef, .undef, .undef, .undef, .undef, .undef, .undef, .undef, .undef, .undef, .undef, .undef, .undef, .undef, .undef, .undef, .undef, .undef, .undef, .undef, .undef, .undef, .undef, .undef, .undef, .undef, .undef, .undef, .undef, .undef, .undef, .undef, .undef, .undef, .undef, .undef, .undef, .undef, .undef, .undef, .undef, .undef, .undef, .undef, .undef, .undef, .undef, .undef, .undef, .undef, .undef, .undef])
        (fun i => [(2, .box [.int .i64 t, .int .i64 l, .int .i64 k, .int .i64 s, .int .i64 m]), (6, .box [.int .i64 (ofI true t), .int .i64 (ofI true l), .int .i64 (ofI true k), .int .i64 (ofI true s), .int .i64 (ofI true m), .int .i64 (ofI true 0), .int .i64 (ofI true 1), .int .i64 (ofI true 2), .int .i64 (ofI true 3), .int .i64 (ofI true 4), .int .i64 (ofI true (4 + 4 * t)), .int .i64 (ofI true (4 + 4 * t + k)), .int .i64 (ofI true (4 + 4 * t + k + 4 * l))]),
          (8, .box [.sl .i64 (stores Z (initU (ofI true 1) (ofI true (4 + 4 * t + k)) (ofI true l) first mn))]), (11, .arr .i64 (stores Z (initU (ofI true 1) (ofI true (4 + 4 * t + k)) (ofI true l) first i)))])
        (fun i => i ≤ first.length ∧ i ≤ l.toNat) (fun i => first.length - i) 0 (by omega) ⟨?_, rfl⟩ ?_
      · repeat' (first | exact WeakL.nil | refine WeakL.cons ?_ ?_ | exact Weak1.undef _ | exact Weak1.same _)
      rintro i ⟨hi1, hi2⟩
      have hWl := stores_length Z (initU (ofI true 1) (ofI true (4 + 4 * t + k)) (ofI true l) first i)
      conv => whnf
      split
      · rename_i hlt
        have hlt : i < first.length := by have := hlt; simp at this; omega
        conv => whnf
        split
        · rename_i hlt2
          have hlt2 : (i : Int) < l := by have := hlt2; simp at this; omega
          have hc := hcell i hlt2
          conv => whnf
          apply DrawVC.mix
          conv => whnf
          refine ⟨trivial, ?_⟩
          conv => whnf
          refine ⟨⟨by omega, by omega⟩, ?_⟩
          conv => whnf
          refine ⟨⟨by rw [hc]; omega, by rw [hc, hWl, hZl]; omega⟩, ?_⟩
          conv => whnf
          refine ⟨by rw [hc, hWl, hZl]; omega, ?_⟩
          conv => whnf
          refine ⟨by kernel_rfl, ?_⟩
          conv => whnf
          have hw : IntKind.i64.wrap ((i : Int) + 1) = ((i + 1 : Nat) : Int) := by rw [wrap_small (by omega) (by omega)]; rfl
          rw [hw]
          refine ⟨i + 1, by omega, by omega, ?_⟩
          conv => whnf
          refine ⟨?_, ?_⟩
          · repeat' (first | exact WeakL.nil | refine WeakL.cons ?_ ?_ | exact Weak1.undef _ | exact Weak1.same _)
          · rw [stores_succ]
            rfl
        · rename_i hge
          have hge : i = l.toNat := by have := hge; simp at this; omega
          have hmni := hmn3 i hi1 hi2 (.inr hge)
          subst hmni
          conv => whnf
          refine ⟨by omega, ?_⟩
          conv => whnf
          refine ⟨_, rfl, Wk.eq ?_⟩
          simp
      · rename_i hge
        have hge : i = first.length := by have := hge; simp at this; omega
        have hmni := hmn3 i hi1 hi2 (.inl hge)
        subst hmni
        conv => whnf
        refine ⟨by omega, ?_⟩
        conv => whnf
        refine ⟨_, rfl, Wk.eq ?_⟩
        simp
  · simp at h

end Go.Proofs.Ythakgbecpkfeoaa.Ev
