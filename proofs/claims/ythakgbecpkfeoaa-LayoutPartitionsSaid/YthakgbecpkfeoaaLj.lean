/- Layer 15: the law LayoutPartitions, walked. -/
import Derived.Test.YthakgbecpkfeoaaPe
set_option linter.unusedVariables false
set_option linter.unusedSimpArgs false
set_option maxRecDepth 100000
namespace Go.Proofs.Ythakgbecpkfeoaa.Ev

theorem cell_in {f m n z a : Int} (hf : 0 ≤ f ∧ f ≤ 1000000) (hn : 0 ≤ n ∧ n < m) (hm : m ≤ 1000) (hz : z = 4 ∨ z = 1) (ha : 0 ≤ a ∧ a ≤ 3) : cellA f m n z a = f + z * n + a := by
  unfold cellA
  rw [if_pos hn]
  rcases hz with rfl | rfl
  · rw [wrap_small (n := 4 * n) (by omega) (by omega), wrap_small (n := f + 4 * n) (by omega) (by omega), wrap_small (by omega) (by omega)]
  · rw [wrap_small (n := 1 * n) (by omega) (by omega), wrap_small (n := f + 1 * n) (by omega) (by omega), wrap_small (by omega) (by omega)]
theorem cell_out {f m n z a : Int} (hn : ¬ (0 ≤ n ∧ n < m)) : cellA f m n z a = -1 := by
  unfold cellA
  rw [if_neg hn]

/-- When a cell's turn comes: nine kinds to an index. -/
def pos9 (t k c : Int) : Int :=
  if c < 4 + 4 * t then 9 * ((c - 4) / 4) + (c - 4) % 4 else if c < 4 + 4 * t + k then 9 * (c - (4 + 4 * t)) + 4 else 9 * ((c - (4 + 4 * t + k)) / 4) + 5 + (c - (4 + 4 * t + k)) % 4

theorem nine_case {t l k n : Int} (ht : 1 ≤ t ∧ t ≤ 4) (hl : 0 ≤ l ∧ l ≤ 32) (hk : 0 ≤ k ∧ k ≤ 8) (hn : 0 ≤ n) (j : Nat) (hj : j < 9) (P : Int) (hP : (nine t l k 4 (4 + 4 * t) (4 + 4 * t + k) n).getD j 0 = P) :
    (P = -1 ∧ ∀ c, 4 ≤ c → c < 4 + 4 * t + k + 4 * l → pos9 t k c ≠ 9 * n + j) ∨
    ((4 ≤ P ∧ P < 4 + 4 * t + k + 4 * l) ∧ pos9 t k P = 9 * n + j ∧ ∀ c, 4 ≤ c → c < 4 + 4 * t + k + 4 * l → pos9 t k c = 9 * n + j → c = P) := by
  have key : ∀ (f m z a : Int), (f = 4 ∧ m = t ∧ z = 4 ∧ a = j ∧ j < 4) ∨ (f = 4 + 4 * t ∧ m = k ∧ z = 1 ∧ a = 0 ∧ j = 4) ∨ (f = 4 + 4 * t + k ∧ m = l ∧ z = 4 ∧ a = j - 5 ∧ 5 ≤ j) → cellA f m n z a = P →
      (P = -1 ∧ ∀ c, 4 ≤ c → c < 4 + 4 * t + k + 4 * l → pos9 t k c ≠ 9 * n + j) ∨
      ((4 ≤ P ∧ P < 4 + 4 * t + k + 4 * l) ∧ pos9 t k P = 9 * n + j ∧ ∀ c, 4 ≤ c → c < 4 + 4 * t + k + 4 * l → pos9 t k c = 9 * n + j → c = P) := by
    intro f m z a hcase hP
    by_cases hm : n < m
    · right
      rw [cell_in (by omega) ⟨hn, hm⟩ (by omega) (by omega) (by omega)] at hP
      have hP' : P = f + (if z = 4 then 4 * n else n) + a := by
        rcases hcase with ⟨_, _, rfl, _⟩ | ⟨_, _, rfl, _⟩ | ⟨_, _, rfl, _⟩ <;> simp <;> omega
      clear hP
      rcases hcase with ⟨rfl, rfl, rfl, rfl, hj4⟩ | ⟨rfl, rfl, rfl, rfl, hj4⟩ | ⟨rfl, rfl, rfl, rfl, hj4⟩
      all_goals simp only [if_true, show ((1 : Int) = 4) = False by simp, if_false] at hP'
      all_goals refine ⟨by omega, ?_, ?_⟩
      all_goals first
        | (unfold pos9; split <;> (try split) <;> omega)
        | (intro c h1 h2 h3; unfold pos9 at h3; split at h3 <;> (try split at h3) <;> omega)
    · left
      rw [cell_out (by omega)] at hP
      refine ⟨hP.symm, fun c h1 h2 h3 => ?_⟩
      unfold pos9 at h3
      rcases hcase with ⟨rfl, rfl, rfl, rfl, hj4⟩ | ⟨rfl, rfl, rfl, rfl, hj4⟩ | ⟨rfl, rfl, rfl, rfl, hj4⟩
      all_goals split at h3 <;> (try split at h3) <;> omega
  have hj' : j = 0 ∨ j = 1 ∨ j = 2 ∨ j = 3 ∨ j = 4 ∨ j = 5 ∨ j = 6 ∨ j = 7 ∨ j = 8 := by omega
  rcases hj' with rfl | rfl | rfl | rfl | rfl | rfl | rfl | rfl | rfl
  · exact key 4 t 4 0 (.inl ⟨rfl, rfl, rfl, rfl, by omega⟩) hP
  · exact key 4 t 4 1 (.inl ⟨rfl, rfl, rfl, rfl, by omega⟩) hP
  · exact key 4 t 4 2 (.inl ⟨rfl, rfl, rfl, rfl, by omega⟩) hP
  · exact key 4 t 4 3 (.inl ⟨rfl, rfl, rfl, rfl, by omega⟩) hP
  · exact key (4 + 4 * t) k 1 0 (.inr (.inl ⟨rfl, rfl, rfl, rfl, rfl⟩)) hP
  · exact key (4 + 4 * t + k) l 4 0 (.inr (.inr ⟨rfl, rfl, rfl, rfl, by omega⟩)) hP
  · exact key (4 + 4 * t + k) l 4 1 (.inr (.inr ⟨rfl, rfl, rfl, rfl, by omega⟩)) hP
  · exact key (4 + 4 * t + k) l 4 2 (.inr (.inr ⟨rfl, rfl, rfl, rfl, by omega⟩)) hP
  · exact key (4 + 4 * t + k) l 4 3 (.inr (.inr ⟨rfl, rfl, rfl, rfl, by omega⟩)) hP

/-- How often each cell has been met. -/
def HadIs (t l k : Int) (had : List Int) (q : Int) : Prop :=
  (had.length : Int) = 4 + 4 * t + k + 4 * l ∧ ∀ c : Nat, c < had.length → had.getD c 0 = if (c : Int) < 4 ∨ pos9 t k c < q then 1 else 0

theorem getD_set (l : List Int) (i j : Nat) (v : Int) : (l.set i v).getD j 0 = if i = j ∧ j < l.length then v else l.getD j 0 := by
  simp only [List.getD_eq_getElem?_getD, List.getElem?_set]
  by_cases h : i = j
  · subst h
    by_cases h2 : i < l.length <;> simp [h2]
  · simp [h]

theorem pos9_nonneg {t k c : Int} (ht : 1 ≤ t) (hk : 0 ≤ k) (hc : 4 ≤ c) : 0 ≤ pos9 t k c := by
  unfold pos9; split <;> (try split) <;> omega
theorem pos9_lt {t l k c : Int} (ht : 1 ≤ t ∧ t ≤ 4) (hl : 0 ≤ l ∧ l ≤ 32) (hk : 0 ≤ k ∧ k ≤ 8) (hc : 4 ≤ c) (h : c < 4 + 4 * t + k + 4 * l) : pos9 t k c < 360 := by
  unfold pos9; split <;> (try split) <;> omega

theorem HadIs.skip {t l k n : Int} {had : List Int} {j : Nat} (h : HadIs t l k had (9 * n + j)) (hno : ∀ c, 4 ≤ c → c < 4 + 4 * t + k + 4 * l → pos9 t k c ≠ 9 * n + j) : HadIs t l k had (9 * n + (j + 1 : Nat)) := by
  refine ⟨h.1, fun c hc => ?_⟩
  rw [h.2 c hc]
  have := hno c
  by_cases h4 : (c : Int) < 4
  · simp [h4]
  · have h5 := this (by omega) (by have := h.1; omega)
    have : (pos9 t k c < 9 * n + j) ↔ (pos9 t k c < 9 * n + (j + 1 : Nat)) := by omega
    simp [h4, this]
theorem HadIs.hit {t l k n P : Int} {had : List Int} {j : Nat} (h : HadIs t l k had (9 * n + j)) (hP : 4 ≤ P ∧ P < 4 + 4 * t + k + 4 * l) (hp : pos9 t k P = 9 * n + j) (hu : ∀ c, 4 ≤ c → c < 4 + 4 * t + k + 4 * l → pos9 t k c = 9 * n + j → c = P) :
    HadIs t l k (had.set P.toNat (IntKind.i64.wrap (had.getD P.toNat 0 + 1))) (9 * n + (j + 1 : Nat)) := by
  have hlt : P.toNat < had.length := by have := h.1; omega
  have h0 : had.getD P.toNat 0 = 0 := by
    rw [h.2 _ hlt, show ((P.toNat : Nat) : Int) = P by omega, hp]
    simp; omega
  refine ⟨by rw [List.length_set]; exact h.1, fun c hc => ?_⟩
  rw [List.length_set] at hc
  rw [getD_set, h0, show IntKind.i64.wrap (0 + 1) = 1 from wrap_small (by omega) (by omega)]
  by_cases e : P.toNat = c
  · rw [if_pos ⟨e, hc⟩, if_pos]
    right
    rw [show (c : Int) = P by omega, hp]
    omega
  · rw [if_neg (by simp [e]), h.2 c hc]
    by_cases h4 : (c : Int) < 4
    · simp [h4]
    · have hne : pos9 t k c ≠ 9 * n + j := by
        intro he
        have := hu c (by omega) (by have := h.1; omega) he
        omega
      have : (pos9 t k c < 9 * n + j) ↔ (pos9 t k c < 9 * n + (j + 1 : Nat)) := by omega
      simp [h4, this]

theorem had_start {t l k : Int} (ht : 1 ≤ t ∧ t ≤ 4) (hl : 0 ≤ l ∧ l ≤ 32) (hk : 0 ≤ k ∧ k ≤ 8) (had : List Int) (hlen : (had.length : Int) = 4 + 4 * t + k + 4 * l) (h : ∀ c, c < had.length → had.getD c 0 = if c < 4 then 1 else 0) : HadIs t l k had 0 := by
  refine ⟨hlen, fun c hc => ?_⟩
  rw [h c hc]
  by_cases h4 : c < 4
  · have : (c : Int) < 4 := by omega
    simp [h4, this]
  · have h5 : ¬ (c : Int) < 4 := by omega
    have := pos9_nonneg (t := t) (k := k) (c := c) (by omega) (by omega) (by omega)
    have h6 : ¬ pos9 t k c < 0 := by omega
    simp [h4, h5, h6]

end Go.Proofs.Ythakgbecpkfeoaa.Ev
