/- Layer 2: the law MemCommutes, walked. -/
import Derived.Test.YthakgbecpkfeoaaLb
set_option linter.unusedVariables false
set_option linter.unusedSimpArgs false
set_option maxRecDepth 100000
namespace Go.Proofs.Ythakgbecpkfeoaa.Ev

/-- May the access be performed? -/
def okA (n : Nat) (a : Acc) : Prop := rightA a.kind a.cell a.old a.new a.bytes = true ∧ 0 ≤ a.cell ∧ a.cell < n
/-- A cell's value behind an access, and whether it succeeded. -/
def nxt (was : Int) (a : Acc) : Int × Bool := nextA was a.kind a.old a.new
theorem doAcc_cases (m : List Int) (a : Acc) : (okA m.length a ∧ doAcc m a = (m.set a.cell.toNat (nxt (m.getD a.cell.toNat 0) a).1, ⟨m.getD a.cell.toNat 0, (nxt (m.getD a.cell.toNat 0) a).2⟩, 0)) ∨
    (¬ okA m.length a ∧ (doAcc m a).2.2 ≠ 0) := by
  rcases doA_cases m a.kind a.cell a.old a.new a.bytes with ⟨hr, hd⟩ | ⟨hr, hc, hd⟩ | ⟨hr, h0, hc, hd⟩
  · exact .inr ⟨fun h => by rw [h.1] at hr; simp at hr, by simp [doAcc, hd]⟩
  · exact .inr ⟨fun h => by have := h.2.2; omega, by simp [doAcc, hd]⟩
  · exact .inl ⟨⟨hr, h0, hc⟩, by simp only [doAcc, hd, nxt]⟩

/-- Two accesses, one behind the other. -/
theorem run2 (m : List Int) (a b : Acc) : (okA m.length a ∧ okA m.length b ∧ runA m [a, b] = .inr (((m.set a.cell.toNat (nxt (m.getD a.cell.toNat 0) a).1).set b.cell.toNat (nxt ((m.set a.cell.toNat (nxt (m.getD a.cell.toNat 0) a).1).getD b.cell.toNat 0) b).1),
      [⟨m.getD a.cell.toNat 0, (nxt (m.getD a.cell.toNat 0) a).2⟩, ⟨(m.set a.cell.toNat (nxt (m.getD a.cell.toNat 0) a).1).getD b.cell.toNat 0, (nxt ((m.set a.cell.toNat (nxt (m.getD a.cell.toNat 0) a).1).getD b.cell.toNat 0) b).2⟩])) ∨
    (¬ (okA m.length a ∧ okA m.length b) ∧ ∃ e, e ≠ 0 ∧ runA m [a, b] = .inl e) := by
  rcases doAcc_cases m a with ⟨ha, hd⟩ | ⟨ha, hd⟩
  · rcases doAcc_cases (m.set a.cell.toNat (nxt (m.getD a.cell.toNat 0) a).1) b with ⟨hb, hd2⟩ | ⟨hb, hd2⟩
    · rw [List.length_set] at hb
      exact .inl ⟨ha, hb, by simp only [runA, hd, hd2, if_true]⟩
    · rw [List.length_set] at hb
      exact .inr ⟨fun h => hb h.2, _, hd2, by simp only [runA, hd, hd2, if_true, if_false]⟩
  · exact .inr ⟨fun h => ha h.1, _, hd, by simp only [runA, hd, if_false]⟩

theorem commutes {m : List Int} {a b : Acc} (hg : a.cell ≠ b.cell ∨ (a.kind = b.kind ∧ (a.kind = 1 ∨ a.kind = 4))) :
    ((allE m [a, b] ≠ 0) ∧ (allE m [b, a] ≠ 0)) ∨ (allE m [a, b] = 0 ∧ allE m [b, a] = 0 ∧ allM m [a, b] = allM m [b, a] ∧ ∃ r1 r2 s1 s2, allR m [a, b] = [r1, r2] ∧ allR m [b, a] = [s1, s2] ∧ ((a.cell ≠ b.cell ∨ a.kind = 1) → r1 = s2 ∧ r2 = s1)) := by
  rcases run2 m a b with ⟨ha, hb, h1⟩ | ⟨hn, e, he, h1⟩
  · rcases run2 m b a with ⟨_, _, h2⟩ | ⟨hn, e, he, h2⟩
    · refine .inr ⟨by simp only [allE, h1], by simp only [allE, h2], ?_, _, _, _, _, by unfold allR; rw [h1], by unfold allR; rw [h2], ?_⟩
      · simp only [allM, h1, h2]
        by_cases hc : a.cell = b.cell
        · obtain ⟨hk, hk2⟩ := hg.resolve_left (fun h => h hc)
          have hlt : b.cell.toNat < m.length := by have := hb.2; omega
          rw [hc]
          rcases hk2 with h | h
          · simp [nxt, nextA, ← hk, h, hlt]
          · simp only [nxt, nextA, ← hk, h, List.set_set]
            simp [hlt]
            congr 1
            rw [IntKind.wrap_i64, IntKind.wrap_i64, IntKind.wrap_i64, IntKind.wrap_i64]
            omega
        · have hne : a.cell.toNat ≠ b.cell.toNat := by have := ha.2; have := hb.2; omega
          rw [List.set_comm _ _ hne]
          simp [List.getD_eq_getElem?_getD, List.getElem?_set_ne hne, List.getElem?_set_ne hne.symm]
      · intro hx
        by_cases hc : a.cell = b.cell
        · have hk1 := hx.resolve_left (fun h => h hc)
          obtain ⟨hk, _⟩ := hg.resolve_left (fun h => h hc)
          have hlt : b.cell.toNat < m.length := by have := hb.2; omega
          rw [hc]
          simp [nxt, nextA, ← hk, hk1, hlt]
        · have hne : a.cell.toNat ≠ b.cell.toNat := by have := ha.2; have := hb.2; omega
          simp [List.getD_eq_getElem?_getD, List.getElem?_set_ne hne, List.getElem?_set_ne hne.symm]
    · exact absurd ⟨hb, ha⟩ hn
  · rcases run2 m b a with ⟨hb, ha, h2⟩ | ⟨_, e', he', h2⟩
    · exact absurd ⟨ha, hb⟩ hn
    · exact .inl ⟨by simp only [allE, h1]; exact he, by simp only [allE, h2]; exact he'⟩

theorem all_length (m : List Int) (l : List Acc) : (allM m l).length = m.length := by
  unfold allM
  split
  · rfl
  · rename_i x _ h; exact (runA_length h).1

def h9 : List AV → Option (Prop × AV)
  | [.agg [.sl .i64 m], .agg [.int .i64 k, .int .i64 c, .int .i64 o, .int .i64 x, .str s], .agg [.int .i64 k', .int .i64 c', .int .i64 o', .int .i64 x', .str s']] => some (True, .bool true)
  | _ => none
set_option maxHeartbeats 4000000 in
theorem w9 : EnvOK Try.prog ⟨tys, (9, .pure h9) :: sp36b⟩ := by
  refine addPure w36 (fn := Try.f9) (by kernel_rfl) (by kernel_rfl) (by kernel_rfl) ?_
  intro args p r h hp
  unfold h9 at h
  split at h
  · rename_i m k c o x s k' c' o' x' s'
    simp only [Option.some.injEq, Prod.mk.injEq] at h
    obtain ⟨rfl, rfl⟩ := h
    conv => whnf
    refine ⟨trivial, ?_⟩
    conv => whnf
    repeat' (split <;> conv => whnf)
    all_goals first
      | exact ⟨_, rfl, Wk.eq rfl⟩
      | skip
    all_goals
      have hm : m.length ≤ 100 := by simp only [decide_eq_false_iff_not] at *; omega
      have hg : c ≠ c' ∨ (k = k' ∧ (k = 1 ∨ k = 4)) := by grind
      refine ⟨⟨by omega, by simp⟩, ?_⟩
      have hl := all_length m [⟨k, c, o, x, s⟩, ⟨k', c', o', x', s'⟩]
      rcases commutes (m := m) (a := ⟨k, c, o, x, s⟩) (b := ⟨k', c', o', x', s'⟩) hg with ⟨e1, e2⟩ | ⟨e1, e2, eM, r1, r2, s1, s2, eR, eS, hx⟩
      · conv => whnf
        refine ⟨⟨by omega, by simp⟩, ?_⟩
        conv => whnf
        repeat' (split <;> conv => whnf)
        all_goals first | (refine ⟨_, rfl, Wk.eq ?_⟩; simp_all; done) | (exfalso; simp_all; done) | skip
      · rw [eR, e1]
        conv => whnf
        refine ⟨⟨by omega, by simp⟩, ?_⟩
        rw [eS, e2, ← eM]
        conv => whnf
        refine DrawVC.quiet (by kernel_rfl) ?_
        conv => whnf
        refine ⟨by rw [hl]; omega, ?_⟩
        conv => whnf
        repeat' (first | (refine ⟨by simp, ?_⟩; conv => whnf) | (split <;> conv => whnf))
        all_goals refine ⟨_, rfl, Wk.eq ?_⟩
        all_goals clear e1 e2 eM eR eS hl
        all_goals first | (simp_all; done) | (exfalso; simp_all; done) | grind
  · simp at h

end Go.Proofs.Ythakgbecpkfeoaa.Ev
