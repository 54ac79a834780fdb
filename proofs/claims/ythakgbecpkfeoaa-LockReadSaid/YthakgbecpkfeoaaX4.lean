/- Parts of the proof, joined. -/
import Derived.Test.YthakgbecpkfeoaaX3
import Derived.Recover
import Derived.Tactics
import Derived.Tactics2
import Derived.Laws.Pointers
/- Layer 16: the reference's next step. -/
set_option linter.unusedVariables false
set_option linter.unusedSimpArgs false
set_option maxRecDepth 100000
namespace Go.Proofs.Ythakgbecpkfeoaa.Ev

structure NX where
  acc : Acc
  val : Int
  ver : Int
  is : Bool
  err : Int
  done : Bool
def toldN (c : CurS) (v w : Int) (is : Bool) : NX := ⟨toldA c, toldI c v, toldI c w, toldB c is, 0, !c.stop⟩
def c0 (log : List Res) : CurS := ⟨log, 0, ⟨0, 0, 0, 0, ⟨#[]⟩⟩, false⟩
def nxtT (r : CurS × Int × Int × Bool) : NX := if r.2.2.2 = true then toldN r.1 0 r.2.1 true else toldN r.1 r.2.2.1 0 false
def nxtL (r : CurS × Int × Bool) : NX := if r.2.2 = true then toldN r.1 0 0 true else toldN r.1 r.2.1 0 false
def nxtR (r : CurS × Int × Int × Int × Bool) : NX := if r.2.2.2.2 = true then toldN r.1 r.2.1 r.2.2.1 true else toldN r.1 r.2.2.2.1 (-1) false
/-- The next step of an operation over a log. -/
def nxt (wd vl kind B me : Int) (log : List Res) : NX :=
  if kind < 1 ∨ kind > 4 ∨ wd < 0 then ⟨a0, 0, 0, false, 1, true⟩
  else if kind = 1 then nxtT (tkC (c0 log) wd me)
  else if kind = 2 then toldN (gvC (c0 log) wd B) 0 0 true
  else if kind = 3 then nxtL (lkC (c0 log) wd B)
  else nxtR (rdC (c0 log) wd vl)
theorem nxt_bad {wd vl kind B me : Int} {log : List Res} (h : kind < 1 ∨ kind > 4 ∨ wd < 0) : nxt wd vl kind B me log = ⟨a0, 0, 0, false, 1, true⟩ := by unfold nxt; rw [if_pos h]
theorem nxt_take {wd vl B me : Int} {log : List Res} (h : ¬ wd < 0) : nxt wd vl 1 B me log = (if (tkC ⟨log, 0, ⟨0, 0, 0, 0, ⟨#[]⟩⟩, false⟩ wd me).2.2.2 = true then toldN (tkC ⟨log, 0, ⟨0, 0, 0, 0, ⟨#[]⟩⟩, false⟩ wd me).1 0 (tkC ⟨log, 0, ⟨0, 0, 0, 0, ⟨#[]⟩⟩, false⟩ wd me).2.1 true else toldN (tkC ⟨log, 0, ⟨0, 0, 0, 0, ⟨#[]⟩⟩, false⟩ wd me).1 (tkC ⟨log, 0, ⟨0, 0, 0, 0, ⟨#[]⟩⟩, false⟩ wd me).2.2.1 0 false) := by
  unfold nxt; rw [if_neg (by omega), if_pos rfl]; rfl
theorem nxt_give {wd vl B me : Int} {log : List Res} (h : ¬ wd < 0) : nxt wd vl 2 B me log = toldN (gvC ⟨log, 0, ⟨0, 0, 0, 0, ⟨#[]⟩⟩, false⟩ wd B) 0 0 true := by
  unfold nxt; rw [if_neg (by omega), if_neg (by omega), if_pos rfl]; rfl
theorem nxt_look {wd vl B me : Int} {log : List Res} (h : ¬ wd < 0) : nxt wd vl 3 B me log = (if (lkC ⟨log, 0, ⟨0, 0, 0, 0, ⟨#[]⟩⟩, false⟩ wd B).2.2 = true then toldN (lkC ⟨log, 0, ⟨0, 0, 0, 0, ⟨#[]⟩⟩, false⟩ wd B).1 0 0 true else toldN (lkC ⟨log, 0, ⟨0, 0, 0, 0, ⟨#[]⟩⟩, false⟩ wd B).1 (lkC ⟨log, 0, ⟨0, 0, 0, 0, ⟨#[]⟩⟩, false⟩ wd B).2.1 0 false) := by
  unfold nxt; rw [if_neg (by omega), if_neg (by omega), if_neg (by omega), if_pos rfl]; rfl
theorem nxt_read {wd vl B me : Int} {log : List Res} (h : ¬ wd < 0) : nxt wd vl 4 B me log = (if (rdC ⟨log, 0, ⟨0, 0, 0, 0, ⟨#[]⟩⟩, false⟩ wd vl).2.2.2.2 = true then toldN (rdC ⟨log, 0, ⟨0, 0, 0, 0, ⟨#[]⟩⟩, false⟩ wd vl).1 (rdC ⟨log, 0, ⟨0, 0, 0, 0, ⟨#[]⟩⟩, false⟩ wd vl).2.1 (rdC ⟨log, 0, ⟨0, 0, 0, 0, ⟨#[]⟩⟩, false⟩ wd vl).2.2.1 true else toldN (rdC ⟨log, 0, ⟨0, 0, 0, 0, ⟨#[]⟩⟩, false⟩ wd vl).1 (rdC ⟨log, 0, ⟨0, 0, 0, 0, ⟨#[]⟩⟩, false⟩ wd vl).2.2.2.1 (-1) false) := by
  unfold nxt; rw [if_neg (by omega), if_neg (by omega), if_neg (by omega), if_neg (by omega)]; rfl
theorem curE (c : CurS) : (⟨c.log, c.pos, ⟨c.ask.kind, c.ask.cell, c.ask.old, c.ask.new, c.ask.bytes⟩, c.stop⟩ : CurS) = c := rfl

def h55 : List AV → Option (Prop × AV)
  | [.agg [.int .i64 t, .int .i64 l, .int .i64 k, .int .i64 s, .int .i64 m, .int .i64 c, .int .i64 st, .int .i64 lg, .int .i64 en, .int .i64 th, .int .i64 lk, .int .i64 lo, .int .i64 sz], .int .i64 me, .agg [.int .i64 kind, .int .i64 A, .int .i64 B, .int .i64 tr, .int .i64 m1, .int .i64 m2, .int .i64 m3, .sl .i3 seen, .sl .i2 wr, .sl .bl du], .sl .res log] => some ((0 ≤ me ∧ me ≤ 2) ∧ log.length ≤ 1000000 ∧ ∀ r ∈ log, inR r.val, .tup [.agg (accV (nxt (cellA lo l A 4 0) (cellA lo l A 4 1) kind B me log).acc), .agg [.int .i64 (nxt (cellA lo l A 4 0) (cellA lo l A 4 1) kind B me log).val, .int .i64 (nxt (cellA lo l A 4 0) (cellA lo l A 4 1) kind B me log).ver, .int .i64 0, .int .i64 0, .bool (nxt (cellA lo l A 4 0) (cellA lo l A 4 1) kind B me log).is, .bool false, .int .i64 (nxt (cellA lo l A 4 0) (cellA lo l A 4 1) kind B me log).err], .bool (nxt (cellA lo l A 4 0) (cellA lo l A 4 1) kind B me log).done])
  | [.agg [.int .i64 t, .int .i64 l, .int .i64 k, .int .i64 s, .int .i64 m, .int .i64 c, .int .i64 st, .int .i64 lg, .int .i64 en, .int .i64 th, .int .i64 lk, .int .i64 lo, .int .i64 sz], .int .i64 me, .agg [.int .i64 kind, .int .i64 A, .int .i64 B, .int .i64 tr, .int .i64 m1, .int .i64 m2, .int .i64 m3, .nil, .nil, .nil], .sl .res log] => some ((0 ≤ me ∧ me ≤ 2) ∧ log.length ≤ 1000000 ∧ ∀ r ∈ log, inR r.val, .tup [.agg (accV (nxt (cellA lo l A 4 0) (cellA lo l A 4 1) kind B me log).acc), .agg [.int .i64 (nxt (cellA lo l A 4 0) (cellA lo l A 4 1) kind B me log).val, .int .i64 (nxt (cellA lo l A 4 0) (cellA lo l A 4 1) kind B me log).ver, .int .i64 0, .int .i64 0, .bool (nxt (cellA lo l A 4 0) (cellA lo l A 4 1) kind B me log).is, .bool false, .int .i64 (nxt (cellA lo l A 4 0) (cellA lo l A 4 1) kind B me log).err], .bool (nxt (cellA lo l A 4 0) (cellA lo l A 4 1) kind B me log).done])
  | _ => none
theorem w55 : EnvOK Try.prog ⟨tys, (55, .pure h55) :: sp93⟩ := by
  refine addPure w93 (fn := Try.f55) (by kernel_rfl) (by kernel_rfl) (by kernel_rfl) ?_
  intro args p r h hp
  unfold h55 at h
  split at h
  · rename_i t l k s m c st lg en th lk lo sz me kind A B tr m1 m2 m3 seen wr du log
    simp only [Option.some.injEq, Prod.mk.injEq] at h
    obtain ⟨rfl, rfl⟩ := h
    obtain ⟨hme, hll, hin⟩ := hp
    have hok : fineC ⟨log, 0, ⟨0, 0, 0, 0, ⟨#[]⟩⟩, false⟩ := ⟨⟨⟨by simp, by simp⟩, hll⟩, hin⟩
    conv => whnf
    split
    · rename_i h1
      have h1 : kind < 1 := by simpa using h1
      conv => whnf
      refine ⟨_, rfl, Wk.eq ?_⟩
      rw [nxt_bad (.inl h1)]
      rfl
    rename_i h1
    have h1 : ¬ kind < 1 := by simpa using h1
    conv => whnf
    split
    · rename_i h2
      have h2 : kind > 4 := by simpa using h2
      conv => whnf
      refine ⟨_, rfl, Wk.eq ?_⟩
      rw [nxt_bad (.inr (.inl h2))]
      rfl
    rename_i h2
    have h2 : ¬ kind > 4 := by simpa using h2
    conv => whnf
    refine ⟨trivial, ?_⟩
    conv => whnf
    split
    · rename_i h3
      have h3 : cellA lo l A 4 0 < 0 := by simpa using h3
      conv => whnf
      refine ⟨_, rfl, Wk.eq ?_⟩
      rw [nxt_bad (.inr (.inr h3))]
      rfl
    rename_i h3
    have h3 : ¬ cellA lo l A 4 0 < 0 := by simpa using h3
    have hk : kind = 1 ∨ kind = 2 ∨ kind = 3 ∨ kind = 4 := by omega
    rcases hk with rfl | rfl | rfl | rfl
    · conv => whnf
      refine ⟨⟨hok, hme⟩, ?_⟩
      conv => whnf
      split
      · rename_i hw
        have hw : (tkC ⟨log, 0, ⟨0, 0, 0, 0, ⟨#[]⟩⟩, false⟩ (cellA lo l A 4 0) me).2.2.2 = true := hw
        conv => whnf
        refine ⟨trivial, ?_⟩
        conv => whnf
        refine ⟨_, rfl, Wk.eq ?_⟩
        rw [nxt_take h3]
        generalize tkC ⟨log, 0, ⟨0, 0, 0, 0, ⟨#[]⟩⟩, false⟩ (cellA lo l A 4 0) me = r at hw ⊢
        obtain ⟨⟨L, ps, ⟨q1, q2, q3, q4, q5⟩, stop⟩, v1, v2, bb⟩ := r
        dsimp only at hw ⊢
        subst hw
        cases stop <;> rfl
      · rename_i hw
        have hw : (tkC ⟨log, 0, ⟨0, 0, 0, 0, ⟨#[]⟩⟩, false⟩ (cellA lo l A 4 0) me).2.2.2 = false := hw
        conv => whnf
        refine ⟨trivial, ?_⟩
        conv => whnf
        refine ⟨_, rfl, Wk.eq ?_⟩
        rw [nxt_take h3]
        generalize tkC ⟨log, 0, ⟨0, 0, 0, 0, ⟨#[]⟩⟩, false⟩ (cellA lo l A 4 0) me = r at hw ⊢
        obtain ⟨⟨L, ps, ⟨q1, q2, q3, q4, q5⟩, stop⟩, v1, v2, bb⟩ := r
        dsimp only at hw ⊢
        subst hw
        cases stop <;> rfl
    · conv => whnf
      refine ⟨hok, ?_⟩
      conv => whnf
      refine ⟨trivial, ?_⟩
      conv => whnf
      refine ⟨_, rfl, Wk.eq ?_⟩
      rw [nxt_give h3]
      generalize gvC ⟨log, 0, ⟨0, 0, 0, 0, ⟨#[]⟩⟩, false⟩ (cellA lo l A 4 0) B = r
      obtain ⟨L, ps, ⟨q1, q2, q3, q4, q5⟩, stop⟩ := r
      cases stop <;> rfl
    · conv => whnf
      refine ⟨hok, ?_⟩
      conv => whnf
      split
      · rename_i hw
        have hw : (!(lkC ⟨log, 0, ⟨0, 0, 0, 0, ⟨#[]⟩⟩, false⟩ (cellA lo l A 4 0) B).2.2) = true := hw
        rw [Bool.not_eq_true'] at hw
        conv => whnf
        refine ⟨trivial, ?_⟩
        conv => whnf
        refine ⟨_, rfl, Wk.eq ?_⟩
        rw [nxt_look h3]
        generalize lkC ⟨log, 0, ⟨0, 0, 0, 0, ⟨#[]⟩⟩, false⟩ (cellA lo l A 4 0) B = r at hw ⊢
        obtain ⟨⟨L, ps, ⟨q1, q2, q3, q4, q5⟩, stop⟩, v1, bb⟩ := r
        dsimp only at hw ⊢
        subst hw
        cases stop <;> rfl
      · rename_i hw
        have hw : (!(lkC ⟨log, 0, ⟨0, 0, 0, 0, ⟨#[]⟩⟩, false⟩ (cellA lo l A 4 0) B).2.2) = false := hw
        rw [Bool.not_eq_false'] at hw
        conv => whnf
        refine ⟨trivial, ?_⟩
        conv => whnf
        refine ⟨_, rfl, Wk.eq ?_⟩
        rw [nxt_look h3]
        generalize lkC ⟨log, 0, ⟨0, 0, 0, 0, ⟨#[]⟩⟩, false⟩ (cellA lo l A 4 0) B = r at hw ⊢
        obtain ⟨⟨L, ps, ⟨q1, q2, q3, q4, q5⟩, stop⟩, v1, bb⟩ := r
        dsimp only at hw ⊢
        subst hw
        cases stop <;> rfl
    · conv => whnf
      refine ⟨hok, ?_⟩
      conv => whnf
      split
      · rename_i hw
        have hw : (rdC ⟨log, 0, ⟨0, 0, 0, 0, ⟨#[]⟩⟩, false⟩ (cellA lo l A 4 0) (cellA lo l A 4 1)).2.2.2.2 = true := hw
        conv => whnf
        refine ⟨trivial, ?_⟩
        conv => whnf
        refine ⟨_, rfl, Wk.eq ?_⟩
        rw [nxt_read h3]
        generalize rdC ⟨log, 0, ⟨0, 0, 0, 0, ⟨#[]⟩⟩, false⟩ (cellA lo l A 4 0) (cellA lo l A 4 1) = r at hw ⊢
        obtain ⟨⟨L, ps, ⟨q1, q2, q3, q4, q5⟩, stop⟩, v1, v2, v3, bb⟩ := r
        dsimp only at hw ⊢
        subst hw
        cases stop <;> rfl
      · rename_i hw
        have hw : (rdC ⟨log, 0, ⟨0, 0, 0, 0, ⟨#[]⟩⟩, false⟩ (cellA lo l A 4 0) (cellA lo l A 4 1)).2.2.2.2 = false := hw
        conv => whnf
        refine ⟨trivial, ?_⟩
        conv => whnf
        refine ⟨_, rfl, Wk.eq ?_⟩
        rw [nxt_read h3]
        generalize rdC ⟨log, 0, ⟨0, 0, 0, 0, ⟨#[]⟩⟩, false⟩ (cellA lo l A 4 0) (cellA lo l A 4 1) = r at hw ⊢
        obtain ⟨⟨L, ps, ⟨q1, q2, q3, q4, q5⟩, stop⟩, v1, v2, v3, bb⟩ := r
        dsimp only at hw ⊢
        subst hw
        cases stop <;> rfl
  · rename_i t l k s m c st lg en th lk lo sz me kind A B tr m1 m2 m3  log
    simp only [Option.some.injEq, Prod.mk.injEq] at h
    obtain ⟨rfl, rfl⟩ := h
    obtain ⟨hme, hll, hin⟩ := hp
    have hok : fineC ⟨log, 0, ⟨0, 0, 0, 0, ⟨#[]⟩⟩, false⟩ := ⟨⟨⟨by simp, by simp⟩, hll⟩, hin⟩
    conv => whnf
    split
    · rename_i h1
      have h1 : kind < 1 := by simpa using h1
      conv => whnf
      refine ⟨_, rfl, Wk.eq ?_⟩
      rw [nxt_bad (.inl h1)]
      rfl
    rename_i h1
    have h1 : ¬ kind < 1 := by simpa using h1
    conv => whnf
    split
    · rename_i h2
      have h2 : kind > 4 := by simpa using h2
      conv => whnf
      refine ⟨_, rfl, Wk.eq ?_⟩
      rw [nxt_bad (.inr (.inl h2))]
      rfl
    rename_i h2
    have h2 : ¬ kind > 4 := by simpa using h2
    conv => whnf
    refine ⟨trivial, ?_⟩
    conv => whnf
    split
    · rename_i h3
      have h3 : cellA lo l A 4 0 < 0 := by simpa using h3
      conv => whnf
      refine ⟨_, rfl, Wk.eq ?_⟩
      rw [nxt_bad (.inr (.inr h3))]
      rfl
    rename_i h3
    have h3 : ¬ cellA lo l A 4 0 < 0 := by simpa using h3
    have hk : kind = 1 ∨ kind = 2 ∨ kind = 3 ∨ kind = 4 := by omega
    rcases hk with rfl | rfl | rfl | rfl
    · conv => whnf
      refine ⟨⟨hok, hme⟩, ?_⟩
      conv => whnf
      split
      · rename_i hw
        have hw : (tkC ⟨log, 0, ⟨0, 0, 0, 0, ⟨#[]⟩⟩, false⟩ (cellA lo l A 4 0) me).2.2.2 = true := hw
        conv => whnf
        refine ⟨trivial, ?_⟩
        conv => whnf
        refine ⟨_, rfl, Wk.eq ?_⟩
        rw [nxt_take h3]
        generalize tkC ⟨log, 0, ⟨0, 0, 0, 0, ⟨#[]⟩⟩, false⟩ (cellA lo l A 4 0) me = r at hw ⊢
        obtain ⟨⟨L, ps, ⟨q1, q2, q3, q4, q5⟩, stop⟩, v1, v2, bb⟩ := r
        dsimp only at hw ⊢
        subst hw
        cases stop <;> rfl
      · rename_i hw
        have hw : (tkC ⟨log, 0, ⟨0, 0, 0, 0, ⟨#[]⟩⟩, false⟩ (cellA lo l A 4 0) me).2.2.2 = false := hw
        conv => whnf
        refine ⟨trivial, ?_⟩
        conv => whnf
        refine ⟨_, rfl, Wk.eq ?_⟩
        rw [nxt_take h3]
        generalize tkC ⟨log, 0, ⟨0, 0, 0, 0, ⟨#[]⟩⟩, false⟩ (cellA lo l A 4 0) me = r at hw ⊢
        obtain ⟨⟨L, ps, ⟨q1, q2, q3, q4, q5⟩, stop⟩, v1, v2, bb⟩ := r
        dsimp only at hw ⊢
        subst hw
        cases stop <;> rfl
    · conv => whnf
      refine ⟨hok, ?_⟩
      conv => whnf
      refine ⟨trivial, ?_⟩
      conv => whnf
      refine ⟨_, rfl, Wk.eq ?_⟩
      rw [nxt_give h3]
      generalize gvC ⟨log, 0, ⟨0, 0, 0, 0, ⟨#[]⟩⟩, false⟩ (cellA lo l A 4 0) B = r
      obtain ⟨L, ps, ⟨q1, q2, q3, q4, q5⟩, stop⟩ := r
      cases stop <;> rfl
    · conv => whnf
      refine ⟨hok, ?_⟩
      conv => whnf
      split
      · rename_i hw
        have hw : (!(lkC ⟨log, 0, ⟨0, 0, 0, 0, ⟨#[]⟩⟩, false⟩ (cellA lo l A 4 0) B).2.2) = true := hw
        rw [Bool.not_eq_true'] at hw
        conv => whnf
        refine ⟨trivial, ?_⟩
        conv => whnf
        refine ⟨_, rfl, Wk.eq ?_⟩
        rw [nxt_look h3]
        generalize lkC ⟨log, 0, ⟨0, 0, 0, 0, ⟨#[]⟩⟩, false⟩ (cellA lo l A 4 0) B = r at hw ⊢
        obtain ⟨⟨L, ps, ⟨q1, q2, q3, q4, q5⟩, stop⟩, v1, bb⟩ := r
        dsimp only at hw ⊢
        subst hw
        cases stop <;> rfl
      · rename_i hw
        have hw : (!(lkC ⟨log, 0, ⟨0, 0, 0, 0, ⟨#[]⟩⟩, false⟩ (cellA lo l A 4 0) B).2.2) = false := hw
        rw [Bool.not_eq_false'] at hw
        conv => whnf
        refine ⟨trivial, ?_⟩
        conv => whnf
        refine ⟨_, rfl, Wk.eq ?_⟩
        rw [nxt_look h3]
        generalize lkC ⟨log, 0, ⟨0, 0, 0, 0, ⟨#[]⟩⟩, false⟩ (cellA lo l A 4 0) B = r at hw ⊢
        obtain ⟨⟨L, ps, ⟨q1, q2, q3, q4, q5⟩, stop⟩, v1, bb⟩ := r
        dsimp only at hw ⊢
        subst hw
        cases stop <;> rfl
    · conv => whnf
      refine ⟨hok, ?_⟩
      conv => whnf
      split
      · rename_i hw
        have hw : (rdC ⟨log, 0, ⟨0, 0, 0, 0, ⟨#[]⟩⟩, false⟩ (cellA lo l A 4 0) (cellA lo l A 4 1)).2.2.2.2 = true := hw
        conv => whnf
        refine ⟨trivial, ?_⟩
        conv => whnf
        refine ⟨_, rfl, Wk.eq ?_⟩
        rw [nxt_read h3]
        generalize rdC ⟨log, 0, ⟨0, 0, 0, 0, ⟨#[]⟩⟩, false⟩ (cellA lo l A 4 0) (cellA lo l A 4 1) = r at hw ⊢
        obtain ⟨⟨L, ps, ⟨q1, q2, q3, q4, q5⟩, stop⟩, v1, v2, v3, bb⟩ := r
        dsimp only at hw ⊢
        subst hw
        cases stop <;> rfl
      · rename_i hw
        have hw : (rdC ⟨log, 0, ⟨0, 0, 0, 0, ⟨#[]⟩⟩, false⟩ (cellA lo l A 4 0) (cellA lo l A 4 1)).2.2.2.2 = false := hw
        conv => whnf
        refine ⟨trivial, ?_⟩
        conv => whnf
        refine ⟨_, rfl, Wk.eq ?_⟩
        rw [nxt_read h3]
        generalize rdC ⟨log, 0, ⟨0, 0, 0, 0, ⟨#[]⟩⟩, false⟩ (cellA lo l A 4 0) (cellA lo l A 4 1) = r at hw ⊢
        obtain ⟨⟨L, ps, ⟨q1, q2, q3, q4, q5⟩, stop⟩, v1, v2, v3, bb⟩ := r
        dsimp only at hw ⊢
        subst hw
        cases stop <;> rfl
  · simp at h
abbrev sp55 : List (Nat × Spec) := (55, .pure h55) :: sp93

end Go.Proofs.Ythakgbecpkfeoaa.Ev

/- Layer 16: an access, replayed against the log: play's closure, and the methods of Do. -/
set_option linter.unusedVariables false
set_option linter.unusedSimpArgs false
set_option maxRecDepth 100000
namespace Go.Proofs.Ythakgbecpkfeoaa.Ev

/-- The panic at the end of the log. -/
def panA (a : Acc) : Out := .pan (.ifc 136 (.agg (accV a)))
def outR (log : List Res) (at' : Int) (a : Acc) (f : Res → AV) : Out := match log[at'.toNat]? with
  | none => panA a
  | some r => .ret (f r)
def posR (log : List Res) (at' : Int) : Int := match log[at'.toNat]? with
  | none => at'
  | some _ => at' + 1
def okP (log : List Res) (at' : Int) : Prop := (0 ≤ at' ∧ at' ≤ 1000000) ∧ log.length ≤ 1000000
def h98 : List AV → List (List AV) → Option (Prop × Out × List (List AV))
  | [.agg [.int .i64 ak, .int .i64 ac, .int .i64 ao, .int .i64 an, .str ab], .ptr 1000 0, .kp [.sl .res log]], [[.int .i64 at']] =>
    some (okP log at', outR log at' ⟨ak, ac, ao, an, ab⟩ fun r => .agg [.int .i64 r.val, .bool r.ok], [[.int .i64 (posR log at')]])
  | _, _ => none
theorem w98 : EnvOK Try.prog ⟨tys, (98, .full h98) :: sp55⟩ := by
  refine addFull w55 (fn := Try.f98) (by kernel_rfl) (by kernel_rfl) (by kernel_rfl) ?_
  intro args bs Q h
  unfold detS h98 at h
  split at h
  · rename_i p out bs' hs
    split at hs
    · rename_i ak ac ao an ab log at'
      simp only [Option.some.injEq, Prod.mk.injEq] at hs
      obtain ⟨rfl, rfl, rfl⟩ := hs
      obtain ⟨⟨⟨h0, h1⟩, h2⟩, hQ⟩ := h
      conv => whnf
      split
      · rename_i hge
        have hge : at' ≥ log.length := by simpa using hge
        have hn : log[at'.toNat]? = none := List.getElem?_eq_none (by omega)
        conv => whnf
        simp only [outR, posR, hn] at hQ
        exact hQ
      · rename_i hge
        have hge : ¬ at' ≥ log.length := by simpa using hge
        have hlt : at'.toNat < log.length := by omega
        have hn : log[at'.toNat]? = some log[at'.toNat] := List.getElem?_eq_getElem hlt
        conv => whnf
        have hw1 : IntKind.i64.wrap (at' + 1) = at' + 1 := wrap_small (by omega) (by omega)
        have hw2 : IntKind.i64.wrap (IntKind.i64.wrap (at' + 1) - 1) = at' := by rw [hw1, wrap_small (by omega) (by omega)]; omega
        refine ⟨by rw [hw2]; omega, ?_⟩
        conv => whnf
        simp only [outR, posR, hn] at hQ
        rw [hw2, hw1]
        have hg : log.getD at'.toNat ET.res.dflt = log[at'.toNat] := by simp [List.getD_eq_getElem?_getD, hn]
        rw [hg]
        exact hQ
    · simp at hs
  · exact h.elim
abbrev sp98 : List (Nat × Spec) := (98, .full h98) :: sp55

def h101 : List AV → List (List AV) → Option (Prop × Out × List (List AV))
  | [.clo 98 [.ptr 1000 0, .kp [.sl .res log]], .int .i64 cell], [[.int .i64 at']] => some (okP log at', outR log at' (accL cell) fun r => .int .i64 r.val, [[.int .i64 (posR log at')]])
  | _, _ => none
theorem w101 : EnvOK Try.prog ⟨tys, (101, .full h101) :: sp98⟩ := by
  refine addFull w98 (fn := Try.f101) (by kernel_rfl) (by kernel_rfl) (by kernel_rfl) ?_
  intro args bs Q h
  unfold detS h101 at h
  split at h
  · rename_i p out bs' hs
    split at hs
    · rename_i log cell at'
      simp only [Option.some.injEq, Prod.mk.injEq] at hs
      obtain ⟨rfl, rfl, rfl⟩ := hs
      obtain ⟨hok, hQ⟩ := h
      conv => whnf
      refine ⟨hok, ?_⟩
      unfold outR posR at hQ
      cases hn : log[at'.toNat]? with
      | none =>
        rw [hn] at hQ
        unfold outR posR
        rw [hn]
        conv => whnf
        exact hQ
      | some r =>
        rw [hn] at hQ
        unfold outR posR
        rw [hn]
        conv => whnf
        exact hQ
    · simp at hs
  · exact h.elim
abbrev sp101 : List (Nat × Spec) := (101, .full h101) :: sp98

def h104 : List AV → List (List AV) → Option (Prop × Out × List (List AV))
  | [.clo 98 [.ptr 1000 0, .kp [.sl .res log]], .int .i64 cell, .int .i64 old, .int .i64 new], [[.int .i64 at']] => some (okP log at', outR log at' (accC cell old new) fun r => .bool r.ok, [[.int .i64 (posR log at')]])
  | _, _ => none
theorem w104 : EnvOK Try.prog ⟨tys, (104, .full h104) :: sp101⟩ := by
  refine addFull w101 (fn := Try.f104) (by kernel_rfl) (by kernel_rfl) (by kernel_rfl) ?_
  intro args bs Q h
  unfold detS h104 at h
  split at h
  · rename_i p out bs' hs
    split at hs
    · rename_i log cell old new at'
      simp only [Option.some.injEq, Prod.mk.injEq] at hs
      obtain ⟨rfl, rfl, rfl⟩ := hs
      obtain ⟨hok, hQ⟩ := h
      conv => whnf
      refine ⟨hok, ?_⟩
      unfold outR posR at hQ
      cases hn : log[at'.toNat]? with
      | none =>
        rw [hn] at hQ
        unfold outR posR
        rw [hn]
        conv => whnf
        exact hQ
      | some r =>
        rw [hn] at hQ
        unfold outR posR
        rw [hn]
        conv => whnf
        exact hQ
    · simp at hs
  · exact h.elim
abbrev sp104 : List (Nat × Spec) := (104, .full h104) :: sp101

def h107 : List AV → List (List AV) → Option (Prop × Out × List (List AV))
  | [.clo 98 [.ptr 1000 0, .kp [.sl .res log]], .int .i64 cell, .int .i64 n], [[.int .i64 at']] => some (okP log at', outR log at' (accS cell n) fun r => .tup [], [[.int .i64 (posR log at')]])
  | _, _ => none
theorem w107 : EnvOK Try.prog ⟨tys, (107, .full h107) :: sp104⟩ := by
  refine addFull w104 (fn := Try.f107) (by kernel_rfl) (by kernel_rfl) (by kernel_rfl) ?_
  intro args bs Q h
  unfold detS h107 at h
  split at h
  · rename_i p out bs' hs
    split at hs
    · rename_i log cell n at'
      simp only [Option.some.injEq, Prod.mk.injEq] at hs
      obtain ⟨rfl, rfl, rfl⟩ := hs
      obtain ⟨hok, hQ⟩ := h
      conv => whnf
      refine ⟨hok, ?_⟩
      unfold outR posR at hQ
      cases hn : log[at'.toNat]? with
      | none =>
        rw [hn] at hQ
        unfold outR posR
        rw [hn]
        conv => whnf
        exact hQ
      | some r =>
        rw [hn] at hQ
        unfold outR posR
        rw [hn]
        conv => whnf
        exact hQ
    · simp at hs
  · exact h.elim
abbrev sp107 : List (Nat × Spec) := (107, .full h107) :: sp104


def h100 : List AV → List (List AV) → Option (Prop × Out × List (List AV))
  | [.ptr 1000 0], [[.int .i64 at']] => some (True, .ret (.int .i64 at'), [[.int .i64 at']])
  | _, _ => none

end Go.Proofs.Ythakgbecpkfeoaa.Ev

/- Layer 16: the lock's four operations, replayed. -/
set_option linter.unusedVariables false
set_option linter.unusedSimpArgs false
set_option maxRecDepth 100000
namespace Go.Proofs.Ythakgbecpkfeoaa.Ev

def tkO (wd me : Int) : List Res → Out × Int
  | [] => (panA (accL wd), 0)
  | r :: l => if lockedW r.val = true then (.ret (.tup [.int .i64 0, .int .i64 (r.val / 2), .bool false]), 1) else match l with
    | [] => (panA (accC wd r.val (2 * me + 1)), 1)
    | q :: _ => if q.ok = true then (.ret (.tup [.int .i64 (r.val / 2), .int .i64 (-1), .bool true]), 2) else (.ret (.tup [.int .i64 0, .int .i64 (-1), .bool false]), 2)
def gvO (wd ver : Int) : List Res → Out × Int
  | [] => (panA (accS wd (IntKind.i64.wrap (2 * ver))), 0)
  | _ :: _ => (.ret (.tup []), 1)
def lkO (wd ver : Int) : List Res → Out × Int
  | [] => (panA (accL wd), 0)
  | r :: _ => if (r.val == IntKind.i64.wrap (2 * ver)) = true then (.ret (.tup [.int .i64 (-1), .bool true]), 1) else if lockedW r.val = true then (.ret (.tup [.int .i64 (r.val / 2), .bool false]), 1) else (.ret (.tup [.int .i64 (-1), .bool false]), 1)
def rdO (wd vl : Int) : List Res → Out × Int
  | [] => (panA (accL wd), 0)
  | r :: l => if lockedW r.val = true then (.ret (.tup [.int .i64 0, .int .i64 0, .int .i64 (r.val / 2), .bool false]), 1) else match l with
    | [] => (panA (accL vl), 1)
    | [_] => (panA (accL wd), 2)
    | v :: q :: _ => if (q.val != r.val) = true then (.ret (.tup [.int .i64 0, .int .i64 0, .int .i64 (-1), .bool false]), 3) else (.ret (.tup [.int .i64 v.val, .int .i64 (r.val / 2), .int .i64 (-1), .bool true]), 3)

def h83 : List AV → List (List AV) → Option (Prop × Out × List (List AV))
  | [.clo 98 [.ptr 1000 0, .kp [.sl .res log]], .agg [.int .i64 t, .int .i64 l, .int .i64 k, .int .i64 s, .int .i64 m, .int .i64 c, .int .i64 st, .int .i64 lg, .int .i64 en, .int .i64 th, .int .i64 lk, .int .i64 lo, .int .i64 sz], .int .i64 me, .int .i64 loc], [[.int .i64 0]] => some (log.length ≤ 1000000 ∧ 0 ≤ me ∧ me ≤ 2, (tkO (cellA lo l loc 4 0) me log).1, [[.int .i64 (tkO (cellA lo l loc 4 0) me log).2]])
  | _, _ => none
theorem w83 : EnvOK Try.prog ⟨tys, (83, .full h83) :: sp107⟩ := by
  refine addFull w107 (fn := Try.f83) (by kernel_rfl) (by kernel_rfl) (by kernel_rfl) ?_
  intro args bs Q h
  unfold detS h83 at h
  split at h
  · rename_i p out bs' hs
    split at hs
    · rename_i log t l k s m c st lg en th lk lo sz me loc
      simp only [Option.some.injEq, Prod.mk.injEq] at hs
      obtain ⟨rfl, rfl, rfl⟩ := hs
      obtain ⟨⟨hll, hme⟩, hQ⟩ := h
      have ok : ∀ i : Int, 0 ≤ i → i ≤ 5 → okP log i := fun i h1 h2 => ⟨⟨h1, by omega⟩, hll⟩
      rcases log with _ | ⟨r, l⟩
      · conv => whnf
        refine ⟨trivial, ?_⟩
        conv => whnf
        refine ⟨by first | exact ok 0 (by decide) (by decide) | exact ok 1 (by decide) (by decide) | exact ok 2 (by decide) (by decide), ?_⟩
        conv => whnf
        exact hQ
      · conv => whnf
        refine ⟨trivial, ?_⟩
        conv => whnf
        refine ⟨by first | exact ok 0 (by decide) (by decide) | exact ok 1 (by decide) (by decide) | exact ok 2 (by decide) (by decide), ?_⟩
        conv => whnf
        refine ⟨trivial, ?_⟩
        cases hl : lockedW r.val with
        | true =>
          conv => whnf
          refine ⟨trivial, ?_⟩
          conv => whnf
          simp only [tkO, hl, if_true] at hQ
          exact hQ
        | false =>
          simp only [tkO, hl, Bool.false_eq_true, if_false] at hQ
          rcases l with _ | ⟨q, l⟩
          · conv => whnf
            refine ⟨trivial, ?_⟩
            conv => whnf
            refine ⟨hme, ?_⟩
            conv => whnf
            refine ⟨by first | exact ok 0 (by decide) (by decide) | exact ok 1 (by decide) (by decide) | exact ok 2 (by decide) (by decide), ?_⟩
            conv => whnf
            exact hQ
          · conv => whnf
            refine ⟨trivial, ?_⟩
            conv => whnf
            refine ⟨hme, ?_⟩
            conv => whnf
            refine ⟨by first | exact ok 0 (by decide) (by decide) | exact ok 1 (by decide) (by decide) | exact ok 2 (by decide) (by decide), ?_⟩
            cases hq : q.ok with
            | true =>
              conv => whnf
              rw [hq]
              conv => whnf
              refine ⟨trivial, ?_⟩
              conv => whnf
              simp only [hq, if_true] at hQ
              exact hQ
            | false =>
              conv => whnf
              rw [hq]
              conv => whnf
              simp only [hq, Bool.false_eq_true, if_false] at hQ
              exact hQ
    · simp at hs
  · exact h.elim
abbrev sp83 : List (Nat × Spec) := (83, .full h83) :: sp107

def h85 : List AV → List (List AV) → Option (Prop × Out × List (List AV))
  | [.clo 98 [.ptr 1000 0, .kp [.sl .res log]], .agg [.int .i64 t, .int .i64 l, .int .i64 k, .int .i64 s, .int .i64 m, .int .i64 c, .int .i64 st, .int .i64 lg, .int .i64 en, .int .i64 th, .int .i64 lk, .int .i64 lo, .int .i64 sz], .int .i64 loc, .int .i64 ver], [[.int .i64 0]] => some (log.length ≤ 1000000, (gvO (cellA lo l loc 4 0) ver log).1, [[.int .i64 (gvO (cellA lo l loc 4 0) ver log).2]])
  | _, _ => none
theorem w85 : EnvOK Try.prog ⟨tys, (85, .full h85) :: sp83⟩ := by
  refine addFull w83 (fn := Try.f85) (by kernel_rfl) (by kernel_rfl) (by kernel_rfl) ?_
  intro args bs Q h
  unfold detS h85 at h
  split at h
  · rename_i p out bs' hs
    split at hs
    · rename_i log t l k s m c st lg en th lk lo sz loc ver
      simp only [Option.some.injEq, Prod.mk.injEq] at hs
      obtain ⟨rfl, rfl, rfl⟩ := hs
      obtain ⟨hll, hQ⟩ := h
      have ok : ∀ i : Int, 0 ≤ i → i ≤ 5 → okP log i := fun i h1 h2 => ⟨⟨h1, by omega⟩, hll⟩
      rcases log with _ | ⟨r, l⟩
      all_goals conv => whnf
      all_goals refine ⟨trivial, ?_⟩
      all_goals conv => whnf
      all_goals refine ⟨trivial, ?_⟩
      all_goals conv => whnf
      all_goals refine ⟨by first | exact ok 0 (by decide) (by decide) | exact ok 1 (by decide) (by decide) | exact ok 2 (by decide) (by decide), ?_⟩
      all_goals conv => whnf
      all_goals exact hQ
    · simp at hs
  · exact h.elim
abbrev sp85 : List (Nat × Spec) := (85, .full h85) :: sp83

def h87 : List AV → List (List AV) → Option (Prop × Out × List (List AV))
  | [.clo 98 [.ptr 1000 0, .kp [.sl .res log]], .agg [.int .i64 t, .int .i64 l, .int .i64 k, .int .i64 s, .int .i64 m, .int .i64 c, .int .i64 st, .int .i64 lg, .int .i64 en, .int .i64 th, .int .i64 lk, .int .i64 lo, .int .i64 sz], .int .i64 loc, .int .i64 ver], [[.int .i64 0]] => some (log.length ≤ 1000000, (lkO (cellA lo l loc 4 0) ver log).1, [[.int .i64 (lkO (cellA lo l loc 4 0) ver log).2]])
  | _, _ => none
theorem w87 : EnvOK Try.prog ⟨tys, (87, .full h87) :: sp85⟩ := by
  refine addFull w85 (fn := Try.f87) (by kernel_rfl) (by kernel_rfl) (by kernel_rfl) ?_
  intro args bs Q h
  unfold detS h87 at h
  split at h
  · rename_i p out bs' hs
    split at hs
    · rename_i log t l k s m c st lg en th lk lo sz loc ver
      simp only [Option.some.injEq, Prod.mk.injEq] at hs
      obtain ⟨rfl, rfl, rfl⟩ := hs
      obtain ⟨hll, hQ⟩ := h
      have ok : ∀ i : Int, 0 ≤ i → i ≤ 5 → okP log i := fun i h1 h2 => ⟨⟨h1, by omega⟩, hll⟩
      rcases log with _ | ⟨r, l⟩
      · conv => whnf
        refine ⟨trivial, ?_⟩
        conv => whnf
        refine ⟨by first | exact ok 0 (by decide) (by decide) | exact ok 1 (by decide) (by decide) | exact ok 2 (by decide) (by decide), ?_⟩
        conv => whnf
        exact hQ
      · conv => whnf
        refine ⟨trivial, ?_⟩
        conv => whnf
        refine ⟨by first | exact ok 0 (by decide) (by decide) | exact ok 1 (by decide) (by decide) | exact ok 2 (by decide) (by decide), ?_⟩
        conv => whnf
        refine ⟨trivial, ?_⟩
        cases he : (r.val == IntKind.i64.wrap (2 * ver)) with
        | true =>
          conv => whnf
          rw [he]
          conv => whnf
          simp only [lkO, he, if_true] at hQ
          exact hQ
        | false =>
          conv => whnf
          rw [he]
          conv => whnf
          refine ⟨trivial, ?_⟩
          cases hl : lockedW r.val with
          | true =>
            conv => whnf
            refine ⟨trivial, ?_⟩
            conv => whnf
            simp only [lkO, he, hl, Bool.false_eq_true, if_false, if_true] at hQ
            exact hQ
          | false =>
            conv => whnf
            simp only [lkO, he, hl, Bool.false_eq_true, if_false] at hQ
            exact hQ
    · simp at hs
  · exact h.elim
abbrev sp87 : List (Nat × Spec) := (87, .full h87) :: sp85

def h89 : List AV → List (List AV) → Option (Prop × Out × List (List AV))
  | [.clo 98 [.ptr 1000 0, .kp [.sl .res log]], .agg [.int .i64 t, .int .i64 l, .int .i64 k, .int .i64 s, .int .i64 m, .int .i64 c, .int .i64 st, .int .i64 lg, .int .i64 en, .int .i64 th, .int .i64 lk, .int .i64 lo, .int .i64 sz], .int .i64 loc], [[.int .i64 0]] => some (log.length ≤ 1000000, (rdO (cellA lo l loc 4 0) (cellA lo l loc 4 1) log).1, [[.int .i64 (rdO (cellA lo l loc 4 0) (cellA lo l loc 4 1) log).2]])
  | _, _ => none
theorem w89 : EnvOK Try.prog ⟨tys, (89, .full h89) :: sp87⟩ := by
  refine addFull w87 (fn := Try.f89) (by kernel_rfl) (by kernel_rfl) (by kernel_rfl) ?_
  intro args bs Q h
  unfold detS h89 at h
  split at h
  · rename_i p out bs' hs
    split at hs
    · rename_i log t l k s m c st lg en th lk lo sz loc
      simp only [Option.some.injEq, Prod.mk.injEq] at hs
      obtain ⟨rfl, rfl, rfl⟩ := hs
      obtain ⟨hll, hQ⟩ := h
      have ok : ∀ i : Int, 0 ≤ i → i ≤ 5 → okP log i := fun i h1 h2 => ⟨⟨h1, by omega⟩, hll⟩
      rcases log with _ | ⟨r, l⟩
      · conv => whnf
        refine ⟨trivial, ?_⟩
        conv => whnf
        refine ⟨by first | exact ok 0 (by decide) (by decide) | exact ok 1 (by decide) (by decide) | exact ok 2 (by decide) (by decide), ?_⟩
        conv => whnf
        exact hQ
      · conv => whnf
        refine ⟨trivial, ?_⟩
        conv => whnf
        refine ⟨by first | exact ok 0 (by decide) (by decide) | exact ok 1 (by decide) (by decide) | exact ok 2 (by decide) (by decide), ?_⟩
        conv => whnf
        refine ⟨trivial, ?_⟩
        cases hl : lockedW r.val with
        | true =>
          conv => whnf
          refine ⟨trivial, ?_⟩
          conv => whnf
          simp only [rdO, hl, if_true] at hQ
          exact hQ
        | false =>
          simp only [rdO, hl, Bool.false_eq_true, if_false] at hQ
          rcases l with _ | ⟨v, l⟩
          · conv => whnf
            refine ⟨trivial, ?_⟩
            conv => whnf
            refine ⟨by first | exact ok 0 (by decide) (by decide) | exact ok 1 (by decide) (by decide) | exact ok 2 (by decide) (by decide), ?_⟩
            conv => whnf
            exact hQ
          · rcases l with _ | ⟨q, l⟩
            · conv => whnf
              refine ⟨trivial, ?_⟩
              conv => whnf
              refine ⟨by first | exact ok 0 (by decide) (by decide) | exact ok 1 (by decide) (by decide) | exact ok 2 (by decide) (by decide), ?_⟩
              conv => whnf
              refine ⟨trivial, ?_⟩
              conv => whnf
              refine ⟨by first | exact ok 0 (by decide) (by decide) | exact ok 1 (by decide) (by decide) | exact ok 2 (by decide) (by decide), ?_⟩
              conv => whnf
              exact hQ
            · conv => whnf
              refine ⟨trivial, ?_⟩
              conv => whnf
              refine ⟨by first | exact ok 0 (by decide) (by decide) | exact ok 1 (by decide) (by decide) | exact ok 2 (by decide) (by decide), ?_⟩
              conv => whnf
              refine ⟨trivial, ?_⟩
              conv => whnf
              refine ⟨by first | exact ok 0 (by decide) (by decide) | exact ok 1 (by decide) (by decide) | exact ok 2 (by decide) (by decide), ?_⟩
              cases hq : (q.val != r.val) with
              | true =>
                conv => whnf
                rw [hq]
                conv => whnf
                simp only [hq, if_true] at hQ
                exact hQ
              | false =>
                conv => whnf
                rw [hq]
                conv => whnf
                refine ⟨trivial, ?_⟩
                conv => whnf
                simp only [hq, Bool.false_eq_true, if_false] at hQ
                exact hQ
    · simp at hs
  · exact h.elim
abbrev sp89 : List (Nat × Spec) := (89, .full h89) :: sp87


end Go.Proofs.Ythakgbecpkfeoaa.Ev

/- Layer 16: the closures of the lock's step, one to each operation. -/
set_option linter.unusedVariables false
set_option linter.unusedSimpArgs false
set_option maxRecDepth 100000
namespace Go.Proofs.Ythakgbecpkfeoaa.Ev

def outV (val ver : Int) (is : Bool) (err : Int) : AV := .agg [.int .i64 val, .int .i64 ver, .int .i64 0, .int .i64 0, .bool is, .bool false, .int .i64 err]
def tkF (wd me : Int) : List Res → Out × Int
  | [] => (panA (accL wd), 0)
  | r :: l => if lockedW r.val = true then (.ret (outV (r.val / 2) 0 false 0), 1) else match l with
    | [] => (panA (accC wd r.val (2 * me + 1)), 1)
    | q :: _ => if q.ok = true then (.ret (outV 0 (r.val / 2) true 0), 2) else (.ret (outV (-1) 0 false 0), 2)
def gvF (wd ver : Int) : List Res → Out × Int
  | [] => (panA (accS wd (IntKind.i64.wrap (2 * ver))), 0)
  | _ :: _ => (.ret (outV 0 0 true 0), 1)
def lkF (wd ver : Int) : List Res → Out × Int
  | [] => (panA (accL wd), 0)
  | r :: _ => if (r.val == IntKind.i64.wrap (2 * ver)) = true then (.ret (outV 0 0 true 0), 1) else if lockedW r.val = true then (.ret (outV (r.val / 2) 0 false 0), 1) else (.ret (outV (-1) 0 false 0), 1)
def rdF (wd vl : Int) : List Res → Out × Int
  | [] => (panA (accL wd), 0)
  | r :: l => if lockedW r.val = true then (.ret (outV (r.val / 2) (-1) false 0), 1) else match l with
    | [] => (panA (accL vl), 1)
    | [_] => (panA (accL wd), 2)
    | v :: q :: _ => if (q.val != r.val) = true then (.ret (outV (-1) (-1) false 0), 3) else (.ret (outV v.val (r.val / 2) true 0), 3)

def h82 : List AV → List (List AV) → Option (Prop × Out × List (List AV))
  | [.kp [.clo 98 [.ptr 1000 0, .kp [.sl .res log]]], .kp [.int .i64 t, .int .i64 l, .int .i64 k, .int .i64 s, .int .i64 m, .int .i64 c, .int .i64 st, .int .i64 lg, .int .i64 en, .int .i64 th, .int .i64 lk, .int .i64 lo, .int .i64 sz], .kp [.int .i64 me], .kp [.int .i64 kind, .int .i64 A, .int .i64 B, .int .i64 tr, .int .i64 m1, .int .i64 m2, .int .i64 m3, x1, x2, x3]], [[.int .i64 0]] => some (log.length ≤ 1000000 ∧ 0 ≤ me ∧ me ≤ 2, (tkF (cellA lo l A 4 0) me log).1, [[.int .i64 (tkF (cellA lo l A 4 0) me log).2]])
  | _, _ => none
theorem w82 : EnvOK Try.prog ⟨tys, (82, .full h82) :: sp89⟩ := by
  refine addFull w89 (fn := Try.f82) (by kernel_rfl) (by kernel_rfl) (by kernel_rfl) ?_
  intro args bs Q h
  unfold detS h82 at h
  split at h
  · rename_i p out bs' hs
    split at hs
    · rename_i log t l k s m c st lg en th lk lo sz me kind A B tr m1 m2 m3 x1 x2 x3
      simp only [Option.some.injEq, Prod.mk.injEq] at hs
      obtain ⟨rfl, rfl, rfl⟩ := hs
      obtain ⟨hp, hQ⟩ := h
      conv => whnf
      refine ⟨hp, ?_⟩
      rcases log with _ | ⟨r, l⟩
      · conv => whnf
        exact hQ
      · cases hl : lockedW r.val with
        | true =>
          simp only [tkF, hl, Bool.false_eq_true, if_false, if_true] at hQ
          simp only [tkO, hl, Bool.false_eq_true, if_false, if_true]
          conv => whnf
          exact hQ
        | false =>
          rcases l with _ | ⟨q, l⟩
          · simp only [tkF, hl, Bool.false_eq_true, if_false, if_true] at hQ
            simp only [tkO, hl, Bool.false_eq_true, if_false, if_true]
            conv => whnf
            exact hQ
          · cases hq : q.ok with
            | true =>
              simp only [tkF, hl, hq, Bool.false_eq_true, if_false, if_true] at hQ
              simp only [tkO, hl, hq, Bool.false_eq_true, if_false, if_true]
              conv => whnf
              exact hQ
            | false =>
              simp only [tkF, hl, hq, Bool.false_eq_true, if_false, if_true] at hQ
              simp only [tkO, hl, hq, Bool.false_eq_true, if_false, if_true]
              conv => whnf
              exact hQ

    · simp at hs
  · exact h.elim
abbrev sp82 : List (Nat × Spec) := (82, .full h82) :: sp89

def h84 : List AV → List (List AV) → Option (Prop × Out × List (List AV))
  | [.kp [.clo 98 [.ptr 1000 0, .kp [.sl .res log]]], .kp [.int .i64 t, .int .i64 l, .int .i64 k, .int .i64 s, .int .i64 m, .int .i64 c, .int .i64 st, .int .i64 lg, .int .i64 en, .int .i64 th, .int .i64 lk, .int .i64 lo, .int .i64 sz], .kp [.int .i64 kind, .int .i64 A, .int .i64 B, .int .i64 tr, .int .i64 m1, .int .i64 m2, .int .i64 m3, x1, x2, x3]], [[.int .i64 0]] => some (log.length ≤ 1000000, (gvF (cellA lo l A 4 0) B log).1, [[.int .i64 (gvF (cellA lo l A 4 0) B log).2]])
  | _, _ => none
theorem w84 : EnvOK Try.prog ⟨tys, (84, .full h84) :: sp82⟩ := by
  refine addFull w82 (fn := Try.f84) (by kernel_rfl) (by kernel_rfl) (by kernel_rfl) ?_
  intro args bs Q h
  unfold detS h84 at h
  split at h
  · rename_i p out bs' hs
    split at hs
    · rename_i log t l k s m c st lg en th lk lo sz  kind A B tr m1 m2 m3 x1 x2 x3
      simp only [Option.some.injEq, Prod.mk.injEq] at hs
      obtain ⟨rfl, rfl, rfl⟩ := hs
      obtain ⟨hp, hQ⟩ := h
      conv => whnf
      refine ⟨hp, ?_⟩
      rcases log with _ | ⟨r, l⟩
      all_goals conv => whnf
      all_goals exact hQ
    · simp at hs
  · exact h.elim
abbrev sp84 : List (Nat × Spec) := (84, .full h84) :: sp82

def h86 : List AV → List (List AV) → Option (Prop × Out × List (List AV))
  | [.kp [.clo 98 [.ptr 1000 0, .kp [.sl .res log]]], .kp [.int .i64 t, .int .i64 l, .int .i64 k, .int .i64 s, .int .i64 m, .int .i64 c, .int .i64 st, .int .i64 lg, .int .i64 en, .int .i64 th, .int .i64 lk, .int .i64 lo, .int .i64 sz], .kp [.int .i64 kind, .int .i64 A, .int .i64 B, .int .i64 tr, .int .i64 m1, .int .i64 m2, .int .i64 m3, x1, x2, x3]], [[.int .i64 0]] => some (log.length ≤ 1000000, (lkF (cellA lo l A 4 0) B log).1, [[.int .i64 (lkF (cellA lo l A 4 0) B log).2]])
  | _, _ => none
theorem w86 : EnvOK Try.prog ⟨tys, (86, .full h86) :: sp84⟩ := by
  refine addFull w84 (fn := Try.f86) (by kernel_rfl) (by kernel_rfl) (by kernel_rfl) ?_
  intro args bs Q h
  unfold detS h86 at h
  split at h
  · rename_i p out bs' hs
    split at hs
    · rename_i log t l k s m c st lg en th lk lo sz  kind A B tr m1 m2 m3 x1 x2 x3
      simp only [Option.some.injEq, Prod.mk.injEq] at hs
      obtain ⟨rfl, rfl, rfl⟩ := hs
      obtain ⟨hp, hQ⟩ := h
      conv => whnf
      refine ⟨hp, ?_⟩
      rcases log with _ | ⟨r, l⟩
      · conv => whnf
        exact hQ
      · cases he : (r.val == IntKind.i64.wrap (2 * B)) with
        | true =>
          simp only [lkF, he, Bool.false_eq_true, if_false, if_true] at hQ
          simp only [lkO, he, Bool.false_eq_true, if_false, if_true]
          conv => whnf
          exact hQ
        | false =>
          cases hl : lockedW r.val with
          | true =>
            simp only [lkF, he, hl, Bool.false_eq_true, if_false, if_true] at hQ
            simp only [lkO, he, hl, Bool.false_eq_true, if_false, if_true]
            conv => whnf
            exact hQ
          | false =>
            simp only [lkF, he, hl, Bool.false_eq_true, if_false, if_true] at hQ
            simp only [lkO, he, hl, Bool.false_eq_true, if_false, if_true]
            conv => whnf
            exact hQ

    · simp at hs
  · exact h.elim
abbrev sp86 : List (Nat × Spec) := (86, .full h86) :: sp84

def h88 : List AV → List (List AV) → Option (Prop × Out × List (List AV))
  | [.kp [.clo 98 [.ptr 1000 0, .kp [.sl .res log]]], .kp [.int .i64 t, .int .i64 l, .int .i64 k, .int .i64 s, .int .i64 m, .int .i64 c, .int .i64 st, .int .i64 lg, .int .i64 en, .int .i64 th, .int .i64 lk, .int .i64 lo, .int .i64 sz], .kp [.int .i64 kind, .int .i64 A, .int .i64 B, .int .i64 tr, .int .i64 m1, .int .i64 m2, .int .i64 m3, x1, x2, x3]], [[.int .i64 0]] => some (log.length ≤ 1000000, (rdF (cellA lo l A 4 0) (cellA lo l A 4 1) log).1, [[.int .i64 (rdF (cellA lo l A 4 0) (cellA lo l A 4 1) log).2]])
  | _, _ => none
theorem w88 : EnvOK Try.prog ⟨tys, (88, .full h88) :: sp86⟩ := by
  refine addFull w86 (fn := Try.f88) (by kernel_rfl) (by kernel_rfl) (by kernel_rfl) ?_
  intro args bs Q h
  unfold detS h88 at h
  split at h
  · rename_i p out bs' hs
    split at hs
    · rename_i log t l k s m c st lg en th lk lo sz  kind A B tr m1 m2 m3 x1 x2 x3
      simp only [Option.some.injEq, Prod.mk.injEq] at hs
      obtain ⟨rfl, rfl, rfl⟩ := hs
      obtain ⟨hp, hQ⟩ := h
      conv => whnf
      refine ⟨hp, ?_⟩
      rcases log with _ | ⟨r, l⟩
      · conv => whnf
        exact hQ
      · cases hl : lockedW r.val with
        | true =>
          simp only [rdF, hl, Bool.false_eq_true, if_false, if_true] at hQ
          simp only [rdO, hl, Bool.false_eq_true, if_false, if_true]
          conv => whnf
          exact hQ
        | false =>
          rcases l with _ | ⟨v, l⟩
          · simp only [rdF, hl, Bool.false_eq_true, if_false, if_true] at hQ
            simp only [rdO, hl, Bool.false_eq_true, if_false, if_true]
            conv => whnf
            exact hQ
          · rcases l with _ | ⟨q, l⟩
            · simp only [rdF, hl, Bool.false_eq_true, if_false, if_true] at hQ
              simp only [rdO, hl, Bool.false_eq_true, if_false, if_true]
              conv => whnf
              exact hQ
            · cases hq : (q.val != r.val) with
              | true =>
                simp only [rdF, hl, hq, Bool.false_eq_true, if_false, if_true] at hQ
                simp only [rdO, hl, hq, Bool.false_eq_true, if_false, if_true]
                conv => whnf
                exact hQ
              | false =>
                simp only [rdF, hl, hq, Bool.false_eq_true, if_false, if_true] at hQ
                simp only [rdO, hl, hq, Bool.false_eq_true, if_false, if_true]
                conv => whnf
                exact hQ

    · simp at hs
  · exact h.elim
abbrev sp88 : List (Nat × Spec) := (88, .full h88) :: sp86


end Go.Proofs.Ythakgbecpkfeoaa.Ev

/- Layer 16: the function that lock.Next hands to play.Run. -/
set_option linter.unusedVariables false
set_option linter.unusedSimpArgs false
set_option maxRecDepth 100000
namespace Go.Proofs.Ythakgbecpkfeoaa.Ev

def stepF (wd vl kind B me : Int) (log : List Res) : Out × Int :=
  if ¬ (kind = 1 ∨ kind = 2 ∨ kind = 3 ∨ kind = 4) ∨ wd < 0 then (.ret (outV 0 0 false 1), 0)
  else if kind = 1 then tkF wd me log else if kind = 2 then gvF wd B log else if kind = 3 then lkF wd B log else rdF wd vl log
theorem stepF_bad {wd vl kind B me : Int} {log : List Res} (h : ¬ (kind = 1 ∨ kind = 2 ∨ kind = 3 ∨ kind = 4) ∨ wd < 0) : stepF wd vl kind B me log = (.ret (outV 0 0 false 1), 0) := by unfold stepF; rw [if_pos h]
theorem stepF_1 {wd vl B me : Int} {log : List Res} (h : ¬ wd < 0) : stepF wd vl 1 B me log = tkF wd me log := by unfold stepF; rw [if_neg (by simp; omega), if_pos rfl]
theorem stepF_2 {wd vl B me : Int} {log : List Res} (h : ¬ wd < 0) : stepF wd vl 2 B me log = gvF wd B log := by unfold stepF; rw [if_neg (by simp; omega), if_neg (by omega), if_pos rfl]
theorem stepF_3 {wd vl B me : Int} {log : List Res} (h : ¬ wd < 0) : stepF wd vl 3 B me log = lkF wd B log := by unfold stepF; rw [if_neg (by simp; omega), if_neg (by omega), if_neg (by omega), if_pos rfl]
theorem stepF_4 {wd vl B me : Int} {log : List Res} (h : ¬ wd < 0) : stepF wd vl 4 B me log = rdF wd vl log := by unfold stepF; rw [if_neg (by simp; omega), if_neg (by omega), if_neg (by omega), if_neg (by omega)]

def ShapeO (F : Out × Int) : Prop := (∃ v w b, F.1 = .ret (outV v w b 0)) ∨ ∃ a, F.1 = panA a
theorem tkF_shape (wd me : Int) (log : List Res) : ShapeO (tkF wd me log) := by
  unfold tkF
  repeat' split
  all_goals first | exact .inr ⟨_, rfl⟩ | exact .inl ⟨_, _, _, rfl⟩
theorem gvF_shape (wd B : Int) (log : List Res) : ShapeO (gvF wd B log) := by
  unfold gvF
  repeat' split
  all_goals first | exact .inr ⟨_, rfl⟩ | exact .inl ⟨_, _, _, rfl⟩
theorem lkF_shape (wd B : Int) (log : List Res) : ShapeO (lkF wd B log) := by
  unfold lkF
  repeat' split
  all_goals first | exact .inr ⟨_, rfl⟩ | exact .inl ⟨_, _, _, rfl⟩
theorem rdF_shape (wd vl : Int) (log : List Res) : ShapeO (rdF wd vl log) := by
  unfold rdF
  repeat' split
  all_goals first | exact .inr ⟨_, rfl⟩ | exact .inl ⟨_, _, _, rfl⟩

def h81 : List AV → List (List AV) → Option (Prop × Out × List (List AV))
  | [.clo 98 [.ptr 1000 0, .kp [.sl .res log]], .clo 100 [.ptr 1000 0], .kp [.int .i64 t, .int .i64 l, .int .i64 k, .int .i64 s, .int .i64 m, .int .i64 c, .int .i64 st, .int .i64 lg, .int .i64 en, .int .i64 th, .int .i64 lk, .int .i64 lo, .int .i64 sz], .kp [.int .i64 me], .kp [.int .i64 kind, .int .i64 A, .int .i64 B, .int .i64 tr, .int .i64 m1, .int .i64 m2, .int .i64 m3, .sl .i3 seen, .sl .i2 wr, .sl .bl du]], [[.int .i64 0]] => some (log.length ≤ 1000000 ∧ 0 ≤ me ∧ me ≤ 2, (stepF (cellA lo l A 4 0) (cellA lo l A 4 1) kind B me log).1, [[.int .i64 (stepF (cellA lo l A 4 0) (cellA lo l A 4 1) kind B me log).2]])
  | [.clo 98 [.ptr 1000 0, .kp [.sl .res log]], .clo 100 [.ptr 1000 0], .kp [.int .i64 t, .int .i64 l, .int .i64 k, .int .i64 s, .int .i64 m, .int .i64 c, .int .i64 st, .int .i64 lg, .int .i64 en, .int .i64 th, .int .i64 lk, .int .i64 lo, .int .i64 sz], .kp [.int .i64 me], .kp [.int .i64 kind, .int .i64 A, .int .i64 B, .int .i64 tr, .int .i64 m1, .int .i64 m2, .int .i64 m3, .nil, .nil, .nil]], [[.int .i64 0]] => some (log.length ≤ 1000000 ∧ 0 ≤ me ∧ me ≤ 2, (stepF (cellA lo l A 4 0) (cellA lo l A 4 1) kind B me log).1, [[.int .i64 (stepF (cellA lo l A 4 0) (cellA lo l A 4 1) kind B me log).2]])
  | _, _ => none
theorem w81 : EnvOK Try.prog ⟨tys, (81, .full h81) :: sp88⟩ := by
  refine addFull w88 (fn := Try.f81) (by kernel_rfl) (by kernel_rfl) (by kernel_rfl) ?_
  intro args bs Q h
  unfold detS h81 at h
  split at h
  · rename_i p out bs' hs
    split at hs
    · rename_i log t l k s m c st lg en th lk lo sz me kind A B tr m1 m2 m3 seen wr du
      simp only [Option.some.injEq, Prod.mk.injEq] at hs
      obtain ⟨rfl, rfl, rfl⟩ := hs
      obtain ⟨hp, hQ⟩ := h
      by_cases hk : kind = 1 ∨ kind = 2 ∨ kind = 3 ∨ kind = 4
      · by_cases hw : cellA lo l A 4 0 < 0
        · rw [stepF_bad (.inr hw)] at hQ
          rcases hk with rfl | rfl | rfl | rfl
          all_goals conv => whnf
          all_goals refine ⟨trivial, ?_⟩
          all_goals conv => whnf
          all_goals rw [show decide (cellA lo l A 4 0 < 0) = true by simpa using hw]
          all_goals conv => whnf
          all_goals exact hQ
        · have hd : decide (cellA lo l A 4 0 < 0) = false := by simpa using hw
          rcases hk with rfl | rfl | rfl | rfl
          · rw [stepF_1 hw] at hQ
            conv => whnf
            refine ⟨trivial, ?_⟩
            conv => whnf
            rw [hd]
            conv => whnf
            refine ⟨hp, ?_⟩
            have hs := tkF_shape (cellA lo l A 4 0) me log
            generalize tkF (cellA lo l A 4 0) me log = F at hQ hs ⊢
            obtain ⟨out, pos⟩ := F
            dsimp only at hs hQ
            rcases hs with ⟨v, w, b, rfl⟩ | ⟨q, rfl⟩
            · conv => whnf
              exact hQ
            · conv => whnf
              exact hQ
          · rw [stepF_2 hw] at hQ
            conv => whnf
            refine ⟨trivial, ?_⟩
            conv => whnf
            rw [hd]
            conv => whnf
            refine ⟨hp.1, ?_⟩
            have hs := gvF_shape (cellA lo l A 4 0) B log
            generalize gvF (cellA lo l A 4 0) B log = F at hQ hs ⊢
            obtain ⟨out, pos⟩ := F
            dsimp only at hs hQ
            rcases hs with ⟨v, w, b, rfl⟩ | ⟨q, rfl⟩
            · conv => whnf
              exact hQ
            · conv => whnf
              exact hQ
          · rw [stepF_3 hw] at hQ
            conv => whnf
            refine ⟨trivial, ?_⟩
            conv => whnf
            rw [hd]
            conv => whnf
            refine ⟨hp.1, ?_⟩
            have hs := lkF_shape (cellA lo l A 4 0) B log
            generalize lkF (cellA lo l A 4 0) B log = F at hQ hs ⊢
            obtain ⟨out, pos⟩ := F
            dsimp only at hs hQ
            rcases hs with ⟨v, w, b, rfl⟩ | ⟨q, rfl⟩
            · conv => whnf
              exact hQ
            · conv => whnf
              exact hQ
          · rw [stepF_4 hw] at hQ
            conv => whnf
            refine ⟨trivial, ?_⟩
            conv => whnf
            rw [hd]
            conv => whnf
            refine ⟨hp.1, ?_⟩
            have hs := rdF_shape (cellA lo l A 4 0) (cellA lo l A 4 1) log
            generalize rdF (cellA lo l A 4 0) (cellA lo l A 4 1) log = F at hQ hs ⊢
            obtain ⟨out, pos⟩ := F
            dsimp only at hs hQ
            rcases hs with ⟨v, w, b, rfl⟩ | ⟨q, rfl⟩
            · conv => whnf
              exact hQ
            · conv => whnf
              exact hQ
      · rw [stepF_bad (.inl (by omega))] at hQ
        conv => whnf
        rw [show (kind == 1) = false by simp; omega]
        conv => whnf
        rw [show (kind == 2) = false by simp; omega]
        conv => whnf
        rw [show (kind == 3) = false by simp; omega]
        conv => whnf
        rw [show (kind == 4) = false by simp; omega]
        conv => whnf
        exact hQ
    · rename_i log t l k s m c st lg en th lk lo sz me kind A B tr m1 m2 m3
      simp only [Option.some.injEq, Prod.mk.injEq] at hs
      obtain ⟨rfl, rfl, rfl⟩ := hs
      obtain ⟨hp, hQ⟩ := h
      by_cases hk : kind = 1 ∨ kind = 2 ∨ kind = 3 ∨ kind = 4
      · by_cases hw : cellA lo l A 4 0 < 0
        · rw [stepF_bad (.inr hw)] at hQ
          rcases hk with rfl | rfl | rfl | rfl
          all_goals conv => whnf
          all_goals refine ⟨trivial, ?_⟩
          all_goals conv => whnf
          all_goals rw [show decide (cellA lo l A 4 0 < 0) = true by simpa using hw]
          all_goals conv => whnf
          all_goals exact hQ
        · have hd : decide (cellA lo l A 4 0 < 0) = false := by simpa using hw
          rcases hk with rfl | rfl | rfl | rfl
          · rw [stepF_1 hw] at hQ
            conv => whnf
            refine ⟨trivial, ?_⟩
            conv => whnf
            rw [hd]
            conv => whnf
            refine ⟨hp, ?_⟩
            have hs := tkF_shape (cellA lo l A 4 0) me log
            generalize tkF (cellA lo l A 4 0) me log = F at hQ hs ⊢
            obtain ⟨out, pos⟩ := F
            dsimp only at hs hQ
            rcases hs with ⟨v, w, b, rfl⟩ | ⟨q, rfl⟩
            · conv => whnf
              exact hQ
            · conv => whnf
              exact hQ
          · rw [stepF_2 hw] at hQ
            conv => whnf
            refine ⟨trivial, ?_⟩
            conv => whnf
            rw [hd]
            conv => whnf
            refine ⟨hp.1, ?_⟩
            have hs := gvF_shape (cellA lo l A 4 0) B log
            generalize gvF (cellA lo l A 4 0) B log = F at hQ hs ⊢
            obtain ⟨out, pos⟩ := F
            dsimp only at hs hQ
            rcases hs with ⟨v, w, b, rfl⟩ | ⟨q, rfl⟩
            · conv => whnf
              exact hQ
            · conv => whnf
              exact hQ
          · rw [stepF_3 hw] at hQ
            conv => whnf
            refine ⟨trivial, ?_⟩
            conv => whnf
            rw [hd]
            conv => whnf
            refine ⟨hp.1, ?_⟩
            have hs := lkF_shape (cellA lo l A 4 0) B log
            generalize lkF (cellA lo l A 4 0) B log = F at hQ hs ⊢
            obtain ⟨out, pos⟩ := F
            dsimp only at hs hQ
            rcases hs with ⟨v, w, b, rfl⟩ | ⟨q, rfl⟩
            · conv => whnf
              exact hQ
            · conv => whnf
              exact hQ
          · rw [stepF_4 hw] at hQ
            conv => whnf
            refine ⟨trivial, ?_⟩
            conv => whnf
            rw [hd]
            conv => whnf
            refine ⟨hp.1, ?_⟩
            have hs := rdF_shape (cellA lo l A 4 0) (cellA lo l A 4 1) log
            generalize rdF (cellA lo l A 4 0) (cellA lo l A 4 1) log = F at hQ hs ⊢
            obtain ⟨out, pos⟩ := F
            dsimp only at hs hQ
            rcases hs with ⟨v, w, b, rfl⟩ | ⟨q, rfl⟩
            · conv => whnf
              exact hQ
            · conv => whnf
              exact hQ
      · rw [stepF_bad (.inl (by omega))] at hQ
        conv => whnf
        rw [show (kind == 1) = false by simp; omega]
        conv => whnf
        rw [show (kind == 2) = false by simp; omega]
        conv => whnf
        rw [show (kind == 3) = false by simp; omega]
        conv => whnf
        rw [show (kind == 4) = false by simp; omega]
        conv => whnf
        exact hQ
    · simp at hs
  · exact h.elim
abbrev sp81 : List (Nat × Spec) := (81, .full h81) :: sp88

end Go.Proofs.Ythakgbecpkfeoaa.Ev

/- Code that starts amid a function: boxes told by numbers from 1000 on. -/
set_option linter.unusedVariables false
set_option linter.unusedSimpArgs false
namespace Go.Proofs.Ythakgbecpkfeoaa.Ev

section mid
variable {P : Program} {E : Env}

abbrev XRof (S : Nat → Prop) (gs : List Nat) (ds : List Deferred) : XR := ⟨fun g => g ∈ gs, S, extβ gs, ds⟩

theorem start_inv {S : Nat → Prop} {w : World} {bs : List (List AV)} {gs : List Nat} {tm0 : List AV} {tmps0 : Array Value} {ds : List Deferred} (hS : ∀ b, S b → b < w.heap.size) (hgl : gs.length = bs.length) (hgn : gs.Nodup)
    (hgd : ∀ g ∈ gs, ¬ S g ∧ g < w.heap.size) (hbs : ∀ (i : Nat) (cs : List AV), bs[i]? = some cs → ∃ (g T : Nat) (vs : Array Value), gs[i]? = some g ∧ w.heap[g]? = some (Obj.cells vs T (0, 0)) ∧ RelVs (extβ gs) S w cs vs.toList)
    (hargs : RelVs (extβ gs) S w tm0 tmps0.toList) : Inv (XRof S gs ds) w (extβ gs) S tm0 (extL 0 bs) { tmps := tmps0, defers := ds } w := by
  have hext : ∀ i g, gs[i]? = some g → extβ gs (1000 + i) = some (.pointer (some ⟨g, 0, none⟩)) := fun i g hi => by simp [extβ, hi]
  have hext' : ∀ o v, extβ gs o = some v → ∃ i g, o = 1000 + i ∧ gs[i]? = some g ∧ v = .pointer (some ⟨g, 0, none⟩) := by
    intro o v h
    unfold extβ at h
    split at h
    · obtain ⟨g, h1, h2⟩ := Option.map_eq_some_iff.1 h
      exact ⟨o - 1000, g, by omega, h1, h2.symm⟩
    · simp at h
  refine ⟨rfl, rfl, rfl, Nat.le_refl _, fun _ _ _ => rfl, fun b hb => (hgd b hb).2, hS, ?_, ?_, ?_, extL_nodup 0 bs, ?_, hargs, rfl, fun b hb _ => .inl hb, fun o v u h1 h2 => ?_, fun o v h => ?_⟩
  · intro o cs hm
    obtain ⟨j, cs', h1, rfl, h3⟩ := extL_mem.1 hm
    simp only [AO.box.injEq] at h3
    subst h3
    obtain ⟨g, T, vs, h4, h5, h6⟩ := hbs j cs h1
    exact ⟨g, T, vs, by simpa using hext j g h4, .inr (List.mem_of_getElem? h4), (hgd g (List.mem_of_getElem? h4)).1, h5, h6⟩
  · intro o τ xs hm
    obtain ⟨j, cs', h1, rfl, h3⟩ := extL_mem.1 hm
    simp at h3
  · intro o v h
    obtain ⟨i, g, rfl, h1, rfl⟩ := hext' o v h
    have hlt : i < bs.length := by rw [← hgl]; exact (List.getElem?_eq_some_iff.1 h1).1
    exact ⟨.box bs[i], extL_mem.2 ⟨i, bs[i], List.getElem?_eq_getElem hlt, by omega, rfl⟩⟩
  · intro o o' v v' g hne h1 h2 h3 h4 h5
    obtain ⟨i, g1, rfl, q1, rfl⟩ := hext' o v h1
    obtain ⟨j, g2, rfl, q2, rfl⟩ := hext' o' v' h2
    simp only [blk, Option.some.injEq] at h3 h5
    subst h3
    subst h5
    obtain ⟨a1, a2⟩ := List.getElem?_eq_some_iff.1 q1
    obtain ⟨b1, b2⟩ := List.getElem?_eq_some_iff.1 q2
    have := (List.getElem_inj (h₀ := a1) (h₁ := b1) hgn).1 (a2.trans b2.symm)
    omega
  · rw [show (XRof S gs ds).e o = extβ gs o from rfl, h2] at h1; simpa using h1
  · obtain ⟨i, g, rfl, _⟩ := hext' o v h
    omega

/-- What a box from outside holds at the end. -/
theorem end_box {S S' : Nat → Prop} {w w' : World} {gs : List Nat} {tm' : List AV} {hp' : Hp} {a' : Act} {β' : Nat → Option Value} {ds : List Deferred} (hI' : Inv (XRof S gs ds) w β' S' tm' hp' a' w') {i g : Nat} (hi : gs[i]? = some g) {cs : List AV}
    (hm : (1000 + i, AO.box cs) ∈ hp') (hf : AV.frees cs = true) : ∃ (T : Nat) (vs : Array Value), w'.heap[g]? = some (Obj.cells vs T (0, 0)) ∧ RelVs (extβ gs) S' w' cs vs.toList ∧ ¬ S' g := by
  obtain ⟨g', T, vs, h3, _, hns, h5, h6⟩ := hI'.box _ cs hm
  have hext : extβ gs (1000 + i) = some (.pointer (some ⟨g, 0, none⟩)) := by simp [extβ, hi]
  have := hI'.keep (1000 + i) _ _ hext h3
  simp only [Value.pointer.injEq, Option.some.injEq, Addr.mk.injEq, and_true] at this
  subst this
  exact ⟨T, vs, h5, RelVs.free (β' := extβ gs) _ _ hf h6, hns⟩
/-- A slot that names a box from outside. -/
theorem end_ptr {S S' : Nat → Prop} {w w' : World} {gs : List Nat} {tm' : List AV} {hp' : Hp} {a' : Act} {β' : Nat → Option Value} {ds : List Deferred} (hI' : Inv (XRof S gs ds) w β' S' tm' hp' a' w') {i g t off : Nat} (hi : gs[i]? = some g)
    (ht : getV tm' t = .ptr (1000 + i) off) : a'.eval (.tmp t) = .pointer (some ⟨g, off, none⟩) := by
  have h := hI'.eval (.tmp t)
  simp only [evalV, ht] at h
  obtain ⟨g', h3, h4⟩ := h
  have hext : extβ gs (1000 + i) = some (.pointer (some ⟨g, 0, none⟩)) := by simp [extβ, hi]
  have := hI'.keep (1000 + i) _ _ hext h3
  simp only [Value.pointer.injEq, Option.some.injEq, Addr.mk.injEq, and_true] at this
  subst this
  exact h4

/-- Pieces one after another. -/
def seqs : List Code → Code → Code
  | [], c => c
  | x :: l, c => .seq x (seqs l c)
noncomputable def evSeqs (E : Env) : List Code → List AV → Hp → (List AV → Hp → Prop) → Prop
  | [], tm, hp, k => k tm hp
  | x :: l, tm, hp, k => ev E x tm hp fun e tm hp => match e with
    | .normal => evSeqs E l tm hp k
    | _ => False
theorem seqs_wp (hE : EnvOK P E) (hmix : P.follows .mixedOrders = true) {X : XR} {w0 : World} {Q : Exit → Act → World → Prop} {c : Code} {k : List AV → Hp → Prop} (hc : ∀ β S tm hp a w, k tm hp → Inv X w0 β S tm hp a w → c.wp P Q a w) :
    ∀ (l : List Code), (∀ x ∈ l, moreB P x = true) → ∀ β S tm hp a w, Inv X w0 β S tm hp a w → evSeqs E l tm hp k → (seqs l c).wp P Q a w
  | [], _, β, S, tm, hp, a, w, hI, h => hc _ _ _ _ _ _ h hI
  | x :: l, hm, β, S, tm, hp, a, w, hI, h => by
    refine wp_seq (ev_wp hE hmix x (hm x (by simp)) _ _ ?_ β S tm hp a w hI h)
    intro β1 S1 tm1 hp1 a1 w1 hI1
    exact ⟨fun h => seqs_wp hE hmix hc l (fun y hy => hm y (by simp [hy])) _ _ _ _ _ _ hI1 h, fun id h => h.elim, fun h => h.elim, fun v u h => h.elim⟩

end mid
end Go.Proofs.Ythakgbecpkfeoaa.Ev

/- Layer 16: play.Run's deferred function, for a frame that returns and for one that panics at the end of the log. -/
set_option linter.unusedVariables false
set_option linter.unusedSimpArgs false
set_option maxRecDepth 100000
namespace Go.Proofs.Ythakgbecpkfeoaa.Ev

theorem eq_nil (w : World) : (binOp .eql 20 .nilIface .nilIface).run Try.prog w = .ok (.bool true) w := by kernel_rfl
theorem guard_nil (w : World) : (eqGuard .eql 20 (.tmp 7) (.const .nilIface) .nilIface .nilIface).run Try.prog w = .ok () w := by kernel_rfl
theorem eq_ifc (T : Nat) (v : Value) (w : World) : (binOp .eql 20 (.iface T v) .nilIface).run Try.prog w = .ok (.bool false) w := by kernel_rfl
theorem guard_ifc (T : Nat) (v : Value) (w : World) : (eqGuard .eql 20 (.tmp 7) (.const .nilIface) (.iface T v) .nilIface).run Try.prog w = .ok () w := by kernel_rfl
theorem assert_ifc (v : Value) (w : World) : (Instr.typeAssert (.iface 136 v) 20 136 true).run Try.prog w = .ok (.tuple #[v, .bool true]) w := by kernel_rfl

theorem catch_idle (p q r : Value) (w : World) :
    CallsD Try.prog 99 #[p, q, r] .returning w fun e u' w' => e = .returned (.tuple #[]) ∧ u' = .returning ∧ w' = w := by
  refine callsD_of_wpS Try.func99 rfl fun c₀ cs hu => ?_
  apply wpS_seq
  apply wpS_region
  simp [wpOpsS, go_sem, recoverD, hu, Try.ntmps99, Exit.thenS]
  refine wpS_of_wp ?_
  refine wp_block ?_
  refine wp_seq ?_
  refine wp_region ?_
  show wpOps _ _ _ [0] _ _
  generalize ha : ({ tmps := #[p, q, r] ++ (Array.replicate 20 undef).setIfInBounds 4 Value.nilIface, defers := [] } : Act) = a1
  have h7 : a1.eval (.tmp 7) = .nilIface := by subst ha; simp [Act.eval, Array.replicate]
  have hd : a1.defers = [] := by subst ha; rfl
  have hs : a1.tmps.size = 23 := by subst ha; simp
  clear ha
  rw [wpOps_cons]
  refine wpOp_plain rfl rfl (wp_value (u := .bool true) (w' := w) ?_ ?_)
  · show (do let x ← (do eqGuard .eql 20 (.tmp 7) (.const .nilIface) (a1.eval (.tmp 7)) .nilIface; binOp .eql 20 (a1.eval (.tmp 7)) .nilIface); pure (Next.value x) : Sem Next).run Try.prog w = _
    rw [h7]
    simp [Sem.run_bind, guard_nil, eq_nil]
  refine wp_cond_true (eval_put_same (by omega)) ?_
  refine wp_region ?_
  show wpOps _ _ _ [0] _ _
  rw [wpOps_cons]
  refine wpOp_plain rfl rfl (wp_value (u := .nilIface) (w' := w) ?_ ?_)
  · show (pure (Next.value ((a1.put (some 9) (.bool true)).eval (.tmp 7))) : Sem Next).run Try.prog w = _
    rw [eval_put_ne (by decide), h7]
    rfl
  refine ⟨hd, .returning, ?_, .tuple #[], ?_, rfl, rfl, rfl⟩
  · cases c₀
    simp only at hu
    subst hu
    rfl
  · simp [results, Try.results99]

theorem wpOpsS_rec {P : Program} {ops : Array Oper} {Q : Exit → Act → List Frame → World → Prop} {a : Act} {cs cs' : List Frame} {w : World} {o : Oper} {v : Value} {d : Option Nat} (ho : ops[0]? = some o) (hd : o.dst = d) (hg : o.guard = none)
    (hr : (execOp a.eval o).run P w = .ok .recover w) (hrec : recoverD cs = some (v, cs')) (h : Q .normal (a.put d v) cs' w) : wpOpsS P ops Q [0] a cs w := by
  subst hd
  unfold wpOpsS
  simp only [ho, Region.wanted, hg, hr, hrec, if_true]
  unfold wpOpsS
  exact h

def zeroAcc : List AV := [.int .i64 0, .int .i64 0, .int .i64 0, .int .i64 0, .str ⟨#[]⟩]
def zeroOut : List AV := [.int .i64 0, .int .i64 0, .int .i64 0, .int .i64 0, .bool false, .bool false, .int .i64 0]
def outBs (a o : List AV) (b : Bool) : List (List AV) := [a, o, [.bool b]]
/-- The three result variables hold this. -/
def Holds3 (gs : List Nat) (S : Nat → Prop) (w : World) (bs : List (List AV)) : Prop :=
  ∀ (i : Nat) (cs : List AV), bs[i]? = some cs → ∃ (g T : Nat) (vs : Array Value), gs[i]? = some g ∧ w.heap[g]? = some (Obj.cells vs T (0, 0)) ∧ RelVs (extβ gs) S w cs vs.toList
/-- Only these blocks of old memory have been written. -/
def Only (gs : List Nat) (w w' : World) : Prop := w'.os = w.os ∧ w'.tape = w.tape ∧ w'.output = w.output ∧ w.heap.size ≤ w'.heap.size ∧ ∀ b, b < w.heap.size → b ∉ gs → w'.heap[b]? = w.heap[b]?

def accVal (q : Acc) : Value := .agg #[.int .i64 q.kind, .int .i64 q.cell, .int .i64 q.old, .int .i64 q.new, .string q.bytes]

theorem catch_panic {sp : List (Nat × Spec)} (hE : EnvOK Try.prog ⟨tys, sp⟩) {S : Nat → Prop} {w : World} {g4 g5 g6 : Nat} (q : Acc) (hS : ∀ b, S b → b < w.heap.size) (hgn : [g4, g5, g6].Nodup) (hgd : ∀ g ∈ [g4, g5, g6], ¬ S g ∧ g < w.heap.size)
    (hbs : Holds3 [g4, g5, g6] S w (outBs zeroAcc zeroOut false)) :
    CallsD Try.prog 99 #[.pointer (some ⟨g4, 0, none⟩), .pointer (some ⟨g5, 0, none⟩), .pointer (some ⟨g6, 0, none⟩)] (.panicking [{ v := .iface 136 (accVal q), recovered := false }]) w
      fun e u' w' => e = .returned (.tuple #[]) ∧ u' = .panicking [{ v := .iface 136 (accVal q), recovered := true }] ∧ ∃ S', Holds3 [g4, g5, g6] S' w' (outBs (accV q) zeroOut false) ∧ Only [g4, g5, g6] w w' := by
  refine callsD_of_wpS Try.func99 rfl fun c₀ cs hu => ?_
  apply wpS_seq
  apply wpS_region
  show wpOpsS _ _ _ [0] _ _ _
  refine wpOpsS_rec (v := .iface 136 (accVal q)) (cs' := { c₀ with mode := .panicking [{ v := .iface 136 (accVal q), recovered := true }] } :: cs) (d := some 7) rfl rfl rfl (by rfl) (by simp [recoverD, hu]) ?_
  refine wpS_of_wp ?_
  have hargs : RelVs (extβ [g4, g5, g6]) S w ([.ptr 1000 0, .ptr 1001 0, .ptr 1002 0] ++ List.replicate 20 .skp) (#[Value.pointer (some ⟨g4, 0, none⟩), .pointer (some ⟨g5, 0, none⟩), .pointer (some ⟨g6, 0, none⟩)] ++ Array.replicate 20 undef).toList := by
    simp only [Array.toList_append, Array.toList_replicate]
    refine RelVs.append (vs := [_, _, _]) ⟨_, _, rfl, ⟨g4, rfl, rfl⟩, _, _, rfl, ⟨g5, rfl, rfl⟩, _, _, rfl, ⟨g6, rfl, rfl⟩, rfl⟩ ?_
    generalize 20 = n
    induction n with
    | zero => simp [RelVs]
    | succ n ih => exact ⟨undef, _, rfl, rfl, ih⟩
  have hI0 := start_inv (ds := []) hS (gs := [g4, g5, g6]) (bs := outBs zeroAcc zeroOut false) rfl hgn hgd hbs hargs
  have hn : Try.f99.ntmps - (#[Value.pointer (some ⟨g4, 0, none⟩), .pointer (some ⟨g5, 0, none⟩), .pointer (some ⟨g6, 0, none⟩)] : Array Value).size = 20 := rfl
  rw [hn]
  have hI1 := hI0.put (v := .undef) (u := .iface 136 (accVal q)) (by simp [RelV]) (some 7)
  generalize ha : (Act.put { tmps := #[Value.pointer (some ⟨g4, 0, none⟩), .pointer (some ⟨g5, 0, none⟩), .pointer (some ⟨g6, 0, none⟩)] ++ Array.replicate 20 undef, defers := [] } (some 7) (.iface 136 (accVal q)) : Act) = a1 at hI1 ⊢
  have hs : a1.tmps.size = 23 := by subst ha; simp [Act.put]
  have h7 : a1.eval (.tmp 7) = .iface 136 (accVal q) := by subst ha; exact eval_put_same (by simp)
  show (Code.block _ _).wp _ _ a1 w
  refine wp_block ?_
  refine wp_seq ?_
  refine wp_region ?_
  show wpOps _ _ _ [0] _ _
  rw [wpOps_cons]
  refine wpOp_plain rfl rfl (wp_value (u := .bool false) (w' := w) ?_ ?_)
  · show (do let x ← (do eqGuard .eql 20 (.tmp 7) (.const .nilIface) (a1.eval (.tmp 7)) .nilIface; binOp .eql 20 (a1.eval (.tmp 7)) .nilIface); pure (Next.value x) : Sem Next).run Try.prog w = _
    rw [h7]
    simp [Sem.run_bind, guard_ifc, eq_ifc]
  have hI2 := hI1.put (v := .undef) (u := .bool false) (by simp [RelV]) (some 9)
  have h72 : (a1.put (some 9) (.bool false)).eval (.tmp 7) = .iface 136 (accVal q) := by rw [eval_put_ne (by decide)]; exact h7
  have hs2 : (a1.put (some 9) (.bool false)).tmps.size = 23 := by simp [Act.put, hs]
  refine wp_cond_false (eval_put_same (by omega)) ?_
  show (Code.seq _ _).wp _ _ (a1.put (some 9) (.bool false)) w
  generalize a1.put (some 9) (.bool false) = a2 at hI2 h72 hs2 ⊢
  refine wp_seq ?_
  refine wp_region ?_
  show wpOps _ _ _ [0, 1, 2] _ _
  rw [wpOps_cons]
  refine wpOp_plain rfl rfl (wp_value (u := .tuple #[accVal q, .bool true]) (w' := w) ?_ ?_)
  · show (do let x ← Instr.typeAssert (a2.eval (.tmp 7)) 20 136 true; pure (Next.value x) : Sem Next).run Try.prog w = _
    rw [h72]
    simp [Sem.run_bind, assert_ifc]
  have hI3 := hI2.put (v := .undef) (u := .tuple #[accVal q, .bool true]) (by simp [RelV]) (some 10)
  have h10 : (a2.put (some 10) (.tuple #[accVal q, .bool true])).eval (.tmp 10) = .tuple #[accVal q, .bool true] := eval_put_same (by omega)
  have hs3 : (a2.put (some 10) (.tuple #[accVal q, .bool true])).tmps.size = 23 := by simp [Act.put, hs2]
  show wpOps _ _ _ [1, 2] (a2.put (some 10) (.tuple #[accVal q, .bool true])) w
  generalize a2.put (some 10) (.tuple #[accVal q, .bool true]) = a3 at hI3 h10 hs3 ⊢
  rw [wpOps_cons]
  refine wpOp_plain rfl rfl (wp_value (u := .bool true) (w' := w) ?_ ?_)
  · show (do let x ← Instr.extract (a3.eval (.tmp 10)) 1; pure (Next.value x) : Sem Next).run Try.prog w = _
    rw [h10]
    rfl
  have hI4 := hI3.put (v := .undef) (u := .bool true) (by simp [RelV]) (some 11)
  have h10' : (a3.put (some 11) (.bool true)).eval (.tmp 10) = .tuple #[accVal q, .bool true] := by rw [eval_put_ne (by decide)]; exact h10
  have h11 : (a3.put (some 11) (.bool true)).eval (.tmp 11) = .bool true := eval_put_same (by omega)
  show wpOps _ _ _ [2] (a3.put (some 11) (.bool true)) w
  generalize a3.put (some 11) (.bool true) = a4 at hI4 h10' h11 ⊢
  rw [wpOps_cons]
  refine wpOp_plain rfl rfl (wp_value (u := accVal q) (w' := w) ?_ ?_)
  · show (do let x ← Instr.extract (a4.eval (.tmp 10)) 0; pure (Next.value x) : Sem Next).run Try.prog w = _
    rw [h10']
    rfl
  have hI5 := hI4.put (v := .agg (accV q)) (u := accVal q) ⟨[.int .i64 q.kind, .int .i64 q.cell, .int .i64 q.old, .int .i64 q.new, .string q.bytes], rfl, _, _, rfl, rfl, _, _, rfl, rfl, _, _, rfl, rfl, _, _, rfl, rfl, _, _, rfl, rfl, rfl⟩ (some 12)
  refine wp_cond_true (a := a4.put (some 12) (accVal q)) (by rw [eval_put_ne (by decide)]; exact h11) ?_
  refine ev_wp hE (by kernel_rfl) (.seq _ _) (by kernel_rfl) (fun e tm hp => e = .normal ∧ (1000, AO.box (accV q)) ∈ hp ∧ (1001, AO.box zeroOut) ∈ hp ∧ (1002, AO.box [.bool false]) ∈ hp) _ ?_ _ _ _ _ _ _ hI5 ?_
  · intro β S' tm hp a w' hI
    refine ⟨fun ⟨_, h1, h2, h3⟩ => ?_, fun id h => by simp at h, fun h => by simp at h, fun v u h => by simp at h⟩
    refine ⟨hI.defs, _, rfl, .tuple #[], ?_, rfl, rfl, S', ?_, hI.os, hI.tape, hI.output, hI.size, fun b h1 h2 => hI.old b h1 h2⟩
    · simp [results, Try.results99]
    · intro i cs hi
      match i, hi with
      | 0, hi => simp [outBs] at hi; subst hi; obtain ⟨T, vs, q1, q2, _⟩ := end_box hI (i := 0) (g := g4) rfl h1 rfl; exact ⟨g4, T, vs, rfl, q1, q2⟩
      | 1, hi => simp [outBs] at hi; subst hi; obtain ⟨T, vs, q1, q2, _⟩ := end_box hI (i := 1) (g := g5) rfl h2 rfl; exact ⟨g5, T, vs, rfl, q1, q2⟩
      | 2, hi => simp [outBs] at hi; subst hi; obtain ⟨T, vs, q1, q2, _⟩ := end_box hI (i := 2) (g := g6) rfl h3 rfl; exact ⟨g6, T, vs, rfl, q1, q2⟩
      | n + 3, hi => simp [outBs] at hi
  · conv => whnf
    exact ⟨rfl, .head _, .tail _ (.head _), .tail _ (.tail _ (.head _))⟩

end Go.Proofs.Ythakgbecpkfeoaa.Ev

/- Layer 16: play.Run. -/
set_option linter.unusedVariables false
set_option linter.unusedSimpArgs false
set_option maxRecDepth 100000
namespace Go.Proofs.Ythakgbecpkfeoaa.Ev

def runV : Out → AV
  | .ret r => .tup [.agg zeroAcc, r, .bool true]
  | .pan (.ifc _ (.agg cs)) => .tup [.agg cs, .agg zeroOut, .bool false]
  | .pan _ => .undef

def rtm : List AV := [.undef, .undef, .undef, .undef, .ptr 1000 0, .ptr 1001 0, .ptr 1002 0] ++ List.replicate 9 .undef

theorem RelVs.undefs {β : Nat → Option Value} {S : Nat → Prop} {w : World} : ∀ us : List Value, RelVs β S w (List.replicate us.length .undef) us
  | [] => rfl
  | u :: us => ⟨u, us, rfl, trivial, RelVs.undefs us⟩

theorem rtm_rel {g4 g5 g6 : Nat} {S : Nat → Prop} {w : World} {a : Act} (hs : a.tmps.size = 16) (h4 : a.eval (.tmp 4) = .pointer (some ⟨g4, 0, none⟩)) (h5 : a.eval (.tmp 5) = .pointer (some ⟨g5, 0, none⟩)) (h6 : a.eval (.tmp 6) = .pointer (some ⟨g6, 0, none⟩)) :
    RelVs (extβ [g4, g5, g6]) S w rtm a.tmps.toList := by
  obtain ⟨⟨l⟩, ds⟩ := a
  simp only [List.size_toArray] at hs
  match l, hs with
  | x0 :: x1 :: x2 :: x3 :: x4 :: x5 :: x6 :: l', hs =>
    simp only [Act.eval, Array.getD, List.size_toArray, List.length_cons] at h4 h5 h6
    simp at h4 h5 h6
    subst h4
    subst h5
    subst h6
    have hl : l'.length = 9 := by simp at hs; omega
    refine ⟨_, _, rfl, trivial, _, _, rfl, trivial, _, _, rfl, trivial, _, _, rfl, trivial, _, _, rfl, ⟨g4, rfl, rfl⟩, _, _, rfl, ⟨g5, rfl, rfl⟩, _, _, rfl, ⟨g6, rfl, rfl⟩, ?_⟩
    rw [← hl]
    exact RelVs.undefs l'

/-- The results of play.Run are read from their variables. -/
theorem run_results {sp : List (Nat × Spec)} (hE : EnvOK Try.prog ⟨tys, sp⟩) {g4 g5 g6 : Nat} {S : Nat → Prop} {w : World} {a : Act} {x : Acc} {val ver rv st er : Int} {is lo dn : Bool}
    (hS : ∀ b, S b → b < w.heap.size) (hgn : [g4, g5, g6].Nodup) (hgd : ∀ g ∈ [g4, g5, g6], ¬ S g ∧ g < w.heap.size)
    (hs : a.tmps.size = 16) (h4 : a.eval (.tmp 4) = .pointer (some ⟨g4, 0, none⟩)) (h5 : a.eval (.tmp 5) = .pointer (some ⟨g5, 0, none⟩)) (h6 : a.eval (.tmp 6) = .pointer (some ⟨g6, 0, none⟩))
    (hb : Holds3 [g4, g5, g6] S w [accV x, [.int .i64 val, .int .i64 ver, .int .i64 rv, .int .i64 st, .bool is, .bool lo, .int .i64 er], [.bool dn]]) :
    ∃ v, (results Try.f80 a.tmps).run Try.prog w = .ok v w ∧ ∀ (β : Nat → Option Value) (S : Nat → Prop) (w : World), RelV β S w (.tup [.agg (accV x), .agg [.int .i64 val, .int .i64 ver, .int .i64 rv, .int .i64 st, .bool is, .bool lo, .int .i64 er], .bool dn]) v := by
  have hI := start_inv (ds := a.defers) hS (gs := [g4, g5, g6]) rfl hgn hgd hb (rtm_rel (S := S) (w := w) hs h4 h5 h6)
  obtain ⟨vs, us, hk, hr, hrun⟩ := resF_of hE hI (l := Try.f80.results.toList) (k := fun vs => vs = [.agg (accV x), .agg [.int .i64 val, .int .i64 ver, .int .i64 rv, .int .i64 st, .bool is, .bool lo, .int .i64 er], .bool dn]) (show resF ⟨tys, sp⟩ rtm _ _ _ from by (conv => whnf); rfl)
  subst hk
  refine ⟨_, results_run hrun, fun β S w => ?_⟩
  simp only [RelVs, RelV, accV] at hr ⊢
  obtain ⟨v1, us1, rfl, ⟨vs1, rfl, p1⟩, v2, us2, rfl, ⟨vs2, rfl, p2⟩, v3, us3, rfl, rfl, rfl⟩ := hr
  exact ⟨_, rfl, _, _, rfl, ⟨_, rfl, p1⟩, _, _, rfl, ⟨_, rfl, p2⟩, _, _, rfl, rfl, rfl⟩

def h80 : List AV → Option (Prop × AV)
  | [.clo 81 [.kp lay, .kp mes, .kp op], .sl .res log] => match h81 [.clo 98 [.ptr 1000 0, .kp [.sl .res log]], .clo 100 [.ptr 1000 0], .kp lay, .kp mes, .kp op] [[.int .i64 0]] with
    | some (p, out, bs) => some (p, runV out)
    | none => none
  | _ => none
def runTm (lay mes op : List AV) (log : List Res) : List AV := [.clo 81 [.kp lay, .kp mes, .kp op], .sl .res log, .skp, .kp [.sl .res log], .ptr 4 0, .ptr 5 0, .ptr 6 0, .ptr 7 0, .clo 98 [.ptr 7 0, .kp [.sl .res log]], .clo 98 [.ptr 7 0, .kp [.sl .res log]], .skp, .skp, .skp, .skp, .skp, .skp]
def runHp : Hp := [(4, .box zeroAcc), (5, .box zeroOut), (6, .box [.bool false]), (7, .box [.int .i64 0])]

noncomputable def c80 : Code := match Try.f80.body with
  | some (.seq _ (.seq _ (.seq _ (.seq _ c)))) => c
  | _ => .skip
def midTm (lay mes op : List AV) (log : List Res) : List AV := [.clo 81 [.kp lay, .kp mes, .kp op], .sl .res log, .skp, .kp [.sl .res log], .ptr 1000 0, .ptr 1001 0, .ptr 1002 0, .ptr 1003 0, .clo 98 [.ptr 1003 0, .kp [.sl .res log]], .clo 98 [.ptr 1003 0, .kp [.sl .res log]], .undef, .skp, .skp, .skp, .skp, .skp]
def midHp : Hp := extL 0 [zeroAcc, zeroOut, [.bool false], [.int .i64 0]]
def Slots (tm : List AV) : Prop := tm.length = 16 ∧ getV tm 4 = .ptr 1000 0 ∧ getV tm 5 = .ptr 1001 0 ∧ getV tm 6 = .ptr 1002 0
def outL (val ver : Int) (is : Bool) (err : Int) : List AV := [.int .i64 val, .int .i64 ver, .int .i64 0, .int .i64 0, .bool is, .bool false, .int .i64 err]
def Boxes (hp : Hp) (a o : List AV) (b : Bool) : Prop := (1000, AO.box a) ∈ hp ∧ (1001, AO.box o) ∈ hp ∧ (1002, AO.box [.bool b]) ∈ hp
def post80 (out : Out) (e : Ex) (tm : List AV) (hp : Hp) : Prop :=
  Slots tm ∧ ((e = .ret ∧ ∃ v w b r, out = .ret (outV v w b r) ∧ Boxes hp zeroAcc (outL v w b r) true) ∨ ∃ q, e = .pan (.ifc 136 (.agg (accV q))) ∧ out = panA q ∧ Boxes hp zeroAcc zeroOut false)

theorem stepF_shape (wd vl kind B me : Int) (log : List Res) : (∃ v w b r, (stepF wd vl kind B me log).1 = .ret (outV v w b r)) ∨ ∃ a, (stepF wd vl kind B me log).1 = panA a := by
  have up : ∀ {F : Out × Int}, ShapeO F → (∃ v w b r, F.1 = .ret (outV v w b r)) ∨ ∃ a, F.1 = panA a := fun h => h.imp (fun ⟨v, w, b, h⟩ => ⟨v, w, b, 0, h⟩) id
  unfold stepF
  split
  · exact .inl ⟨_, _, _, _, rfl⟩
  · split
    · exact up (tkF_shape _ _ _)
    · split
      · exact up (gvF_shape _ _ _)
      · split
        · exact up (lkF_shape _ _ _)
        · exact up (rdF_shape _ _ _)

theorem body80 {lay mes op : List AV} {log : List Res} {p : Prop} {out : Out} {bs : List (List AV)} (he : h81 [.clo 98 [.ptr 1000 0, .kp [.sl .res log]], .clo 100 [.ptr 1000 0], .kp lay, .kp mes, .kp op] [[.int .i64 0]] = some (p, out, bs)) (hp : p) :
    AV.renoks [4, 5, 6, 7] (runTm lay mes op log) = true ∧ AV.rens [4, 5, 6, 7] (runTm lay mes op log) = [.clo 81 [.kp lay, .kp mes, .kp op], .sl .res log, .skp, .kp [.sl .res log], .ptr 1000 0, .ptr 1001 0, .ptr 1002 0, .ptr 1003 0, .clo 98 [.ptr 1003 0, .kp [.sl .res log]], .clo 98 [.ptr 1003 0, .kp [.sl .res log]], .skp, .skp, .skp, .skp, .skp, .skp] ∧ ev ⟨tys, (81, .full h81) :: sp88⟩ c80 (midTm lay mes op log) midHp (post80 out) := by
  unfold h81 at he
  split at he
  · rename_i log t l k s m c st lg en th lk lo sz me kind A B tr m1 m2 m3 seen wr du h1 h2
    simp only [Option.some.injEq, Prod.mk.injEq] at he
    obtain ⟨rfl, rfl, rfl⟩ := he
    cases h1
    cases h2
    refine ⟨rfl, rfl, ?_⟩
    have hs := stepF_shape (cellA lo l A 4 0) (cellA lo l A 4 1) kind B me log
    conv => whnf
    refine ⟨hp, ?_⟩
    generalize stepF (cellA lo l A 4 0) (cellA lo l A 4 1) kind B me log = F at hs ⊢
    obtain ⟨out, pos⟩ := F
    dsimp only at hs ⊢
    rcases hs with ⟨v, w, b, r, rfl⟩ | ⟨q, rfl⟩
    · conv => whnf
      exact ⟨⟨rfl, rfl, rfl, rfl⟩, .inl ⟨rfl, _, _, _, _, rfl, .head _, .tail _ (.head _), .tail _ (.tail _ (.head _))⟩⟩
    · conv => whnf
      exact ⟨⟨rfl, rfl, rfl, rfl⟩, .inr ⟨_, rfl, rfl, .head _, .tail _ (.head _), .tail _ (.tail _ (.head _))⟩⟩
  · rename_i log t l k s m c st lg en th lk lo sz me kind A B tr m1 m2 m3 h1 h2
    simp only [Option.some.injEq, Prod.mk.injEq] at he
    obtain ⟨rfl, rfl, rfl⟩ := he
    cases h1
    cases h2
    refine ⟨rfl, rfl, ?_⟩
    have hs := stepF_shape (cellA lo l A 4 0) (cellA lo l A 4 1) kind B me log
    conv => whnf
    refine ⟨hp, ?_⟩
    generalize stepF (cellA lo l A 4 0) (cellA lo l A 4 1) kind B me log = F at hs ⊢
    obtain ⟨out, pos⟩ := F
    dsimp only at hs ⊢
    rcases hs with ⟨v, w, b, r, rfl⟩ | ⟨q, rfl⟩
    · conv => whnf
      exact ⟨⟨rfl, rfl, rfl, rfl⟩, .inl ⟨rfl, _, _, _, _, rfl, .head _, .tail _ (.head _), .tail _ (.tail _ (.head _))⟩⟩
    · conv => whnf
      exact ⟨⟨rfl, rfl, rfl, rfl⟩, .inr ⟨_, rfl, rfl, .head _, .tail _ (.head _), .tail _ (.tail _ (.head _))⟩⟩
  · simp at he

theorem Holds3.any {gs : List Nat} {S S' : Nat → Prop} {w : World} {x : Acc} {val ver rv st er : Int} {is lo dn : Bool} (hb : Holds3 gs S w [accV x, [.int .i64 val, .int .i64 ver, .int .i64 rv, .int .i64 st, .bool is, .bool lo, .int .i64 er], [.bool dn]]) :
    Holds3 gs S' w [accV x, [.int .i64 val, .int .i64 ver, .int .i64 rv, .int .i64 st, .bool is, .bool lo, .int .i64 er], [.bool dn]] := by
  intro i cs hi
  obtain ⟨g, T, vs, h1, h2, h3⟩ := hb i cs hi
  refine ⟨g, T, vs, h1, h2, ?_⟩
  match i, hi with
  | 0, hi => simp at hi; subst hi; simpa only [RelVs, RelV, accV] using h3
  | 1, hi => simp at hi; subst hi; simpa only [RelVs, RelV] using h3
  | 2, hi => simp at hi; subst hi; simpa only [RelVs, RelV] using h3
  | n + 3, hi => simp at hi

theorem wp_defer {P : Program} {o : Oper} {a : Act} {w : World} {K : Act → World → Prop} {Q : Exit → Act → World → Prop} {d : Deferred} (h : (execOp a.eval o).run P w = .ok (.defer d) w) (hd : o.dst = none)
    (hK : K { a with defers := d :: a.defers } w) : o.wp P a w K Q := by
  unfold Oper.wp
  rw [h, Oper.upon_defer, hd]
  exact hK

theorem run80 : SpecPure Try.prog 80 h80 := by
  intro S w args vals p r hS hr hh hp
  unfold h80 at hh
  split at hh
  · rename_i lay mes op log
    split at hh
    · rename_i p' out bs h81e
      simp only [Option.some.injEq, Prod.mk.injEq] at hh
      obtain ⟨rfl, rfl⟩ := hh
      refine calls_of_wp_defers Try.func80 rfl ?_
      have hargs : RelVs (extβ []) S w ([.clo 81 [.kp lay, .kp mes, .kp op], .sl .res log] ++ List.replicate 14 .skp) (vals.toArray ++ Array.replicate 14 undef).toList := by
        simp only [Array.toList_append, Array.toList_replicate]
        rw [extβ_nil]
        refine hr.append ?_
        generalize 14 = n
        induction n with
        | zero => simp [RelVs]
        | succ n ih => exact ⟨undef, _, rfl, rfl, ih⟩
      have hI0 := start_inv (ds := []) hS (gs := []) (bs := []) rfl (by simp) (by simp) (by simp) hargs
      have hsz : vals.toArray.size = 2 := by simpa using hr.length.symm
      have hn : Try.f80.ntmps - vals.toArray.size = 14 := by rw [hsz]; rfl
      rw [hn]
      refine seqs_wp w81 (by kernel_rfl) (k := fun tm hp => tm = runTm lay mes op log ∧ hp = runHp) ?_ [_, _, _] ?_ _ _ _ _ _ _ hI0 ?_
      · rintro β S1 tm hp a w1 ⟨rfl, rfl⟩ hI
        obtain ⟨g4, T4, vs4, b4, k4, n4, e4, r4⟩ := hI.box 4 zeroAcc (.head _)
        obtain ⟨g5, T5, vs5, b5, k5, n5, e5, r5⟩ := hI.box 5 zeroOut (.tail _ (.head _))
        obtain ⟨g6, T6, vs6, b6, k6, n6, e6, r6⟩ := hI.box 6 [.bool false] (.tail _ (.tail _ (.head _)))
        obtain ⟨g7, T7, vs7, b7, k7, n7, e7, r7⟩ := hI.box 7 [.int .i64 0] (.tail _ (.tail _ (.tail _ (.head _))))
        have ne : ∀ {o o' g g' : Nat}, o ≠ o' → β o = some (.pointer (some ⟨g, 0, none⟩)) → β o' = some (.pointer (some ⟨g', 0, none⟩)) → ¬ S1 g → g ≠ g' := by
          intro o o' g g' h1 h2 h3 h4 h5
          subst h5
          exact hI.apart o o' _ _ g h1 h2 h3 rfl h4 rfl
        have hnd : [g4, g5, g6, g7].Nodup := by
          simp only [List.nodup_cons, List.mem_cons, List.not_mem_nil, or_false, not_or, not_false_eq_true, List.nodup_nil, and_true]
          exact ⟨⟨ne (by decide) b4 b5 n4, ne (by decide) b4 b6 n4, ne (by decide) b4 b7 n4⟩, ⟨ne (by decide) b5 b6 n5, ne (by decide) b5 b7 n5⟩, ne (by decide) b6 b7 n6⟩
        have lt : ∀ {g : Nat} {o : Obj}, w1.heap[g]? = some o → g < w1.heap.size := fun h => (Array.getElem?_eq_some_iff.1 h).1
        have hgd : ∀ g ∈ [g4, g5, g6, g7], ¬ S1 g ∧ g < w1.heap.size := by
          intro g hg
          simp only [List.mem_cons, List.not_mem_nil, or_false] at hg
          rcases hg with rfl | rfl | rfl | rfl
          · exact ⟨n4, lt e4⟩
          · exact ⟨n5, lt e5⟩
          · exact ⟨n6, lt e6⟩
          · exact ⟨n7, lt e7⟩
        have fresh : ∀ {g : Nat}, (w.heap.size ≤ g ∨ XRof S [] [] g) → w.heap.size ≤ g := fun h => h.elim id (fun h => by simp at h)
        have k4 := fresh k4
        have k5 := fresh k5
        have k6 := fresh k6
        have k7 := fresh k7
        have free : ∀ {cs : List AV} {vs : List Value}, AV.frees cs = true → RelVs β S1 w1 cs vs → RelVs (extβ [g4, g5, g6, g7]) S1 w1 cs vs := fun h1 h2 => RelVs.free _ _ h1 h2
        have hbs : ∀ (i : Nat) (cs : List AV), [zeroAcc, zeroOut, [.bool false], [.int .i64 0]][i]? = some cs → ∃ (g T : Nat) (vs : Array Value), [g4, g5, g6, g7][i]? = some g ∧ w1.heap[g]? = some (Obj.cells vs T (0, 0)) ∧ RelVs (extβ [g4, g5, g6, g7]) S1 w1 cs vs.toList := by
          intro i cs hi
          match i, hi with
          | 0, hi => simp at hi; subst hi; exact ⟨g4, T4, vs4, rfl, e4, free rfl r4⟩
          | 1, hi => simp at hi; subst hi; exact ⟨g5, T5, vs5, rfl, e5, free rfl r5⟩
          | 2, hi => simp at hi; subst hi; exact ⟨g6, T6, vs6, rfl, e6, free rfl r6⟩
          | 3, hi => simp at hi; subst hi; exact ⟨g7, T7, vs7, rfl, e7, free rfl r7⟩
          | n + 4, hi => simp at hi
        have hrel : RelVs (extβ [g4, g5, g6, g7]) S1 w1 (AV.rens [4, 5, 6, 7] (runTm lay mes op log)) a.tmps.toList := by
          refine RelVs.ren (β := β) (fun o i v h1 h2 => ?_) _ _ ?_ hI.rel
          · match i, h1 with
            | 0, h1 => simp at h1; subst h1; rw [b4] at h2; exact h2
            | 1, h1 => simp at h1; subst h1; rw [b5] at h2; exact h2
            | 2, h1 => simp at h1; subst h1; rw [b6] at h2; exact h2
            | 3, h1 => simp at h1; subst h1; rw [b7] at h2; exact h2
            | n + 4, h1 => simp at h1
          · exact (body80 h81e hp).1
        rw [(body80 h81e hp).2.1] at hrel
        have evp : ∀ {t o g : Nat}, getV (runTm lay mes op log) t = .ptr o 0 → β o = some (.pointer (some ⟨g, 0, none⟩)) → a.eval (.tmp t) = .pointer (some ⟨g, 0, none⟩) := by
          intro t o g ht ho
          have h := hI.eval (.tmp t)
          simp only [evalV, ht] at h
          obtain ⟨g', h3, h4⟩ := h
          rw [ho] at h3
          simp only [Value.pointer.injEq, Option.some.injEq, Addr.mk.injEq, and_true] at h3
          subst h3
          exact h4
        have v4 := evp (t := 4) rfl b4
        have v5 := evp (t := 5) rfl b5
        have v6 := evp (t := 6) rfl b6
        have hsa : a.tmps.size = 16 := by simpa [runTm] using hI.rel.length.symm
        have hda : a.defers = [] := hI.defs
        refine wp_seq ?_
        refine wp_region ?_
        show wpOps _ _ _ [0, 1] _ _
        rw [wpOps_cons]
        refine wpOp_plain rfl rfl (wp_value (u := .func (.func 99) #[] #[.pointer (some ⟨g4, 0, none⟩), .pointer (some ⟨g5, 0, none⟩), .pointer (some ⟨g6, 0, none⟩)]) (w' := w1) ?_ ?_)
        · show (do let x ← Instr.makeFunc (.func 99) (#[].map a.eval) (#[Operand.tmp 4, .tmp 5, .tmp 6].map a.eval); pure (Next.value x) : Sem Next).run Try.prog w1 = _
          simp [Instr.makeFunc, v4, v5, v6]
        rw [wpOps_cons]
        refine wpOp_plain rfl rfl ?_
        generalize hd : ({ target := .fn (.func 99) #[.pointer (some ⟨g4, 0, none⟩), .pointer (some ⟨g5, 0, none⟩), .pointer (some ⟨g6, 0, none⟩)], args := #[] } : Deferred) = d
        generalize hclo : Value.func (.func 99) #[] #[.pointer (some ⟨g4, 0, none⟩), .pointer (some ⟨g5, 0, none⟩), .pointer (some ⟨g6, 0, none⟩)] = clo
        have h10 : (a.put (some 10) clo).eval (.tmp 10) = clo := eval_put_same (by omega)
        refine wp_defer (d := d) ?_ rfl ?_
        · show (do let x ← resolve (a.put (some 10) clo).eval { callee := .value (.tmp 10), args := #[], argTypes := #[] } 0; pure (Next.defer x) : Sem Next).run Try.prog w1 = _
          simp [resolve, h10]
          rw [← hclo, ← hd]
          simp [Deferred.ofValue]
        have hI1 := start_inv (ds := a.defers) hI.sb (gs := [g4, g5, g6, g7]) rfl hnd hgd hbs hrel
        have hrel2 := (hI1.put (v := .undef) (u := clo) (by simp [RelV]) (some 10)).rel
        have hI2 := start_inv (ds := [d]) (tmps0 := (a.put (some 10) clo).tmps) hI.sb (gs := [g4, g5, g6, g7]) rfl hnd hgd hbs hrel2
        show Code.wp Try.prog (.seq _ _) _ { tmps := (a.put (some 10) clo).tmps, defers := d :: (a.put (some 10) clo).defers } w1
        have hdp : (a.put (some 10) clo).defers = [] := hda
        rw [hdp]
        refine ev_wp w81 (by kernel_rfl) c80 (by kernel_rfl) (post80 out) _ ?_ _ _ _ _ _ _ hI2 (body80 h81e hp).2.2
        intro β' S' tm hp a' w' hI'
        have hinv : (invoke d.target d.args).run Try.prog w' = .ok (.enter 99 #[.pointer (some ⟨g4, 0, none⟩), .pointer (some ⟨g5, 0, none⟩), .pointer (some ⟨g6, 0, none⟩)]) w' := by
          rw [← hd]
          exact enter_of (P := Try.prog) (f := 99) (fn := Try.f99) (by kernel_rfl) (by kernel_rfl) rfl w' _
        have hd' : a'.defers = [d] := hI'.defs
        have hnd3 : [g4, g5, g6].Nodup := by
          simp only [List.nodup_cons, List.mem_cons, List.not_mem_nil, or_false, not_or, not_false_eq_true, List.nodup_nil, and_true] at hnd ⊢
          exact ⟨⟨hnd.1.1, hnd.1.2.1⟩, hnd.2.1.1⟩
        have hold : ∀ b, b < w.heap.size → w'.heap[b]? = w.heap[b]? := fun b hb => by
          rw [hI'.old b (Nat.lt_of_lt_of_le hb hI.size) (fun hm => by
            have hm : b ∈ [g4, g5, g6, g7] := hm
            simp only [List.mem_cons, List.not_mem_nil, or_false] at hm
            omega)]
          exact hI.old b hb (fun hm => by simp at hm)
        have both : post80 out .ret tm hp → True := fun _ => trivial
        have slots : Slots tm → a'.tmps.size = 16 ∧ a'.eval (.tmp 4) = .pointer (some ⟨g4, 0, none⟩) ∧ a'.eval (.tmp 5) = .pointer (some ⟨g5, 0, none⟩) ∧ a'.eval (.tmp 6) = .pointer (some ⟨g6, 0, none⟩) := by
          rintro ⟨h1, h2, h3, h4⟩
          refine ⟨?_, end_ptr hI' (i := 0) rfl h2, end_ptr hI' (i := 1) rfl h3, end_ptr hI' (i := 2) rfl h4⟩
          have := hI'.rel.length
          rw [h1] at this
          simpa using this.symm
        have boxes : ∀ {x : Acc} {val ver rv st er : Int} {is lo dn : Bool}, Boxes hp (accV x) [.int .i64 val, .int .i64 ver, .int .i64 rv, .int .i64 st, .bool is, .bool lo, .int .i64 er] dn →
            Holds3 [g4, g5, g6] S' w' [accV x, [.int .i64 val, .int .i64 ver, .int .i64 rv, .int .i64 st, .bool is, .bool lo, .int .i64 er], [.bool dn]] ∧ ∀ g ∈ [g4, g5, g6], ¬ S' g ∧ g < w'.heap.size := by
          rintro x val ver rv st er is lo dn ⟨h1, h2, h3⟩
          obtain ⟨T1, us1, q1, p1, m1⟩ := end_box hI' (i := 0) (g := g4) rfl h1 rfl
          obtain ⟨T2, us2, q2, p2, m2⟩ := end_box hI' (i := 1) (g := g5) rfl h2 rfl
          obtain ⟨T3, us3, q3, p3, m3⟩ := end_box hI' (i := 2) (g := g6) rfl h3 rfl
          have lt' : ∀ {g : Nat} {o : Obj}, w'.heap[g]? = some o → g < w'.heap.size := fun h => (Array.getElem?_eq_some_iff.1 h).1
          refine ⟨?_, ?_⟩
          · intro i cs hi
            match i, hi with
            | 0, hi => simp at hi; subst hi; exact ⟨g4, T1, us1, rfl, q1, RelVs.free _ _ rfl p1⟩
            | 1, hi => simp at hi; subst hi; exact ⟨g5, T2, us2, rfl, q2, RelVs.free _ _ rfl p2⟩
            | 2, hi => simp at hi; subst hi; exact ⟨g6, T3, us3, rfl, q3, RelVs.free _ _ rfl p3⟩
            | n + 3, hi => simp at hi
          · intro g hg
            simp only [List.mem_cons, List.not_mem_nil, or_false] at hg
            rcases hg with rfl | rfl | rfl
            · exact ⟨m1, lt' q1⟩
            · exact ⟨m2, lt' q2⟩
            · exact ⟨m3, lt' q3⟩
        refine ⟨fun h => ?_, fun id h => ?_, fun h => ?_, fun v u h hc hr => ?_⟩
        · rcases h.2 with ⟨h, _⟩ | ⟨q, h, _⟩ <;> simp at h
        · rcases h.2 with ⟨h, _⟩ | ⟨q, h, _⟩ <;> simp at h
        · obtain ⟨hsl, ⟨_, val, ver, is, er, rfl, hbx⟩ | ⟨q, h, _⟩⟩ := h
          · obtain ⟨s0, s4, s5, s6⟩ := slots hsl
            obtain ⟨hH, hgd3⟩ := boxes (x := ⟨0, 0, 0, 0, ⟨#[]⟩⟩) hbx
            obtain ⟨v, hrun, hrv⟩ := run_results w81 hI'.sb hnd3 hgd3 s0 s4 s5 s6 hH
            show Leaves Try.prog Try.f80 a'.tmps _ a'.defers .returning w'
            rw [hd']
            refine ⟨by simp, _, _, _, _, (by rw [← hd]), hinv, ?_⟩
            refine (catch_idle _ _ _ w').mono ?_
            rintro e u' w'' ⟨rfl, rfl, rfl⟩
            exact ⟨v, hrun, v, rfl, hrv _ _ _, hI'.os.trans hI.os, hI'.tape.trans hI.tape, hI'.output.trans hI.output, Nat.le_trans hI.size hI'.size, hold⟩
          · simp at h
        · obtain ⟨hsl, ⟨h, _⟩ | ⟨q, h, rfl, hbx⟩⟩ := h
          · simp at h
          · simp only [Ex.pan.injEq] at h
            subst h
            obtain ⟨s0, s4, s5, s6⟩ := slots hsl
            obtain ⟨hH, hgd3⟩ := boxes (x := ⟨0, 0, 0, 0, ⟨#[]⟩⟩) hbx
            obtain ⟨u1, rfl, hu1⟩ := hr
            have hu : u1 = accVal q := by
              simp only [RelV, RelVs, accV] at hu1
              obtain ⟨vs, rfl, x1, l1, rfl, rfl, x2, l2, rfl, rfl, x3, l3, rfl, rfl, x4, l4, rfl, rfl, x5, l5, rfl, rfl, rfl⟩ := hu1
              rfl
            subst hu
            show Leaves Try.prog Try.f80 a'.tmps _ a'.defers (.panicking _) w'
            rw [hd']
            refine ⟨by simp, _, _, _, _, (by rw [← hd]), hinv, ?_⟩
            refine (catch_panic w81 q hI'.sb hnd3 hgd3 hH).mono ?_
            rintro e u' w'' ⟨rfl, rfl, S2, hH2, hO⟩
            obtain ⟨v, hrun, hrv⟩ := run_results w81 (S := fun _ => False) (w := w'') (a := a') (fun _ h => h.elim) hnd3 (fun g hg => ⟨id, Nat.lt_of_lt_of_le (hgd3 g hg).2 hO.2.2.2.1⟩) s0 s4 s5 s6 (Holds3.any hH2)
            refine ⟨v, hrun, v, rfl, hrv _ _ _, hO.1.trans (hI'.os.trans hI.os), hO.2.1.trans (hI'.tape.trans hI.tape), hO.2.2.1.trans (hI'.output.trans hI.output), Nat.le_trans (Nat.le_trans hI.size hI'.size) hO.2.2.2.1, fun b hb => ?_⟩
            rw [hO.2.2.2.2 b (Nat.lt_of_lt_of_le (Nat.lt_of_lt_of_le hb hI.size) hI'.size) (by simp only [List.mem_cons, List.not_mem_nil, or_false]; omega)]
            exact hold b hb
      · exact List.all_eq_true.1 (by kernel_rfl)
      · conv => whnf
        exact ⟨rfl, rfl⟩
    · simp at hh
  · simp at hh

theorem w80 : EnvOK Try.prog ⟨tys, (80, .pure h80) :: (81, .full h81) :: sp88⟩ := by
  have hE := w81
  refine ⟨hE.ty, hE.eq, fun g k hk => ?_, fun g s hk => ?_, fun g s hk => ?_, hE.z3, hE.u3, hE.u4⟩
  · rcases List.mem_cons.1 hk with h1 | h1
    · simp only [Prod.mk.injEq, Spec.pure.injEq] at h1
      obtain ⟨rfl, rfl⟩ := h1
      exact ⟨run80, enter_of (P := Try.prog) (f := 80) (fn := Try.f80) (by kernel_rfl) (by kernel_rfl) rfl⟩
    · exact hE.pure g k h1
  · rcases List.mem_cons.1 hk with h1 | h1
    · simp at h1
    · exact hE.full g s h1
  · rcases List.mem_cons.1 hk with h1 | h1
    · simp at h1
    · exact hE.tab g s h1
abbrev sp80 : List (Nat × Spec) := (80, .pure h80) :: (81, .full h81) :: sp88

end Go.Proofs.Ythakgbecpkfeoaa.Ev

/- Layer 16: lock.Next answers as the reference does. -/
set_option linter.unusedVariables false
set_option linter.unusedSimpArgs false
set_option maxRecDepth 100000
namespace Go.Proofs.Ythakgbecpkfeoaa.Ev

def nxV (n : NX) : AV := .tup [.agg (accV n.acc), .agg [.int .i64 n.val, .int .i64 n.ver, .int .i64 0, .int .i64 0, .bool n.is, .bool false, .int .i64 n.err], .bool n.done]

theorem doC_nil (a : Acc) : doC (c0 []) a = (⟨[], 0, a, true⟩, r0) := by simp [doC, c0]
theorem doC_cons (r : Res) (l : List Res) (a : Acc) : doC (c0 (r :: l)) a = (⟨r :: l, 1, a0, false⟩, r) := by
  unfold doC
  rw [if_neg (by simp [c0]), if_neg (by simp [c0])]
  rfl
theorem doC_stop (l : List Res) (p : Int) (b a : Acc) : doC ⟨l, p, b, true⟩ a = (⟨l, p, b, true⟩, r0) := by simp [doC]
theorem doC_end (l : List Res) (p : Int) (b a : Acc) (h : p = l.length) : doC ⟨l, p, b, false⟩ a = (⟨l, p, a, true⟩, r0) := by simp [doC, h]
theorem doC_at (l : List Res) (i : Nat) (b a : Acc) (h : i < l.length) : doC ⟨l, i, b, false⟩ a = (⟨l, (i + 1 : Nat), b, false⟩, l[i]) := by
  simp only [doC, Bool.false_eq_true, if_false]
  rw [if_neg (by simp; omega)]
  simp [List.getD_eq_getElem?_getD, List.getElem?_eq_getElem h]
theorem locked0 : lockedW 0 = false := rfl

theorem step_nxt (wd vl kind B me : Int) (log : List Res) : runV (stepF wd vl kind B me log).1 = nxV (nxt wd vl kind B me log) := by
  by_cases hk : kind = 1 ∨ kind = 2 ∨ kind = 3 ∨ kind = 4
  · by_cases hw : wd < 0
    · rw [stepF_bad (.inr hw), nxt_bad (.inr (.inr hw))]; rfl
    · rcases hk with rfl | rfl | rfl | rfl
      · rw [stepF_1 hw]
        unfold nxt
        rw [if_neg (by omega), if_pos rfl]
        match log with
        | [] => simp [tkF, nxtT, tkC, tkW, tkX, doC_nil, doC_stop, r0, locked0, toldN, toldA, toldI, toldB, runV, panA, nxV, zeroOut]
        | [r] =>
          cases hl : lockedW r.val
          · simp [tkF, nxtT, tkC, tkW, tkX, doC_cons, hl]
            simp [doC_end, r0, toldN, toldA, toldI, toldB, runV, panA, nxV, zeroOut]
          · simp [tkF, nxtT, tkC, tkW, tkX, doC_cons, hl]
            try simp [toldN, toldA, toldI, toldB, runV, panA, nxV, zeroOut, outV, zeroAcc, a0, accV]
        | r :: q :: l =>
          cases hl : lockedW r.val
          · have := doC_at (r :: q :: l) 1 a0 (accC wd r.val (2 * me + 1)) (by simp)
            simp only [Int.natCast_one] at this
            cases hq : q.ok
            · simp [tkF, nxtT, tkC, tkW, tkX, doC_cons, hl, this, hq]
              try simp [toldN, toldA, toldI, toldB, runV, panA, nxV, zeroOut, outV, zeroAcc, a0, accV]
            · simp [tkF, nxtT, tkC, tkW, tkX, doC_cons, hl, this, hq]
              try simp [toldN, toldA, toldI, toldB, runV, panA, nxV, zeroOut, outV, zeroAcc, a0, accV]
          · simp [tkF, nxtT, tkC, tkW, tkX, doC_cons, hl]
            try simp [toldN, toldA, toldI, toldB, runV, panA, nxV, zeroOut, outV, zeroAcc, a0, accV]
      · rw [stepF_2 hw]
        unfold nxt
        rw [if_neg (by omega), if_neg (by omega), if_pos rfl]
        match log with
        | [] => simp [gvF, gvC, doC_nil, r0, toldN, toldA, toldI, toldB, runV, panA, nxV, zeroOut]
        | r :: l => simp [gvF, gvC, doC_cons, toldN, toldA, toldI, toldB, runV, panA, nxV, zeroOut, outV, zeroAcc, a0, accV]
      · rw [stepF_3 hw]
        unfold nxt
        rw [if_neg (by omega), if_neg (by omega), if_neg (by omega), if_pos rfl]
        match log with
        | [] =>
          simp only [lkF, lkC, doC_nil, nxtL]
          cases h : (r0.val == IntKind.i64.wrap (2 * B)) <;> simp [h, r0, locked0, toldN, toldA, toldI, toldB, runV, panA, nxV, zeroOut]
          all_goals split <;> simp [toldN, toldA, toldI, toldB]
        | r :: l =>
          simp only [lkF, lkC, doC_cons, nxtL]
          cases h : (r.val == IntKind.i64.wrap (2 * B))
          · cases hl : lockedW r.val
            · simp [toldN, toldA, toldI, toldB, runV, panA, nxV, zeroOut, outV, zeroAcc, a0, accV]
            · simp [toldN, toldA, toldI, toldB, runV, panA, nxV, zeroOut, outV, zeroAcc, a0, accV]
          · simp [toldN, toldA, toldI, toldB, runV, panA, nxV, zeroOut, outV, zeroAcc, a0, accV]
      · rw [stepF_4 hw]
        unfold nxt
        rw [if_neg (by omega), if_neg (by omega), if_neg (by omega), if_neg (by omega)]
        match log with
        | [] => simp [rdF, nxtR, rdC, rdX, rdD, doC_nil, doC_stop, r0, locked0, toldN, toldA, toldI, toldB, runV, panA, nxV, zeroOut]
        | [r] =>
          cases hl : lockedW r.val
          · simp [rdF, nxtR, rdC, rdX, rdD, doC_cons, hl]
            simp [doC_end, doC_stop, r0, toldN, toldA, toldI, toldB, runV, panA, nxV, zeroOut]
            split <;> simp [toldN, toldA, toldI, toldB]
          · simp [rdF, nxtR, rdC, rdX, rdD, doC_cons, hl]
            try simp [toldN, toldA, toldI, toldB, runV, panA, nxV, zeroOut, outV, zeroAcc, a0, accV]
        | [r, v] =>
          cases hl : lockedW r.val
          · have := doC_at [r, v] 1 a0 (accL vl) (by simp)
            simp only [Int.natCast_one] at this
            simp [rdF, nxtR, rdC, rdX, rdD, doC_cons, hl, this]
            simp [doC_end, doC_stop, r0, toldN, toldA, toldI, toldB, runV, panA, nxV, zeroOut]
            split <;> simp [toldN, toldA, toldI, toldB]
          · simp [rdF, nxtR, rdC, rdX, rdD, doC_cons, hl]
            try simp [toldN, toldA, toldI, toldB, runV, panA, nxV, zeroOut, outV, zeroAcc, a0, accV]
        | r :: v :: q :: l =>
          cases hl : lockedW r.val
          · have h1 := doC_at (r :: v :: q :: l) 1 a0 (accL vl) (by simp)
            have h2 : doC ⟨r :: v :: q :: l, 2, a0, false⟩ (accL wd) = (⟨r :: v :: q :: l, 3, a0, false⟩, q) := doC_at (r :: v :: q :: l) 2 a0 (accL wd) (by simp)
            simp only [Int.natCast_one] at h1
            simp [rdF, nxtR, rdC, rdX, rdD, doC_cons, hl, h1, h2]
            by_cases h : q.val = r.val <;> simp [h]
            all_goals simp [toldN, toldA, toldI, toldB, runV, panA, nxV, zeroOut, outV, zeroAcc, a0, accV]

          · simp [rdF, nxtR, rdC, rdX, rdD, doC_cons, hl]
            try simp [toldN, toldA, toldI, toldB, runV, panA, nxV, zeroOut, outV, zeroAcc, a0, accV]
  · rw [stepF_bad (.inl (by omega)), nxt_bad (by omega)]; rfl

def h54 : List AV → Option (Prop × AV)
  | [.agg [.int .i64 t, .int .i64 l, .int .i64 k, .int .i64 s, .int .i64 m, .int .i64 c, .int .i64 st, .int .i64 lg, .int .i64 en, .int .i64 th, .int .i64 lk, .int .i64 lo, .int .i64 sz], .int .i64 me, .agg [.int .i64 kind, .int .i64 A, .int .i64 B, .int .i64 tr, .int .i64 m1, .int .i64 m2, .int .i64 m3, .sl .i3 seen, .sl .i2 wr, .sl .bl du], .sl .res log] => some (log.length ≤ 1000000 ∧ 0 ≤ me ∧ me ≤ 2, nxV (nxt (cellA lo l A 4 0) (cellA lo l A 4 1) kind B me log))
  | [.agg [.int .i64 t, .int .i64 l, .int .i64 k, .int .i64 s, .int .i64 m, .int .i64 c, .int .i64 st, .int .i64 lg, .int .i64 en, .int .i64 th, .int .i64 lk, .int .i64 lo, .int .i64 sz], .int .i64 me, .agg [.int .i64 kind, .int .i64 A, .int .i64 B, .int .i64 tr, .int .i64 m1, .int .i64 m2, .int .i64 m3, .nil, .nil, .nil], .sl .res log] => some (log.length ≤ 1000000 ∧ 0 ≤ me ∧ me ≤ 2, nxV (nxt (cellA lo l A 4 0) (cellA lo l A 4 1) kind B me log))
  | _ => none
theorem w54 : EnvOK Try.prog ⟨tys, (54, .pure h54) :: sp80⟩ := by
  refine addPure w80 (fn := Try.f54) (by kernel_rfl) (by kernel_rfl) (by kernel_rfl) ?_
  intro args p r h hp
  unfold h54 at h
  split at h
  · rename_i t l k s m c st lg en th lk lo sz me kind A B tr m1 m2 m3 seen wr du log
    simp only [Option.some.injEq, Prod.mk.injEq] at h
    obtain ⟨rfl, rfl⟩ := h
    conv => whnf
    refine ⟨hp, ?_⟩
    rw [step_nxt]
    conv => whnf
    exact ⟨_, rfl, Wk.eq rfl⟩
  · rename_i t l k s m c st lg en th lk lo sz me kind A B tr m1 m2 m3 log
    simp only [Option.some.injEq, Prod.mk.injEq] at h
    obtain ⟨rfl, rfl⟩ := h
    conv => whnf
    refine ⟨hp, ?_⟩
    rw [step_nxt]
    conv => whnf
    exact ⟨_, rfl, Wk.eq rfl⟩
  · simp at h
abbrev sp54 : List (Nat × Spec) := (54, .pure h54) :: sp80


end Go.Proofs.Ythakgbecpkfeoaa.Ev

/- Layer 16: the statements' own helpers. -/
set_option linter.unusedVariables false
set_option linter.unusedSimpArgs false
set_option maxRecDepth 100000
namespace Go.Proofs.Ythakgbecpkfeoaa.Ev

def whereV : List AV := [.int .i64 3, .int .i64 2, .int .i64 0, .int .i64 0, .int .i64 0, .int .i64 0, .int .i64 1, .int .i64 2, .int .i64 3, .int .i64 4, .int .i64 16, .int .i64 16, .int .i64 24]
def h47 : List AV → Option (Prop × AV)
  | [] => some (True, .agg whereV)
  | _ => none
theorem w47 : EnvOK Try.prog ⟨tys, (47, .pure h47) :: sp54⟩ := by
  refine addPure w54 (fn := Try.f47) (by kernel_rfl) (by kernel_rfl) (by kernel_rfl) ?_
  intro args p r h hp
  unfold h47 at h
  split at h
  · simp only [Option.some.injEq, Prod.mk.injEq] at h
    obtain ⟨rfl, rfl⟩ := h
    conv => whnf
    refine ⟨trivial, ?_⟩
    conv => whnf
    exact ⟨_, rfl, Wk.eq rfl⟩
  · simp at h
abbrev sp47 : List (Nat × Spec) := (47, .pure h47) :: sp54

def h48 : List AV → Option (Prop × AV)
  | [] => some (True, .agg [.sl .i64 (List.replicate 24 (0 : Int))])
  | _ => none
theorem w48 : EnvOK Try.prog ⟨tys, (48, .pure h48) :: sp47⟩ := by
  refine addPure w47 (fn := Try.f48) (by kernel_rfl) (by kernel_rfl) (by kernel_rfl) ?_
  intro args p r h hp
  unfold h48 at h
  split at h
  · simp only [Option.some.injEq, Prod.mk.injEq] at h
    obtain ⟨rfl, rfl⟩ := h
    conv => whnf
    refine ⟨trivial, ?_⟩
    conv => whnf
    refine ⟨by decide, ?_⟩
    conv => whnf
    exact ⟨_, rfl, Wk.eq rfl⟩
  · simp at h
abbrev sp48 : List (Nat × Spec) := (48, .pure h48) :: sp47

def cellM (m : List Int) (k : Int) : Int := if k < 0 then 0 else if k ≥ m.length then 0 else m.getD k.toNat 0
def h58 : List AV → Option (Prop × AV)
  | [.agg [.sl .i64 m], .int .i64 k] => some (True, .int .i64 (cellM m k))
  | _ => none
theorem w58 : EnvOK Try.prog ⟨tys, (58, .pure h58) :: sp48⟩ := by
  refine addPure w48 (fn := Try.f58) (by kernel_rfl) (by kernel_rfl) (by kernel_rfl) ?_
  intro args p r h hp
  unfold h58 at h
  split at h
  · rename_i m k
    simp only [Option.some.injEq, Prod.mk.injEq] at h
    obtain ⟨rfl, rfl⟩ := h
    unfold cellM
    conv => whnf
    split
    · rename_i h1
      have h1 : k < 0 := by simpa using h1
      conv => whnf
      refine ⟨_, rfl, Wk.eq ?_⟩
      rw [if_pos h1]
    · rename_i h1
      have h1 : ¬ k < 0 := by simpa using h1
      conv => whnf
      split
      · rename_i h2
        have h2 : k ≥ m.length := by simpa using h2
        conv => whnf
        refine ⟨_, rfl, Wk.eq ?_⟩
        rw [if_neg h1, if_pos h2]
      · rename_i h2
        have h2 : ¬ k ≥ m.length := by simpa using h2
        conv => whnf
        refine ⟨by omega, ?_⟩
        conv => whnf
        refine ⟨_, rfl, Wk.eq ?_⟩
        rw [if_neg h1, if_neg h2]
        rfl
  · simp at h
abbrev sp58 : List (Nat × Spec) := (58, .pure h58) :: sp48

end Go.Proofs.Ythakgbecpkfeoaa.Ev

/- Layer 16: an operation without interference. -/
set_option linter.unusedVariables false
set_option linter.unusedSimpArgs false
set_option maxRecDepth 100000
namespace Go.Proofs.Ythakgbecpkfeoaa.Ev

def outN (n : NX) : List AV := [.int .i64 n.val, .int .i64 n.ver, .int .i64 0, .int .i64 0, .bool n.is, .bool false, .int .i64 n.err]
/-- An operation without interference: the outcome, the memory, the number of accesses. -/
def aloneF (wd vl kind B me : Int) : Nat → Nat → List Int → List Res → List AV × List Int × Int
  | 0, _, m, _ => (zeroOut, m, -1)
  | n + 1, i, m, log =>
    if (nxt wd vl kind B me log).done = true then (outN (nxt wd vl kind B me log), m, i)
    else if (doAcc m (nxt wd vl kind B me log).acc).2.2 = 0 then aloneF wd vl kind B me n (i + 1) (doAcc m (nxt wd vl kind B me log).acc).1 (log ++ [(doAcc m (nxt wd vl kind B me log).acc).2.1])
    else (outN (nxt wd vl kind B me log), m, -1)
def alW (A : Int) : Int := cellA 16 2 A 4 0
def alV (A : Int) : Int := cellA 16 2 A 4 1
def h51 : List AV → Option (Prop × AV)
  | [.agg [.sl .i64 m], .int .i64 me, .agg [.int .i64 kind, .int .i64 A, .int .i64 B, .int .i64 tr, .int .i64 m1, .int .i64 m2, .int .i64 m3, .nil, .nil, .nil]] =>
    some (m.length ≤ 1000000 ∧ 0 ≤ me ∧ me ≤ 2, .tup [.agg (aloneF (alW A) (alV A) kind B me 20 0 m []).1, .agg [.sl .i64 (aloneF (alW A) (alV A) kind B me 20 0 m []).2.1], .int .i64 (aloneF (alW A) (alV A) kind B me 20 0 m []).2.2])
  | _ => none
theorem w51 : EnvOK Try.prog ⟨tys, (51, .pure h51) :: sp58⟩ := by
  refine addPure w58 (fn := Try.f51) (by kernel_rfl) (by kernel_rfl) (by kernel_rfl) ?_
  intro args p r h hp
  unfold h51 at h
  split at h
  · rename_i m me kind A B tr m1 m2 m3
    simp only [Option.some.injEq, Prod.mk.injEq] at h
    obtain ⟨rfl, rfl⟩ := h
    obtain ⟨hm, hme⟩ := hp
    generalize hR : aloneF (alW A) (alV A) kind B me 20 0 m [] = R
    conv => whnf
    refine LoopVC.intro [11, 12, 14, 15] (fun p : Nat × List Int × List Res => [.agg [.sl .i64 m], .int .i64 me, .agg [.int .i64 kind, .int .i64 A, .int .i64 B, .int .i64 tr, .int .i64 m1, .int .i64 m2, .int .i64 m3, .nil, .nil, .nil], .ptr 3 0, .skp, .kp [.int .i64 kind, .int .i64 A, .int .i64 B, .int .i64 tr, .int .i64 m1, .int .i64 m2, .int .i64 m3, .nil, .nil, .nil], .ptr 6 0, .ptr 7 0, .int .i64 0, .own 9, .int .i64 p.1, .undef, .undef, .undef, .undef, .undef, .undef, .undef, .undef, .undef, .undef, .undef, .undef, .undef, .undef, .undef, .undef, .undef, .undef, .undef, .undef, .undef, .undef, .undef, .undef, .undef, .undef, .undef, .undef, .undef, .undef, .undef, .undef, .undef, .undef, .undef, .undef, .undef, .undef, .undef, .undef, .undef])
      (fun p => [(3, .box [.sl .i64 p.2.1]), (6, .box [.int .i64 0, .int .i64 0, .int .i64 0, .int .i64 0, .bool false, .bool false, .int .i64 0]), (7, .box [.nil]), (9, .arr .res p.2.2)])
      (fun p => p.1 ≤ 20 ∧ p.2.2.length = p.1 ∧ p.2.1.length = m.length ∧ aloneF (alW A) (alV A) kind B me (20 - p.1) p.1 p.2.1 p.2.2 = R) (fun p => 20 - p.1) (0, m, []) ⟨by simp, rfl, rfl, hR⟩ ?_ ?_
    · conv => whnf
      refine ⟨?_, rfl⟩
      repeat' (first | exact WeakL.nil | refine WeakL.cons ?_ ?_ | exact Weak1.undef _ | exact Weak1.same _)
    rintro ⟨i, x, log⟩ ⟨hi, hlog, hx, hal⟩
    dsimp only at hi hlog hx hal ⊢
    conv => whnf
    split
    · rename_i hlt
      have hlt' : (i : Int) < 20 := of_decide_eq_true hlt
      have hlt : i < 20 := by omega
      have hge : 20 - i = (20 - (i + 1)) + 1 := by omega
      rw [hge] at hal
      rw [aloneF] at hal
      conv => whnf
      apply DrawVC.mix
      conv => whnf
      refine ⟨trivial, ?_⟩
      conv => whnf
      refine ⟨⟨by omega, hme⟩, ?_⟩
      conv => whnf
      generalize hN : nxt (cellA 16 2 A 4 0) (cellA 16 2 A 4 1) kind B me log = N
      refine ⟨by kernel_rfl, ?_⟩
      conv => whnf
      have hN' : nxt (alW A) (alV A) kind B me log = N := hN
      rw [hN'] at hal
      cases hd : N.done with
      | true =>
        conv => whnf
        apply DrawVC.mix
        conv => whnf
        refine ⟨by kernel_rfl, ?_⟩
        conv => whnf
        refine ⟨_, rfl, Wk.eq ?_⟩
        rw [if_pos hd] at hal
        rw [← hal]
        rfl
      | false =>
        rw [if_neg (by simp [hd])] at hal
        conv => whnf
        refine ⟨by omega, ?_⟩
        conv => whnf
        split
        · rename_i he
          have he : (doAcc x N.acc).2.2 ≠ 0 := by simpa [doAcc] using he
          rw [if_neg he] at hal
          conv => whnf
          apply DrawVC.mix
          conv => whnf
          refine ⟨by kernel_rfl, ?_⟩
          conv => whnf
          refine ⟨_, rfl, Wk.eq ?_⟩
          rw [← hal]
          rfl
        · rename_i he
          have he : (doAcc x N.acc).2.2 = 0 := by simpa [doAcc] using he
          rw [if_pos he] at hal
          conv => whnf
          refine ⟨by simp only [List.length_cons, List.length_nil, ET.bytes]; omega, ?_⟩
          conv => whnf
          have hw : IntKind.i64.wrap ((i : Int) + 1) = ((i + 1 : Nat) : Int) := by rw [wrap_small (by omega) (by omega)]; rfl
          rw [hw]
          refine ⟨(i + 1, (doAcc x N.acc).1, log ++ [(doAcc x N.acc).2.1]), by simp only; omega, ⟨by simp only; omega, by simp [hlog], by rw [← hx]; exact doA_length .., hal⟩, ?_⟩
          conv => whnf
          refine ⟨?_, rfl⟩
          repeat' (first | exact WeakL.nil | refine WeakL.cons ?_ ?_ | exact Weak1.undef _ | exact Weak1.same _)
    · rename_i hlt
      have hlt' : ¬ (i : Int) < 20 := of_decide_eq_false hlt
      have hge : i = 20 := by omega
      subst hge
      conv => whnf
      apply DrawVC.mix
      conv => whnf
      refine ⟨by kernel_rfl, ?_⟩
      conv => whnf
      refine ⟨_, rfl, Wk.eq ?_⟩
      rw [← hal]
      rfl
  · simp at h

abbrev sp51 : List (Nat × Spec) := (51, .pure h51) :: sp58

end Go.Proofs.Ythakgbecpkfeoaa.Ev

/- Layer 16: the example that every statement checks. -/
set_option linter.unusedVariables false
set_option linter.unusedSimpArgs false
set_option maxRecDepth 100000
namespace Go.Proofs.Ythakgbecpkfeoaa.Ev

def mW (x : Int) : List Int := (List.replicate 24 (0 : Int)).set 20 x
def outI (val ver : Int) (is : Bool) : List AV := [.int .i64 val, .int .i64 ver, .int .i64 0, .int .i64 0, .bool is, .bool false, .int .i64 0]
theorem s0 : doA (List.replicate 24 0) 2 (cellA 16 2 1 4 0) 0 10 ⟨#[]⟩ = (mW 10, ⟨0, true⟩, 0) := by kernel_rfl
theorem s1 : aloneF (alW 1) (alV 1) 4 0 0 20 0 (mW 10) [] = (outI 0 5 true, mW 10, 3) := by kernel_rfl
theorem s2 : aloneF (alW 1) (alV 1) 1 0 2 20 0 (mW 10) [] = (outI 0 5 true, mW 5, 2) := by kernel_rfl
theorem s3 : aloneF (alW 1) (alV 1) 1 0 1 20 0 (mW 5) [] = (outI 2 0 false, mW 5, 1) := by kernel_rfl
theorem s4 : aloneF (alW 1) (alV 1) 2 6 2 20 0 (mW 5) [] = (outI 0 0 true, mW 12, 1) := by kernel_rfl
theorem s5 : aloneF (alW 1) (alV 1) 3 6 0 20 0 (mW 12) [] = (outI 0 0 true, mW 12, 1) := by kernel_rfl
theorem s6 : aloneF (alW 1) (alV 1) 3 5 0 20 0 (mW 12) [] = (outI (-1) 0 false, mW 12, 1) := by kernel_rfl
theorem s7 : cellM (mW 5) (cellA 16 2 1 4 0) = 5 := by kernel_rfl
theorem s8 : cellM (mW 12) (cellA 16 2 1 4 0) = 12 := by kernel_rfl
theorem mW_len (x : Int) : (mW x).length ≤ 1000000 := by simp [mW]
def h46 : List AV → Option (Prop × AV)
  | [] => some (True, .bool true)
  | _ => none
theorem w46 : EnvOK Try.prog ⟨tys, (46, .pure h46) :: sp51⟩ := by
  refine addPure w51 (fn := Try.f46) (by kernel_rfl) (by kernel_rfl) (by kernel_rfl) ?_
  intro args p r h hp
  unfold h46 at h
  split at h
  · simp only [Option.some.injEq, Prod.mk.injEq] at h
    obtain ⟨rfl, rfl⟩ := h
    conv => whnf
    refine ⟨trivial, ?_⟩
    conv => whnf
    apply DrawVC.mix
    conv => whnf
    refine ⟨trivial, ?_⟩
    conv => whnf
    refine ⟨trivial, ?_⟩
    conv => whnf
    refine ⟨by simp, ?_⟩
    rw [s0]
    conv => whnf
    refine ⟨by kernel_rfl, ?_⟩
    conv => whnf
    refine ⟨⟨mW_len _, by decide, by decide⟩, ?_⟩
    rw [s1]
    conv => whnf
    refine ⟨⟨mW_len _, by decide, by decide⟩, ?_⟩
    rw [s2]
    conv => whnf
    apply DrawVC.mix
    conv => whnf
    refine ⟨trivial, ?_⟩
    conv => whnf
    refine ⟨trivial, ?_⟩
    rw [s7]
    conv => whnf
    refine ⟨by kernel_rfl, ?_⟩
    conv => whnf
    refine ⟨⟨mW_len _, by decide, by decide⟩, ?_⟩
    rw [s3]
    conv => whnf
    refine ⟨⟨mW_len _, by decide, by decide⟩, ?_⟩
    rw [s4]
    conv => whnf
    refine ⟨⟨mW_len _, by decide, by decide⟩, ?_⟩
    rw [s5]
    conv => whnf
    refine ⟨⟨mW_len _, by decide, by decide⟩, ?_⟩
    rw [s6]
    conv => whnf
    apply DrawVC.mix
    conv => whnf
    refine ⟨trivial, ?_⟩
    conv => whnf
    refine ⟨trivial, ?_⟩
    rw [s8]
    conv => whnf
    refine ⟨by kernel_rfl, ?_⟩
    conv => whnf
    exact ⟨_, rfl, Wk.eq rfl⟩
  · simp at h

abbrev sp46 : List (Nat × Spec) := (46, .pure h46) :: sp51

end Go.Proofs.Ythakgbecpkfeoaa.Ev

/- Layer 16, plain: what the next step is, by the log; what an access does. -/
set_option linter.unusedVariables false
set_option linter.unusedSimpArgs false
namespace Go.Proofs.Ythakgbecpkfeoaa.Ev

def askN (a : Acc) : NX := ⟨a, 0, 0, false, 0, false⟩
def gotN (v w : Int) (is : Bool) : NX := ⟨a0, v, w, is, 0, true⟩
def tkN (wd me : Int) : List Res → NX
  | [] => askN (accL wd)
  | [r] => if lockedW r.val = true then gotN (r.val / 2) 0 false else askN (accC wd r.val (2 * me + 1))
  | r :: q :: _ => if lockedW r.val = true then gotN (r.val / 2) 0 false else if q.ok = true then gotN 0 (r.val / 2) true else gotN (-1) 0 false
def gvN (wd B : Int) : List Res → NX
  | [] => askN (accS wd (IntKind.i64.wrap (2 * B)))
  | _ :: _ => gotN 0 0 true
def lkN (wd B : Int) : List Res → NX
  | [] => askN (accL wd)
  | r :: _ => if (r.val == IntKind.i64.wrap (2 * B)) = true then gotN 0 0 true else if lockedW r.val = true then gotN (r.val / 2) 0 false else gotN (-1) 0 false
def rdN (wd vl : Int) : List Res → NX
  | [] => askN (accL wd)
  | [r] => if lockedW r.val = true then gotN (r.val / 2) (-1) false else askN (accL vl)
  | [r, _] => if lockedW r.val = true then gotN (r.val / 2) (-1) false else askN (accL wd)
  | r :: v :: q :: _ => if lockedW r.val = true then gotN (r.val / 2) (-1) false else if q.val = r.val then gotN v.val (r.val / 2) true else gotN (-1) (-1) false

theorem nxt_tk {wd vl B me : Int} {log : List Res} (hw : ¬ wd < 0) : nxt wd vl 1 B me log = tkN wd me log := by
  unfold nxt
  rw [if_neg (by omega), if_pos rfl]
  match log with
  | [] => simp [tkN, nxtT, tkC, tkW, tkX, doC_nil, doC_stop, r0, locked0, toldN, toldA, toldI, toldB, askN]
  | [r] =>
    cases hl : lockedW r.val
    · simp [tkN, nxtT, tkC, tkW, tkX, doC_cons, hl]
      simp [doC_end, r0, toldN, toldA, toldI, toldB, askN]
    · simp [tkN, nxtT, tkC, tkW, tkX, doC_cons, hl]
      simp [toldN, toldA, toldI, toldB, gotN]
  | r :: q :: l =>
    cases hl : lockedW r.val
    · have := doC_at (r :: q :: l) 1 a0 (accC wd r.val (2 * me + 1)) (by simp)
      simp only [Int.natCast_one] at this
      cases hq : q.ok
      · simp [tkN, nxtT, tkC, tkW, tkX, doC_cons, hl, this, hq]
        simp [toldN, toldA, toldI, toldB, gotN]
      · simp [tkN, nxtT, tkC, tkW, tkX, doC_cons, hl, this, hq]
        simp [toldN, toldA, toldI, toldB, gotN]
    · simp [tkN, nxtT, tkC, tkW, tkX, doC_cons, hl]
      simp [toldN, toldA, toldI, toldB, gotN]
theorem nxt_gv {wd vl B me : Int} {log : List Res} (hw : ¬ wd < 0) : nxt wd vl 2 B me log = gvN wd B log := by
  unfold nxt
  rw [if_neg (by omega), if_neg (by omega), if_pos rfl]
  match log with
  | [] => simp [gvN, gvC, doC_nil, r0, toldN, toldA, toldI, toldB, askN]
  | r :: l => simp [gvN, gvC, doC_cons, toldN, toldA, toldI, toldB, gotN]
theorem nxt_lk {wd vl B me : Int} {log : List Res} (hw : ¬ wd < 0) : nxt wd vl 3 B me log = lkN wd B log := by
  unfold nxt
  rw [if_neg (by omega), if_neg (by omega), if_neg (by omega), if_pos rfl]
  match log with
  | [] =>
    simp only [lkN, lkC, doC_nil, nxtL]
    cases h : (r0.val == IntKind.i64.wrap (2 * B)) <;> simp [h, r0, locked0, toldN, toldA, toldI, toldB, askN]
    all_goals split <;> simp [toldN, toldA, toldI, toldB]
  | r :: l =>
    simp only [lkN, lkC, doC_cons, nxtL]
    cases h : (r.val == IntKind.i64.wrap (2 * B))
    · cases hl : lockedW r.val
      · simp [toldN, toldA, toldI, toldB, gotN]
      · simp [toldN, toldA, toldI, toldB, gotN]
    · simp [toldN, toldA, toldI, toldB, gotN]
theorem nxt_rd {wd vl B me : Int} {log : List Res} (hw : ¬ wd < 0) : nxt wd vl 4 B me log = rdN wd vl log := by
  unfold nxt
  rw [if_neg (by omega), if_neg (by omega), if_neg (by omega), if_neg (by omega)]
  match log with
  | [] => simp [rdN, nxtR, rdC, rdX, rdD, doC_nil, doC_stop, r0, locked0, toldN, toldA, toldI, toldB, askN]
  | [r] =>
    cases hl : lockedW r.val
    · simp [rdN, nxtR, rdC, rdX, rdD, doC_cons, hl]
      simp [doC_end, doC_stop, r0, toldN, toldA, toldI, toldB, askN]
      split <;> simp [toldN, toldA, toldI, toldB]
    · simp [rdN, nxtR, rdC, rdX, rdD, doC_cons, hl]
      simp [toldN, toldA, toldI, toldB, gotN]
  | [r, v] =>
    cases hl : lockedW r.val
    · have := doC_at [r, v] 1 a0 (accL vl) (by simp)
      simp only [Int.natCast_one] at this
      simp [rdN, nxtR, rdC, rdX, rdD, doC_cons, hl, this]
      simp [doC_end, doC_stop, r0, toldN, toldA, toldI, toldB, askN]
      split <;> simp [toldN, toldA, toldI, toldB]
    · simp [rdN, nxtR, rdC, rdX, rdD, doC_cons, hl]
      simp [toldN, toldA, toldI, toldB, gotN]
  | r :: v :: q :: l =>
    cases hl : lockedW r.val
    · have h1 := doC_at (r :: v :: q :: l) 1 a0 (accL vl) (by simp)
      have h2 : doC ⟨r :: v :: q :: l, 2, a0, false⟩ (accL wd) = (⟨r :: v :: q :: l, 3, a0, false⟩, q) := doC_at (r :: v :: q :: l) 2 a0 (accL wd) (by simp)
      simp only [Int.natCast_one] at h1
      simp [rdN, nxtR, rdC, rdX, rdD, doC_cons, hl, h1, h2]
      by_cases h : q.val = r.val <;> simp [h]
      all_goals simp [toldN, toldA, toldI, toldB, gotN]
    · simp [rdN, nxtR, rdC, rdX, rdD, doC_cons, hl]
      simp [toldN, toldA, toldI, toldB, gotN]

/-! ### What an access does -/
def okM (m : List Int) (c : Int) : Prop := 0 ≤ c ∧ c < m.length
theorem doA_in {m : List Int} {k c o n : Int} (h : okM m c) (hr : rightA k c o n ⟨#[]⟩ = true) : doA m k c o n ⟨#[]⟩ = (if (nextA (m.getD c.toNat 0) k o n).1 = m.getD c.toNat 0 then m else m.set c.toNat (nextA (m.getD c.toNat 0) k o n).1, ⟨m.getD c.toNat 0, (nextA (m.getD c.toNat 0) k o n).2⟩, 0) := by
  unfold doA
  rw [if_pos hr, if_neg (by have := h.2; omega)]
theorem set_as_is {m : List Int} {i : Nat} {n : Int} (h : m.getD i 0 = n) (hi : i < m.length) : m.set i n = m := by
  subst h
  simp [List.getD_eq_getElem?_getD, List.getElem?_eq_getElem hi]
theorem do_load {m : List Int} {c : Int} (h : okM m c) : doAcc m (accL c) = (m, ⟨m.getD c.toNat 0, true⟩, 0) := by
  unfold doAcc accL
  rw [doA_in h (by simp [rightA, empty_list, h.1])]
  simp [nextA]
theorem do_store {m : List Int} {c n : Int} (h : okM m c) : doAcc m (accS c n) = (m.set c.toNat n, ⟨m.getD c.toNat 0, true⟩, 0) := by
  unfold doAcc accS
  rw [doA_in h (by simp [rightA, empty_list, h.1])]
  have hc : c.toNat < m.length := by have := h.2; have := h.1; omega
  generalize hw : m.getD c.toNat 0 = was
  simp only [nextA, if_true]
  split
  · rename_i he
    rw [set_as_is (hw.trans he.symm) hc]
  · rfl
theorem do_cas {m : List Int} {c x n : Int} (h : okM m c) : doAcc m (accC c x n) = (if m.getD c.toNat 0 = x then m.set c.toNat n else m, ⟨m.getD c.toNat 0, decide (m.getD c.toNat 0 = x)⟩, 0) := by
  unfold doAcc accC
  rw [doA_in h (by simp [rightA, empty_list, h.1])]
  have hc : c.toNat < m.length := by have := h.2; have := h.1; omega
  generalize hw : m.getD c.toNat 0 = was
  have hn : nextA was 3 x n = if was = x then (n, true) else (was, false) := by simp [nextA]
  rw [hn]
  by_cases hx : was = x
  · simp only [if_pos hx]
    split
    · rename_i he
      rw [set_as_is (hw.trans he.symm) hc]; simp [hx]
    · simp [hx]
  · simp only [if_neg hx]
    simp [hx]

end Go.Proofs.Ythakgbecpkfeoaa.Ev

/- Layer 16, plain: operations without interference. -/
set_option linter.unusedVariables false
set_option linter.unusedSimpArgs false
namespace Go.Proofs.Ythakgbecpkfeoaa.Ev

section
variable {wd vl kind B me : Int} {n i : Nat} {m m' : List Int} {log : List Res}
theorem aloneF_ask {a : Acc} {r : Res} (hn : nxt wd vl kind B me log = askN a) (hd : doAcc m a = (m', r, 0)) : aloneF wd vl kind B me (n + 1) i m log = aloneF wd vl kind B me n (i + 1) m' (log ++ [r]) := by
  rw [aloneF, hn]
  simp [askN, hd]
theorem aloneF_got {v w : Int} {is : Bool} (hn : nxt wd vl kind B me log = gotN v w is) : aloneF wd vl kind B me (n + 1) i m log = (outI v w is, m, (i : Int)) := by
  rw [aloneF, hn]
  simp [gotN, outN, outI]

theorem al_give (hw : okM m wd) : aloneF wd vl 2 B me 20 0 m [] = (outI 0 0 true, m.set wd.toNat (IntKind.i64.wrap (2 * B)), 1) := by
  have h0 : ¬ wd < 0 := by have := hw.1; omega
  rw [aloneF_ask (nxt_gv h0) (do_store hw), aloneF_got ((nxt_gv h0).trans rfl)]
  rfl
theorem al_take_free (hw : okM m wd) (hl : lockedW (m.getD wd.toNat 0) = false) : aloneF wd vl 1 B me 20 0 m [] = (outI 0 (m.getD wd.toNat 0 / 2) true, m.set wd.toNat (2 * me + 1), 2) := by
  have h0 : ¬ wd < 0 := by have := hw.1; omega
  rw [aloneF_ask (nxt_tk h0) (do_load hw), aloneF_ask ((nxt_tk h0).trans (by simp only [List.nil_append, tkN, hl]; rfl)) (do_cas hw), aloneF_got ((nxt_tk h0).trans (by simp only [List.nil_append, List.cons_append, tkN, hl]; simp; rfl))]
  simp
theorem al_take_held (hw : okM m wd) (hl : lockedW (m.getD wd.toNat 0) = true) : aloneF wd vl 1 B me 20 0 m [] = (outI (m.getD wd.toNat 0 / 2) 0 false, m, 1) := by
  have h0 : ¬ wd < 0 := by have := hw.1; omega
  rw [aloneF_ask (nxt_tk h0) (do_load hw), aloneF_got ((nxt_tk h0).trans (by simp only [List.nil_append, tkN, hl]; rfl))]
  rfl
theorem al_look_yes (hw : okM m wd) (he : m.getD wd.toNat 0 = IntKind.i64.wrap (2 * B)) : aloneF wd vl 3 B me 20 0 m [] = (outI 0 0 true, m, 1) := by
  have h0 : ¬ wd < 0 := by have := hw.1; omega
  rw [aloneF_ask (nxt_lk h0) (do_load hw), aloneF_got ((nxt_lk h0).trans (by simp only [List.nil_append, lkN, he]; simp; rfl))]
  rfl
theorem al_look_held (hw : okM m wd) (he : ¬ m.getD wd.toNat 0 = IntKind.i64.wrap (2 * B)) (hl : lockedW (m.getD wd.toNat 0) = true) : aloneF wd vl 3 B me 20 0 m [] = (outI (m.getD wd.toNat 0 / 2) 0 false, m, 1) := by
  have h0 : ¬ wd < 0 := by have := hw.1; omega
  rw [aloneF_ask (nxt_lk h0) (do_load hw), aloneF_got ((nxt_lk h0).trans (by simp only [List.nil_append, lkN]; rw [if_neg (by simpa using he), if_pos hl]))]
  rfl
theorem al_look_free (hw : okM m wd) (he : ¬ m.getD wd.toNat 0 = IntKind.i64.wrap (2 * B)) (hl : lockedW (m.getD wd.toNat 0) = false) : aloneF wd vl 3 B me 20 0 m [] = (outI (-1) 0 false, m, 1) := by
  have h0 : ¬ wd < 0 := by have := hw.1; omega
  rw [aloneF_ask (nxt_lk h0) (do_load hw), aloneF_got ((nxt_lk h0).trans (by simp only [List.nil_append, lkN]; rw [if_neg (by simpa using he), if_neg (by rw [hl]; decide)]))]
  rfl
theorem al_read_free (hw : okM m wd) (hv : okM m vl) (hl : lockedW (m.getD wd.toNat 0) = false) : aloneF wd vl 4 B me 20 0 m [] = (outI (m.getD vl.toNat 0) (m.getD wd.toNat 0 / 2) true, m, 3) := by
  have h0 : ¬ wd < 0 := by have := hw.1; omega
  rw [aloneF_ask (nxt_rd h0) (do_load hw), aloneF_ask ((nxt_rd h0).trans (by simp only [List.nil_append, rdN, hl]; rfl)) (do_load hv), aloneF_ask ((nxt_rd h0).trans (by simp only [List.nil_append, List.cons_append, rdN, hl]; rfl)) (do_load hw),
    aloneF_got ((nxt_rd h0).trans (by simp only [List.nil_append, List.cons_append, rdN, hl]; simp; rfl))]
  rfl
theorem al_read_held (hw : okM m wd) (hl : lockedW (m.getD wd.toNat 0) = true) : aloneF wd vl 4 B me 20 0 m [] = (outI (m.getD wd.toNat 0 / 2) (-1) false, m, 1) := by
  have h0 : ¬ wd < 0 := by have := hw.1; omega
  rw [aloneF_ask (nxt_rd h0) (do_load hw), aloneF_got ((nxt_rd h0).trans (by simp only [List.nil_append, rdN, hl]; rfl))]
  rfl
end

end Go.Proofs.Ythakgbecpkfeoaa.Ev

/- Layer 16, the plays: the helpers op and few. -/
set_option linter.unusedVariables false
set_option linter.unusedSimpArgs false
set_option maxRecDepth 100000
namespace Go.Proofs.Ythakgbecpkfeoaa.Ev

def opK (w at_ : Int) : Int := if (w.tmod 3 == 0) = true then 4 else if (at_ == 0) = true then 1 else 2
def opB (w at_ ver : Int) : Int := if (w.tmod 3 == 0) = true then 0 else if (at_ == 0) = true then 0 else IntKind.i64.wrap (ver + 1)
def opV (k b : Int) : List AV := [.int .i64 k, .int .i64 0, .int .i64 b, .int .i64 0, .int .i64 0, .int .i64 0, .int .i64 0, .nil, .nil, .nil]
def h95 : List AV → Option (Prop × AV)
  | [.int .u8 w, .int .i64 at_, .int .i64 ver] => some (True, .agg (opV (opK w at_) (opB w at_ ver)))
  | _ => none
theorem w95 : EnvOK Try.prog ⟨tys, (95, .pure h95) :: sp46⟩ := by
  refine addPure w46 (fn := Try.f95) (by kernel_rfl) (by kernel_rfl) (by kernel_rfl) ?_
  intro args p r h hp
  unfold h95 at h
  split at h
  · rename_i w at_ ver
    simp only [Option.some.injEq, Prod.mk.injEq] at h
    obtain ⟨rfl, rfl⟩ := h
    unfold opK opB
    conv => whnf
    refine ⟨by decide, ?_⟩
    conv => whnf
    split
    · rename_i h1
      conv => whnf
      refine ⟨_, rfl, Wk.eq ?_⟩
      rw [if_pos h1, if_pos h1]
      rfl
    · rename_i h1
      conv => whnf
      split
      · rename_i h2
        conv => whnf
        refine ⟨_, rfl, Wk.eq ?_⟩
        rw [h1, h2]
        rfl
      · rename_i h2
        conv => whnf
        refine ⟨_, rfl, Wk.eq ?_⟩
        rw [h1, h2]
        rfl
  · simp at h
abbrev sp95 : List (Nat × Spec) := (95, .pure h95) :: sp46

def fewB (w0 w1 w2 tu : List Int) : Bool := decide ((tu.length : Int) ≤ 200) && (decide ((w0.length : Int) ≤ 8) && (decide ((w1.length : Int) ≤ 8) && decide ((w2.length : Int) ≤ 8)))
def h56 : List AV → Option (Prop × AV)
  | [.agg [.sl .u8 w0, .sl .u8 w1, .sl .u8 w2, .sl .u8 tu]] => some (True, .bool (fewB w0 w1 w2 tu))
  | _ => none
theorem w56 : EnvOK Try.prog ⟨tys, (56, .pure h56) :: sp95⟩ := by
  refine addPure w95 (fn := Try.f56) (by kernel_rfl) (by kernel_rfl) (by kernel_rfl) ?_
  intro args p r h hp
  unfold h56 at h
  split at h
  · rename_i w0 w1 w2 tu
    simp only [Option.some.injEq, Prod.mk.injEq] at h
    obtain ⟨rfl, rfl⟩ := h
    unfold fewB
    conv => whnf
    split
    · rename_i h1
      conv => whnf
      refine ⟨by decide, ?_⟩
      conv => whnf
      split
      · rename_i h2
        conv => whnf
        refine ⟨by decide, ?_⟩
        conv => whnf
        split
        · rename_i h3
          conv => whnf
          refine ⟨by decide, ?_⟩
          conv => whnf
          refine ⟨_, rfl, Wk.eq ?_⟩
          rw [h1, h2, h3]; rfl
        · rename_i h3
          conv => whnf
          refine ⟨_, rfl, Wk.eq ?_⟩
          rw [h1, h2, h3]; rfl
      · rename_i h2
        conv => whnf
        refine ⟨_, rfl, Wk.eq ?_⟩
        rw [h1, h2]; rfl
    · rename_i h1
      conv => whnf
      refine ⟨_, rfl, Wk.eq ?_⟩
      rw [h1]; rfl
  · simp at h
abbrev sp56 : List (Nat × Spec) := (56, .pure h56) :: sp95

end Go.Proofs.Ythakgbecpkfeoaa.Ev

/- Layer 16, the plays: what a turn does. -/
set_option linter.unusedVariables false
set_option linter.unusedSimpArgs false
namespace Go.Proofs.Ythakgbecpkfeoaa.Ev

structure Seat where
  nx : Int
  at_ : Int
  log : List Res
  ver : Int
structure TR where
  m : List Int
  x : Seat
  held : Int
  vals : List Int
  bad : Bool
  own : Bool
structure St where
  m : List Int
  s0 : Seat
  s1 : Seat
  s2 : Seat
  held : Int
  vals : List Int
  bad : Bool
  own : Bool

def lastI (vals : List Int) : Int := IntKind.i64.wrap ((vals.length : Int) - 1)
def idxV (ver : Int) (vals : List Int) : Int :=
  (fun (a b : Int) => if b < a then b else a) (if 0 > ver then 0 else ver) (if 0 > lastI vals then 0 else lastI vals)
/-- A read's answer that does not fit. -/
def oddR (N : NX) (vals : List Int) : Bool :=
  N.is && (decide (N.ver < 0) || (decide (N.ver ≥ (vals.length : Int)) || (N.val != vals.getD (idxV N.ver vals).toNat 0)))
def valT (who nx : Int) : Int := IntKind.i64.wrap (IntKind.i64.wrap (IntKind.i64.wrap (1000 * who) + IntKind.i64.wrap (10 * nx)) + 5)
/-- The local step of a thread that holds the lock: it writes. -/
def storeX (who : Int) (r : TR) : TR :=
  let D := doA r.m 2 (cellA 16 2 0 4 1) 0 (valT who r.x.nx) ⟨#[]⟩
  ⟨D.1, ⟨r.x.nx, 2, r.x.log, r.x.ver⟩, r.held, r.vals ++ [valT who r.x.nx], D.2.2 != 0, true⟩
/-- An access. -/
def askX (w : Int) (r : TR) (N : NX) : TR :=
  let D := doA r.m N.acc.kind N.acc.cell N.acc.old N.acc.new N.acc.bytes
  let g := (w.tmod 3 != 0) && ((r.x.at_ == 0) && ((N.acc.kind == 3) && D.2.1.ok))
  let held1 := if g = true then IntKind.i64.wrap (r.held + 1) else r.held
  let bad1 := if g = true then (D.2.2 != 0) || (IntKind.i64.wrap (r.held + 1) != 1) else D.2.2 != 0
  let held2 := if ((w.tmod 3 != 0) && (r.x.at_ == 2)) = true then IntKind.i64.wrap (held1 - 1) else held1
  ⟨D.1, ⟨r.x.nx, r.x.at_, r.x.log ++ [D.2.1], r.x.ver⟩, held2, r.vals, bad1, r.own⟩
/-- An operation is done. -/
def gotX (w : Int) (r : TR) (N : NX) : TR :=
  if (w.tmod 3 == 0) = true then ⟨r.m, ⟨IntKind.i64.wrap (r.x.nx + 1), r.x.at_, [], r.x.ver⟩, r.held, r.vals, if oddR N r.vals = true then true else r.bad, r.own⟩
  else if (r.x.at_ == 0) = true then
    if N.is = true then ⟨r.m, ⟨r.x.nx, 1, [], N.ver⟩, r.held, r.vals, r.bad || (N.ver != lastI r.vals), r.own⟩
    else ⟨r.m, ⟨r.x.nx, r.x.at_, [], r.x.ver⟩, r.held, r.vals, r.bad, r.own⟩
  else ⟨r.m, ⟨IntKind.i64.wrap (r.x.nx + 1), 0, [], 0⟩, r.held, r.vals, r.bad, r.own⟩
def stepX (w : Int) (r : TR) (N : NX) : TR := if N.done = true then gotX w r N else askX w r N
def wantX (ws : List Int) (nx : Int) : Int := ws.getD nx.toNat 0
def turnX (who : Int) (ws : List Int) (r : TR) : TR :=
  if decide (r.x.nx ≥ (ws.length : Int)) = true then r
  else if r.bad = true then r
  else if ((wantX ws r.x.nx).tmod 3 != 0 && (r.x.at_ == 1)) = true then storeX who r
  else stepX (wantX ws r.x.nx) r (nxt (cellA 16 2 0 4 0) (cellA 16 2 0 4 1) (opK (wantX ws r.x.nx) r.x.at_) (opB (wantX ws r.x.nx) r.x.at_ r.x.ver) who r.x.log)

def St.tr (s : St) (x : Seat) : TR := ⟨s.m, x, s.held, s.vals, s.bad, s.own⟩
def put0 (s : St) (r : TR) : St := ⟨r.m, r.x, s.s1, s.s2, r.held, r.vals, r.bad, r.own⟩
def put1 (s : St) (r : TR) : St := ⟨r.m, s.s0, r.x, s.s2, r.held, r.vals, r.bad, r.own⟩
def put2 (s : St) (r : TR) : St := ⟨r.m, s.s0, s.s1, r.x, r.held, r.vals, r.bad, r.own⟩
@[irreducible] def turnS (who : Int) (w0 w1 w2 : List Int) (s : St) : St :=
  if who = 0 then put0 s (turnX 0 w0 (s.tr s.s0))
  else if who = 1 then put1 s (turnX 1 w1 (s.tr s.s1))
  else put2 s (turnX 2 w2 (s.tr s.s2))

def okSeat (x : Seat) : Prop := 0 ≤ x.nx ∧ x.nx ≤ 1000000 ∧ x.log.length ≤ 1000
def okT (who : Int) (s : St) : Prop := (0 ≤ who ∧ who ≤ 2) ∧ s.m.length ≤ 1000000 ∧ okSeat s.s0 ∧ okSeat s.s1 ∧ okSeat s.s2 ∧ 1 ≤ s.vals.length ∧ s.vals.length ≤ 1000000
def cellsT (s : St) : List AV := [.sl .i64 s.m, .int .i64 s.s0.nx, .int .i64 s.s0.at_, .sl .res s.s0.log, .int .i64 s.s0.ver, .int .i64 s.s1.nx, .int .i64 s.s1.at_, .sl .res s.s1.log, .int .i64 s.s1.ver,
  .int .i64 s.s2.nx, .int .i64 s.s2.at_, .sl .res s.s2.log, .int .i64 s.s2.ver, .int .i64 s.held, (match s.own with | true => .own 1001 | false => .lit .i64 s.vals), .bool s.bad]
def extT (s : St) : Option (List Int) := match s.own with | true => some s.vals | false => none
def h59 : List AV → List AV → Option (List Int) → Option (Prop × List AV × Option (List Int))
  | [.ptr 1000 0, .agg [.sl .u8 w0, .sl .u8 w1, .sl .u8 w2, .sl .u8 tu], .int .i64 who],
    [.sl .i64 m, .int .i64 n0, .int .i64 a0, .sl .res l0, .int .i64 v0, .int .i64 n1, .int .i64 a1, .sl .res l1, .int .i64 v1, .int .i64 n2, .int .i64 a2, .sl .res l2, .int .i64 v2, .int .i64 held, .lit .i64 vals, .bool bad], none =>
      some (okT who ⟨m, ⟨n0, a0, l0, v0⟩, ⟨n1, a1, l1, v1⟩, ⟨n2, a2, l2, v2⟩, held, vals, bad, false⟩, cellsT (turnS who w0 w1 w2 ⟨m, ⟨n0, a0, l0, v0⟩, ⟨n1, a1, l1, v1⟩, ⟨n2, a2, l2, v2⟩, held, vals, bad, false⟩),
        extT (turnS who w0 w1 w2 ⟨m, ⟨n0, a0, l0, v0⟩, ⟨n1, a1, l1, v1⟩, ⟨n2, a2, l2, v2⟩, held, vals, bad, false⟩))
  | [.ptr 1000 0, .agg [.sl .u8 w0, .sl .u8 w1, .sl .u8 w2, .sl .u8 tu], .int .i64 who],
    [.sl .i64 m, .int .i64 n0, .int .i64 a0, .sl .res l0, .int .i64 v0, .int .i64 n1, .int .i64 a1, .sl .res l1, .int .i64 v1, .int .i64 n2, .int .i64 a2, .sl .res l2, .int .i64 v2, .int .i64 held, .own 1001, .bool bad], some vals =>
      some (okT who ⟨m, ⟨n0, a0, l0, v0⟩, ⟨n1, a1, l1, v1⟩, ⟨n2, a2, l2, v2⟩, held, vals, bad, true⟩, cellsT (turnS who w0 w1 w2 ⟨m, ⟨n0, a0, l0, v0⟩, ⟨n1, a1, l1, v1⟩, ⟨n2, a2, l2, v2⟩, held, vals, bad, true⟩),
        extT (turnS who w0 w1 w2 ⟨m, ⟨n0, a0, l0, v0⟩, ⟨n1, a1, l1, v1⟩, ⟨n2, a2, l2, v2⟩, held, vals, bad, true⟩))
  | _, _, _ => none

end Go.Proofs.Ythakgbecpkfeoaa.Ev

/- Layer 16, the plays: a turn of thread 0, told by its code. -/
set_option linter.unusedVariables false
set_option linter.unusedSimpArgs false
set_option maxRecDepth 100000
namespace Go.Proofs.Ythakgbecpkfeoaa.Ev

set_option maxHeartbeats 4000000 in
theorem turn0_lit {w0 w1 w2 tu m : List Int} {n0 a0 v0 n1 a1 v1 n2 a2 v2 held : Int} {l0 l1 l2 : List Res} {vals : List Int} {bad : Bool}
    (hp : okT 0 ⟨m, ⟨n0, a0, l0, v0⟩, ⟨n1, a1, l1, v1⟩, ⟨n2, a2, l2, v2⟩, held, vals, bad, false⟩) :
    evFnT ⟨tys, sp56⟩ Try.f59 [.ptr 1000 0, .agg [.sl .u8 w0, .sl .u8 w1, .sl .u8 w2, .sl .u8 tu], .int .i64 0]
      [.sl .i64 m, .int .i64 n0, .int .i64 a0, .sl .res l0, .int .i64 v0, .int .i64 n1, .int .i64 a1, .sl .res l1, .int .i64 v1, .int .i64 n2, .int .i64 a2, .sl .res l2, .int .i64 v2, .int .i64 held, .lit .i64 vals, .bool bad] none
      fun cs1 ext1 => WkL cs1 (cellsT (put0 ⟨m, ⟨n0, a0, l0, v0⟩, ⟨n1, a1, l1, v1⟩, ⟨n2, a2, l2, v2⟩, held, vals, bad, false⟩ (turnX 0 w0 ⟨m, ⟨n0, a0, l0, v0⟩, held, vals, bad, false⟩))) ∧ ext1 = extT (put0 ⟨m, ⟨n0, a0, l0, v0⟩, ⟨n1, a1, l1, v1⟩, ⟨n2, a2, l2, v2⟩, held, vals, bad, false⟩ (turnX 0 w0 ⟨m, ⟨n0, a0, l0, v0⟩, held, vals, bad, false⟩)) := by
  obtain ⟨_, hm, ⟨hn0, hn0', hl0⟩, ⟨hn1, hn1', hl1⟩, ⟨hn2, hn2', hl2⟩, hv1, hv2⟩ := hp
  simp only at hm hn0 hn0' hl0 hn1 hn1' hl1 hn2 hn2' hl2 hv1 hv2
  generalize hR : turnX 0 w0 ⟨m, ⟨n0, a0, l0, v0⟩, held, vals, bad, false⟩ = R
  unfold turnX at hR
  simp only at hR
  conv => whnf
  refine ⟨by decide, ?_⟩
  conv => whnf
  apply DrawVC.quiet (by kernel_rfl)
  conv => whnf
  refine ⟨by decide, ?_⟩
  conv => whnf
  split
  · rename_i h1
    rw [h1] at hR
    conv => whnf
    subst hR
    refine ⟨?_, rfl⟩
    repeat' (first | exact WkL.nil | refine WkL.cons ?_ ?_ | exact Wk.nil _ | exact Wk.refl _)
  rename_i h1
  rw [h1] at hR
  have h1' : ¬ n0 ≥ (w0.length : Int) := of_decide_eq_false h1
  conv => whnf
  cases bad
  rotate_left
  · conv => whnf
    subst hR
    refine ⟨?_, rfl⟩
    repeat' (first | exact WkL.nil | refine WkL.cons ?_ ?_ | exact Wk.nil _ | exact Wk.refl _)
  conv => whnf
  apply DrawVC.quiet (by kernel_rfl)
  conv => whnf
  refine ⟨by decide, ?_⟩
  conv => whnf
  refine ⟨by omega, ?_⟩
  conv => whnf
  refine ⟨trivial, ?_⟩
  conv => whnf
  generalize hw : w0.getD n0.toNat ET.u8.dflt = w
  have hw2 : wantX w0 n0 = w := hw
  rw [hw2] at hR
  refine ⟨by decide, ?_⟩
  conv => whnf
  rcases Bool.eq_false_or_eq_true (w.tmod 3 != 0 && a0 == 1) with h2 | h2
  · have h3 : (w.tmod 3 != 0) = true := by revert h2; cases (w.tmod 3 != 0) <;> simp
    have h4 : (a0 == 1) = true := by revert h2; cases (a0 == 1) <;> simp
    rw [h2] at hR
    rw [h3]
    conv => whnf
    rw [h4]
    conv => whnf
    conv => whnf
    apply DrawVC.mix
    conv => whnf
    refine ⟨trivial, ?_⟩
    conv => whnf
    refine ⟨by omega, ?_⟩
    conv => whnf
    refine ⟨by kernel_rfl, ?_⟩
    conv => whnf
    refine ⟨.inr (by simp), by simp only [List.length_cons, List.length_nil, ET.bytes]; omega, ?_⟩
    conv => whnf
    apply DrawVC.mix
    conv => whnf
    refine ⟨by decide, ?_⟩
    conv => whnf
    refine ⟨by kernel_rfl, ?_⟩
    conv => whnf
    unfold storeX at hR
    subst hR
    refine ⟨?_, rfl⟩
    repeat' (first | exact WkL.nil | refine WkL.cons ?_ ?_ | exact Wk.nil _ | exact Wk.refl _)
  rw [h2] at hR
  simp only [Bool.false_eq_true, if_false] at hR
  unfold stepX at hR
  rcases Bool.eq_false_or_eq_true (w.tmod 3 != 0) with h3 | h3
  rotate_left
  · have h3' : (w.tmod 3 == 0) = true := by revert h3; cases h : (w.tmod 3 == 0) <;> simp_all
    rw [h3]
    conv => whnf
    apply DrawVC.mix
    conv => whnf
    refine ⟨trivial, ?_⟩
    conv => whnf
    refine ⟨⟨by omega, by decide, by decide⟩, ?_⟩
    conv => whnf
    generalize hN : nxt (cellA 16 2 0 4 0) (cellA 16 2 0 4 1) (opK w a0) (opB w a0 v0) 0 l0 = N at hR ⊢
    refine ⟨by kernel_rfl, ?_⟩
    conv => whnf
    cases hd : N.done
    · skip
      rw [hd] at hR
      simp only [Bool.false_eq_true, if_false] at hR
      unfold askX at hR
      simp only at hR
      rw [h3] at hR
      conv => whnf
      apply DrawVC.mix
      conv => whnf
      refine ⟨by omega, ?_⟩
      conv => whnf
      refine ⟨by kernel_rfl, ?_⟩
      conv => whnf
      apply DrawVC.tail 6
      conv => whnf
      refine ⟨.inl rfl, by simp only [List.length_cons, List.length_nil, List.length_append, ET.bytes]; omega, ?_⟩
      conv => whnf
      refine ⟨by kernel_rfl, ?_⟩
      conv => whnf
      refine ⟨by simp only [List.length_cons, List.length_nil, List.length_append, ET.bytes]; omega, ?_⟩
      conv => whnf
      refine ⟨by decide, ?_⟩
      conv => whnf
      rw [h3]
      conv => whnf
      refine ⟨by decide, ?_⟩
      conv => whnf
      rw [h3]
      conv => whnf
      apply DrawVC.mix
      conv => whnf
      refine ⟨by decide, ?_⟩
      conv => whnf
      refine ⟨by kernel_rfl, ?_⟩
      conv => whnf
      subst hR
      refine ⟨?_, rfl⟩
      repeat' (first | exact WkL.nil | refine WkL.cons ?_ ?_ | exact Wk.nil _ | exact Wk.refl _)
    · rw [hd] at hR
      simp only [if_true] at hR
      unfold gotX oddR at hR
      simp only at hR
      rw [h3'] at hR
      conv => whnf
      refine ⟨by decide, ?_⟩
      conv => whnf
      rw [h3']
      conv => whnf
      apply DrawVC.quiet (by kernel_rfl)
      conv => whnf
      --GOT
      rcases Bool.eq_false_or_eq_true (N.is) with hi | hi
      · rw [hi] at hR
        rw [hi]
        conv => whnf
        rcases Bool.eq_false_or_eq_true (decide (N.ver < 0)) with hv | hv
        · rw [hv] at hR
          rw [hv]
          conv => whnf
          apply DrawVC.mix
          conv => whnf
          refine ⟨by decide, ?_⟩
          conv => whnf
          refine ⟨by kernel_rfl, ?_⟩
          conv => whnf
          subst hR
          refine ⟨?_, rfl⟩
          repeat' (first | exact WkL.nil | refine WkL.cons ?_ ?_ | exact Wk.nil _ | exact Wk.refl _)
        · rw [hv] at hR
          rw [hv]
          conv => whnf
          rcases Bool.eq_false_or_eq_true (decide (N.ver ≥ (vals.length : Int))) with hg | hg
          · rw [hg] at hR
            rw [hg]
            conv => whnf
            apply DrawVC.mix
            conv => whnf
            refine ⟨by decide, ?_⟩
            conv => whnf
            refine ⟨by kernel_rfl, ?_⟩
            conv => whnf
            subst hR
            refine ⟨?_, rfl⟩
            repeat' (first | exact WkL.nil | refine WkL.cons ?_ ?_ | exact Wk.nil _ | exact Wk.refl _)
          · rw [hg] at hR
            rw [hg]
            conv => whnf
            have hwl : IntKind.i64.wrap ((vals.length : Int) - 1) = (vals.length : Int) - 1 := wrap_small (by omega) (by omega)
            refine ⟨?_, ?_⟩
            · rw [hwl]
              have q1 : ¬ N.ver < 0 := of_decide_eq_false hv
              have q2 : ¬ N.ver ≥ (vals.length : Int) := of_decide_eq_false hg
              refine ⟨?_, ?_⟩
              all_goals (repeat' split)
              all_goals omega
            conv => whnf
            split
            · rename_i hq
              have hq : (N.val != vals.getD (idxV N.ver vals).toNat 0) = true := hq
              rw [hq] at hR
              conv => whnf
              apply DrawVC.mix
              conv => whnf
              refine ⟨by decide, ?_⟩
              conv => whnf
              refine ⟨by kernel_rfl, ?_⟩
              conv => whnf
              subst hR
              refine ⟨?_, rfl⟩
              repeat' (first | exact WkL.nil | refine WkL.cons ?_ ?_ | exact Wk.nil _ | exact Wk.refl _)
            · rename_i hq
              have hq : (N.val != vals.getD (idxV N.ver vals).toNat 0) = false := hq
              rw [hq] at hR
              conv => whnf
              apply DrawVC.mix
              conv => whnf
              refine ⟨by decide, ?_⟩
              conv => whnf
              refine ⟨by kernel_rfl, ?_⟩
              conv => whnf
              subst hR
              refine ⟨?_, rfl⟩
              repeat' (first | exact WkL.nil | refine WkL.cons ?_ ?_ | exact Wk.nil _ | exact Wk.refl _)
      · rw [hi] at hR
        rw [hi]
        conv => whnf
        apply DrawVC.mix
        conv => whnf
        refine ⟨by decide, ?_⟩
        conv => whnf
        refine ⟨by kernel_rfl, ?_⟩
        conv => whnf
        subst hR
        refine ⟨?_, rfl⟩
        repeat' (first | exact WkL.nil | refine WkL.cons ?_ ?_ | exact Wk.nil _ | exact Wk.refl _)
  have h3' : (w.tmod 3 == 0) = false := by revert h3; cases h : (w.tmod 3 == 0) <;> simp_all
  rw [h3]
  conv => whnf
  have h4 : (a0 == 1) = false := by rw [h3] at h2; simpa using h2
  rw [h4]
  conv => whnf
  apply DrawVC.mix
  conv => whnf
  refine ⟨trivial, ?_⟩
  conv => whnf
  refine ⟨⟨by omega, by decide, by decide⟩, ?_⟩
  conv => whnf
  generalize hN : nxt (cellA 16 2 0 4 0) (cellA 16 2 0 4 1) (opK w a0) (opB w a0 v0) 0 l0 = N at hR ⊢
  refine ⟨by kernel_rfl, ?_⟩
  conv => whnf
  cases hd : N.done
  · skip
    rw [hd] at hR
    simp only [Bool.false_eq_true, if_false] at hR
    unfold askX at hR
    simp only at hR
    rw [h3] at hR
    conv => whnf
    apply DrawVC.mix
    conv => whnf
    refine ⟨by omega, ?_⟩
    conv => whnf
    refine ⟨by kernel_rfl, ?_⟩
    conv => whnf
    apply DrawVC.tail 6
    conv => whnf
    refine ⟨.inl rfl, by simp only [List.length_cons, List.length_nil, List.length_append, ET.bytes]; omega, ?_⟩
    conv => whnf
    refine ⟨by kernel_rfl, ?_⟩
    conv => whnf
    refine ⟨by simp only [List.length_cons, List.length_nil, List.length_append, ET.bytes]; omega, ?_⟩
    conv => whnf
    refine ⟨by decide, ?_⟩
    conv => whnf
    rw [h3]
    conv => whnf
    rcases Bool.eq_false_or_eq_true (a0 == 0) with h5 | h5
    · rw [h5] at hR
      rw [h5]
      conv => whnf
      rcases Bool.eq_false_or_eq_true (N.acc.kind == 3) with h6 | h6
      · rw [h6] at hR
        rw [h6]
        conv => whnf
        split
        · rename_i h7
          have h7 : (doA m N.acc.kind N.acc.cell N.acc.old N.acc.new N.acc.bytes).2.1.ok = true := h7
          rw [h7] at hR
          conv => whnf
          rcases Bool.eq_false_or_eq_true ((doA m N.acc.kind N.acc.cell N.acc.old N.acc.new N.acc.bytes).2.2 != 0) with h8 | h8
          · rw [h8] at hR
            rw [h8]
            conv => whnf
            refine ⟨by decide, ?_⟩
            conv => whnf
            rw [h3]
            conv => whnf
            have h9 : (a0 == 2) = false := by have := eq_of_beq h5; subst this; rfl
            rw [h9] at hR
            rw [h9]
            conv => whnf
            apply DrawVC.mix
            conv => whnf
            refine ⟨by decide, ?_⟩
            conv => whnf
            refine ⟨by kernel_rfl, ?_⟩
            conv => whnf
            subst hR
            refine ⟨?_, rfl⟩
            repeat' (first | exact WkL.nil | refine WkL.cons ?_ ?_ | exact Wk.nil _ | exact Wk.refl _)
          · rw [h8] at hR
            rw [h8]
            conv => whnf
            refine ⟨by decide, ?_⟩
            conv => whnf
            rw [h3]
            conv => whnf
            have h9 : (a0 == 2) = false := by have := eq_of_beq h5; subst this; rfl
            rw [h9] at hR
            rw [h9]
            conv => whnf
            apply DrawVC.mix
            conv => whnf
            refine ⟨by decide, ?_⟩
            conv => whnf
            refine ⟨by kernel_rfl, ?_⟩
            conv => whnf
            subst hR
            refine ⟨?_, rfl⟩
            repeat' (first | exact WkL.nil | refine WkL.cons ?_ ?_ | exact Wk.nil _ | exact Wk.refl _)
        · rename_i h7
          have h7 : (doA m N.acc.kind N.acc.cell N.acc.old N.acc.new N.acc.bytes).2.1.ok = false := h7
          rw [h7] at hR
          conv => whnf
          refine ⟨by decide, ?_⟩
          conv => whnf
          rw [h3]
          conv => whnf
          have h9 : (a0 == 2) = false := by have := eq_of_beq h5; subst this; rfl
          rw [h9] at hR
          rw [h9]
          conv => whnf
          apply DrawVC.mix
          conv => whnf
          refine ⟨by decide, ?_⟩
          conv => whnf
          refine ⟨by kernel_rfl, ?_⟩
          conv => whnf
          subst hR
          refine ⟨?_, rfl⟩
          repeat' (first | exact WkL.nil | refine WkL.cons ?_ ?_ | exact Wk.nil _ | exact Wk.refl _)
      · rw [h6] at hR
        rw [h6]
        conv => whnf
        refine ⟨by decide, ?_⟩
        conv => whnf
        rw [h3]
        conv => whnf
        have h9 : (a0 == 2) = false := by have := eq_of_beq h5; subst this; rfl
        rw [h9] at hR
        rw [h9]
        conv => whnf
        apply DrawVC.mix
        conv => whnf
        refine ⟨by decide, ?_⟩
        conv => whnf
        refine ⟨by kernel_rfl, ?_⟩
        conv => whnf
        subst hR
        refine ⟨?_, rfl⟩
        repeat' (first | exact WkL.nil | refine WkL.cons ?_ ?_ | exact Wk.nil _ | exact Wk.refl _)
    · rw [h5] at hR
      rw [h5]
      conv => whnf
      refine ⟨by decide, ?_⟩
      conv => whnf
      rw [h3]
      conv => whnf
      rcases Bool.eq_false_or_eq_true (a0 == 2) with h9 | h9
      · rw [h9] at hR
        rw [h9]
        conv => whnf
        apply DrawVC.mix
        conv => whnf
        refine ⟨by decide, ?_⟩
        conv => whnf
        refine ⟨by kernel_rfl, ?_⟩
        conv => whnf
        subst hR
        refine ⟨?_, rfl⟩
        repeat' (first | exact WkL.nil | refine WkL.cons ?_ ?_ | exact Wk.nil _ | exact Wk.refl _)
      · rw [h9] at hR
        rw [h9]
        conv => whnf
        apply DrawVC.mix
        conv => whnf
        refine ⟨by decide, ?_⟩
        conv => whnf
        refine ⟨by kernel_rfl, ?_⟩
        conv => whnf
        subst hR
        refine ⟨?_, rfl⟩
        repeat' (first | exact WkL.nil | refine WkL.cons ?_ ?_ | exact Wk.nil _ | exact Wk.refl _)
  · rw [hd] at hR
    simp only [if_true] at hR
    unfold gotX at hR
    simp only at hR
    rw [h3'] at hR
    conv => whnf
    refine ⟨by decide, ?_⟩
    conv => whnf
    rw [h3']
    conv => whnf
    rcases Bool.eq_false_or_eq_true (a0 == 0) with h5 | h5
    · rw [h5] at hR
      rw [h5]
      conv => whnf
      rcases Bool.eq_false_or_eq_true (N.is) with hi | hi
      · rw [hi] at hR
        rw [hi]
        conv => whnf
        apply DrawVC.mix
        conv => whnf
        refine ⟨by kernel_rfl, ?_⟩
        conv => whnf
        apply DrawVC.mix
        conv => whnf
        refine ⟨by decide, ?_⟩
        conv => whnf
        refine ⟨by kernel_rfl, ?_⟩
        conv => whnf
        subst hR
        refine ⟨?_, rfl⟩
        repeat' (first | exact WkL.nil | refine WkL.cons ?_ ?_ | exact Wk.nil _ | exact Wk.refl _)
      · rw [hi] at hR
        rw [hi]
        conv => whnf
        apply DrawVC.mix
        conv => whnf
        refine ⟨by decide, ?_⟩
        conv => whnf
        refine ⟨by kernel_rfl, ?_⟩
        conv => whnf
        subst hR
        refine ⟨?_, rfl⟩
        repeat' (first | exact WkL.nil | refine WkL.cons ?_ ?_ | exact Wk.nil _ | exact Wk.refl _)
    · rw [h5] at hR
      rw [h5]
      conv => whnf
      apply DrawVC.mix
      conv => whnf
      refine ⟨by decide, ?_⟩
      conv => whnf
      refine ⟨by kernel_rfl, ?_⟩
      conv => whnf
      subst hR
      refine ⟨?_, rfl⟩
      repeat' (first | exact WkL.nil | refine WkL.cons ?_ ?_ | exact Wk.nil _ | exact Wk.refl _)

set_option maxHeartbeats 4000000 in
theorem turn0_own {w0 w1 w2 tu m : List Int} {n0 a0 v0 n1 a1 v1 n2 a2 v2 held : Int} {l0 l1 l2 : List Res} {vals : List Int} {bad : Bool}
    (hp : okT 0 ⟨m, ⟨n0, a0, l0, v0⟩, ⟨n1, a1, l1, v1⟩, ⟨n2, a2, l2, v2⟩, held, vals, bad, true⟩) :
    evFnT ⟨tys, sp56⟩ Try.f59 [.ptr 1000 0, .agg [.sl .u8 w0, .sl .u8 w1, .sl .u8 w2, .sl .u8 tu], .int .i64 0]
      [.sl .i64 m, .int .i64 n0, .int .i64 a0, .sl .res l0, .int .i64 v0, .int .i64 n1, .int .i64 a1, .sl .res l1, .int .i64 v1, .int .i64 n2, .int .i64 a2, .sl .res l2, .int .i64 v2, .int .i64 held, .own 1001, .bool bad] (some vals)
      fun cs1 ext1 => WkL cs1 (cellsT (put0 ⟨m, ⟨n0, a0, l0, v0⟩, ⟨n1, a1, l1, v1⟩, ⟨n2, a2, l2, v2⟩, held, vals, bad, true⟩ (turnX 0 w0 ⟨m, ⟨n0, a0, l0, v0⟩, held, vals, bad, true⟩))) ∧ ext1 = extT (put0 ⟨m, ⟨n0, a0, l0, v0⟩, ⟨n1, a1, l1, v1⟩, ⟨n2, a2, l2, v2⟩, held, vals, bad, true⟩ (turnX 0 w0 ⟨m, ⟨n0, a0, l0, v0⟩, held, vals, bad, true⟩)) := by
  obtain ⟨_, hm, ⟨hn0, hn0', hl0⟩, ⟨hn1, hn1', hl1⟩, ⟨hn2, hn2', hl2⟩, hv1, hv2⟩ := hp
  simp only at hm hn0 hn0' hl0 hn1 hn1' hl1 hn2 hn2' hl2 hv1 hv2
  generalize hR : turnX 0 w0 ⟨m, ⟨n0, a0, l0, v0⟩, held, vals, bad, true⟩ = R
  unfold turnX at hR
  simp only at hR
  conv => whnf
  refine ⟨by decide, ?_⟩
  conv => whnf
  apply DrawVC.quiet (by kernel_rfl)
  conv => whnf
  refine ⟨by decide, ?_⟩
  conv => whnf
  split
  · rename_i h1
    rw [h1] at hR
    conv => whnf
    subst hR
    refine ⟨?_, rfl⟩
    repeat' (first | exact WkL.nil | refine WkL.cons ?_ ?_ | exact Wk.nil _ | exact Wk.refl _)
  rename_i h1
  rw [h1] at hR
  have h1' : ¬ n0 ≥ (w0.length : Int) := of_decide_eq_false h1
  conv => whnf
  cases bad
  rotate_left
  · conv => whnf
    subst hR
    refine ⟨?_, rfl⟩
    repeat' (first | exact WkL.nil | refine WkL.cons ?_ ?_ | exact Wk.nil _ | exact Wk.refl _)
  conv => whnf
  apply DrawVC.quiet (by kernel_rfl)
  conv => whnf
  refine ⟨by decide, ?_⟩
  conv => whnf
  refine ⟨by omega, ?_⟩
  conv => whnf
  refine ⟨trivial, ?_⟩
  conv => whnf
  generalize hw : w0.getD n0.toNat ET.u8.dflt = w
  have hw2 : wantX w0 n0 = w := hw
  rw [hw2] at hR
  refine ⟨by decide, ?_⟩
  conv => whnf
  rcases Bool.eq_false_or_eq_true (w.tmod 3 != 0 && a0 == 1) with h2 | h2
  · have h3 : (w.tmod 3 != 0) = true := by revert h2; cases (w.tmod 3 != 0) <;> simp
    have h4 : (a0 == 1) = true := by revert h2; cases (a0 == 1) <;> simp
    rw [h2] at hR
    rw [h3]
    conv => whnf
    rw [h4]
    conv => whnf
    conv => whnf
    apply DrawVC.mix
    conv => whnf
    refine ⟨trivial, ?_⟩
    conv => whnf
    refine ⟨by omega, ?_⟩
    conv => whnf
    refine ⟨by kernel_rfl, ?_⟩
    conv => whnf
    refine ⟨by simp only [List.length_cons, List.length_nil, ET.bytes]; omega, ?_⟩
    conv => whnf
    apply DrawVC.mix
    conv => whnf
    refine ⟨by decide, ?_⟩
    conv => whnf
    refine ⟨by kernel_rfl, ?_⟩
    conv => whnf
    unfold storeX at hR
    subst hR
    refine ⟨?_, rfl⟩
    repeat' (first | exact WkL.nil | refine WkL.cons ?_ ?_ | exact Wk.nil _ | exact Wk.refl _)
  rw [h2] at hR
  simp only [Bool.false_eq_true, if_false] at hR
  unfold stepX at hR
  rcases Bool.eq_false_or_eq_true (w.tmod 3 != 0) with h3 | h3
  rotate_left
  · have h3' : (w.tmod 3 == 0) = true := by revert h3; cases h : (w.tmod 3 == 0) <;> simp_all
    rw [h3]
    conv => whnf
    apply DrawVC.mix
    conv => whnf
    refine ⟨trivial, ?_⟩
    conv => whnf
    refine ⟨⟨by omega, by decide, by decide⟩, ?_⟩
    conv => whnf
    generalize hN : nxt (cellA 16 2 0 4 0) (cellA 16 2 0 4 1) (opK w a0) (opB w a0 v0) 0 l0 = N at hR ⊢
    refine ⟨by kernel_rfl, ?_⟩
    conv => whnf
    cases hd : N.done
    · skip
      rw [hd] at hR
      simp only [Bool.false_eq_true, if_false] at hR
      unfold askX at hR
      simp only at hR
      rw [h3] at hR
      conv => whnf
      apply DrawVC.mix
      conv => whnf
      refine ⟨by omega, ?_⟩
      conv => whnf
      refine ⟨by kernel_rfl, ?_⟩
      conv => whnf
      apply DrawVC.tail 6
      conv => whnf
      refine ⟨.inl rfl, by simp only [List.length_cons, List.length_nil, List.length_append, ET.bytes]; omega, ?_⟩
      conv => whnf
      refine ⟨by kernel_rfl, ?_⟩
      conv => whnf
      refine ⟨by simp only [List.length_cons, List.length_nil, List.length_append, ET.bytes]; omega, ?_⟩
      conv => whnf
      refine ⟨by decide, ?_⟩
      conv => whnf
      rw [h3]
      conv => whnf
      refine ⟨by decide, ?_⟩
      conv => whnf
      rw [h3]
      conv => whnf
      apply DrawVC.mix
      conv => whnf
      refine ⟨by decide, ?_⟩
      conv => whnf
      refine ⟨by kernel_rfl, ?_⟩
      conv => whnf
      subst hR
      refine ⟨?_, rfl⟩
      repeat' (first | exact WkL.nil | refine WkL.cons ?_ ?_ | exact Wk.nil _ | exact Wk.refl _)
    · rw [hd] at hR
      simp only [if_true] at hR
      unfold gotX oddR at hR
      simp only at hR
      rw [h3'] at hR
      conv => whnf
      refine ⟨by decide, ?_⟩
      conv => whnf
      rw [h3']
      conv => whnf
      apply DrawVC.quiet (by kernel_rfl)
      conv => whnf
      --GOT
      rcases Bool.eq_false_or_eq_true (N.is) with hi | hi
      · rw [hi] at hR
        rw [hi]
        conv => whnf
        rcases Bool.eq_false_or_eq_true (decide (N.ver < 0)) with hv | hv
        · rw [hv] at hR
          rw [hv]
          conv => whnf
          apply DrawVC.mix
          conv => whnf
          refine ⟨by decide, ?_⟩
          conv => whnf
          refine ⟨by kernel_rfl, ?_⟩
          conv => whnf
          subst hR
          refine ⟨?_, rfl⟩
          repeat' (first | exact WkL.nil | refine WkL.cons ?_ ?_ | exact Wk.nil _ | exact Wk.refl _)
        · rw [hv] at hR
          rw [hv]
          conv => whnf
          rcases Bool.eq_false_or_eq_true (decide (N.ver ≥ (vals.length : Int))) with hg | hg
          · rw [hg] at hR
            rw [hg]
            conv => whnf
            apply DrawVC.mix
            conv => whnf
            refine ⟨by decide, ?_⟩
            conv => whnf
            refine ⟨by kernel_rfl, ?_⟩
            conv => whnf
            subst hR
            refine ⟨?_, rfl⟩
            repeat' (first | exact WkL.nil | refine WkL.cons ?_ ?_ | exact Wk.nil _ | exact Wk.refl _)
          · rw [hg] at hR
            rw [hg]
            conv => whnf
            have hwl : IntKind.i64.wrap ((vals.length : Int) - 1) = (vals.length : Int) - 1 := wrap_small (by omega) (by omega)
            refine ⟨?_, ?_⟩
            · rw [hwl]
              have q1 : ¬ N.ver < 0 := of_decide_eq_false hv
              have q2 : ¬ N.ver ≥ (vals.length : Int) := of_decide_eq_false hg
              refine ⟨?_, ?_⟩
              all_goals (repeat' split)
              all_goals omega
            conv => whnf
            refine ⟨?_, ?_⟩
            · rw [hwl]
              have q1 : ¬ N.ver < 0 := of_decide_eq_false hv
              have q2 : ¬ N.ver ≥ (vals.length : Int) := of_decide_eq_false hg
              repeat' split
              all_goals omega
            conv => whnf
            split
            · rename_i hq
              have hq : (N.val != vals.getD (idxV N.ver vals).toNat 0) = true := hq
              rw [hq] at hR
              conv => whnf
              apply DrawVC.mix
              conv => whnf
              refine ⟨by decide, ?_⟩
              conv => whnf
              refine ⟨by kernel_rfl, ?_⟩
              conv => whnf
              subst hR
              refine ⟨?_, rfl⟩
              repeat' (first | exact WkL.nil | refine WkL.cons ?_ ?_ | exact Wk.nil _ | exact Wk.refl _)
            · rename_i hq
              have hq : (N.val != vals.getD (idxV N.ver vals).toNat 0) = false := hq
              rw [hq] at hR
              conv => whnf
              apply DrawVC.mix
              conv => whnf
              refine ⟨by decide, ?_⟩
              conv => whnf
              refine ⟨by kernel_rfl, ?_⟩
              conv => whnf
              subst hR
              refine ⟨?_, rfl⟩
              repeat' (first | exact WkL.nil | refine WkL.cons ?_ ?_ | exact Wk.nil _ | exact Wk.refl _)
      · rw [hi] at hR
        rw [hi]
        conv => whnf
        apply DrawVC.mix
        conv => whnf
        refine ⟨by decide, ?_⟩
        conv => whnf
        refine ⟨by kernel_rfl, ?_⟩
        conv => whnf
        subst hR
        refine ⟨?_, rfl⟩
        repeat' (first | exact WkL.nil | refine WkL.cons ?_ ?_ | exact Wk.nil _ | exact Wk.refl _)
  have h3' : (w.tmod 3 == 0) = false := by revert h3; cases h : (w.tmod 3 == 0) <;> simp_all
  rw [h3]
  conv => whnf
  have h4 : (a0 == 1) = false := by rw [h3] at h2; simpa using h2
  rw [h4]
  conv => whnf
  apply DrawVC.mix
  conv => whnf
  refine ⟨trivial, ?_⟩
  conv => whnf
  refine ⟨⟨by omega, by decide, by decide⟩, ?_⟩
  conv => whnf
  generalize hN : nxt (cellA 16 2 0 4 0) (cellA 16 2 0 4 1) (opK w a0) (opB w a0 v0) 0 l0 = N at hR ⊢
  refine ⟨by kernel_rfl, ?_⟩
  conv => whnf
  cases hd : N.done
  · skip
    rw [hd] at hR
    simp only [Bool.false_eq_true, if_false] at hR
    unfold askX at hR
    simp only at hR
    rw [h3] at hR
    conv => whnf
    apply DrawVC.mix
    conv => whnf
    refine ⟨by omega, ?_⟩
    conv => whnf
    refine ⟨by kernel_rfl, ?_⟩
    conv => whnf
    apply DrawVC.tail 6
    conv => whnf
    refine ⟨.inl rfl, by simp only [List.length_cons, List.length_nil, List.length_append, ET.bytes]; omega, ?_⟩
    conv => whnf
    refine ⟨by kernel_rfl, ?_⟩
    conv => whnf
    refine ⟨by simp only [List.length_cons, List.length_nil, List.length_append, ET.bytes]; omega, ?_⟩
    conv => whnf
    refine ⟨by decide, ?_⟩
    conv => whnf
    rw [h3]
    conv => whnf
    rcases Bool.eq_false_or_eq_true (a0 == 0) with h5 | h5
    · rw [h5] at hR
      rw [h5]
      conv => whnf
      rcases Bool.eq_false_or_eq_true (N.acc.kind == 3) with h6 | h6
      · rw [h6] at hR
        rw [h6]
        conv => whnf
        split
        · rename_i h7
          have h7 : (doA m N.acc.kind N.acc.cell N.acc.old N.acc.new N.acc.bytes).2.1.ok = true := h7
          rw [h7] at hR
          conv => whnf
          rcases Bool.eq_false_or_eq_true ((doA m N.acc.kind N.acc.cell N.acc.old N.acc.new N.acc.bytes).2.2 != 0) with h8 | h8
          · rw [h8] at hR
            rw [h8]
            conv => whnf
            refine ⟨by decide, ?_⟩
            conv => whnf
            rw [h3]
            conv => whnf
            have h9 : (a0 == 2) = false := by have := eq_of_beq h5; subst this; rfl
            rw [h9] at hR
            rw [h9]
            conv => whnf
            apply DrawVC.mix
            conv => whnf
            refine ⟨by decide, ?_⟩
            conv => whnf
            refine ⟨by kernel_rfl, ?_⟩
            conv => whnf
            subst hR
            refine ⟨?_, rfl⟩
            repeat' (first | exact WkL.nil | refine WkL.cons ?_ ?_ | exact Wk.nil _ | exact Wk.refl _)
          · rw [h8] at hR
            rw [h8]
            conv => whnf
            refine ⟨by decide, ?_⟩
            conv => whnf
            rw [h3]
            conv => whnf
            have h9 : (a0 == 2) = false := by have := eq_of_beq h5; subst this; rfl
            rw [h9] at hR
            rw [h9]
            conv => whnf
            apply DrawVC.mix
            conv => whnf
            refine ⟨by decide, ?_⟩
            conv => whnf
            refine ⟨by kernel_rfl, ?_⟩
            conv => whnf
            subst hR
            refine ⟨?_, rfl⟩
            repeat' (first | exact WkL.nil | refine WkL.cons ?_ ?_ | exact Wk.nil _ | exact Wk.refl _)
        · rename_i h7
          have h7 : (doA m N.acc.kind N.acc.cell N.acc.old N.acc.new N.acc.bytes).2.1.ok = false := h7
          rw [h7] at hR
          conv => whnf
          refine ⟨by decide, ?_⟩
          conv => whnf
          rw [h3]
          conv => whnf
          have h9 : (a0 == 2) = false := by have := eq_of_beq h5; subst this; rfl
          rw [h9] at hR
          rw [h9]
          conv => whnf
          apply DrawVC.mix
          conv => whnf
          refine ⟨by decide, ?_⟩
          conv => whnf
          refine ⟨by kernel_rfl, ?_⟩
          conv => whnf
          subst hR
          refine ⟨?_, rfl⟩
          repeat' (first | exact WkL.nil | refine WkL.cons ?_ ?_ | exact Wk.nil _ | exact Wk.refl _)
      · rw [h6] at hR
        rw [h6]
        conv => whnf
        refine ⟨by decide, ?_⟩
        conv => whnf
        rw [h3]
        conv => whnf
        have h9 : (a0 == 2) = false := by have := eq_of_beq h5; subst this; rfl
        rw [h9] at hR
        rw [h9]
        conv => whnf
        apply DrawVC.mix
        conv => whnf
        refine ⟨by decide, ?_⟩
        conv => whnf
        refine ⟨by kernel_rfl, ?_⟩
        conv => whnf
        subst hR
        refine ⟨?_, rfl⟩
        repeat' (first | exact WkL.nil | refine WkL.cons ?_ ?_ | exact Wk.nil _ | exact Wk.refl _)
    · rw [h5] at hR
      rw [h5]
      conv => whnf
      refine ⟨by decide, ?_⟩
      conv => whnf
      rw [h3]
      conv => whnf
      rcases Bool.eq_false_or_eq_true (a0 == 2) with h9 | h9
      · rw [h9] at hR
        rw [h9]
        conv => whnf
        apply DrawVC.mix
        conv => whnf
        refine ⟨by decide, ?_⟩
        conv => whnf
        refine ⟨by kernel_rfl, ?_⟩
        conv => whnf
        subst hR
        refine ⟨?_, rfl⟩
        repeat' (first | exact WkL.nil | refine WkL.cons ?_ ?_ | exact Wk.nil _ | exact Wk.refl _)
      · rw [h9] at hR
        rw [h9]
        conv => whnf
        apply DrawVC.mix
        conv => whnf
        refine ⟨by decide, ?_⟩
        conv => whnf
        refine ⟨by kernel_rfl, ?_⟩
        conv => whnf
        subst hR
        refine ⟨?_, rfl⟩
        repeat' (first | exact WkL.nil | refine WkL.cons ?_ ?_ | exact Wk.nil _ | exact Wk.refl _)
  · rw [hd] at hR
    simp only [if_true] at hR
    unfold gotX at hR
    simp only at hR
    rw [h3'] at hR
    conv => whnf
    refine ⟨by decide, ?_⟩
    conv => whnf
    rw [h3']
    conv => whnf
    rcases Bool.eq_false_or_eq_true (a0 == 0) with h5 | h5
    · rw [h5] at hR
      rw [h5]
      conv => whnf
      rcases Bool.eq_false_or_eq_true (N.is) with hi | hi
      · rw [hi] at hR
        rw [hi]
        conv => whnf
        apply DrawVC.mix
        conv => whnf
        refine ⟨by kernel_rfl, ?_⟩
        conv => whnf
        apply DrawVC.mix
        conv => whnf
        refine ⟨by decide, ?_⟩
        conv => whnf
        refine ⟨by kernel_rfl, ?_⟩
        conv => whnf
        subst hR
        refine ⟨?_, rfl⟩
        repeat' (first | exact WkL.nil | refine WkL.cons ?_ ?_ | exact Wk.nil _ | exact Wk.refl _)
      · rw [hi] at hR
        rw [hi]
        conv => whnf
        apply DrawVC.mix
        conv => whnf
        refine ⟨by decide, ?_⟩
        conv => whnf
        refine ⟨by kernel_rfl, ?_⟩
        conv => whnf
        subst hR
        refine ⟨?_, rfl⟩
        repeat' (first | exact WkL.nil | refine WkL.cons ?_ ?_ | exact Wk.nil _ | exact Wk.refl _)
    · rw [h5] at hR
      rw [h5]
      conv => whnf
      apply DrawVC.mix
      conv => whnf
      refine ⟨by decide, ?_⟩
      conv => whnf
      refine ⟨by kernel_rfl, ?_⟩
      conv => whnf
      subst hR
      refine ⟨?_, rfl⟩
      repeat' (first | exact WkL.nil | refine WkL.cons ?_ ?_ | exact Wk.nil _ | exact Wk.refl _)

end Go.Proofs.Ythakgbecpkfeoaa.Ev

/- Layer 16, the plays: a turn of thread 1, told by its code. -/
set_option linter.unusedVariables false
set_option linter.unusedSimpArgs false
set_option maxRecDepth 100000
namespace Go.Proofs.Ythakgbecpkfeoaa.Ev

set_option maxHeartbeats 4000000 in
theorem turn1_lit {w0 w1 w2 tu m : List Int} {n0 a0 v0 n1 a1 v1 n2 a2 v2 held : Int} {l0 l1 l2 : List Res} {vals : List Int} {bad : Bool}
    (hp : okT 1 ⟨m, ⟨n0, a0, l0, v0⟩, ⟨n1, a1, l1, v1⟩, ⟨n2, a2, l2, v2⟩, held, vals, bad, false⟩) :
    evFnT ⟨tys, sp56⟩ Try.f59 [.ptr 1000 0, .agg [.sl .u8 w0, .sl .u8 w1, .sl .u8 w2, .sl .u8 tu], .int .i64 1]
      [.sl .i64 m, .int .i64 n0, .int .i64 a0, .sl .res l0, .int .i64 v0, .int .i64 n1, .int .i64 a1, .sl .res l1, .int .i64 v1, .int .i64 n2, .int .i64 a2, .sl .res l2, .int .i64 v2, .int .i64 held, .lit .i64 vals, .bool bad] none
      fun cs1 ext1 => WkL cs1 (cellsT (put1 ⟨m, ⟨n0, a0, l0, v0⟩, ⟨n1, a1, l1, v1⟩, ⟨n2, a2, l2, v2⟩, held, vals, bad, false⟩ (turnX 1 w1 ⟨m, ⟨n1, a1, l1, v1⟩, held, vals, bad, false⟩))) ∧ ext1 = extT (put1 ⟨m, ⟨n0, a0, l0, v0⟩, ⟨n1, a1, l1, v1⟩, ⟨n2, a2, l2, v2⟩, held, vals, bad, false⟩ (turnX 1 w1 ⟨m, ⟨n1, a1, l1, v1⟩, held, vals, bad, false⟩)) := by
  obtain ⟨_, hm, ⟨hn0, hn0', hl0⟩, ⟨hn1, hn1', hl1⟩, ⟨hn2, hn2', hl2⟩, hv1, hv2⟩ := hp
  simp only at hm hn0 hn0' hl0 hn1 hn1' hl1 hn2 hn2' hl2 hv1 hv2
  generalize hR : turnX 1 w1 ⟨m, ⟨n1, a1, l1, v1⟩, held, vals, bad, false⟩ = R
  unfold turnX at hR
  simp only at hR
  conv => whnf
  refine ⟨by decide, ?_⟩
  conv => whnf
  apply DrawVC.quiet (by kernel_rfl)
  conv => whnf
  refine ⟨by decide, ?_⟩
  conv => whnf
  split
  · rename_i h1
    rw [h1] at hR
    conv => whnf
    subst hR
    refine ⟨?_, rfl⟩
    repeat' (first | exact WkL.nil | refine WkL.cons ?_ ?_ | exact Wk.nil _ | exact Wk.refl _)
  rename_i h1
  rw [h1] at hR
  have h1' : ¬ n1 ≥ (w1.length : Int) := of_decide_eq_false h1
  conv => whnf
  cases bad
  rotate_left
  · conv => whnf
    subst hR
    refine ⟨?_, rfl⟩
    repeat' (first | exact WkL.nil | refine WkL.cons ?_ ?_ | exact Wk.nil _ | exact Wk.refl _)
  conv => whnf
  apply DrawVC.quiet (by kernel_rfl)
  conv => whnf
  refine ⟨by decide, ?_⟩
  conv => whnf
  refine ⟨by omega, ?_⟩
  conv => whnf
  refine ⟨trivial, ?_⟩
  conv => whnf
  generalize hw : w1.getD n1.toNat ET.u8.dflt = w
  have hw2 : wantX w1 n1 = w := hw
  rw [hw2] at hR
  refine ⟨by decide, ?_⟩
  conv => whnf
  rcases Bool.eq_false_or_eq_true (w.tmod 3 != 0 && a1 == 1) with h2 | h2
  · have h3 : (w.tmod 3 != 0) = true := by revert h2; cases (w.tmod 3 != 0) <;> simp
    have h4 : (a1 == 1) = true := by revert h2; cases (a1 == 1) <;> simp
    rw [h2] at hR
    rw [h3]
    conv => whnf
    rw [h4]
    conv => whnf
    conv => whnf
    apply DrawVC.mix
    conv => whnf
    refine ⟨trivial, ?_⟩
    conv => whnf
    refine ⟨by omega, ?_⟩
    conv => whnf
    refine ⟨by kernel_rfl, ?_⟩
    conv => whnf
    refine ⟨.inr (by simp), by simp only [List.length_cons, List.length_nil, ET.bytes]; omega, ?_⟩
    conv => whnf
    apply DrawVC.mix
    conv => whnf
    refine ⟨by decide, ?_⟩
    conv => whnf
    refine ⟨by kernel_rfl, ?_⟩
    conv => whnf
    unfold storeX at hR
    subst hR
    refine ⟨?_, rfl⟩
    repeat' (first | exact WkL.nil | refine WkL.cons ?_ ?_ | exact Wk.nil _ | exact Wk.refl _)
  rw [h2] at hR
  simp only [Bool.false_eq_true, if_false] at hR
  unfold stepX at hR
  rcases Bool.eq_false_or_eq_true (w.tmod 3 != 0) with h3 | h3
  rotate_left
  · have h3' : (w.tmod 3 == 0) = true := by revert h3; cases h : (w.tmod 3 == 0) <;> simp_all
    rw [h3]
    conv => whnf
    apply DrawVC.mix
    conv => whnf
    refine ⟨trivial, ?_⟩
    conv => whnf
    refine ⟨⟨by omega, by decide, by decide⟩, ?_⟩
    conv => whnf
    generalize hN : nxt (cellA 16 2 0 4 0) (cellA 16 2 0 4 1) (opK w a1) (opB w a1 v1) 1 l1 = N at hR ⊢
    refine ⟨by kernel_rfl, ?_⟩
    conv => whnf
    cases hd : N.done
    · skip
      rw [hd] at hR
      simp only [Bool.false_eq_true, if_false] at hR
      unfold askX at hR
      simp only at hR
      rw [h3] at hR
      conv => whnf
      apply DrawVC.mix
      conv => whnf
      refine ⟨by omega, ?_⟩
      conv => whnf
      refine ⟨by kernel_rfl, ?_⟩
      conv => whnf
      apply DrawVC.tail 6
      conv => whnf
      refine ⟨.inl rfl, by simp only [List.length_cons, List.length_nil, List.length_append, ET.bytes]; omega, ?_⟩
      conv => whnf
      refine ⟨by kernel_rfl, ?_⟩
      conv => whnf
      refine ⟨by simp only [List.length_cons, List.length_nil, List.length_append, ET.bytes]; omega, ?_⟩
      conv => whnf
      refine ⟨by decide, ?_⟩
      conv => whnf
      rw [h3]
      conv => whnf
      refine ⟨by decide, ?_⟩
      conv => whnf
      rw [h3]
      conv => whnf
      apply DrawVC.mix
      conv => whnf
      refine ⟨by decide, ?_⟩
      conv => whnf
      refine ⟨by kernel_rfl, ?_⟩
      conv => whnf
      subst hR
      refine ⟨?_, rfl⟩
      repeat' (first | exact WkL.nil | refine WkL.cons ?_ ?_ | exact Wk.nil _ | exact Wk.refl _)
    · rw [hd] at hR
      simp only [if_true] at hR
      unfold gotX oddR at hR
      simp only at hR
      rw [h3'] at hR
      conv => whnf
      refine ⟨by decide, ?_⟩
      conv => whnf
      rw [h3']
      conv => whnf
      apply DrawVC.quiet (by kernel_rfl)
      conv => whnf
      --GOT
      rcases Bool.eq_false_or_eq_true (N.is) with hi | hi
      · rw [hi] at hR
        rw [hi]
        conv => whnf
        rcases Bool.eq_false_or_eq_true (decide (N.ver < 0)) with hv | hv
        · rw [hv] at hR
          rw [hv]
          conv => whnf
          apply DrawVC.mix
          conv => whnf
          refine ⟨by decide, ?_⟩
          conv => whnf
          refine ⟨by kernel_rfl, ?_⟩
          conv => whnf
          subst hR
          refine ⟨?_, rfl⟩
          repeat' (first | exact WkL.nil | refine WkL.cons ?_ ?_ | exact Wk.nil _ | exact Wk.refl _)
        · rw [hv] at hR
          rw [hv]
          conv => whnf
          rcases Bool.eq_false_or_eq_true (decide (N.ver ≥ (vals.length : Int))) with hg | hg
          · rw [hg] at hR
            rw [hg]
            conv => whnf
            apply DrawVC.mix
            conv => whnf
            refine ⟨by decide, ?_⟩
            conv => whnf
            refine ⟨by kernel_rfl, ?_⟩
            conv => whnf
            subst hR
            refine ⟨?_, rfl⟩
            repeat' (first | exact WkL.nil | refine WkL.cons ?_ ?_ | exact Wk.nil _ | exact Wk.refl _)
          · rw [hg] at hR
            rw [hg]
            conv => whnf
            have hwl : IntKind.i64.wrap ((vals.length : Int) - 1) = (vals.length : Int) - 1 := wrap_small (by omega) (by omega)
            refine ⟨?_, ?_⟩
            · rw [hwl]
              have q1 : ¬ N.ver < 0 := of_decide_eq_false hv
              have q2 : ¬ N.ver ≥ (vals.length : Int) := of_decide_eq_false hg
              refine ⟨?_, ?_⟩
              all_goals (repeat' split)
              all_goals omega
            conv => whnf
            split
            · rename_i hq
              have hq : (N.val != vals.getD (idxV N.ver vals).toNat 0) = true := hq
              rw [hq] at hR
              conv => whnf
              apply DrawVC.mix
              conv => whnf
              refine ⟨by decide, ?_⟩
              conv => whnf
              refine ⟨by kernel_rfl, ?_⟩
              conv => whnf
              subst hR
              refine ⟨?_, rfl⟩
              repeat' (first | exact WkL.nil | refine WkL.cons ?_ ?_ | exact Wk.nil _ | exact Wk.refl _)
            · rename_i hq
              have hq : (N.val != vals.getD (idxV N.ver vals).toNat 0) = false := hq
              rw [hq] at hR
              conv => whnf
              apply DrawVC.mix
              conv => whnf
              refine ⟨by decide, ?_⟩
              conv => whnf
              refine ⟨by kernel_rfl, ?_⟩
              conv => whnf
              subst hR
              refine ⟨?_, rfl⟩
              repeat' (first | exact WkL.nil | refine WkL.cons ?_ ?_ | exact Wk.nil _ | exact Wk.refl _)
      · rw [hi] at hR
        rw [hi]
        conv => whnf
        apply DrawVC.mix
        conv => whnf
        refine ⟨by decide, ?_⟩
        conv => whnf
        refine ⟨by kernel_rfl, ?_⟩
        conv => whnf
        subst hR
        refine ⟨?_, rfl⟩
        repeat' (first | exact WkL.nil | refine WkL.cons ?_ ?_ | exact Wk.nil _ | exact Wk.refl _)
  have h3' : (w.tmod 3 == 0) = false := by revert h3; cases h : (w.tmod 3 == 0) <;> simp_all
  rw [h3]
  conv => whnf
  have h4 : (a1 == 1) = false := by rw [h3] at h2; simpa using h2
  rw [h4]
  conv => whnf
  apply DrawVC.mix
  conv => whnf
  refine ⟨trivial, ?_⟩
  conv => whnf
  refine ⟨⟨by omega, by decide, by decide⟩, ?_⟩
  conv => whnf
  generalize hN : nxt (cellA 16 2 0 4 0) (cellA 16 2 0 4 1) (opK w a1) (opB w a1 v1) 1 l1 = N at hR ⊢
  refine ⟨by kernel_rfl, ?_⟩
  conv => whnf
  cases hd : N.done
  · skip
    rw [hd] at hR
    simp only [Bool.false_eq_true, if_false] at hR
    unfold askX at hR
    simp only at hR
    rw [h3] at hR
    conv => whnf
    apply DrawVC.mix
    conv => whnf
    refine ⟨by omega, ?_⟩
    conv => whnf
    refine ⟨by kernel_rfl, ?_⟩
    conv => whnf
    apply DrawVC.tail 6
    conv => whnf
    refine ⟨.inl rfl, by simp only [List.length_cons, List.length_nil, List.length_append, ET.bytes]; omega, ?_⟩
    conv => whnf
    refine ⟨by kernel_rfl, ?_⟩
    conv => whnf
    refine ⟨by simp only [List.length_cons, List.length_nil, List.length_append, ET.bytes]; omega, ?_⟩
    conv => whnf
    refine ⟨by decide, ?_⟩
    conv => whnf
    rw [h3]
    conv => whnf
    rcases Bool.eq_false_or_eq_true (a1 == 0) with h5 | h5
    · rw [h5] at hR
      rw [h5]
      conv => whnf
      rcases Bool.eq_false_or_eq_true (N.acc.kind == 3) with h6 | h6
      · rw [h6] at hR
        rw [h6]
        conv => whnf
        split
        · rename_i h7
          have h7 : (doA m N.acc.kind N.acc.cell N.acc.old N.acc.new N.acc.bytes).2.1.ok = true := h7
          rw [h7] at hR
          conv => whnf
          rcases Bool.eq_false_or_eq_true ((doA m N.acc.kind N.acc.cell N.acc.old N.acc.new N.acc.bytes).2.2 != 0) with h8 | h8
          · rw [h8] at hR
            rw [h8]
            conv => whnf
            refine ⟨by decide, ?_⟩
            conv => whnf
            rw [h3]
            conv => whnf
            have h9 : (a1 == 2) = false := by have := eq_of_beq h5; subst this; rfl
            rw [h9] at hR
            rw [h9]
            conv => whnf
            apply DrawVC.mix
            conv => whnf
            refine ⟨by decide, ?_⟩
            conv => whnf
            refine ⟨by kernel_rfl, ?_⟩
            conv => whnf
            subst hR
            refine ⟨?_, rfl⟩
            repeat' (first | exact WkL.nil | refine WkL.cons ?_ ?_ | exact Wk.nil _ | exact Wk.refl _)
          · rw [h8] at hR
            rw [h8]
            conv => whnf
            refine ⟨by decide, ?_⟩
            conv => whnf
            rw [h3]
            conv => whnf
            have h9 : (a1 == 2) = false := by have := eq_of_beq h5; subst this; rfl
            rw [h9] at hR
            rw [h9]
            conv => whnf
            apply DrawVC.mix
            conv => whnf
            refine ⟨by decide, ?_⟩
            conv => whnf
            refine ⟨by kernel_rfl, ?_⟩
            conv => whnf
            subst hR
            refine ⟨?_, rfl⟩
            repeat' (first | exact WkL.nil | refine WkL.cons ?_ ?_ | exact Wk.nil _ | exact Wk.refl _)
        · rename_i h7
          have h7 : (doA m N.acc.kind N.acc.cell N.acc.old N.acc.new N.acc.bytes).2.1.ok = false := h7
          rw [h7] at hR
          conv => whnf
          refine ⟨by decide, ?_⟩
          conv => whnf
          rw [h3]
          conv => whnf
          have h9 : (a1 == 2) = false := by have := eq_of_beq h5; subst this; rfl
          rw [h9] at hR
          rw [h9]
          conv => whnf
          apply DrawVC.mix
          conv => whnf
          refine ⟨by decide, ?_⟩
          conv => whnf
          refine ⟨by kernel_rfl, ?_⟩
          conv => whnf
          subst hR
          refine ⟨?_, rfl⟩
          repeat' (first | exact WkL.nil | refine WkL.cons ?_ ?_ | exact Wk.nil _ | exact Wk.refl _)
      · rw [h6] at hR
        rw [h6]
        conv => whnf
        refine ⟨by decide, ?_⟩
        conv => whnf
        rw [h3]
        conv => whnf
        have h9 : (a1 == 2) = false := by have := eq_of_beq h5; subst this; rfl
        rw [h9] at hR
        rw [h9]
        conv => whnf
        apply DrawVC.mix
        conv => whnf
        refine ⟨by decide, ?_⟩
        conv => whnf
        refine ⟨by kernel_rfl, ?_⟩
        conv => whnf
        subst hR
        refine ⟨?_, rfl⟩
        repeat' (first | exact WkL.nil | refine WkL.cons ?_ ?_ | exact Wk.nil _ | exact Wk.refl _)
    · rw [h5] at hR
      rw [h5]
      conv => whnf
      refine ⟨by decide, ?_⟩
      conv => whnf
      rw [h3]
      conv => whnf
      rcases Bool.eq_false_or_eq_true (a1 == 2) with h9 | h9
      · rw [h9] at hR
        rw [h9]
        conv => whnf
        apply DrawVC.mix
        conv => whnf
        refine ⟨by decide, ?_⟩
        conv => whnf
        refine ⟨by kernel_rfl, ?_⟩
        conv => whnf
        subst hR
        refine ⟨?_, rfl⟩
        repeat' (first | exact WkL.nil | refine WkL.cons ?_ ?_ | exact Wk.nil _ | exact Wk.refl _)
      · rw [h9] at hR
        rw [h9]
        conv => whnf
        apply DrawVC.mix
        conv => whnf
        refine ⟨by decide, ?_⟩
        conv => whnf
        refine ⟨by kernel_rfl, ?_⟩
        conv => whnf
        subst hR
        refine ⟨?_, rfl⟩
        repeat' (first | exact WkL.nil | refine WkL.cons ?_ ?_ | exact Wk.nil _ | exact Wk.refl _)
  · rw [hd] at hR
    simp only [if_true] at hR
    unfold gotX at hR
    simp only at hR
    rw [h3'] at hR
    conv => whnf
    refine ⟨by decide, ?_⟩
    conv => whnf
    rw [h3']
    conv => whnf
    rcases Bool.eq_false_or_eq_true (a1 == 0) with h5 | h5
    · rw [h5] at hR
      rw [h5]
      conv => whnf
      rcases Bool.eq_false_or_eq_true (N.is) with hi | hi
      · rw [hi] at hR
        rw [hi]
        conv => whnf
        apply DrawVC.mix
        conv => whnf
        refine ⟨by kernel_rfl, ?_⟩
        conv => whnf
        apply DrawVC.mix
        conv => whnf
        refine ⟨by decide, ?_⟩
        conv => whnf
        refine ⟨by kernel_rfl, ?_⟩
        conv => whnf
        subst hR
        refine ⟨?_, rfl⟩
        repeat' (first | exact WkL.nil | refine WkL.cons ?_ ?_ | exact Wk.nil _ | exact Wk.refl _)
      · rw [hi] at hR
        rw [hi]
        conv => whnf
        apply DrawVC.mix
        conv => whnf
        refine ⟨by decide, ?_⟩
        conv => whnf
        refine ⟨by kernel_rfl, ?_⟩
        conv => whnf
        subst hR
        refine ⟨?_, rfl⟩
        repeat' (first | exact WkL.nil | refine WkL.cons ?_ ?_ | exact Wk.nil _ | exact Wk.refl _)
    · rw [h5] at hR
      rw [h5]
      conv => whnf
      apply DrawVC.mix
      conv => whnf
      refine ⟨by decide, ?_⟩
      conv => whnf
      refine ⟨by kernel_rfl, ?_⟩
      conv => whnf
      subst hR
      refine ⟨?_, rfl⟩
      repeat' (first | exact WkL.nil | refine WkL.cons ?_ ?_ | exact Wk.nil _ | exact Wk.refl _)

set_option maxHeartbeats 4000000 in
theorem turn1_own {w0 w1 w2 tu m : List Int} {n0 a0 v0 n1 a1 v1 n2 a2 v2 held : Int} {l0 l1 l2 : List Res} {vals : List Int} {bad : Bool}
    (hp : okT 1 ⟨m, ⟨n0, a0, l0, v0⟩, ⟨n1, a1, l1, v1⟩, ⟨n2, a2, l2, v2⟩, held, vals, bad, true⟩) :
    evFnT ⟨tys, sp56⟩ Try.f59 [.ptr 1000 0, .agg [.sl .u8 w0, .sl .u8 w1, .sl .u8 w2, .sl .u8 tu], .int .i64 1]
      [.sl .i64 m, .int .i64 n0, .int .i64 a0, .sl .res l0, .int .i64 v0, .int .i64 n1, .int .i64 a1, .sl .res l1, .int .i64 v1, .int .i64 n2, .int .i64 a2, .sl .res l2, .int .i64 v2, .int .i64 held, .own 1001, .bool bad] (some vals)
      fun cs1 ext1 => WkL cs1 (cellsT (put1 ⟨m, ⟨n0, a0, l0, v0⟩, ⟨n1, a1, l1, v1⟩, ⟨n2, a2, l2, v2⟩, held, vals, bad, true⟩ (turnX 1 w1 ⟨m, ⟨n1, a1, l1, v1⟩, held, vals, bad, true⟩))) ∧ ext1 = extT (put1 ⟨m, ⟨n0, a0, l0, v0⟩, ⟨n1, a1, l1, v1⟩, ⟨n2, a2, l2, v2⟩, held, vals, bad, true⟩ (turnX 1 w1 ⟨m, ⟨n1, a1, l1, v1⟩, held, vals, bad, true⟩)) := by
  obtain ⟨_, hm, ⟨hn0, hn0', hl0⟩, ⟨hn1, hn1', hl1⟩, ⟨hn2, hn2', hl2⟩, hv1, hv2⟩ := hp
  simp only at hm hn0 hn0' hl0 hn1 hn1' hl1 hn2 hn2' hl2 hv1 hv2
  generalize hR : turnX 1 w1 ⟨m, ⟨n1, a1, l1, v1⟩, held, vals, bad, true⟩ = R
  unfold turnX at hR
  simp only at hR
  conv => whnf
  refine ⟨by decide, ?_⟩
  conv => whnf
  apply DrawVC.quiet (by kernel_rfl)
  conv => whnf
  refine ⟨by decide, ?_⟩
  conv => whnf
  split
  · rename_i h1
    rw [h1] at hR
    conv => whnf
    subst hR
    refine ⟨?_, rfl⟩
    repeat' (first | exact WkL.nil | refine WkL.cons ?_ ?_ | exact Wk.nil _ | exact Wk.refl _)
  rename_i h1
  rw [h1] at hR
  have h1' : ¬ n1 ≥ (w1.length : Int) := of_decide_eq_false h1
  conv => whnf
  cases bad
  rotate_left
  · conv => whnf
    subst hR
    refine ⟨?_, rfl⟩
    repeat' (first | exact WkL.nil | refine WkL.cons ?_ ?_ | exact Wk.nil _ | exact Wk.refl _)
  conv => whnf
  apply DrawVC.quiet (by kernel_rfl)
  conv => whnf
  refine ⟨by decide, ?_⟩
  conv => whnf
  refine ⟨by omega, ?_⟩
  conv => whnf
  refine ⟨trivial, ?_⟩
  conv => whnf
  generalize hw : w1.getD n1.toNat ET.u8.dflt = w
  have hw2 : wantX w1 n1 = w := hw
  rw [hw2] at hR
  refine ⟨by decide, ?_⟩
  conv => whnf
  rcases Bool.eq_false_or_eq_true (w.tmod 3 != 0 && a1 == 1) with h2 | h2
  · have h3 : (w.tmod 3 != 0) = true := by revert h2; cases (w.tmod 3 != 0) <;> simp
    have h4 : (a1 == 1) = true := by revert h2; cases (a1 == 1) <;> simp
    rw [h2] at hR
    rw [h3]
    conv => whnf
    rw [h4]
    conv => whnf
    conv => whnf
    apply DrawVC.mix
    conv => whnf
    refine ⟨trivial, ?_⟩
    conv => whnf
    refine ⟨by omega, ?_⟩
    conv => whnf
    refine ⟨by kernel_rfl, ?_⟩
    conv => whnf
    refine ⟨by simp only [List.length_cons, List.length_nil, ET.bytes]; omega, ?_⟩
    conv => whnf
    apply DrawVC.mix
    conv => whnf
    refine ⟨by decide, ?_⟩
    conv => whnf
    refine ⟨by kernel_rfl, ?_⟩
    conv => whnf
    unfold storeX at hR
    subst hR
    refine ⟨?_, rfl⟩
    repeat' (first | exact WkL.nil | refine WkL.cons ?_ ?_ | exact Wk.nil _ | exact Wk.refl _)
  rw [h2] at hR
  simp only [Bool.false_eq_true, if_false] at hR
  unfold stepX at hR
  rcases Bool.eq_false_or_eq_true (w.tmod 3 != 0) with h3 | h3
  rotate_left
  · have h3' : (w.tmod 3 == 0) = true := by revert h3; cases h : (w.tmod 3 == 0) <;> simp_all
    rw [h3]
    conv => whnf
    apply DrawVC.mix
    conv => whnf
    refine ⟨trivial, ?_⟩
    conv => whnf
    refine ⟨⟨by omega, by decide, by decide⟩, ?_⟩
    conv => whnf
    generalize hN : nxt (cellA 16 2 0 4 0) (cellA 16 2 0 4 1) (opK w a1) (opB w a1 v1) 1 l1 = N at hR ⊢
    refine ⟨by kernel_rfl, ?_⟩
    conv => whnf
    cases hd : N.done
    · skip
      rw [hd] at hR
      simp only [Bool.false_eq_true, if_false] at hR
      unfold askX at hR
      simp only at hR
      rw [h3] at hR
      conv => whnf
      apply DrawVC.mix
      conv => whnf
      refine ⟨by omega, ?_⟩
      conv => whnf
      refine ⟨by kernel_rfl, ?_⟩
      conv => whnf
      apply DrawVC.tail 6
      conv => whnf
      refine ⟨.inl rfl, by simp only [List.length_cons, List.length_nil, List.length_append, ET.bytes]; omega, ?_⟩
      conv => whnf
      refine ⟨by kernel_rfl, ?_⟩
      conv => whnf
      refine ⟨by simp only [List.length_cons, List.length_nil, List.length_append, ET.bytes]; omega, ?_⟩
      conv => whnf
      refine ⟨by decide, ?_⟩
      conv => whnf
      rw [h3]
      conv => whnf
      refine ⟨by decide, ?_⟩
      conv => whnf
      rw [h3]
      conv => whnf
      apply DrawVC.mix
      conv => whnf
      refine ⟨by decide, ?_⟩
      conv => whnf
      refine ⟨by kernel_rfl, ?_⟩
      conv => whnf
      subst hR
      refine ⟨?_, rfl⟩
      repeat' (first | exact WkL.nil | refine WkL.cons ?_ ?_ | exact Wk.nil _ | exact Wk.refl _)
    · rw [hd] at hR
      simp only [if_true] at hR
      unfold gotX oddR at hR
      simp only at hR
      rw [h3'] at hR
      conv => whnf
      refine ⟨by decide, ?_⟩
      conv => whnf
      rw [h3']
      conv => whnf
      apply DrawVC.quiet (by kernel_rfl)
      conv => whnf
      --GOT
      rcases Bool.eq_false_or_eq_true (N.is) with hi | hi
      · rw [hi] at hR
        rw [hi]
        conv => whnf
        rcases Bool.eq_false_or_eq_true (decide (N.ver < 0)) with hv | hv
        · rw [hv] at hR
          rw [hv]
          conv => whnf
          apply DrawVC.mix
          conv => whnf
          refine ⟨by decide, ?_⟩
          conv => whnf
          refine ⟨by kernel_rfl, ?_⟩
          conv => whnf
          subst hR
          refine ⟨?_, rfl⟩
          repeat' (first | exact WkL.nil | refine WkL.cons ?_ ?_ | exact Wk.nil _ | exact Wk.refl _)
        · rw [hv] at hR
          rw [hv]
          conv => whnf
          rcases Bool.eq_false_or_eq_true (decide (N.ver ≥ (vals.length : Int))) with hg | hg
          · rw [hg] at hR
            rw [hg]
            conv => whnf
            apply DrawVC.mix
            conv => whnf
            refine ⟨by decide, ?_⟩
            conv => whnf
            refine ⟨by kernel_rfl, ?_⟩
            conv => whnf
            subst hR
            refine ⟨?_, rfl⟩
            repeat' (first | exact WkL.nil | refine WkL.cons ?_ ?_ | exact Wk.nil _ | exact Wk.refl _)
          · rw [hg] at hR
            rw [hg]
            conv => whnf
            have hwl : IntKind.i64.wrap ((vals.length : Int) - 1) = (vals.length : Int) - 1 := wrap_small (by omega) (by omega)
            refine ⟨?_, ?_⟩
            · rw [hwl]
              have q1 : ¬ N.ver < 0 := of_decide_eq_false hv
              have q2 : ¬ N.ver ≥ (vals.length : Int) := of_decide_eq_false hg
              refine ⟨?_, ?_⟩
              all_goals (repeat' split)
              all_goals omega
            conv => whnf
            refine ⟨?_, ?_⟩
            · rw [hwl]
              have q1 : ¬ N.ver < 0 := of_decide_eq_false hv
              have q2 : ¬ N.ver ≥ (vals.length : Int) := of_decide_eq_false hg
              repeat' split
              all_goals omega
            conv => whnf
            split
            · rename_i hq
              have hq : (N.val != vals.getD (idxV N.ver vals).toNat 0) = true := hq
              rw [hq] at hR
              conv => whnf
              apply DrawVC.mix
              conv => whnf
              refine ⟨by decide, ?_⟩
              conv => whnf
              refine ⟨by kernel_rfl, ?_⟩
              conv => whnf
              subst hR
              refine ⟨?_, rfl⟩
              repeat' (first | exact WkL.nil | refine WkL.cons ?_ ?_ | exact Wk.nil _ | exact Wk.refl _)
            · rename_i hq
              have hq : (N.val != vals.getD (idxV N.ver vals).toNat 0) = false := hq
              rw [hq] at hR
              conv => whnf
              apply DrawVC.mix
              conv => whnf
              refine ⟨by decide, ?_⟩
              conv => whnf
              refine ⟨by kernel_rfl, ?_⟩
              conv => whnf
              subst hR
              refine ⟨?_, rfl⟩
              repeat' (first | exact WkL.nil | refine WkL.cons ?_ ?_ | exact Wk.nil _ | exact Wk.refl _)
      · rw [hi] at hR
        rw [hi]
        conv => whnf
        apply DrawVC.mix
        conv => whnf
        refine ⟨by decide, ?_⟩
        conv => whnf
        refine ⟨by kernel_rfl, ?_⟩
        conv => whnf
        subst hR
        refine ⟨?_, rfl⟩
        repeat' (first | exact WkL.nil | refine WkL.cons ?_ ?_ | exact Wk.nil _ | exact Wk.refl _)
  have h3' : (w.tmod 3 == 0) = false := by revert h3; cases h : (w.tmod 3 == 0) <;> simp_all
  rw [h3]
  conv => whnf
  have h4 : (a1 == 1) = false := by rw [h3] at h2; simpa using h2
  rw [h4]
  conv => whnf
  apply DrawVC.mix
  conv => whnf
  refine ⟨trivial, ?_⟩
  conv => whnf
  refine ⟨⟨by omega, by decide, by decide⟩, ?_⟩
  conv => whnf
  generalize hN : nxt (cellA 16 2 0 4 0) (cellA 16 2 0 4 1) (opK w a1) (opB w a1 v1) 1 l1 = N at hR ⊢
  refine ⟨by kernel_rfl, ?_⟩
  conv => whnf
  cases hd : N.done
  · skip
    rw [hd] at hR
    simp only [Bool.false_eq_true, if_false] at hR
    unfold askX at hR
    simp only at hR
    rw [h3] at hR
    conv => whnf
    apply DrawVC.mix
    conv => whnf
    refine ⟨by omega, ?_⟩
    conv => whnf
    refine ⟨by kernel_rfl, ?_⟩
    conv => whnf
    apply DrawVC.tail 6
    conv => whnf
    refine ⟨.inl rfl, by simp only [List.length_cons, List.length_nil, List.length_append, ET.bytes]; omega, ?_⟩
    conv => whnf
    refine ⟨by kernel_rfl, ?_⟩
    conv => whnf
    refine ⟨by simp only [List.length_cons, List.length_nil, List.length_append, ET.bytes]; omega, ?_⟩
    conv => whnf
    refine ⟨by decide, ?_⟩
    conv => whnf
    rw [h3]
    conv => whnf
    rcases Bool.eq_false_or_eq_true (a1 == 0) with h5 | h5
    · rw [h5] at hR
      rw [h5]
      conv => whnf
      rcases Bool.eq_false_or_eq_true (N.acc.kind == 3) with h6 | h6
      · rw [h6] at hR
        rw [h6]
        conv => whnf
        split
        · rename_i h7
          have h7 : (doA m N.acc.kind N.acc.cell N.acc.old N.acc.new N.acc.bytes).2.1.ok = true := h7
          rw [h7] at hR
          conv => whnf
          rcases Bool.eq_false_or_eq_true ((doA m N.acc.kind N.acc.cell N.acc.old N.acc.new N.acc.bytes).2.2 != 0) with h8 | h8
          · rw [h8] at hR
            rw [h8]
            conv => whnf
            refine ⟨by decide, ?_⟩
            conv => whnf
            rw [h3]
            conv => whnf
            have h9 : (a1 == 2) = false := by have := eq_of_beq h5; subst this; rfl
            rw [h9] at hR
            rw [h9]
            conv => whnf
            apply DrawVC.mix
            conv => whnf
            refine ⟨by decide, ?_⟩
            conv => whnf
            refine ⟨by kernel_rfl, ?_⟩
            conv => whnf
            subst hR
            refine ⟨?_, rfl⟩
            repeat' (first | exact WkL.nil | refine WkL.cons ?_ ?_ | exact Wk.nil _ | exact Wk.refl _)
          · rw [h8] at hR
            rw [h8]
            conv => whnf
            refine ⟨by decide, ?_⟩
            conv => whnf
            rw [h3]
            conv => whnf
            have h9 : (a1 == 2) = false := by have := eq_of_beq h5; subst this; rfl
            rw [h9] at hR
            rw [h9]
            conv => whnf
            apply DrawVC.mix
            conv => whnf
            refine ⟨by decide, ?_⟩
            conv => whnf
            refine ⟨by kernel_rfl, ?_⟩
            conv => whnf
            subst hR
            refine ⟨?_, rfl⟩
            repeat' (first | exact WkL.nil | refine WkL.cons ?_ ?_ | exact Wk.nil _ | exact Wk.refl _)
        · rename_i h7
          have h7 : (doA m N.acc.kind N.acc.cell N.acc.old N.acc.new N.acc.bytes).2.1.ok = false := h7
          rw [h7] at hR
          conv => whnf
          refine ⟨by decide, ?_⟩
          conv => whnf
          rw [h3]
          conv => whnf
          have h9 : (a1 == 2) = false := by have := eq_of_beq h5; subst this; rfl
          rw [h9] at hR
          rw [h9]
          conv => whnf
          apply DrawVC.mix
          conv => whnf
          refine ⟨by decide, ?_⟩
          conv => whnf
          refine ⟨by kernel_rfl, ?_⟩
          conv => whnf
          subst hR
          refine ⟨?_, rfl⟩
          repeat' (first | exact WkL.nil | refine WkL.cons ?_ ?_ | exact Wk.nil _ | exact Wk.refl _)
      · rw [h6] at hR
        rw [h6]
        conv => whnf
        refine ⟨by decide, ?_⟩
        conv => whnf
        rw [h3]
        conv => whnf
        have h9 : (a1 == 2) = false := by have := eq_of_beq h5; subst this; rfl
        rw [h9] at hR
        rw [h9]
        conv => whnf
        apply DrawVC.mix
        conv => whnf
        refine ⟨by decide, ?_⟩
        conv => whnf
        refine ⟨by kernel_rfl, ?_⟩
        conv => whnf
        subst hR
        refine ⟨?_, rfl⟩
        repeat' (first | exact WkL.nil | refine WkL.cons ?_ ?_ | exact Wk.nil _ | exact Wk.refl _)
    · rw [h5] at hR
      rw [h5]
      conv => whnf
      refine ⟨by decide, ?_⟩
      conv => whnf
      rw [h3]
      conv => whnf
      rcases Bool.eq_false_or_eq_true (a1 == 2) with h9 | h9
      · rw [h9] at hR
        rw [h9]
        conv => whnf
        apply DrawVC.mix
        conv => whnf
        refine ⟨by decide, ?_⟩
        conv => whnf
        refine ⟨by kernel_rfl, ?_⟩
        conv => whnf
        subst hR
        refine ⟨?_, rfl⟩
        repeat' (first | exact WkL.nil | refine WkL.cons ?_ ?_ | exact Wk.nil _ | exact Wk.refl _)
      · rw [h9] at hR
        rw [h9]
        conv => whnf
        apply DrawVC.mix
        conv => whnf
        refine ⟨by decide, ?_⟩
        conv => whnf
        refine ⟨by kernel_rfl, ?_⟩
        conv => whnf
        subst hR
        refine ⟨?_, rfl⟩
        repeat' (first | exact WkL.nil | refine WkL.cons ?_ ?_ | exact Wk.nil _ | exact Wk.refl _)
  · rw [hd] at hR
    simp only [if_true] at hR
    unfold gotX at hR
    simp only at hR
    rw [h3'] at hR
    conv => whnf
    refine ⟨by decide, ?_⟩
    conv => whnf
    rw [h3']
    conv => whnf
    rcases Bool.eq_false_or_eq_true (a1 == 0) with h5 | h5
    · rw [h5] at hR
      rw [h5]
      conv => whnf
      rcases Bool.eq_false_or_eq_true (N.is) with hi | hi
      · rw [hi] at hR
        rw [hi]
        conv => whnf
        apply DrawVC.mix
        conv => whnf
        refine ⟨by kernel_rfl, ?_⟩
        conv => whnf
        apply DrawVC.mix
        conv => whnf
        refine ⟨by decide, ?_⟩
        conv => whnf
        refine ⟨by kernel_rfl, ?_⟩
        conv => whnf
        subst hR
        refine ⟨?_, rfl⟩
        repeat' (first | exact WkL.nil | refine WkL.cons ?_ ?_ | exact Wk.nil _ | exact Wk.refl _)
      · rw [hi] at hR
        rw [hi]
        conv => whnf
        apply DrawVC.mix
        conv => whnf
        refine ⟨by decide, ?_⟩
        conv => whnf
        refine ⟨by kernel_rfl, ?_⟩
        conv => whnf
        subst hR
        refine ⟨?_, rfl⟩
        repeat' (first | exact WkL.nil | refine WkL.cons ?_ ?_ | exact Wk.nil _ | exact Wk.refl _)
    · rw [h5] at hR
      rw [h5]
      conv => whnf
      apply DrawVC.mix
      conv => whnf
      refine ⟨by decide, ?_⟩
      conv => whnf
      refine ⟨by kernel_rfl, ?_⟩
      conv => whnf
      subst hR
      refine ⟨?_, rfl⟩
      repeat' (first | exact WkL.nil | refine WkL.cons ?_ ?_ | exact Wk.nil _ | exact Wk.refl _)

end Go.Proofs.Ythakgbecpkfeoaa.Ev
