/- Layer 2: lists of accesses. -/
import Derived.Test.YthakgbecpkfeoaaMd
set_option linter.unusedVariables false
set_option linter.unusedSimpArgs false
set_option maxRecDepth 100000
namespace Go.Proofs.Ythakgbecpkfeoaa.Ev

/-- An access, as Do takes it. -/
def doAcc (m : List Int) (a : Acc) : List Int × Res × Int := doA m a.kind a.cell a.old a.new a.bytes
/-- All accesses in order: the error of the first that fails, or the memory and the results. -/
def runA : List Int → List Acc → Int ⊕ (List Int × List Res)
  | m, [] => .inr (m, [])
  | m, a :: l => if (doAcc m a).2.2 = 0 then (match runA (doAcc m a).1 l with | .inl e => .inl e | .inr (x, rs) => .inr (x, (doAcc m a).2.1 :: rs)) else .inl (doAcc m a).2.2
theorem runA_append (m : List Int) (l1 l2 : List Acc) : runA m (l1 ++ l2) = match runA m l1 with
    | .inl e => .inl e
    | .inr (x, rs) => match runA x l2 with | .inl e => .inl e | .inr (y, ss) => .inr (y, rs ++ ss) := by
  induction l1 generalizing m with
  | nil => simp only [List.nil_append, runA]; cases runA m l2 <;> rfl
  | cons a l1 ih =>
    simp only [List.cons_append, runA]
    split
    · rw [ih]
      cases runA (doAcc m a).1 l1 with
      | inl e => rfl
      | inr p =>
        obtain ⟨x, rs⟩ := p
        simp only
        cases runA x l2 <;> rfl
    · rfl
theorem doA_length (m : List Int) (k c o n : Int) (s : ByteArray) : (doA m k c o n s).1.length = m.length := by
  unfold doA
  split
  · split
    · rfl
    · simp only; split <;> simp
  · rfl
theorem runA_length {m : List Int} {l : List Acc} {x : List Int} {rs : List Res} (h : runA m l = .inr (x, rs)) : x.length = m.length ∧ rs.length = l.length := by
  induction l generalizing m x rs with
  | nil => simp only [runA, Sum.inr.injEq, Prod.mk.injEq] at h; obtain ⟨rfl, rfl⟩ := h; simp
  | cons a l ih =>
    simp only [runA] at h
    split at h
    · split at h
      · simp at h
      · rename_i y ss hy
        simp only [Sum.inr.injEq, Prod.mk.injEq] at h
        obtain ⟨rfl, rfl⟩ := h
        obtain ⟨h1, h2⟩ := ih hy
        exact ⟨h1.trans (doA_length ..), by simp [h2]⟩
    · simp at h

theorem runA_stop {m x : List Int} {l : List Acc} {rs : List Res} {i : Nat} {a : Acc} (h : runA m (l.take i) = .inr (x, rs)) (ha : l[i]? = some a) (he : (doAcc x a).2.2 ≠ 0) : runA m l = .inl (doAcc x a).2.2 := by
  have hl : l = l.take i ++ a :: l.drop (i + 1) := by
    have hlt := (List.getElem?_eq_some_iff.1 ha).1
    have hget := (List.getElem?_eq_some_iff.1 ha).2
    rw [← hget, List.getElem_cons_drop, List.take_append_drop]
  rw [hl, runA_append, h]
  simp only [runA, he, if_false]
theorem runA_next {m x : List Int} {l : List Acc} {rs : List Res} {i : Nat} {a : Acc} (h : runA m (l.take i) = .inr (x, rs)) (ha : l[i]? = some a) (he : (doAcc x a).2.2 = 0) :
    runA m (l.take (i + 1)) = .inr ((doAcc x a).1, rs ++ [(doAcc x a).2.1]) := by
  have hl : l.take (i + 1) = l.take i ++ [a] := by rw [List.take_add_one, ha]; rfl
  rw [hl, runA_append, h]
  simp only [runA, he, if_true]

def allM (m : List Int) (l : List Acc) : List Int := match runA m l with | .inl _ => m | .inr (x, _) => x
def allR (m : List Int) (l : List Acc) : List Res := match runA m l with | .inl _ => [] | .inr (_, rs) => rs
def allE (m : List Int) (l : List Acc) : Int := match runA m l with | .inl e => e | .inr _ => 0

def h43 : List AV → Option (Prop × AV)
  | [.agg [.sl .i64 m], .sl .acc l] => some (m.length ≤ 1000000 ∧ l.length ≤ 100000, .tup [.agg [.sl .i64 (allM m l)], .sl .res (allR m l), .int .i64 (allE m l)])
  | _ => none

abbrev sp42 : List (Nat × Spec) := (42, .pure h42) :: sp38
theorem w43 : EnvOK Try.prog ⟨tys, (43, .pure h43) :: sp42⟩ := by
  refine addPure w42 (fn := Try.f43) (by kernel_rfl) (by kernel_rfl) (by kernel_rfl) ?_
  intro args p r h hp
  unfold h43 at h
  split at h
  · rename_i m l
    simp only [Option.some.injEq, Prod.mk.injEq] at h
    obtain ⟨rfl, rfl⟩ := h
    obtain ⟨hm, hl⟩ := hp
    conv => whnf
    refine LoopVC.intro [10, 11, 12] (fun p : Nat × List Int × List Res => [.agg [.sl .i64 m], .sl .acc l, .ptr 2 0, .skp, .ptr 4 0, .own 5, .int .i64 0, .ptr 7 0, .own 8, .undef, .undef, .undef, .undef, .undef, .undef, .sl .acc l, .int .i64 l.length, .int .i64 p.1, .undef, .undef, .undef, .undef, .undef, .undef, .undef, .undef, .undef, .undef, .undef, .undef, .undef, .undef, .undef, .undef, .undef, .undef, .undef, .undef, .undef, .undef])
      (fun p => [(2, .box [.sl .i64 m]), (4, .box [.nil]), (5, .arr .res []), (7, .box [.sl .i64 p.2.1]), (8, .arr .res p.2.2)])
      (fun p => p.1 ≤ l.length ∧ runA m (l.take p.1) = .inr (p.2.1, p.2.2)) (fun p => l.length - p.1) (0, m, []) ⟨by simp, by simp [runA]⟩ ?_ ?_
    · conv => whnf
      refine ⟨?_, rfl⟩
      repeat' (first | exact WeakL.nil | refine WeakL.cons ?_ ?_ | exact Weak1.undef _ | exact Weak1.same _)
    rintro ⟨i, x, rs⟩ ⟨hi, hrun⟩
    dsimp only at hi hrun ⊢
    obtain ⟨hxl, hrl⟩ := runA_length hrun
    have hrl' : rs.length ≤ 100000 := by rw [hrl, List.length_take]; omega
    conv => whnf
    split
    · rename_i hlt
      have hlt : i < l.length := by simpa using hlt
      conv => whnf
      refine ⟨⟨by omega, by omega⟩, ?_⟩
      conv => whnf
      refine ⟨by omega, ?_⟩
      conv => whnf
      split
      · rename_i he
        conv => whnf
        have hrl := runA_stop (a := l.getD ((i : Int)).toNat ET.acc.dflt) hrun (by simp [hlt]) (by simpa [doAcc] using he)
        refine ⟨_, rfl, Wk.eq ?_⟩
        simp only [allM, allR, allE, hrl]
        rfl
      · rename_i he
        conv => whnf
        apply DrawVC.any
        · conv => whnf
          repeat' (first | exact True.intro | exact ⟨rfl, rfl⟩ | apply And.intro | ((conv => whnf); first | exact True.intro | exact ⟨rfl, rfl⟩ | apply And.intro))
          all_goals (simp only [List.length_cons, List.length_nil, ET.bytes]; omega)
        · conv => whnf
          have hrl := runA_next (a := l.getD ((i : Int)).toNat ET.acc.dflt) hrun (by simp [hlt]) (by simpa [doAcc] using he)
          refine ⟨(i + 1, (doAcc x (l.getD ((i : Int)).toNat ET.acc.dflt)).1, rs ++ [(doAcc x (l.getD ((i : Int)).toNat ET.acc.dflt)).2.1]), by simp only; omega, ⟨by simp only; omega, hrl⟩, ?_⟩
          have hw : IntKind.i64.wrap ((i : Int) + 1) = ((i + 1 : Nat) : Int) := by rw [wrap_small (by omega) (by omega)]; rfl
          rw [hw]
          conv => whnf
          refine ⟨?_, rfl⟩
          repeat' (first | exact WeakL.nil | refine WeakL.cons ?_ ?_ | exact Weak1.undef _ | exact Weak1.same _)
    · rename_i hge
      have hge : i = l.length := by have : ¬ i < l.length := by simpa using hge
                                    omega
      conv => whnf
      subst hge
      rw [List.take_length] at hrun
      refine ⟨_, rfl, Wk.eq ?_⟩
      simp only [allM, allR, allE, hrun]
  · simp at h

end Go.Proofs.Ythakgbecpkfeoaa.Ev
