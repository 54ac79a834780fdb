/- Layer 15: all cells of an index; lists that are equal; the accesses that initialize. -/
import Derived.Test.YthakgbecpkfeoaaPc
set_option linter.unusedVariables false
set_option linter.unusedSimpArgs false
set_option maxRecDepth 100000
namespace Go.Proofs.Ythakgbecpkfeoaa.Ev

/-- The nine cells of an index. -/
def nine (t l k th lk lo n : Int) : List Int := [cellA th t n 4 0, cellA th t n 4 1, cellA th t n 4 2, cellA th t n 4 3, cellA lk k n 1 0, cellA lo l n 4 0, cellA lo l n 4 1, cellA lo l n 4 2, cellA lo l n 4 3]
def h31 : List AV → Option (Prop × AV)
  | [.agg [.int .i64 t, .int .i64 l, .int .i64 k, .int .i64 s, .int .i64 m, .int .i64 c, .int .i64 st, .int .i64 lg, .int .i64 en, .int .i64 th, .int .i64 lk, .int .i64 lo, .int .i64 sz], .int .i64 n] => some (True, .sl .i64 (nine t l k th lk lo n))
  | _ => none
theorem w31 : EnvOK Try.prog ⟨tys, (31, .pure h31) :: sp72⟩ := by
  refine addPure w72 (fn := Try.f31) (by kernel_rfl) (by kernel_rfl) (by kernel_rfl) ?_
  intro args p r h hp
  unfold h31 at h
  split at h
  · rename_i t l k s m c st lg en th lk lo sz n
    simp only [Option.some.injEq, Prod.mk.injEq] at h
    obtain ⟨rfl, rfl⟩ := h
    conv => whnf
    refine DrawVC.quiet (by kernel_rfl) ?_
    conv => whnf
    iterate 9 (refine ⟨trivial, ?_⟩; conv => whnf)
    exact ⟨_, rfl, Wk.eq rfl⟩
  · simp at h
def h32 := h31
abbrev sp31 : List (Nat × Spec) := (31, .pure h31) :: sp72
theorem w32 : EnvOK Try.prog ⟨tys, (32, .pure h32) :: sp31⟩ := by
  refine addPure w31 (fn := Try.f32) (by kernel_rfl) (by kernel_rfl) (by kernel_rfl) ?_
  intro args p r h hp
  unfold h32 h31 at h
  split at h
  · rename_i t l k s m c st lg en th lk lo sz n
    simp only [Option.some.injEq, Prod.mk.injEq] at h
    obtain ⟨rfl, rfl⟩ := h
    conv => whnf
    refine DrawVC.quiet (by kernel_rfl) ?_
    conv => whnf
    iterate 9 (refine ⟨trivial, ?_⟩; conv => whnf)
    exact ⟨_, rfl, Wk.eq rfl⟩
  · simp at h

abbrev sp32 : List (Nat × Spec) := (32, .pure h32) :: sp31
def h30 : List AV → Option (Prop × AV)
  | [.sl .i64 a, .sl .i64 b] => some (a.length ≤ 1000000, .bool (decide (a = b)))
  | _ => none
theorem w30 : EnvOK Try.prog ⟨tys, (30, .pure h30) :: sp32⟩ := by
  refine addPure w32 (fn := Try.f30) (by kernel_rfl) (by kernel_rfl) (by kernel_rfl) ?_
  intro args p r h hp
  unfold h30 at h
  split at h
  · rename_i a b
    simp only [Option.some.injEq, Prod.mk.injEq] at h
    obtain ⟨rfl, rfl⟩ := h
    conv => whnf
    split
    · rename_i he
      conv => whnf
      refine ⟨_, rfl, Wk.eq ?_⟩
      have : a ≠ b := by intro e; subst e; simp at he
      simp [this]
    · rename_i he
      have he : a.length = b.length := by have := he; simp at this; omega
      conv => whnf
      refine LoopVC.intro [] (fun i : Nat => [.sl .i64 a, .sl .i64 b, .undef, .undef, .bool false, .int .i64 i, .undef, .undef, .undef, .undef, .undef, .undef, .undef, .undef, .undef, .undef, .undef, .undef, .undef, .undef, .undef, .undef, .undef, .undef, .undef, .undef])
        (fun i => []) (fun i => i ≤ a.length ∧ upto 0 a b i) (fun i => a.length - i) 0 ⟨by omega, fun j hj => by omega⟩ ⟨?_, rfl⟩ ?_
      · repeat' (first | exact WeakL.nil | refine WeakL.cons ?_ ?_ | exact Weak1.undef _ | exact Weak1.same _)
      rintro i ⟨hi, hu⟩
      conv => whnf
      split
      · rename_i hlt
        have hlt : i < a.length := by simpa using hlt
        conv => whnf
        refine DrawVC.quiet (by kernel_rfl) ?_
        conv => whnf
        refine ⟨⟨by omega, by omega⟩, ?_⟩
        conv => whnf
        refine ⟨⟨by omega, by omega⟩, ?_⟩
        conv => whnf
        split
        · rename_i hne
          conv => whnf
          refine ⟨_, rfl, Wk.eq ?_⟩
          have : a ≠ b := by intro e; subst e; simp at hne
          simp [this]
        · rename_i heq
          conv => whnf
          have hw : IntKind.i64.wrap ((i : Int) + 1) = ((i + 1 : Nat) : Int) := by rw [wrap_small (by omega) (by omega)]; rfl
          refine ⟨i + 1, by omega, ⟨by omega, upto_succ hu (by simpa [dflt_i64] using heq)⟩, ⟨?_, rfl⟩⟩
          rw [hw]
          repeat' (first | exact WeakL.nil | refine WeakL.cons ?_ ?_ | exact Weak1.undef _ | exact Weak1.same _)
      · rename_i hge
        have hge : i = a.length := by have : ¬ i < a.length := by simpa using hge
                                      omega
        conv => whnf
        refine ⟨_, rfl, Wk.eq ?_⟩
        subst hge
        have := upto_all he hu
        simp [this]
  · simp at h

abbrev sp30 : List (Nat × Spec) := (30, .pure h30) :: sp32
/-- The same list of accesses twice. -/
def h33 : List AV → Option (Prop × AV)
  | [.sl .acc a, .sl .acc b] => some (a = b ∧ a.length ≤ 1000000, .bool true)
  | _ => none
theorem w33 : EnvOK Try.prog ⟨tys, (33, .pure h33) :: sp30⟩ := by
  refine addPure w30 (fn := Try.f33) (by kernel_rfl) (by kernel_rfl) (by kernel_rfl) ?_
  intro args p r h hp
  unfold h33 at h
  split at h
  · rename_i a b
    simp only [Option.some.injEq, Prod.mk.injEq] at h
    obtain ⟨rfl, rfl⟩ := h
    obtain ⟨rfl, hl⟩ := hp
    conv => whnf
    rw [show ((a.length : Int) != (a.length : Int)) = false by simp]
    conv => whnf
    refine LoopVC.intro [] (fun i : Nat => [.sl .acc a, .sl .acc a, .undef, .undef, .bool false, .int .i64 i, .undef, .undef, .undef, .undef, .undef, .undef, .undef, .undef, .undef, .undef, .undef, .undef, .undef, .undef, .undef, .undef, .undef, .undef, .undef, .undef])
      (fun i => []) (fun i => i ≤ a.length) (fun i => a.length - i) 0 (by omega) ⟨?_, rfl⟩ ?_
    · repeat' (first | exact WeakL.nil | refine WeakL.cons ?_ ?_ | exact Weak1.undef _ | exact Weak1.same _)
    rintro i hi
    conv => whnf
    split
    · rename_i hlt
      have hlt : i < a.length := by simpa using hlt
      conv => whnf
      refine DrawVC.quiet (by kernel_rfl) ?_
      conv => whnf
      refine ⟨⟨by omega, by omega⟩, ?_⟩
      conv => whnf
      refine ⟨⟨by omega, by omega⟩, ?_⟩
      conv => whnf
      split
      · rename_i hne
        exfalso
        simp at hne
      · conv => whnf
        have hw : IntKind.i64.wrap ((i : Int) + 1) = ((i + 1 : Nat) : Int) := by rw [wrap_small (by omega) (by omega)]; rfl
        refine ⟨i + 1, by omega, by omega, ⟨?_, rfl⟩⟩
        rw [hw]
        repeat' (first | exact WeakL.nil | refine WeakL.cons ?_ ?_ | exact Weak1.undef _ | exact Weak1.same _)
    · conv => whnf
      exact ⟨_, rfl, Wk.eq rfl⟩
  · simp at h

abbrev sp33 : List (Nat × Spec) := (33, .pure h33) :: sp30
def storeA (c n : Int) : Acc := ⟨2, c, 0, n, ⟨#[]⟩⟩
/-- The accesses that initialize: as far as element i. -/
def initU (st lo l : Int) (first : List Int) (i : Nat) : List Acc := storeA st 1 :: (List.range i).map fun (j : Nat) => storeA (cellA lo l (j : Int) 4 1) (first.getD j 0)
theorem initU_succ (st lo l : Int) (first : List Int) (i : Nat) : initU st lo l first (i + 1) = initU st lo l first i ++ [storeA (cellA lo l (i : Int) 4 1) (first.getD i 0)] := by
  simp [initU, List.range_succ]
theorem initU_length (st lo l : Int) (first : List Int) (i : Nat) : (initU st lo l first i).length = i + 1 := by simp [initU]
def h34 : List AV → Option (Prop × AV)
  | [.agg [.int .i64 t, .int .i64 l, .int .i64 k, .int .i64 s, .int .i64 m, .int .i64 c, .int .i64 st, .int .i64 lg, .int .i64 en, .int .i64 th, .int .i64 lk, .int .i64 lo, .int .i64 sz], .sl .i64 first] => some ((0 ≤ l ∧ l ≤ 1000) ∧ first.length ≤ 1000, .sl .acc (initU st lo l first (min first.length l.toNat)))
  | _ => none
theorem w34 : EnvOK Try.prog ⟨tys, (34, .pure h34) :: sp33⟩ := by
  refine addPure w33 (fn := Try.f34) (by kernel_rfl) (by kernel_rfl) (by kernel_rfl) ?_
  intro args p r h hp
  unfold h34 at h
  split at h
  · rename_i t l k s m c st lg en th lk lo sz first
    simp only [Option.some.injEq, Prod.mk.injEq] at h
    obtain ⟨rfl, rfl⟩ := h
    obtain ⟨hl, hf⟩ := hp
    conv => whnf
    have hmin : (if l < (first.length : Int) then l else (first.length : Int)) = ((min first.length l.toNat : Nat) : Int) := by split <;> omega
    simp only [hmin]
    have hmk : min first.length l.toNat ≤ first.length := Nat.min_le_left _ _
    have hml : ((min first.length l.toNat : Nat) : Int) ≤ l := by omega
    generalize min first.length l.toNat = mk at hmk hml ⊢
    refine ⟨⟨by omega, by omega, by omega⟩, ?_⟩
    have hs1 : List.drop (Int.toNat 0) (List.take ((mk : Int)).toNat first) = first.take mk := rfl
    simp only [hs1]
    have hlen : (first.take mk).length = mk := by rw [List.length_take]; omega
    conv => whnf
    simp only [hlen]
    refine LoopVC.intro [] (fun i : Nat => [.agg [.int .i64 t, .int .i64 l, .int .i64 k, .int .i64 s, .int .i64 m, .int .i64 c, .int .i64 st, .int .i64 lg, .int .i64 en, .int .i64 th, .int .i64 lk, .int .i64 lo, .int .i64 sz], .sl .i64 first, .ptr 2 0, .skp, .own 4, (match i with | 0 => .lit .acc [storeA st 1] | _ + 1 => .own 5), .undef, .undef, .undef, .undef, .undef, .undef, .undef, .undef, .undef, .undef, .undef, .undef, .undef, .sl .i64 (first.take mk), .int .i64 mk, .int .i64 i, .undef, .undef, .undef, .undef, .undef, .undef, .undef, .undef, .undef, .undef, .undef, .undef, .undef, .undef])
      (fun i => match i with | 0 => [(2, .box [.int .i64 t, .int .i64 l, .int .i64 k, .int .i64 s, .int .i64 m, .int .i64 c, .int .i64 st, .int .i64 lg, .int .i64 en, .int .i64 th, .int .i64 lk, .int .i64 lo, .int .i64 sz]), (4, .arr .acc [])] | j + 1 => [(2, .box [.int .i64 t, .int .i64 l, .int .i64 k, .int .i64 s, .int .i64 m, .int .i64 c, .int .i64 st, .int .i64 lg, .int .i64 en, .int .i64 th, .int .i64 lk, .int .i64 lo, .int .i64 sz]), (4, .arr .acc []), (5, .arr .acc (initU st lo l first (j + 1)))])
      (fun i => i ≤ mk) (fun i => mk - i) 0 (by omega) ⟨?_, rfl⟩ ?_
    · repeat' (first | exact WeakL.nil | refine WeakL.cons ?_ ?_ | exact Weak1.undef _ | exact Weak1.same _)
    intro i hi
    have hget : ∀ j, j < mk → (first.take mk).getD j 0 = first.getD j 0 := by
      intro j hj
      simp [List.getD_eq_getElem?_getD, List.getElem?_take, hj]
    rcases i with _ | i
    · conv => whnf
      split
      · rename_i hlt
        have hlt : 0 < mk := by simpa using hlt
        conv => whnf
        refine ⟨⟨by omega, by rw [hlen]; omega⟩, ?_⟩
        conv => whnf
        refine ⟨trivial, ?_⟩
        conv => whnf
        refine ⟨.inr (by simp), ?_⟩
        conv => whnf
        refine ⟨by simp only [List.length_cons, List.length_nil, ET.bytes]; omega, ?_⟩
        conv => whnf
        refine ⟨1, by omega, by omega, ?_⟩
        conv => whnf
        refine ⟨?_, ?_⟩
        · repeat' (first | exact WeakL.nil | refine WeakL.cons ?_ ?_ | exact Weak1.undef _ | exact Weak1.same _)
        · have := initU_succ st lo l first 0
          dsimp only
          rw [this]
          have h0 := hget 0 hlt
          simp only [initU, storeA, List.range_zero, List.map_nil, dflt_i64]
          rw [← h0]
          rfl
      · rename_i hge
        have hge : mk = 0 := by simp at hge; omega
        conv => whnf
        refine ⟨_, rfl, Wk.eq ?_⟩
        simp [hge, initU]
    · conv => whnf
      split
      · rename_i hlt
        have hlt : i + 1 < mk := by have := hlt; simp at this; omega
        conv => whnf
        refine ⟨⟨by omega, by rw [hlen]; omega⟩, ?_⟩
        conv => whnf
        refine ⟨trivial, ?_⟩
        conv => whnf
        refine ⟨by simp only [List.length_cons, List.length_nil, ET.bytes, initU_length]; omega, ?_⟩
        conv => whnf
        have hw : IntKind.i64.wrap (((i + 1 : Nat) : Int) + 1) = ((i + 1 + 1 : Nat) : Int) := by rw [wrap_small (by omega) (by omega)]; rfl
        rw [hw]
        refine ⟨i + 1 + 1, by omega, by omega, ?_⟩
        conv => whnf
        refine ⟨?_, ?_⟩
        · repeat' (first | exact WeakL.nil | refine WeakL.cons ?_ ?_ | exact Weak1.undef _ | exact Weak1.same _)
        · have := initU_succ st lo l first (i + 1)
          dsimp only
          rw [this]
          have h0 := hget (i + 1) hlt
          simp only [storeA, dflt_i64]
          rw [← h0]
          rfl
      · rename_i hge
        have hge : i + 1 = mk := by simp at hge; omega
        conv => whnf
        refine ⟨_, rfl, Wk.eq ?_⟩
        simp [← hge]
  · simp at h
abbrev sp34 : List (Nat × Spec) := (34, .pure h34) :: sp33

end Go.Proofs.Ythakgbecpkfeoaa.Ev
