/- Layer 2: the functions of mem and of its reference that only compute. -/
import Derived.Test.YthakgbecpkfeoaaEvV
set_option linter.unusedVariables false
set_option linter.unusedSimpArgs false
set_option maxRecDepth 100000
namespace Go.Proofs.Ythakgbecpkfeoaa.Ev

def rightA (k c o n : Int) (s : ByteArray) : Bool :=
  (decide (c ≥ 0) && s.toList == []) && (if k = 1 then n == 0 && o == 0 else if k = 2 then o == 0 else if k = 4 then o == 0 else if k = 3 then true else false)

def h39 : List AV → Option (Prop × AV)
  | [.agg [.int .i64 k, .int .i64 c, .int .i64 o, .int .i64 n, .str s]] => some (True, .bool (rightA k c o n s))
  | _ => none

theorem empty_list : (⟨#[]⟩ : ByteArray).toList = [] := by rw [ByteArray.toList_eq]

theorem w39 : EnvOK Try.prog ⟨tys, [(39, .pure h39)]⟩ := by
  refine addPure env0 (fn := Try.f39) (by kernel_rfl) (by kernel_rfl) (by kernel_rfl) ?_
  intro args p r h hp
  unfold h39 at h
  split at h
  · rename_i k c o n s
    simp only [Option.some.injEq, Prod.mk.injEq] at h
    obtain ⟨rfl, rfl⟩ := h
    conv => whnf
    repeat' (split <;> conv => whnf)
    all_goals refine ⟨_, rfl, ?_⟩
    all_goals refine Wk.eq ?_
    all_goals simp_all [rightA, empty_list]
    all_goals grind
  · simp at h

def h40 := h39
theorem w40 : EnvOK Try.prog ⟨tys, [(40, .pure h40), (39, .pure h39)]⟩ := by
  refine addPure w39 (fn := Try.f40) (by kernel_rfl) (by kernel_rfl) (by kernel_rfl) ?_
  intro args p r h hp
  unfold h40 h39 at h
  split at h
  · rename_i k c o n s
    simp only [Option.some.injEq, Prod.mk.injEq] at h
    obtain ⟨rfl, rfl⟩ := h
    conv => whnf
    repeat' (split <;> conv => whnf)
    all_goals refine ⟨_, rfl, ?_⟩
    all_goals refine Wk.eq ?_
    all_goals simp_all [rightA, empty_list]
    all_goals grind
  · simp at h

def nextA (was k o n : Int) : Int × Bool :=
  if k = 2 then (n, true) else if k = 4 then (IntKind.i64.wrap (was + n), true) else if k = 3 then (if was = o then (n, true) else (was, false)) else (was, true)
def h76 : List AV → Option (Prop × AV)
  | [.int .i64 was, .agg [.int .i64 k, .int .i64 c, .int .i64 o, .int .i64 n, .str s]] => some (True, .tup [.int .i64 (nextA was k o n).1, .bool (nextA was k o n).2])
  | _ => none
theorem w76 : EnvOK Try.prog ⟨tys, [(76, .pure h76), (40, .pure h40), (39, .pure h39)]⟩ := by
  refine addPure w40 (fn := Try.f76) (by kernel_rfl) (by kernel_rfl) (by kernel_rfl) ?_
  intro args p r h hp
  unfold h76 at h
  split at h
  · rename_i was k c o n s
    simp only [Option.some.injEq, Prod.mk.injEq] at h
    obtain ⟨rfl, rfl⟩ := h
    conv => whnf
    repeat' (split <;> conv => whnf)
    all_goals refine ⟨_, rfl, ?_⟩
    all_goals refine Wk.eq ?_
    all_goals simp_all [nextA]
  · simp at h

end Go.Proofs.Ythakgbecpkfeoaa.Ev
