/- The program's tables: its types, as the evaluator reads them; what holds of the program at large. -/
import Derived.Test.YthakgbecpkfeoaaEvU
set_option maxRecDepth 100000
namespace Go.Proofs.Ythakgbecpkfeoaa.Ev

def ti3 : TI := { agg := false, size := 1, zero := [.int .i64 (0)], fields := [], elem := none, arr := none, ik := some .i64, eqk := [] }
def ti4 : TI := { agg := false, size := 1, zero := [.bool false], fields := [], elem := none, arr := none, ik := none, eqk := [] }
def ti33 : TI := { agg := false, size := 1, zero := [.slice none 0 0], fields := [], elem := some .i64, arr := none, ik := none, eqk := [] }
def ti26 : TI := { agg := true, size := 13, zero := [.int .i64 (0), .int .i64 (0), .int .i64 (0), .int .i64 (0), .int .i64 (0), .int .i64 (0), .int .i64 (0), .int .i64 (0), .int .i64 (0), .int .i64 (0), .int .i64 (0), .int .i64 (0), .int .i64 (0)], fields := [(0, 5, true), (5, 1, false), (6, 1, false), (7, 1, false), (8, 1, false), (9, 1, false), (10, 1, false), (11, 1, false), (12, 1, false)], elem := none, arr := none, ik := none, eqk := [.int .i64, .int .i64, .int .i64, .int .i64, .int .i64, .int .i64, .int .i64, .int .i64, .int .i64, .int .i64, .int .i64, .int .i64, .int .i64] }
def ti23 : TI := { agg := true, size := 5, zero := [.int .i64 (0), .int .i64 (0), .int .i64 (0), .int .i64 (0), .int .i64 (0)], fields := [(0, 1, false), (1, 1, false), (2, 1, false), (3, 1, false), (4, 1, false)], elem := none, arr := none, ik := none, eqk := [.int .i64, .int .i64, .int .i64, .int .i64, .int .i64] }
def ti36 : TI := { agg := true, size := 7, zero := [.slice none 0 0, .slice none 0 0, .slice none 0 0, .slice none 0 0, .slice none 0 0, .slice none 0 0, .int .i64 (0)], fields := [(0, 1, false), (1, 1, false), (2, 1, false), (3, 1, false), (4, 1, false), (5, 1, false), (6, 1, false)], elem := none, arr := none, ik := none, eqk := [] }
def ti49 : TI := { agg := true, size := 1, zero := [.slice none 0 0], fields := [(0, 1, false)], elem := none, arr := none, ik := none, eqk := [] }
def ti51 : TI := { agg := true, size := 5, zero := [.int .i64 (0), .int .i64 (0), .int .i64 (0), .int .i64 (0), .string ⟨#[]⟩], fields := [(0, 1, false), (1, 1, false), (2, 1, false), (3, 1, false), (4, 1, false)], elem := none, arr := none, ik := none, eqk := [.int .i64, .int .i64, .int .i64, .int .i64, .str] }
def ti53 : TI := { agg := true, size := 2, zero := [.int .i64 (0), .bool false], fields := [(0, 1, false), (1, 1, false)], elem := none, arr := none, ik := none, eqk := [.int .i64, .bool] }
def ti44 : TI := { agg := false, size := 1, zero := [.slice none 0 0], fields := [], elem := some .acc, arr := none, ik := none, eqk := [] }
def ti59 : TI := { agg := false, size := 1, zero := [.slice none 0 0], fields := [], elem := some .res, arr := none, ik := none, eqk := [] }
def ti27 : TI := { agg := false, size := 1, zero := [.int .i64 (0)], fields := [], elem := none, arr := none, ik := some .i64, eqk := [] }
def ti5 : TI := { agg := false, size := 1, zero := [.int .u8 (0)], fields := [], elem := none, arr := none, ik := some .u8, eqk := [] }
def ti9 : TI := { agg := false, size := 1, zero := [.string ⟨#[]⟩], fields := [], elem := none, arr := none, ik := none, eqk := [] }
def ti66 : TI := { agg := false, size := 1, zero := [.int .u32 (0)], fields := [], elem := none, arr := none, ik := some .u32, eqk := [] }
def ti71 : TI := { agg := true, size := 7, zero := [.int .i64 (0), .int .i64 (0), .int .i64 (0), .int .i64 (0), .bool false, .bool false, .int .i64 (0)], fields := [(0, 1, false), (1, 1, false), (2, 1, false), (3, 1, false), (4, 1, false), (5, 1, false), (6, 1, false)], elem := none, arr := none, ik := none, eqk := [.int .i64, .int .i64, .int .i64, .int .i64, .bool, .bool, .int .i64] }
def ti75 : TI := { agg := true, size := 3, zero := [.int .i64 (0), .int .i64 (0), .int .i64 (0)], fields := [(0, 1, false), (1, 1, false), (2, 1, false)], elem := none, arr := none, ik := none, eqk := [] }
def ti76 : TI := { agg := false, size := 1, zero := [.slice none 0 0], fields := [], elem := some .i3, arr := none, ik := none, eqk := [] }
def ti77 : TI := { agg := false, size := 1, zero := [.slice none 0 0], fields := [], elem := some .i2, arr := none, ik := none, eqk := [] }
def ti79 : TI := { agg := true, size := 10, zero := [.int .i64 (0), .int .i64 (0), .int .i64 (0), .int .i64 (0), .int .i64 (0), .int .i64 (0), .int .i64 (0), .slice none 0 0, .slice none 0 0, .slice none 0 0], fields := [(0, 1, false), (1, 1, false), (2, 1, false), (3, 1, false), (4, 3, true), (7, 1, false), (8, 1, false), (9, 1, false)], elem := none, arr := none, ik := none, eqk := [] }
def ti89 : TI := { agg := false, size := 1, zero := [.slice none 0 0], fields := [], elem := some .u8, arr := none, ik := none, eqk := [] }
def ti34 : TI := { agg := false, size := 1, zero := [.slice none 0 0], fields := [], elem := some .bl, arr := none, ik := none, eqk := [] }
def ti90 : TI := { agg := true, size := 3, zero := [.slice none 0 0, .slice none 0 0, .slice none 0 0], fields := [], elem := none, arr := some (3, 1, false), ik := none, eqk := [] }
def ti92 : TI := { agg := true, size := 4, zero := [.slice none 0 0, .slice none 0 0, .slice none 0 0, .slice none 0 0], fields := [(0, 3, true), (3, 1, false)], elem := none, arr := none, ik := none, eqk := [] }
def ti97 : TI := { agg := true, size := 4, zero := [.int .i64 (0), .int .i64 (0), .slice none 0 0, .int .i64 (0)], fields := [(0, 1, false), (1, 1, false), (2, 1, false), (3, 1, false)], elem := none, arr := none, ik := none, eqk := [] }
def ti100 : TI := { agg := true, size := 16, zero := [.slice none 0 0, .int .i64 (0), .int .i64 (0), .slice none 0 0, .int .i64 (0), .int .i64 (0), .int .i64 (0), .slice none 0 0, .int .i64 (0), .int .i64 (0), .int .i64 (0), .slice none 0 0, .int .i64 (0), .int .i64 (0), .slice none 0 0, .bool false], fields := [(0, 1, true), (1, 12, true), (13, 1, false), (14, 1, false), (15, 1, false)], elem := none, arr := none, ik := none, eqk := [] }
def ti102 : TI := { agg := true, size := 3, zero := [.int .i64 (0), .int .i64 (0), .int .i64 (0)], fields := [], elem := none, arr := some (3, 1, false), ik := none, eqk := [] }
def ti109 : TI := { agg := false, size := 1, zero := [.int .u64 (0)], fields := [], elem := none, arr := none, ik := some .u64, eqk := [] }
def ti12 : TI := { agg := false, size := 1, zero := [.int .u64 (0)], fields := [], elem := none, arr := none, ik := some .u64, eqk := [] }
def ti136 : TI := { agg := true, size := 5, zero := [.int .i64 (0), .int .i64 (0), .int .i64 (0), .int .i64 (0), .string ⟨#[]⟩], fields := [(0, 5, true)], elem := none, arr := none, ik := none, eqk := [] }
def ti138 : TI := { agg := true, size := 1, zero := [.int .i64 (0)], fields := [(0, 1, false)], elem := none, arr := none, ik := none, eqk := [] }
def ti160 : TI := { agg := true, size := 3, zero := [.int .i64 (0), .int .i64 (0), .int .i64 (0)], fields := [(0, 1, false), (1, 1, false), (2, 1, false)], elem := none, arr := none, ik := none, eqk := [] }
def ti162 : TI := { agg := true, size := 2, zero := [.int .i64 (0), .int .i64 (0)], fields := [(0, 1, false), (1, 1, false)], elem := none, arr := none, ik := none, eqk := [] }
def tys : List (Nat × TI) := [(3, ti3), (4, ti4), (33, ti33), (26, ti26), (23, ti23), (36, ti36), (49, ti49), (51, ti51), (53, ti53), (44, ti44), (59, ti59), (27, ti27), (5, ti5), (9, ti9), (66, ti66), (71, ti71), (75, ti75), (76, ti76), (77, ti77), (79, ti79), (89, ti89), (34, ti34), (90, ti90), (92, ti92), (97, ti97), (100, ti100), (102, ti102), (109, ti109), (12, ti12), (136, ti136), (138, ti138), (160, ti160), (162, ti162)]

theorem tys_ok : AllTy Try.prog tys := ⟨by kernel_rfl, by kernel_rfl, by kernel_rfl, by kernel_rfl, by kernel_rfl, by kernel_rfl, by kernel_rfl, by kernel_rfl, by kernel_rfl, by kernel_rfl, by kernel_rfl, by kernel_rfl, by kernel_rfl, by kernel_rfl, by kernel_rfl, by kernel_rfl, by kernel_rfl, by kernel_rfl, by kernel_rfl, by kernel_rfl, by kernel_rfl, by kernel_rfl, by kernel_rfl, by kernel_rfl, by kernel_rfl, by kernel_rfl, by kernel_rfl, by kernel_rfl, by kernel_rfl, by kernel_rfl, by kernel_rfl, by kernel_rfl, by kernel_rfl, trivial⟩
theorem tys_eq : AllEq Try.prog tys := ⟨.inl rfl, .inl rfl, .inl rfl, .inr (EqOK.of (n := 5) (by kernel_rfl) (by omega) (by kernel_rfl) (by kernel_rfl)), .inr (EqOK.of (n := 5) (by kernel_rfl) (by omega) (by kernel_rfl) (by kernel_rfl)), .inl rfl, .inl rfl, .inr (EqOK.of (n := 5) (by kernel_rfl) (by omega) (by kernel_rfl) (by kernel_rfl)), .inr (EqOK.of (n := 5) (by kernel_rfl) (by omega) (by kernel_rfl) (by kernel_rfl)), .inl rfl, .inl rfl, .inl rfl, .inl rfl, .inl rfl, .inl rfl, .inr (EqOK.of (n := 5) (by kernel_rfl) (by omega) (by kernel_rfl) (by kernel_rfl)), .inl rfl, .inl rfl, .inl rfl, .inl rfl, .inl rfl, .inl rfl, .inl rfl, .inl rfl, .inl rfl, .inl rfl, .inl rfl, .inl rfl, .inl rfl, .inl rfl, .inl rfl, .inl rfl, .inl rfl, trivial⟩

theorem mixes : Try.prog.follows .mixedOrders = true := by kernel_rfl
theorem info3 : (Try.prog.info? 3).map (fun i => (i.zero, i.size, i.bytes)) = some (some (.int .i64 0), 1, 8) := by kernel_rfl
theorem env0 : EnvOK Try.prog ⟨tys, []⟩ := by
  refine ⟨tys_ok.get, tys_eq.get, fun f h hm => by simp at hm, fun f s hm => by simp at hm, ?_, by kernel_rfl, by kernel_rfl⟩
  have h := info3
  obtain ⟨i, h1, h2⟩ := Option.map_eq_some_iff.1 h
  simp only [Prod.mk.injEq] at h2
  exact ⟨i, h1, h2.1, h2.2.1, h2.2.2⟩

theorem enter_of {P : Program} {f : Nat} {fn : Func} {c : Code} (hf : P.funcs[f]? = some fn) (hname : (fn.name == "runtime.NumGoroutine") = false) (hb : fn.body = some c) :
    ∀ (w : World) (args : Array Value), (callFunc f args).run P w = .ok (.enter f args) w := by
  intro w args
  have h1 : fn.name ≠ "runtime.NumGoroutine" := by simpa using hname
  simp [callFunc, hf, h1, hb]

noncomputable def bodyOK (fn : Func) : Bool := match fn.body with
  | some c => moreB Try.prog c
  | none => false
theorem bodyOK_of {fn : Func} (h : bodyOK fn = true) : ∃ c, fn.body = some c ∧ moreB Try.prog c = true := by
  unfold bodyOK at h
  split at h
  · rename_i c hc; exact ⟨c, hc, h⟩
  · simp at h

/-- One function more that only computes. -/
theorem addPure {sp : List (Nat × Spec)} {f : Nat} {fn : Func} {h : List AV → Option (Prop × AV)} (hE : EnvOK Try.prog ⟨tys, sp⟩) (hf : Try.prog.funcs[f]? = some fn) (hname : (fn.name == "runtime.NumGoroutine") = false)
    (hm : bodyOK fn = true) (H : ∀ args p r, h args = some (p, r) → p → evFn ⟨tys, sp⟩ fn args [] fun out _ => ∃ v, out = .ret v ∧ Wk v r) : EnvOK Try.prog ⟨tys, (f, .pure h) :: sp⟩ := by
  obtain ⟨c, hb, hm⟩ := bodyOK_of hm
  have hs := evFn_pure hE mixes hf hb hm H
  refine ⟨hE.ty, hE.eq, fun g k hk => ?_, fun g s hk => ?_, hE.z3, hE.u3, hE.u4⟩
  · rcases List.mem_cons.1 hk with h1 | h1
    · simp only [Prod.mk.injEq, Spec.pure.injEq] at h1
      obtain ⟨rfl, rfl⟩ := h1
      exact ⟨hs, enter_of hf hname hb⟩
    · exact hE.pure g k h1
  · rcases List.mem_cons.1 hk with h1 | h1
    · simp at h1
    · exact hE.full g s h1

/-- One function more that is handed boxes, or panics. -/
theorem addFull {sp : List (Nat × Spec)} {f : Nat} {fn : Func} {s : List AV → List (List AV) → Option (Prop × Out × List (List AV))} (hE : EnvOK Try.prog ⟨tys, sp⟩) (hf : Try.prog.funcs[f]? = some fn) (hname : (fn.name == "runtime.NumGoroutine") = false)
    (hm : bodyOK fn = true) (H : ∀ args bs Q, detS s args bs Q → evFn ⟨tys, sp⟩ fn args bs Q) : EnvOK Try.prog ⟨tys, (f, .full s) :: sp⟩ := by
  obtain ⟨c, hb, hm⟩ := bodyOK_of hm
  have hs := evFn_full hE mixes hf hb hm H
  refine ⟨hE.ty, hE.eq, fun g k hk => ?_, fun g t hk => ?_, hE.z3, hE.u3, hE.u4⟩
  · rcases List.mem_cons.1 hk with h1 | h1
    · simp at h1
    · exact hE.pure g k h1
  · rcases List.mem_cons.1 hk with h1 | h1
    · simp only [Prod.mk.injEq, Spec.full.injEq] at h1
      obtain ⟨rfl, rfl⟩ := h1
      exact ⟨hs, enter_of hf hname hb⟩
    · exact hE.full g t h1

end Go.Proofs.Ythakgbecpkfeoaa.Ev
