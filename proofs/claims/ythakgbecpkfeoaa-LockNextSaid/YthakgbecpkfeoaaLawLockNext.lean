/- The row of LockNext: what its walk shows, put into the form of the statement. -/
import Derived.Test.YthakgbecpkfeoaaRows
import Derived.Test.YthakgbecpkfeoaaX4
namespace Go.Proofs.Ythakgbecpkfeoaa.lockNext
open Go.ChangeShapes Go.WideShapes Go.ChangeAt Go.RowKit Ev
set_option linter.unusedVariables false
theorem own : ownKnob Try.prog.godebug = none := by kernel_rfl
theorem laidOut : laidOutB Try.prog = true := by kernel_rfl
set_option maxRecDepth 100000 in
theorem lifted (os : Os) (started : os.Started) (H : Type) (enc : TypeId × Value → H) :
    ReturnsInHanded {} Try.checked os 16 .any (Rows.lockNextSpec.pre6 enc Try.prog Try.f16 Rows.lockNextRow.domain false) (Rows.lockNextSpec.post enc Try.prog Try.f16 false true false false) := by
  refine returnsInHanded_of_change_sized (C := Try.checked) own started (by kernel_rfl) Try.func16
    (ChangeSpec.witness6 (enc := enc) (C := Try.checked) false ⟨#[], #[.int .u8 0, .agg #[.int .i64 0, .int .i64 0, .int .i64 0, .int .i64 0, .int .i64 0, .int .i64 0, .int .i64 0, .slice none 0 0, .slice none 0 0, .slice none 0 0], .slice none 0 0], []⟩ 8 (by kernel_rfl) (by kernel_rfl) (by kernel_rfl) (by kernel_rfl)) ?_
  intro W base args ds gs before hval0 hW hcnd hsz0 _
  have hval : ∀ (j : Nat) t v, Try.f16.params[j]? = some t → args[j]? = some v → Value.okWide Try.prog W .any base t v := hval0
  have hW' := hW
  obtain ⟨p, q, hA0, hV, rfl, hfz, hnd⟩ := hW
  have hA : DataW.TrodAll enc Try.prog W 0 (fun _ => true) true Try.f16.params.toList args.toList ds p := hA0
  rw [Try.params16] at hA hval
  obtain ⟨v0, vs0, d0, ds0, p0, q0, hargs, rfl, rfl, h0, r0⟩ := trodAll_cons hA
  obtain ⟨v1, vs1, d1, ds1, p1, q1, rfl, rfl, rfl, h1, r1⟩ := trodAll_cons r0
  obtain ⟨v2, vs2, d2, ds2, p2, q2, rfl, rfl, rfl, h2, r2⟩ := trodAll_cons r1
  obtain ⟨rfl, rfl, rfl⟩ := trodAll_nil r2
  obtain rfl : args = #[v0, v1, v2] := by cases args; simp_all
  obtain ⟨rfl, rfl⟩ := trodVars_none hV
  have lt0 : ∀ x ∈ p0, x.block < W.heap.size := by obtain ⟨m, hm⟩ := h0; exact DataW.trod_lt m _ _ _ hm
  obtain ⟨l0, f0, g0⟩ := open_one (n := 6) (k := .int .u8) (by kernel_rfl) Try.underlying5 rfl (hval 0 5 v0 rfl rfl) h0
  obtain ⟨x0_0, rfl, w0_0⟩ := f0
  have lt1 : ∀ x ∈ p1, x.block < W.heap.size := by obtain ⟨m, hm⟩ := h1; exact DataW.trod_lt m _ _ _ hm
  obtain ⟨l1, f1, g1⟩ := open_many (n := 6) (ks := [.int .i64, .int .i64, .int .i64, .int .i64, .int .i64, .int .i64, .int .i64, .sl .i3, .sl .i2, .sl .bl]) (by kernel_rfl) Try.underlying79 (hval 1 79 v1 rfl rfl) h1
  obtain ⟨_, _, rfl, ⟨x1_0, rfl, w1_0⟩, _, _, rfl, ⟨x1_1, rfl, w1_1⟩, _, _, rfl, ⟨x1_2, rfl, w1_2⟩, _, _, rfl, ⟨x1_3, rfl, w1_3⟩, _, _, rfl, ⟨x1_4, rfl, w1_4⟩, _, _, rfl, ⟨x1_5, rfl, w1_5⟩, _, _, rfl, ⟨x1_6, rfl, w1_6⟩, _, _, rfl, ⟨x1_7, rfl, w1_7⟩, _, _, rfl, ⟨x1_8, rfl, w1_8⟩, _, _, rfl, ⟨x1_9, rfl, w1_9⟩, rfl⟩ := f1
  have lt2 : ∀ x ∈ p2, x.block < W.heap.size := by obtain ⟨m, hm⟩ := h2; exact DataW.trod_lt m _ _ _ hm
  obtain ⟨l2, f2, g2⟩ := open_one (n := 6) (k := .sl .res) (by kernel_rfl) Try.underlying59 rfl (hval 2 59 v2 rfl rfl) h2
  obtain ⟨x2_0, rfl, w2_0⟩ := f2
  refine ((w16.pure 16 h16 (List.mem_cons_self ..)).1 (fun b => b < W.heap.size) W [.int .u8 x0_0, .agg [.int .i64 x1_0, .int .i64 x1_1, .int .i64 x1_2, .int .i64 x1_3, .int .i64 x1_4, .int .i64 x1_5, .int .i64 x1_6, .sl .i3 x1_7, .sl .i2 x1_8, .sl .bl x1_9], .sl .res x2_0] [v0, v1, v2] ((0 ≤ x0_0 ∧ x0_0 < 256) ∧ ∀ r ∈ x2_0, inR r.val) (.bool true) (fun _ h => h) ⟨_, _, rfl, g0, ⟨_, _, rfl, g1, ⟨_, _, rfl, g2, rfl⟩⟩⟩ rfl ⟨wf_u8 w0_0, fun r hr => okE_res (w2_0 r hr)⟩).mono fun e W' hh => ?_
  obtain ⟨v, he, hr, e1, e2, e3, e4, e5⟩ := hh
  simp only [RelV] at hr
  subst hr
  subst he
  have bel : Below W.heap.size W W' := ⟨e1, e2, e3, e4, e5⟩
  exact ⟨_, rfl, _, _, _, [], _, [], hW', trodAll_mk1 (shut_bool Try.underlying4 _), (trodAll_cons_mk (Below.trod laidOut (by kernel_rfl) (of_decide_eq_true (by kernel_rfl)) h0 bel lt0) (trodAll_cons_mk (Below.trod laidOut (by kernel_rfl) (of_decide_eq_true (by kernel_rfl)) h1 bel lt1) (trodAll_cons_mk (Below.trod laidOut (by kernel_rfl) (of_decide_eq_true (by kernel_rfl)) h2 bel lt2) trodAll_mk0))), rfl, bel.frame _, fun h => by cases h⟩
set_option maxRecDepth 100000 in
theorem closed : joinedFacts Try.prog 16 Try.f16 Rows.lockNextSpec Rows.lockNextRow = true := by
  unfold joinedFacts
  rw [Head.enterIs, Head.liftsIs, Head.makeIs]
  kernel_rfl
theorem over : Rows.lockNextRow.holds Try.pinned (OpenSpec.ofChange Rows.lockNextSpec) :=
  OpenClaim.holds_of_wide 16 Try.f16 rfl rfl rfl rfl rfl rfl rfl ⟨rfl, rfl, rfl, rfl, rfl⟩ rfl rfl rfl rfl rfl (by kernel_rfl) Try.func16 closed
    (of_decide_eq_true (by kernel_rfl)) (by unfold Func.isWrapper; first | (rw [if_pos (by decide +kernel)]; kernel_rfl) | (rw [if_neg (by decide +kernel)]; exact ⟨rfl, rfl⟩))
    (fun os started H enc _ => lifted os started H enc)
theorem proved : Rows.LockNextSaid := over
end Go.Proofs.Ythakgbecpkfeoaa.lockNext
namespace Go.Proofs.Ythakgbecpkfeoaa
/-- The row, under a short name, for the claim. -/
theorem lockNext_holds : Rows.LockNextSaid := lockNext.proved
#print axioms lockNext_holds
end Go.Proofs.Ythakgbecpkfeoaa
