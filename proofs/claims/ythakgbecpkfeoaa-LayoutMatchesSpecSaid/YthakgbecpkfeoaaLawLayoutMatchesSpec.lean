/- The row of LayoutMatchesSpec: what its walk shows, put into the form of the statement. -/
import Derived.Test.YthakgbecpkfeoaaRows
import Derived.Test.YthakgbecpkfeoaaOa
import Derived.Test.YthakgbecpkfeoaaSg
import Derived.Test.YthakgbecpkfeoaaLm
namespace Go.Proofs.Ythakgbecpkfeoaa.layoutMatchesSpec
open Go.ChangeShapes Go.WideShapes Go.ChangeAt Go.RowKit Ev
set_option linter.unusedVariables false
theorem own : ownKnob Try.prog.godebug = none := by kernel_rfl
theorem laidOut : laidOutB Try.prog = true := by kernel_rfl
set_option maxRecDepth 100000 in
theorem lifted (os : Os) (started : os.Started) (H : Type) (enc : TypeId × Value → H) :
    ReturnsInHanded {} Try.checked os 5 .any (Rows.layoutMatchesSpecSpec.pre6 enc Try.prog Try.f5 Rows.layoutMatchesSpecRow.domain false) (Rows.layoutMatchesSpecSpec.post enc Try.prog Try.f5 false true false false) := by
  refine returnsInHanded_of_change_sized (C := Try.checked) own started (by kernel_rfl) Try.func5
    (ChangeSpec.witness6 (enc := enc) (C := Try.checked) false ⟨#[], #[.agg #[.int .i64 0, .int .i64 0, .int .i64 0, .int .i64 0, .int .i64 0], .int .i64 0, .slice none 0 0], []⟩ 8 (by kernel_rfl) (by kernel_rfl) (by kernel_rfl) (by kernel_rfl)) ?_
  intro W base args ds gs before hval0 hW hcnd hsz0 _
  have hval : ∀ (j : Nat) t v, Try.f5.params[j]? = some t → args[j]? = some v → Value.okWide Try.prog W .any base t v := hval0
  have hW' := hW
  obtain ⟨p, q, hA0, hV, rfl, hfz, hnd⟩ := hW
  have hA : DataW.TrodAll enc Try.prog W 0 (fun _ => true) true Try.f5.params.toList args.toList ds p := hA0
  rw [Try.params5] at hA hval
  obtain ⟨v0, vs0, d0, ds0, p0, q0, hargs, rfl, rfl, h0, r0⟩ := trodAll_cons hA
  obtain ⟨v1, vs1, d1, ds1, p1, q1, rfl, rfl, rfl, h1, r1⟩ := trodAll_cons r0
  obtain ⟨v2, vs2, d2, ds2, p2, q2, rfl, rfl, rfl, h2, r2⟩ := trodAll_cons r1
  obtain ⟨rfl, rfl, rfl⟩ := trodAll_nil r2
  obtain rfl : args = #[v0, v1, v2] := by cases args; simp_all
  obtain ⟨rfl, rfl⟩ := trodVars_none hV
  have lt0 : ∀ x ∈ p0, x.block < W.heap.size := by obtain ⟨m, hm⟩ := h0; exact DataW.trod_lt m _ _ _ hm
  obtain ⟨l0, f0, g0⟩ := open_many (n := 6) (ks := [.int .i64, .int .i64, .int .i64, .int .i64, .int .i64]) (by kernel_rfl) Try.underlying23 (hval 0 23 v0 rfl rfl) h0
  obtain ⟨_, _, rfl, ⟨x0_0, rfl, w0_0⟩, _, _, rfl, ⟨x0_1, rfl, w0_1⟩, _, _, rfl, ⟨x0_2, rfl, w0_2⟩, _, _, rfl, ⟨x0_3, rfl, w0_3⟩, _, _, rfl, ⟨x0_4, rfl, w0_4⟩, rfl⟩ := f0
  have lt1 : ∀ x ∈ p1, x.block < W.heap.size := by obtain ⟨m, hm⟩ := h1; exact DataW.trod_lt m _ _ _ hm
  obtain ⟨l1, f1, g1⟩ := open_one (n := 6) (k := .int .i64) (by kernel_rfl) Try.underlying3 rfl (hval 1 3 v1 rfl rfl) h1
  obtain ⟨x1_0, rfl, w1_0⟩ := f1
  have lt2 : ∀ x ∈ p2, x.block < W.heap.size := by obtain ⟨m, hm⟩ := h2; exact DataW.trod_lt m _ _ _ hm
  obtain ⟨l2, f2, g2⟩ := open_one (n := 6) (k := .sl .i64) (by kernel_rfl) Try.underlying33 rfl (hval 2 33 v2 rfl rfl) h2
  obtain ⟨x2_0, rfl⟩ := f2
  refine ((w5.pure 5 h5 (List.mem_cons_self ..)).1 (fun b => b < W.heap.size) W [.agg [.int .i64 x0_0, .int .i64 x0_1, .int .i64 x0_2, .int .i64 x0_3, .int .i64 x0_4], .int .i64 x1_0, .sl .i64 x2_0] [v0, v1, v2] (True) (.bool true) (fun _ h => h) ⟨_, _, rfl, g0, ⟨_, _, rfl, g1, ⟨_, _, rfl, g2, rfl⟩⟩⟩ rfl trivial).mono fun e W' hh => ?_
  obtain ⟨v, he, hr, e1, e2, e3, e4, e5⟩ := hh
  simp only [RelV] at hr
  subst hr
  subst he
  have bel : Below W.heap.size W W' := ⟨e1, e2, e3, e4, e5⟩
  exact ⟨_, rfl, _, _, _, [], _, [], hW', trodAll_mk1 (shut_bool Try.underlying4 _), (trodAll_cons_mk (Below.trod laidOut (by kernel_rfl) (of_decide_eq_true (by kernel_rfl)) h0 bel lt0) (trodAll_cons_mk (Below.trod laidOut (by kernel_rfl) (of_decide_eq_true (by kernel_rfl)) h1 bel lt1) (trodAll_cons_mk (Below.trod laidOut (by kernel_rfl) (of_decide_eq_true (by kernel_rfl)) h2 bel lt2) trodAll_mk0))), rfl, bel.frame _, fun h => by cases h⟩
set_option maxRecDepth 100000 in
theorem closed : joinedFacts Try.prog 5 Try.f5 Rows.layoutMatchesSpecSpec Rows.layoutMatchesSpecRow = true := by
  unfold joinedFacts
  rw [Head.enterIs, Head.liftsIs, Head.makeIs]
  kernel_rfl
theorem over : Rows.layoutMatchesSpecRow.holds Try.pinned (OpenSpec.ofChange Rows.layoutMatchesSpecSpec) :=
  OpenClaim.holds_of_wide 5 Try.f5 rfl rfl rfl rfl rfl rfl rfl ⟨rfl, rfl, rfl, rfl, rfl⟩ rfl rfl rfl rfl rfl (by kernel_rfl) Try.func5 closed
    (of_decide_eq_true (by kernel_rfl)) (by unfold Func.isWrapper; first | (rw [if_pos (by decide +kernel)]; kernel_rfl) | (rw [if_neg (by decide +kernel)]; exact ⟨rfl, rfl⟩))
    (fun os started H enc _ => lifted os started H enc)
theorem proved : Rows.LayoutMatchesSpecSaid := over
end Go.Proofs.Ythakgbecpkfeoaa.layoutMatchesSpec
namespace Go.Proofs.Ythakgbecpkfeoaa
/-- The row, under a short name, for the claim. -/
theorem layoutMatchesSpec_holds : Rows.LayoutMatchesSpecSaid := layoutMatchesSpec.proved
#print axioms layoutMatchesSpec_holds
end Go.Proofs.Ythakgbecpkfeoaa
