/- The row of LayoutInitStores: what its walk shows, put into the form of the statement. -/
import Derived.Test.YthakgbecpkfeoaaRows
import Derived.Test.YthakgbecpkfeoaaOa
import Derived.Test.YthakgbecpkfeoaaSg
import Derived.Test.YthakgbecpkfeoaaLl
namespace Go.Proofs.Ythakgbecpkfeoaa.layoutInitStores
open Go.ChangeShapes Go.WideShapes Go.ChangeAt Go.RowKit Ev
set_option linter.unusedVariables false
theorem own : ownKnob Try.prog.godebug = none := by kernel_rfl
theorem laidOut : laidOutB Try.prog = true := by kernel_rfl
set_option maxRecDepth 100000 in
theorem lifted (os : Os) (started : os.Started) (H : Type) (enc : TypeId × Value → H) :
    ReturnsInHanded {} Try.checked os 15 .any (Rows.layoutInitStoresSpec.pre6 enc Try.prog Try.f15 Rows.layoutInitStoresRow.domain false) (Rows.layoutInitStoresSpec.post enc Try.prog Try.f15 false true false false) := by
  refine returnsInHanded_of_change_sized (C := Try.checked) own started (by kernel_rfl) Try.func15
    (ChangeSpec.witness6 (enc := enc) (C := Try.checked) false ⟨#[], #[.agg #[.int .i64 0, .int .i64 0, .int .i64 0, .int .i64 0, .int .i64 0], .slice none 0 0], []⟩ 8 (by kernel_rfl) (by kernel_rfl) (by kernel_rfl) (by kernel_rfl)) ?_
  intro W base args ds gs before hval0 hW hcnd hsz0 _
  have hval : ∀ (j : Nat) t v, Try.f15.params[j]? = some t → args[j]? = some v → Value.okWide Try.prog W .any base t v := hval0
  have hW' := hW
  obtain ⟨p, q, hA0, hV, rfl, hfz, hnd⟩ := hW
  have hA : DataW.TrodAll enc Try.prog W 0 (fun _ => true) true Try.f15.params.toList args.toList ds p := hA0
  rw [Try.params15] at hA hval
  obtain ⟨v0, vs0, d0, ds0, p0, q0, hargs, rfl, rfl, h0, r0⟩ := trodAll_cons hA
  obtain ⟨v1, vs1, d1, ds1, p1, q1, rfl, rfl, rfl, h1, r1⟩ := trodAll_cons r0
  obtain ⟨rfl, rfl, rfl⟩ := trodAll_nil r1
  obtain rfl : args = #[v0, v1] := by cases args; simp_all
  obtain ⟨rfl, rfl⟩ := trodVars_none hV
  have lt0 : ∀ x ∈ p0, x.block < W.heap.size := by obtain ⟨m, hm⟩ := h0; exact DataW.trod_lt m _ _ _ hm
  obtain ⟨l0, f0, g0⟩ := open_many (n := 6) (ks := [.int .i64, .int .i64, .int .i64, .int .i64, .int .i64]) (by kernel_rfl) Try.underlying23 (hval 0 23 v0 rfl rfl) h0
  obtain ⟨_, _, rfl, ⟨x0_0, rfl, w0_0⟩, _, _, rfl, ⟨x0_1, rfl, w0_1⟩, _, _, rfl, ⟨x0_2, rfl, w0_2⟩, _, _, rfl, ⟨x0_3, rfl, w0_3⟩, _, _, rfl, ⟨x0_4, rfl, w0_4⟩, rfl⟩ := f0
  have lt1 : ∀ x ∈ p1, x.block < W.heap.size := by obtain ⟨m, hm⟩ := h1; exact DataW.trod_lt m _ _ _ hm
  obtain ⟨l1, f1, g1⟩ := open_one (n := 6) (k := .sl .i64) (by kernel_rfl) Try.underlying33 rfl (hval 1 33 v1 rfl rfl) h1
  obtain ⟨x1_0, rfl⟩ := f1
  refine ((w15.pure 15 h15 (List.mem_cons_self ..)).1 (fun b => b < W.heap.size) W [.agg [.int .i64 x0_0, .int .i64 x0_1, .int .i64 x0_2, .int .i64 x0_3, .int .i64 x0_4], .sl .i64 x1_0] [v0, v1] (True) (.bool true) (fun _ h => h) ⟨_, _, rfl, g0, ⟨_, _, rfl, g1, rfl⟩⟩ rfl trivial).mono fun e W' hh => ?_
  obtain ⟨v, he, hr, e1, e2, e3, e4, e5⟩ := hh
  simp only [RelV] at hr
  subst hr
  subst he
  have bel : Below W.heap.size W W' := ⟨e1, e2, e3, e4, e5⟩
  exact ⟨_, rfl, _, _, _, [], _, [], hW', trodAll_mk1 (shut_bool Try.underlying4 _), (trodAll_cons_mk (Below.trod laidOut (by kernel_rfl) (of_decide_eq_true (by kernel_rfl)) h0 bel lt0) (trodAll_cons_mk (Below.trod laidOut (by kernel_rfl) (of_decide_eq_true (by kernel_rfl)) h1 bel lt1) trodAll_mk0)), rfl, bel.frame _, fun h => by cases h⟩
set_option maxRecDepth 100000 in
theorem closed : joinedFacts Try.prog 15 Try.f15 Rows.layoutInitStoresSpec Rows.layoutInitStoresRow = true := by
  unfold joinedFacts
  rw [Head.enterIs, Head.liftsIs, Head.makeIs]
  kernel_rfl
theorem over : Rows.layoutInitStoresRow.holds Try.pinned (OpenSpec.ofChange Rows.layoutInitStoresSpec) :=
  OpenClaim.holds_of_wide 15 Try.f15 rfl rfl rfl rfl rfl rfl rfl ⟨rfl, rfl, rfl, rfl, rfl⟩ rfl rfl rfl rfl rfl (by kernel_rfl) Try.func15 closed
    (of_decide_eq_true (by kernel_rfl)) (by unfold Func.isWrapper; first | (rw [if_pos (by decide +kernel)]; kernel_rfl) | (rw [if_neg (by decide +kernel)]; exact ⟨rfl, rfl⟩))
    (fun os started H enc _ => lifted os started H enc)
theorem proved : Rows.LayoutInitStoresSaid := over
end Go.Proofs.Ythakgbecpkfeoaa.layoutInitStores
namespace Go.Proofs.Ythakgbecpkfeoaa
/-- The row, under a short name, for the claim. -/
theorem layoutInitStores_holds : Rows.LayoutInitStoresSaid := layoutInitStores.proved
#print axioms layoutInitStores_holds
end Go.Proofs.Ythakgbecpkfeoaa
