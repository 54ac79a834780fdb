/- The row of LockRead: what its walk shows, put into the form of the statement. -/
import Derived.Test.YthakgbecpkfeoaaRows
import Derived.Test.YthakgbecpkfeoaaX5
namespace Go.Proofs.Ythakgbecpkfeoaa.lockRead
open Go.ChangeShapes Go.WideShapes Go.ChangeAt Go.RowKit Ev
set_option linter.unusedVariables false
theorem own : ownKnob Try.prog.godebug = none := by kernel_rfl
theorem laidOut : laidOutB Try.prog = true := by kernel_rfl
set_option maxRecDepth 100000 in
theorem lifted (os : Os) (started : os.Started) (H : Type) (enc : TypeId × Value → H) :
    ReturnsInHanded {} Try.checked os 18 .any (Rows.lockReadSpec.pre6 enc Try.prog Try.f18 Rows.lockReadRow.domain false) (Rows.lockReadSpec.post enc Try.prog Try.f18 false true false false) := by
  refine returnsInHanded_of_change_sized (C := Try.checked) own started (by kernel_rfl) Try.func18
    (ChangeSpec.witness6 (enc := enc) (C := Try.checked) false ⟨#[], #[.agg #[.slice none 0 0, .slice none 0 0, .slice none 0 0, .slice none 0 0]], []⟩ 8 (by kernel_rfl) (by kernel_rfl) (by kernel_rfl) (by kernel_rfl)) ?_
  intro W base args ds gs before hval0 hW hcnd hsz0 _
  have hval : ∀ (j : Nat) t v, Try.f18.params[j]? = some t → args[j]? = some v → Value.okWide Try.prog W .any base t v := hval0
  have hW' := hW
  obtain ⟨p, q, hA0, hV, rfl, hfz, hnd⟩ := hW
  have hA : DataW.TrodAll enc Try.prog W 0 (fun _ => true) true Try.f18.params.toList args.toList ds p := hA0
  rw [Try.params18] at hA hval
  obtain ⟨v0, vs0, d0, ds0, p0, q0, hargs, rfl, rfl, h0, r0⟩ := trodAll_cons hA
  obtain ⟨rfl, rfl, rfl⟩ := trodAll_nil r0
  obtain rfl : args = #[v0] := by cases args; simp_all
  obtain ⟨rfl, rfl⟩ := trodVars_none hV
  have lt0 : ∀ x ∈ p0, x.block < W.heap.size := by obtain ⟨m, hm⟩ := h0; exact DataW.trod_lt m _ _ _ hm
  obtain ⟨l0, f0, g0⟩ := open_many (n := 6) (ks := [.sl .u8, .sl .u8, .sl .u8, .sl .u8]) (by kernel_rfl) Try.underlying92 (hval 0 92 v0 rfl rfl) h0
  obtain ⟨_, _, rfl, ⟨x0_0, rfl, w0_0⟩, _, _, rfl, ⟨x0_1, rfl, w0_1⟩, _, _, rfl, ⟨x0_2, rfl, w0_2⟩, _, _, rfl, ⟨x0_3, rfl, w0_3⟩, rfl⟩ := f0
  refine ((w18.pure 18 h18 (List.mem_cons_self ..)).1 (fun b => b < W.heap.size) W [.agg [.sl .u8 x0_0, .sl .u8 x0_1, .sl .u8 x0_2, .sl .u8 x0_3]] [v0] (∀ t ∈ x0_3, 0 ≤ t ∧ t < 256) (.bool true) (fun _ h => h) ⟨_, _, rfl, g0, rfl⟩ rfl (fun t ht => okE_u8 (w0_3 t ht))).mono fun e W' hh => ?_
  obtain ⟨v, he, hr, e1, e2, e3, e4, e5⟩ := hh
  simp only [RelV] at hr
  subst hr
  subst he
  have bel : Below W.heap.size W W' := ⟨e1, e2, e3, e4, e5⟩
  exact ⟨_, rfl, _, _, _, [], _, [], hW', trodAll_mk1 (shut_bool Try.underlying4 _), (trodAll_cons_mk (Below.trod laidOut (by kernel_rfl) (of_decide_eq_true (by kernel_rfl)) h0 bel lt0) trodAll_mk0), rfl, bel.frame _, fun h => by cases h⟩
set_option maxRecDepth 100000 in
theorem closed : joinedFacts Try.prog 18 Try.f18 Rows.lockReadSpec Rows.lockReadRow = true := by
  unfold joinedFacts
  rw [Head.enterIs, Head.liftsIs, Head.makeIs]
  kernel_rfl
theorem over : Rows.lockReadRow.holds Try.pinned (OpenSpec.ofChange Rows.lockReadSpec) :=
  OpenClaim.holds_of_wide 18 Try.f18 rfl rfl rfl rfl rfl rfl rfl ⟨rfl, rfl, rfl, rfl, rfl⟩ rfl rfl rfl rfl rfl (by kernel_rfl) Try.func18 closed
    (of_decide_eq_true (by kernel_rfl)) (by unfold Func.isWrapper; first | (rw [if_pos (by decide +kernel)]; kernel_rfl) | (rw [if_neg (by decide +kernel)]; exact ⟨rfl, rfl⟩))
    (fun os started H enc _ => lifted os started H enc)
theorem proved : Rows.LockReadSaid := over
end Go.Proofs.Ythakgbecpkfeoaa.lockRead
namespace Go.Proofs.Ythakgbecpkfeoaa
/-- The row, under a short name, for the claim. -/
theorem lockRead_holds : Rows.LockReadSaid := lockRead.proved
#print axioms lockRead_holds
end Go.Proofs.Ythakgbecpkfeoaa
