/- What the tables of types say of the program; the operations that change no object are told rightly. -/
import Derived.Test.YthakgbecpkfeoaaEvC
import Derived.Laws.StructEq
import Derived.Laws.MakeOwn
import Derived.Laws.Slices
import Derived.Laws.Entries
import Derived.Laws.Cells
set_option linter.unusedVariables false
set_option linter.unusedSimpArgs false
namespace Go.Proofs.Ythakgbecpkfeoaa.Ev

def aggD : TypeDesc → Bool
  | .struct _ => true
  | .array _ _ => true
  | _ => false
def etOf : Nat → Option ET
  | 3 => some .i64
  | 5 => some .u8
  | 4 => some .bl
  | 51 => some .acc
  | 53 => some .res
  | 160 => some .i3
  | 162 => some .i2
  | _ => none

def sizeP (P : Program) (t : Nat) : Nat := ((P.info? t).map (·.size)).getD 0
def fieldP (P : Program) (f : Field) : Nat × Nat × Bool := (f.offset, sizeP P f.type, ((P.underlying f.type).map aggD).getD false)
def elemP (P : Program) (e : Nat) : Option ET :=
  match etOf e, P.info? e with
  | some τ, some i => match i.zero with
    | some z => if i.size = τ.size ∧ i.bytes = τ.bytes ∧ z.cells.size = τ.size ∧ e = τ.tid then some τ else none
    | none => none
  | _, _ => none
/-- A type's row, out of the program. -/
def tiOf (P : Program) (T : Nat) : Option TI :=
  match P.info? T, P.underlying T with
  | some i, some d => match i.zero with
    | some z => some {
        agg := aggD d, size := i.size, zero := z.cells.toList,
        fields := match d with | .struct fs => if fs.toList.all (fun f => decide (0 < sizeP P f.type) && (P.info? f.type).isSome && (P.underlying f.type).isSome) then fs.toList.map (fieldP P) else [] | _ => [],
        elem := match d with | .slice e => elemP P e | _ => none,
        arr := match d with | .array n e => if (P.info? e).isSome then some (n, sizeP P e, false) else none | _ => none,
        ik := match d with | .int κ => some κ | _ => none,
        eqk := [] }
    | none => none
  | _, _ => none

def CKm : CK → CV → Bool
  | .int κ, .int κ' _ => kindEq κ κ'
  | .bool, .bool _ => true
  | .str, .str _ => true
  | _, _ => false
def CKms : List CK → List CV → Bool
  | [], [] => true
  | k :: ks, c :: cs => CKm k c && CKms ks cs
  | _, _ => false
def eqCV : CV → CV → Bool
  | .int _ a, .int _ b => a == b
  | .bool a, .bool b => a == b
  | .str a, .str b => a.toList == b.toList
  | _, _ => false
def eqCVs : List CV → List CV → Bool
  | [], [] => true
  | c :: cs, d :: ds => eqCV c d && eqCVs cs ds
  | _, _ => false

/-- '==' of two values of struct type T goes cell by cell. -/
def EqOK (P : Program) (T : Nat) (ks : List CK) : Prop :=
  ∀ (l m : List CV) (w : World), CKms ks l = true → CKms ks m = true →
    (Op.equal T (.agg (l.map CV.v).toArray) (.agg (m.map CV.v).toArray)).run P w = .ok (eqCVs l m) w ∧ P.eqGuardType P.depth T = false

def SpecPure (P : Program) (f : Nat) (h : List AV → Option (Prop × AV)) : Prop :=
  ∀ (S : Nat → Prop) (w : World) (args : List AV) (vals : List Value) (p : Prop) (r : AV), (∀ b, S b → b < w.heap.size) → RelVs (fun _ => none) S w args vals →
    h args = some (p, r) → p → Calls P f vals.toArray w fun (e : Ending) (w' : World) => ∃ v, e = .returned v ∧ RelV (fun _ => none) (fun b => b < w'.heap.size ∧ (S b ∨ w.heap.size ≤ b)) w' r v ∧
      w'.os = w.os ∧ w'.tape = w.tape ∧ w'.output = w.output ∧ w.heap.size ≤ w'.heap.size ∧ ∀ b, b < w.heap.size → w'.heap[b]? = w.heap[b]?

def extβ (gs : List Nat) (o : Nat) : Option Value := if 1000 ≤ o then (gs[o - 1000]?).map fun g => .pointer (some ⟨g, 0, none⟩) else none

def SpecFull (P : Program) (f : Nat) (s : List AV → List (List AV) → (Out → List (List AV) → Prop) → Prop) : Prop :=
  ∀ (S : Nat → Prop) (w : World) (args : List AV) (vals : List Value) (bs : List (List AV)) (gs : List Nat) (Q : Out → List (List AV) → Prop), (∀ b, S b → b < w.heap.size) →
    gs.length = bs.length → gs.Nodup → (∀ g ∈ gs, ¬ S g ∧ g < w.heap.size) →
    (∀ (i : Nat) (cs : List AV), bs[i]? = some cs → ∃ (g T : Nat) (vs : Array Value), gs[i]? = some g ∧ w.heap[g]? = some (Obj.cells vs T (0, 0)) ∧ RelVs (extβ gs) S w cs vs.toList) →
    RelVs (extβ gs) S w args vals → s args bs Q →
    Calls P f vals.toArray w fun (e : Ending) (w' : World) => ∃ (out : Out) (bs' : List (List AV)) (S' : Nat → Prop), Q out bs' ∧
      (match out with | .ret r => ∃ v, e = .returned v ∧ RelV (extβ gs) S' w' r v | .pan r => ∃ v, e = .panicked [{ v, recovered := false }] ∧ RelV (extβ gs) S' w' r v) ∧
      bs'.length = bs.length ∧ (∀ (i : Nat) (cs : List AV), bs'[i]? = some cs → ∃ (g T : Nat) (vs : Array Value), gs[i]? = some g ∧ w'.heap[g]? = some (Obj.cells vs T (0, 0)) ∧ RelVs (extβ gs) S' w' cs vs.toList) ∧
      w'.os = w.os ∧ w'.tape = w.tape ∧ w'.output = w.output ∧ w.heap.size ≤ w'.heap.size ∧ (∀ b, b < w.heap.size → b ∉ gs → w'.heap[b]? = w.heap[b]?) ∧
      (∀ b, S b → S' b) ∧ (∀ b, S' b → b < w'.heap.size ∧ (S b ∨ w.heap.size ≤ b))

structure EnvOK (P : Program) (E : Env) : Prop where
  ty : ∀ T ti, (T, ti) ∈ E.tys → tiOf P T = some { ti with eqk := [] }
  eq : ∀ T ti, (T, ti) ∈ E.tys → ti.eqk ≠ [] → EqOK P T ti.eqk
  pure : ∀ f h, (f, Spec.pure h) ∈ E.sp → SpecPure P f h ∧ ∀ w args, (callFunc f args).run P w = .ok (.enter f args) w
  full : ∀ f s, (f, Spec.full s) ∈ E.sp → SpecFull P f (detS s) ∧ ∀ w args, (callFunc f args).run P w = .ok (.enter f args) w
  z3 : ∃ i, P.info? 3 = some i ∧ i.zero = some (.int .i64 0) ∧ i.size = 1 ∧ i.bytes = 8
  u3 : P.underlying 3 = some (.int .i64)
  u4 : P.underlying 4 = some .bool

section tables
variable {P : Program} {T : Nat} {ti : TI}

theorem tiOf_info (h : tiOf P T = some ti) : ∃ i z d, P.info? T = some i ∧ i.zero = some z ∧ P.underlying T = some d ∧ i.size = ti.size ∧ z.cells.toList = ti.zero ∧ aggD d = ti.agg := by
  unfold tiOf at h
  split at h
  · rename_i i d hi hd
    split at h
    · rename_i z hz
      simp only [Option.some.injEq] at h
      subst h
      exact ⟨i, z, d, hi, hz, hd, rfl, rfl, rfl⟩
    · exact absurd h (by simp)
  · exact absurd h (by simp)

theorem tiOf_field (h : tiOf P T = some ti) {i : Nat} {f : Nat × Nat × Bool} (hf : ti.fields[i]? = some f) :
    ∃ fs g, P.underlying T = some (.struct fs) ∧ fs.toList.map (fieldP P) = ti.fields ∧ fs[i]? = some g ∧ g.offset = f.1 ∧ (∃ j, P.info? g.type = some j ∧ j.size = f.2.1) ∧ 0 < f.2.1 ∧ ∃ d, P.underlying g.type = some d ∧ aggD d = f.2.2 := by
  unfold tiOf at h
  split at h
  · rename_i i' d hi hd
    split at h
    · rename_i z hz
      simp only [Option.some.injEq] at h
      subst h
      simp only at hf
      split at hf
      · rename_i fs
        split at hf
        · rename_i hall
          rw [List.getElem?_map] at hf
          obtain ⟨g, hg, rfl⟩ := Option.map_eq_some_iff.1 hf
          have hm := List.all_eq_true.1 hall g (List.mem_of_getElem? hg)
          simp only [Bool.and_eq_true, decide_eq_true_eq] at hm
          obtain ⟨⟨h1, h2⟩, h3⟩ := hm
          obtain ⟨j, hj⟩ := Option.isSome_iff_exists.1 h2
          obtain ⟨d, hd'⟩ := Option.isSome_iff_exists.1 h3
          refine ⟨fs, g, hd, by simp [hall], by rw [← Array.getElem?_toList]; exact hg, rfl, ⟨j, hj, by simp [fieldP, sizeP, hj]⟩, h1, d, hd', by simp [fieldP, hd']⟩
        · simp at hf
      · simp at hf
    · exact absurd h (by simp)
  · exact absurd h (by simp)

theorem tiOf_struct (h : tiOf P T = some ti) (hf : ti.fields ≠ []) :
    ∃ fs, P.underlying T = some (.struct fs) ∧ fs.toList.map (fieldP P) = ti.fields ∧ ∀ g ∈ fs.toList, ∃ j, P.info? g.type = some j := by
  unfold tiOf at h
  split at h
  · rename_i i' d hi hd
    split at h
    · rename_i z hz
      simp only [Option.some.injEq] at h
      subst h
      simp only at hf
      split at hf
      · rename_i fs
        split at hf
        · rename_i hall
          refine ⟨fs, hd, by simp [hall], fun g hg => ?_⟩
          have hm := List.all_eq_true.1 hall g hg
          simp only [Bool.and_eq_true, decide_eq_true_eq] at hm
          exact Option.isSome_iff_exists.1 hm.1.2
        · exact absurd rfl hf
      · exact absurd rfl hf
    · exact absurd h (by simp)
  · exact absurd h (by simp)

theorem tiOf_elem (h : tiOf P T = some ti) {τ : ET} (hf : ti.elem = some τ) :
    ∃ j z, P.underlying T = some (.slice τ.tid) ∧ P.info? τ.tid = some j ∧ j.zero = some z ∧ j.size = τ.size ∧ j.bytes = τ.bytes ∧ z.cells.size = τ.size := by
  unfold tiOf at h
  split at h
  · rename_i i' d hi hd
    split at h
    · rename_i z hz
      simp only [Option.some.injEq] at h
      subst h
      simp only at hf
      split at hf
      · rename_i e
        unfold elemP at hf
        split at hf
        · rename_i τ' j h1 h2
          split at hf
          · rename_i z' hz'
            split at hf
            · rename_i hc
              simp only [Option.some.injEq] at hf
              subst hf
              obtain ⟨c1, c2, c3, rfl⟩ := hc
              exact ⟨j, z', hd, h2, hz', c1, c2, c3⟩
            · simp at hf
          · simp at hf
        · simp at hf
      · simp at hf
    · exact absurd h (by simp)
  · exact absurd h (by simp)

theorem tiOf_arr (h : tiOf P T = some ti) {n z : Nat} {b : Bool} (hf : ti.arr = some (n, z, b)) :
    ∃ e j, P.underlying T = some (.array n e) ∧ P.info? e = some j ∧ j.size = z := by
  unfold tiOf at h
  split at h
  · rename_i i' d hi hd
    split at h
    · rename_i z hz
      simp only [Option.some.injEq] at h
      subst h
      simp only at hf
      split at hf
      · rename_i n' e
        split at hf
        · rename_i hs
          simp only [Option.some.injEq, Prod.mk.injEq] at hf
          obtain ⟨rfl, rfl, _⟩ := hf
          obtain ⟨j, hj⟩ := Option.isSome_iff_exists.1 hs
          exact ⟨e, j, hd, hj, by simp [sizeP, hj]⟩
        · simp at hf
      · simp at hf
    · exact absurd h (by simp)
  · exact absurd h (by simp)

theorem tiOf_ik (h : tiOf P T = some ti) {κ : IntKind} (hf : ti.ik = some κ) : P.underlying T = some (.int κ) := by
  unfold tiOf at h
  split at h
  · rename_i i' d hi hd
    split at h
    · rename_i z hz
      simp only [Option.some.injEq] at h
      subst h
      simp only at hf
      split at hf
      · simp only [Option.some.injEq] at hf; subst hf; exact hd
      · simp at hf
    · exact absurd h (by simp)
  · exact absurd h (by simp)
end tables

theorem kindEq_of {κ κ' : IntKind} (h : kindEq κ κ' = true) : κ = κ' := by cases κ <;> cases κ' <;> first | rfl | simp [kindEq] at h
theorem ETeq_of {τ τ' : ET} (h : ETeq τ τ' = true) : τ = τ' := by cases τ <;> cases τ' <;> first | rfl | simp [ETeq] at h
theorem has_of {ti : TI} {τ : ET} (h : ti.has τ = true) : ti.elem = some τ := by
  unfold TI.has at h
  split at h
  · rename_i σ hσ; rw [hσ, ETeq_of h]
  · simp at h

end Go.Proofs.Ythakgbecpkfeoaa.Ev
