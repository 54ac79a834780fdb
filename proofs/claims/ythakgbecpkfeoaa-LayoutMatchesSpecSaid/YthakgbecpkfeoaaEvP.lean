/- Operations that change nothing give one answer each, whatever the order: each answers once, and looks at its operands alone. -/
import Derived.Test.YthakgbecpkfeoaaEvO
set_option linter.unusedVariables false
set_option linter.unusedSimpArgs false
namespace Go.Proofs.Ythakgbecpkfeoaa.Ev

/-- Goes on at one answer. -/
def Lin {α : Type} (F : (α → Prop) → Prop) : Prop := ∀ k, F k → ∃ x, k x ∧ ∀ k', k' x → F k'

section lin
variable {α γ : Type}
theorem Lin.const (v : α) : Lin fun k : α → Prop => k v := fun k h => ⟨v, h, fun _ h => h⟩
theorem Lin.no : Lin fun _ : α → Prop => False := fun _ h => h.elim
theorem Lin.and {p : Prop} {F : (α → Prop) → Prop} (h : Lin F) : Lin fun k => p ∧ F k := fun k ⟨h1, h2⟩ => by
  obtain ⟨x, hx, hk⟩ := h k h2
  exact ⟨x, hx, fun k' hk' => ⟨h1, hk k' hk'⟩⟩
theorem Lin.bind {F : (α → Prop) → Prop} {G : α → (γ → Prop) → Prop} (hF : Lin F) (hG : ∀ x, Lin (G x)) : Lin fun k => F fun x => G x k := fun k h => by
  obtain ⟨x, hx, hk⟩ := hF _ h
  obtain ⟨y, hy, hk2⟩ := hG x _ hx
  exact ⟨y, hy, fun k' hk' => hk _ (hk2 k' hk')⟩
theorem lin_f (v : AV) : Lin fun k => v.f k := by simp only [AV.f_eq]; exact Lin.const v
theorem lin_tiGet (h : List (Nat × TI)) (n : Nat) : Lin fun k => tiGet h n k := by
  induction h with
  | nil => exact Lin.no
  | cons p h ih => obtain ⟨o, x⟩ := p; simp only [tiGet]; cases Nat.beq o n <;> first | exact ih | exact Lin.const x
theorem lin_spGet (h : List (Nat × Spec)) (n : Nat) : Lin fun k => spGet h n k := by
  induction h with
  | nil => exact Lin.no
  | cons p h ih => obtain ⟨o, x⟩ := p; simp only [spGet]; cases Nat.beq o n <;> first | exact ih | exact Lin.const x
theorem lin_hget (h : Hp) (n : Nat) : Lin fun k => hget h n k := by
  induction h with
  | nil => exact Lin.no
  | cons p h ih => obtain ⟨o, x⟩ := p; simp only [hget]; cases Nat.beq o n <;> first | exact ih | exact Lin.const x
theorem lin_nthF (l : List (Nat × Nat × Bool)) (i : Nat) : Lin fun k => nthF l i k := by
  induction l generalizing i with
  | nil => exact Lin.no
  | cons x l ih => cases i <;> first | exact Lin.const x | exact ih _
theorem lin_nthA (l : List AV) (i : Nat) : Lin fun k => nthA l i k := by
  induction l generalizing i with
  | nil => exact Lin.no
  | cons x l ih => cases i <;> first | exact lin_f x | exact ih _
theorem lin_dropF (l : List AV) (i : Nat) : Lin fun k => dropF l i k := by
  induction l generalizing i with
  | nil => cases i <;> first | exact Lin.const [] | exact Lin.no
  | cons x l ih => cases i <;> first | exact Lin.const (x :: l) | exact ih _
theorem lin_takeF (l : List AV) (i : Nat) : Lin fun k => takeF l i k := by
  induction l generalizing i with
  | nil => cases i <;> first | exact Lin.const [] | exact Lin.no
  | cons x l ih =>
    cases i with
    | zero => exact Lin.const []
    | succ i => simp only [takeF]; exact Lin.bind (ih _) fun l' => Lin.const _
theorem lin_dropC (l : List CV) (i : Nat) : Lin fun k => dropC l i k := by
  induction l generalizing i with
  | nil => cases i <;> first | exact Lin.const [] | exact Lin.no
  | cons x l ih => cases i <;> first | exact Lin.const (x :: l) | exact ih _
theorem lin_takeC (l : List CV) (i : Nat) : Lin fun k => takeC l i k := by
  induction l generalizing i with
  | nil => cases i <;> first | exact Lin.const [] | exact Lin.no
  | cons x l ih =>
    cases i with
    | zero => exact Lin.const []
    | succ i => simp only [takeC]; exact Lin.bind (lin_f _) fun v => Lin.bind (ih _) fun l' => Lin.const _
theorem lin_spliceF (l : List AV) (i : Nat) (vs : List AV) : Lin fun k => spliceF l i vs k := by
  induction l generalizing i vs with
  | nil => cases i <;> cases vs <;> first | exact Lin.const [] | exact Lin.no | exact Lin.no | exact Lin.no
  | cons x l ih =>
    cases i with
    | zero =>
      cases vs with
      | nil => exact Lin.const _
      | cons v vs => simp only [spliceF]; exact Lin.bind (ih _ _) fun l' => Lin.const _
    | succ i => simp only [spliceF]; exact Lin.bind (ih _ _) fun l' => Lin.const _
theorem lin_shapeF (b : Bool) (l : List AV) : Lin fun k => shapeF b l k := by
  cases b
  · match l with
    | [] => exact Lin.no
    | [x] => exact lin_f x
    | _ :: _ :: _ => exact Lin.no
  · exact Lin.const _
theorem lin_evs (tm : List AV) (l : List Operand) : Lin fun k => evs tm l k := by
  simp only [evs_eq]
  exact Lin.const _
theorem lin_constsF (l : List Value) : Lin fun k => constsF l k := by
  simp only [constsF_eq]
  exact Lin.const _
theorem lin_cellsF (v : AV) : Lin fun k => cellsF v k := by cases v <;> first | exact Lin.no | exact Lin.const _
theorem lin_viewF (hp : Hp) (v : AV) : Lin fun k => viewF hp v k := by
  cases v <;> simp only [viewF] <;> first
    | exact lin_f _
    | exact Lin.bind (lin_hget _ _) fun x => (by cases x <;> first | exact Lin.no | exact Lin.const _)
theorem lin_viewsF (hp : Hp) (l : List AV) : Lin fun k => viewsF hp l k := by
  induction l with
  | nil => exact Lin.const _
  | cons v l ih => simp only [viewsF]; exact Lin.bind (lin_viewF hp v) fun v' => Lin.bind ih fun l' => Lin.const _
theorem lin_listF {hp : Hp} {v : AV} {G : (τ : ET) → List τ.T → (γ → Prop) → Prop} (hG : ∀ τ xs, Lin (G τ xs)) : Lin fun k => listF hp v fun τ xs => G τ xs k := by
  cases v <;> simp only [listF] <;> first
    | exact Lin.no
    | exact hG _ _
    | exact Lin.bind (lin_hget _ _) fun x => (by cases x <;> first | exact Lin.no | exact hG _ _)
theorem lin_decF (τ : ET) (l : List AV) : Lin fun k => decF τ l k := by
  intro k h
  unfold decF at h
  split at h <;> first | exact h.elim | exact ⟨_, h, fun _ h => h⟩
theorem lin_elemsF (τ : ET) (tm : List AV) (i : Nat) (l : List (Nat × Operand)) : Lin fun k => elemsF τ tm i l k := by
  induction l generalizing i with
  | nil => exact Lin.const _
  | cons p l ih =>
    obtain ⟨j, x⟩ := p
    simp only [elemsF]
    cases Nat.beq i j
    · exact Lin.no
    · exact Lin.bind (lin_cellsF _) fun cs => Lin.bind (lin_decF τ cs) fun e => Lin.bind (ih _) fun es => Lin.const _
theorem lin_fillF (fs : List (Nat × Nat × Bool)) (tm : List AV) (l : List (Nat × Operand)) (cs : List AV) : Lin fun k => fillF fs tm l cs k := by
  induction l generalizing cs with
  | nil => exact Lin.const _
  | cons p l ih =>
    obtain ⟨i, x⟩ := p
    simp only [fillF]
    refine Lin.bind (lin_nthF _ _) fun f => Lin.bind (lin_f _) fun v => Lin.bind (lin_cellsF _) fun vs => ?_
    cases Nat.beq vs.length f.2.1
    · exact Lin.no
    · exact Lin.bind (lin_spliceF _ _ _) fun cs' => ih _
theorem lin_intBin (op : BinOp) (κ : IntKind) (a b : Int) : Lin fun k => intBin op κ a b k := by
  cases op <;> simp only [intBin] <;> first | exact Lin.no | exact Lin.const _ | exact Lin.and (Lin.const _)
theorem lin_eqCs (l m : List AV) : Lin fun k => eqCs l m k := by
  induction l generalizing m with
  | nil => cases m <;> first | exact Lin.const _ | exact Lin.no
  | cons x l ih =>
    cases m with
    | nil => exact Lin.no
    | cons y m =>
      simp only [eqCs]
      cases eqC x y
      · exact Lin.no
      · exact Lin.bind (ih m) fun b => Lin.const _

theorem lin_binF (E : Env) (op : BinOp) (T : Nat) (x y : AV) : Lin fun k => binF E op T x y k := by
  cases x with
  | int κ a =>
    cases y with
    | int κ' b =>
      cases op <;> simp only [binF] <;> first
        | exact Lin.and (Lin.const _)
        | (cases kindEq κ κ' <;> first | exact Lin.no | exact lin_intBin _ _ _ _)
    | _ => exact Lin.no
  | bool a =>
    cases y with
    | bool b =>
      cases op <;> simp only [binF] <;> first
        | exact Lin.no
        | (cases Nat.beq T 4 <;> first | exact Lin.no | exact Lin.const _)
    | _ => exact Lin.no
  | str a =>
    cases y with
    | str b => cases op <;> simp only [binF] <;> first | exact Lin.no | exact Lin.const _
    | _ => exact Lin.no
  | agg l =>
    cases y with
    | agg m =>
      simp only [binF]
      refine Lin.bind (lin_tiGet _ _) fun ti => ?_
      cases fitsK ti.eqk l <;> cases fitsK ti.eqk m <;> cases ti.eqk <;> simp only <;> first
        | exact Lin.no
        | (cases op <;> simp only <;> first | exact Lin.no | exact Lin.bind (lin_eqCs l m) fun b => Lin.const _)
    | _ => exact Lin.no
  | _ => exact Lin.no

theorem lin_callv (E : Env) (tm : List AV) (hp : Hp) (args : List Operand) (caps : List AV) (g : Nat) : Lin fun k => spGet E.sp g fun
    | .pure h => evs tm args fun vs => viewsF hp vs fun ws => match AV.calms (ws ++ caps) with
      | false => False
      | true => match h (ws ++ caps) with
        | some (p, r) => p ∧ r.f fun r => match r.calm, anyOwn vs, plainV r with
          | false, _, _ => False
          | true, true, false => False
          | true, _, _ => k r
        | none => False
    | .full _ => False := by
  refine Lin.bind (lin_spGet _ _) fun s => ?_
  cases s with
  | full s => exact Lin.no
  | pure h =>
    simp only
    refine Lin.bind (lin_evs _ _) fun vs => Lin.bind (lin_viewsF _ _) fun ws => ?_
    cases AV.calms (ws ++ caps)
    · exact Lin.no
    · simp only
      cases h (ws ++ caps) with
      | none => exact Lin.no
      | some pr =>
        obtain ⟨p, r⟩ := pr
        simp only
        refine Lin.and (Lin.bind (lin_f r) fun r => ?_)
        cases r.calm <;> cases anyOwn vs <;> cases plainV r <;> first | exact Lin.no | exact Lin.const _

end lin
end Go.Proofs.Ythakgbecpkfeoaa.Ev
