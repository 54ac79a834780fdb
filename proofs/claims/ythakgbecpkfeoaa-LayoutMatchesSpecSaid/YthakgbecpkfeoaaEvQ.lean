/- Each operation that changes nothing answers once, and looks at its operands alone. -/
import Derived.Test.YthakgbecpkfeoaaEvP
set_option linter.unusedVariables false
set_option linter.unusedSimpArgs false
namespace Go.Proofs.Ythakgbecpkfeoaa.Ev

section pops
variable {E : Env} {tm tm' : List AV} {hp : Hp}

theorem lin_pop (op : Op) : Lin fun k => pop E op tm hp k := by
  cases op with
  | move x => exact lin_f _
  | assign x =>
    simp only [pop]
    generalize evalV tm x = v
    cases v <;> simp only <;> first | exact Lin.no | exact lin_f _
  | pick c a b =>
    simp only [pop]
    generalize evalV tm c = v
    cases v with
    | bool t => cases t <;> simp only <;> exact lin_f _
    | _ => exact Lin.no
  | binOp op T x y T' => simp only [pop]; exact Lin.bind (lin_f _) fun vx => Lin.bind (lin_f _) fun vy => lin_binF E op T vx vy
  | unOp op T x =>
    simp only [pop]
    generalize evalV tm x = v
    cases op <;> cases v <;> simp only <;> first | exact Lin.no | exact Lin.const _
  | convert s d x =>
    simp only [pop]
    generalize evalV tm x = v
    cases v with
    | int κ n =>
      refine Lin.bind (lin_tiGet _ _) fun ti => ?_
      cases ti.ik <;> simp only <;> first | exact Lin.no | exact Lin.const _
    | _ => exact Lin.no
  | extract x i =>
    simp only [pop]
    generalize evalV tm x = v
    cases v <;> simp only <;> first | exact Lin.no | exact lin_nthA _ _
  | fieldAddr T x i =>
    simp only [pop]
    generalize evalV tm x = v
    cases v <;> simp only <;> first
      | exact Lin.no
      | exact Lin.bind (lin_tiGet _ _) fun ti => Lin.bind (lin_nthF _ _) fun f => Lin.const _
      | exact Lin.bind (lin_tiGet _ _) fun ti => Lin.bind (lin_nthF _ _) fun f => Lin.bind (lin_dropC _ _) fun cs => Lin.const _
  | field T x i =>
    simp only [pop]
    generalize evalV tm x = v
    cases v <;> simp only <;> first
      | exact Lin.no
      | exact Lin.bind (lin_tiGet _ _) fun ti => Lin.bind (lin_nthF _ _) fun f => Lin.bind (lin_dropF _ _) fun l => Lin.bind (lin_takeF _ _) fun l => lin_shapeF _ _
  | load T x =>
    simp only [pop]
    generalize evalV tm x = v
    cases v with
    | ptr o off =>
      refine Lin.bind (lin_tiGet _ _) fun ti => Lin.bind (lin_hget _ _) fun ao => ?_
      cases ao with
      | box cs => exact Lin.bind (lin_dropF _ _) fun l => Lin.bind (lin_takeF _ _) fun l => lin_shapeF _ _
      | arr τ xs => exact Lin.no
    | ep cs => exact Lin.bind (lin_tiGet _ _) fun ti => Lin.bind (lin_takeC _ _) fun l => lin_shapeF _ _
    | oep o i =>
      simp only
      cases Nat.beq T 3
      · exact Lin.no
      · refine Lin.bind (lin_hget _ _) fun ao => ?_
        cases ao with
        | box cs => exact Lin.no
        | arr τ xs => cases τ <;> simp only <;> first | exact Lin.no | exact Lin.and (Lin.const _)
    | _ => exact Lin.no
  | indexAddr T x i =>
    simp only [pop]
    generalize evalV tm x = v
    generalize evalV tm i = u
    cases u with
    | int κ n =>
      cases v with
      | sl τ xs =>
        refine Lin.bind (lin_tiGet _ _) fun ti => ?_
        cases ti.has τ
        · exact Lin.no
        · exact Lin.and (Lin.const _)
      | lit τ xs =>
        refine Lin.bind (lin_tiGet _ _) fun ti => ?_
        cases ti.has τ
        · exact Lin.no
        · exact Lin.and (Lin.const _)
      | own o =>
        refine Lin.bind (lin_tiGet _ _) fun ti => Lin.bind (lin_hget _ _) fun ao => ?_
        cases ao with
        | box cs => exact Lin.no
        | arr τ xs =>
          cases τ <;> simp only <;> first
            | exact Lin.no
            | (cases ti.has .i64
               · exact Lin.no
               · exact Lin.and (Lin.const _))
      | ptr o off =>
        refine Lin.bind (lin_tiGet _ _) fun ti => ?_
        cases ti.arr with
        | none => exact Lin.no
        | some t => obtain ⟨m, z, b⟩ := t; exact Lin.and (Lin.const _)
      | _ => exact Lin.no
    | _ => exact Lin.no
  | nilCheck x =>
    simp only [pop]
    generalize evalV tm x = v
    cases v <;> simp only <;> first | exact Lin.no | exact Lin.const _
  | build T parts =>
    simp only [pop]
    refine Lin.bind (lin_tiGet _ _) fun ti => ?_
    cases ti.fields with
    | nil => exact Lin.no
    | cons f fs => exact Lin.bind (lin_constsF _) fun cs => Lin.bind (lin_fillF _ _ _ _) fun cs => Lin.const _
  | slice T x lo hi mx =>
    simp only [pop]
    refine Lin.bind (lin_tiGet _ _) fun ti => lin_listF fun τ xs => ?_
    cases ti.has τ <;> cases mx <;> try exact Lin.no
    simp only
    intro k h
    split at h
    · rename_i _ a _ b hl hr
      split at h
      · rename_i ho
        refine ⟨_, h.2, fun k' hk' => ?_⟩
        simp only [hl, hr, ho]
        exact ⟨h.1, hk'⟩
      · exact h.elim
    · exact h.elim
  | makeFunc fn first caps =>
    simp only [pop]
    cases fn <;> cases first.toList <;> simp only <;> try exact Lin.no
    refine Lin.bind (lin_evs _ _) fun vs => ?_
    cases anyOwn vs
    · exact Lin.const _
    · exact Lin.no
  | makeInterface T x =>
    simp only [pop]
    refine Lin.bind (lin_f _) fun v => ?_
    cases plain1 v
    · exact Lin.no
    · exact Lin.const _
  | buildSlice T n parts =>
    simp only [pop]
    refine Lin.bind (lin_tiGet _ _) fun ti => ?_
    cases ti.elem with
    | none => exact Lin.no
    | some τ =>
      simp only
      cases Nat.beq parts.toList.length n && Nat.ble n 100000
      · exact Lin.no
      · exact Lin.bind (lin_elemsF _ _ _ _) fun es => Lin.const _
  | call c =>
    simp only [pop]
    cases c.callee with
    | invoke r m => exact Lin.no
    | value f =>
      simp only
      generalize evalV tm f = v
      cases v with
      | fn g =>
        have := lin_callv E tm hp c.args.toList [] g
        simp only [List.append_nil] at this
        exact this
      | clo g caps => exact lin_callv E tm hp c.args.toList caps g
      | _ => exact Lin.no
    | builtin b =>
      cases b with
      | len =>
        simp only
        rcases c.args.toList with _ | ⟨x, _ | ⟨y, l⟩⟩
        · exact Lin.no
        · rcases c.argTypes.toList with _ | ⟨T, _ | ⟨T', l⟩⟩
          · exact Lin.no
          · simp only
            have key : ∀ v, Lin fun k : AV → Prop => tiGet E.tys T fun ti => listF hp v fun τ xs => match ti.has τ with | true => k (.int .i64 xs.length) | false => False := fun v =>
              Lin.bind (lin_tiGet _ _) fun ti => lin_listF fun τ xs => (by
                cases ti.has τ
                · exact Lin.no
                · exact Lin.const _)
            generalize evalV tm x = v
            cases v with
            | nil =>
              refine Lin.bind (lin_tiGet _ _) fun ti => ?_
              cases ti.elem
              · exact Lin.no
              · exact Lin.const _
            | _ => exact key _
          · exact Lin.no
        · exact Lin.no
      | min =>
        simp only
        rcases c.args.toList with _ | ⟨x, _ | ⟨y, _ | ⟨z, l⟩⟩⟩ <;> simp only <;> try exact Lin.no
        generalize evalV tm x = v
        generalize evalV tm y = u
        intro k h
        split at h
        · exact ⟨_, h, fun _ h => h⟩
        · exact h.elim
      | max =>
        simp only
        rcases c.args.toList with _ | ⟨x, _ | ⟨y, _ | ⟨z, l⟩⟩⟩ <;> simp only <;> try exact Lin.no
        generalize evalV tm x = v
        generalize evalV tm y = u
        intro k h
        split at h
        · exact ⟨_, h, fun _ h => h⟩
        · exact h.elim
      | _ => exact Lin.no
  | _ => exact Lin.no

theorem evs_congr {l : List Operand} (h : ∀ x ∈ l, evalV tm x = evalV tm' x) : evs tm l = evs tm' l := by
  funext k
  rw [evs_eq, evs_eq]
  congr 1
  exact List.map_congr_left h
theorem elemsF_congr {τ : ET} {l : List (Nat × Operand)} (h : ∀ p ∈ l, evalV tm p.2 = evalV tm' p.2) (i : Nat) : elemsF τ tm i l = elemsF τ tm' i l := by
  induction l generalizing i with
  | nil => rfl
  | cons p l ih =>
    obtain ⟨j, x⟩ := p
    funext k
    have h1 := h (j, x) (by simp)
    simp only at h1
    simp only [elemsF, h1, ih (fun p hp => h p (by simp [hp]))]
theorem fillF_congr {fs : List (Nat × Nat × Bool)} {l : List (Nat × Operand)} (h : ∀ p ∈ l, evalV tm p.2 = evalV tm' p.2) (cs : List AV) : fillF fs tm l cs = fillF fs tm' l cs := by
  induction l generalizing cs with
  | nil => rfl
  | cons p l ih =>
    obtain ⟨j, x⟩ := p
    funext k
    have h1 := h (j, x) (by simp)
    simp only at h1
    simp only [fillF, h1, ih (fun p hp => h p (by simp [hp]))]

theorem pop_congr (op : Op) (h : ∀ x ∈ op.operands.toList, evalV tm x = evalV tm' x) (k : AV → Prop) : pop E op tm hp k = pop E op tm' hp k := by
  cases op with
  | move x => simp only [pop, h x (by simp [Op.operands])]
  | assign x => simp only [pop, h x (by simp [Op.operands])]
  | pick c a b => simp only [pop, h a (by simp [Op.operands]), h b (by simp [Op.operands]), h c (by simp [Op.operands])]
  | binOp op T x y T' => simp only [pop, h x (by simp [Op.operands]), h y (by simp [Op.operands])]
  | unOp op T x => simp only [pop, h x (by simp [Op.operands])]
  | convert s d x => simp only [pop, h x (by simp [Op.operands])]
  | extract x i => simp only [pop, h x (by simp [Op.operands])]
  | fieldAddr T x i => simp only [pop, h x (by simp [Op.operands])]
  | field T x i => simp only [pop, h x (by simp [Op.operands])]
  | load T x => simp only [pop, h x (by simp [Op.operands])]
  | indexAddr T x i => simp only [pop, h x (by simp [Op.operands]), h i (by simp [Op.operands])]
  | nilCheck x => simp only [pop, h x (by simp [Op.operands])]
  | build T parts => simp only [pop, fillF_congr (tm := tm) (tm' := tm') (l := parts.toList) (fun p hp => h p.2 (by simp only [Op.operands]; exact List.mem_map.2 ⟨p, hp, rfl⟩))]
  | buildSlice T n parts => simp only [pop, elemsF_congr (tm := tm) (tm' := tm') (l := parts.toList) (fun p hp => h p.2 (by simp only [Op.operands]; exact List.mem_map.2 ⟨p, hp, rfl⟩))]
  | slice T x lo hi mx =>
    have hx := h x (by simp [Op.operands])
    have hlo : ∀ y, lo = some y → evalV tm y = evalV tm' y := fun y hy => h y (by subst hy; simp [Op.operands])
    have hhi : ∀ y, hi = some y → evalV tm y = evalV tm' y := fun y hy => h y (by subst hy; simp [Op.operands])
    cases lo with
    | none =>
      cases hi with
      | none => simp only [pop, hx]
      | some z => simp only [pop, hx, hhi z rfl]
    | some y =>
      cases hi with
      | none => simp only [pop, hx, hlo y rfl]
      | some z => simp only [pop, hx, hlo y rfl, hhi z rfl]
  | makeFunc fn first caps => simp only [pop, evs_congr (tm := tm) (tm' := tm') (l := caps.toList) (fun x hx => h x (by simp [Op.operands] at hx ⊢; exact .inr hx))]
  | makeInterface T x => simp only [pop, h x (by simp [Op.operands])]
  | call c =>
    have ha : ∀ x ∈ c.args.toList, evalV tm x = evalV tm' x := fun x hx => h x (by simp [Op.operands, Call.operands] at hx ⊢; exact .inr hx)
    have hf : ∀ f, c.callee = .value f → evalV tm f = evalV tm' f := fun f hf => h f (by simp [Op.operands, Call.operands, hf])
    have he := evs_congr ha
    cases hc : c.callee with
    | invoke r m => simp only [pop, hc]
    | value f => simp only [pop, hc, hf f hc, he]
    | builtin b =>
      cases b with
      | len =>
        simp only [pop, hc]
        rcases e : c.args.toList with _ | ⟨x, _ | ⟨y, l⟩⟩ <;> try rfl
        rcases c.argTypes.toList with _ | ⟨T, _ | ⟨T', l⟩⟩ <;> try rfl
        simp only
        rw [ha x (by simp [e])]
      | min =>
        simp only [pop, hc]
        rcases e : c.args.toList with _ | ⟨x, _ | ⟨y, _ | ⟨z, l⟩⟩⟩ <;> try rfl
        simp only
        rw [ha x (by simp [e]), ha y (by simp [e])]
      | max =>
        simp only [pop, hc]
        rcases e : c.args.toList with _ | ⟨x, _ | ⟨y, _ | ⟨z, l⟩⟩⟩ <;> try rfl
        simp only
        rw [ha x (by simp [e]), ha y (by simp [e])]
      | _ => simp only [pop, hc]
  | _ => rfl

end pops
end Go.Proofs.Ythakgbecpkfeoaa.Ev
