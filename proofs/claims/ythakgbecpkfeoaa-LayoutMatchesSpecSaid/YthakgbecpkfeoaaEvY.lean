/- Operations that write objects: the same looks, the same answer. -/
import Derived.Test.YthakgbecpkfeoaaEvX
set_option linter.unusedVariables false
set_option linter.unusedSimpArgs false
namespace Go.Proofs.Ythakgbecpkfeoaa.Ev

/-- This value, and these objects written. -/
abbrev Is (v : AV) (ws : List (Nat × AO)) : AV → List (Nat × AO) → Prop := fun x us => x = v ∧ us = ws

/- What the callee sees is named by the arguments. -/
theorem addId_mem {l : List Nat} {p o : Nat} (h : o ∈ addId l p) : o = p ∨ o ∈ l := by
  unfold addId at h
  split at h
  · exact .inr h
  · simp only [List.mem_append, List.mem_singleton] at h
    rcases h with h | h
    · exact .inr h
    · exact .inl h
mutual
theorem ids_mem : ∀ (v : AV) (l : List Nat) {o : Nat}, o ∈ v.ids l → o ∈ v.names ∨ o ∈ l
  | .ptr p _, l, o, h => by
    simp only [AV.ids] at h
    simp only [AV.names, List.mem_singleton]
    exact addId_mem h
  | .clo _ caps, l, o, h => by
    simp only [AV.ids] at h
    simp only [AV.names]
    exact idss_mem caps l h
  | .int .., l, o, h => .inr h
  | .bool .., l, o, h => .inr h
  | .str .., l, o, h => .inr h
  | .ep .., l, o, h => .inr h
  | .oep .., l, o, h => .inr h
  | .sl .., l, o, h => .inr h
  | .lit .., l, o, h => .inr h
  | .own .., l, o, h => .inr h
  | .nil, l, o, h => .inr h
  | .fn .., l, o, h => .inr h
  | .agg .., l, o, h => .inr h
  | .tup .., l, o, h => .inr h
  | .ifc .., l, o, h => .inr h
  | .opq .., l, o, h => .inr h
  | .skp, l, o, h => .inr h
  | .undef, l, o, h => .inr h
theorem idss_mem : ∀ (vs : List AV) (l : List Nat) {o : Nat}, o ∈ AV.idss vs l → o ∈ AV.namesL vs ∨ o ∈ l
  | [], l, o, h => .inr h
  | v :: vs, l, o, h => by
    simp only [AV.idss] at h
    simp only [AV.namesL, List.mem_append]
    rcases idss_mem vs _ h with h | h
    · exact .inl (.inr h)
    · rcases ids_mem v l h with h | h
      · exact .inl (.inl h)
      · exact .inr h
end

theorem low_names (v : AV) : v.low.names = [] ∨ v.low.names = v.names := by cases v <;> simp [AV.low, AV.names]

theorem viewF_names {hp : Hp} {v : AV} {k : AV → Prop} (h : viewF hp v k) : ∃ u, k u ∧ (∀ o ∈ u.names, o ∈ v.names) ∧ ∀ k' : AV → Prop, k' u → viewF hp v k' := by
  cases v with
  | own o =>
    simp only [viewF] at h ⊢
    obtain ⟨x, h, hx⟩ := lin_hget _ _ _ h
    cases x with
    | box cs => exact h.elim
    | arr τ xs => exact ⟨_, h, by simp [AV.names], fun k' hk' => hx _ hk'⟩
  | _ =>
    simp only [viewF, AV.f_eq] at h ⊢
    refine ⟨_, h, fun o ho => ?_, fun k' hk' => hk'⟩
    first
      | exact ho
      | (simp [AV.low, AV.names] at ho)
theorem viewsF_names {hp : Hp} : ∀ {l : List AV} {k : List AV → Prop}, viewsF hp l k → ∃ us, k us ∧ (∀ o ∈ AV.namesL us, o ∈ AV.namesL l) ∧ ∀ k' : List AV → Prop, k' us → viewsF hp l k'
  | [], k, h => ⟨[], h, by simp [AV.namesL], fun _ h => h⟩
  | v :: l, k, h => by
    simp only [viewsF] at h
    obtain ⟨u, h, hn, hu⟩ := viewF_names h
    obtain ⟨us, h, hns, hus⟩ := viewsF_names h
    refine ⟨_, h, fun o ho => ?_, fun k' hk' => ?_⟩
    · simp only [AV.namesL, List.mem_append] at ho ⊢
      rcases ho with ho | ho
      · exact .inl (hn o ho)
      · exact .inr (hns o ho)
    · simp only [viewsF]
      exact hu _ (hus _ hk')

theorem boxesF_congr {hp hp' : Hp} : ∀ {ids : List Nat} (h : ∀ o ∈ ids, hlook hp o = hlook hp' o) (k : List (List AV) → Prop), boxesF hp ids k = boxesF hp' ids k
  | [], _, _ => rfl
  | o :: l, h, k => by
    simp only [boxesF]
    rw [hget_congr (h o (by simp))]
    congr 1
    funext x
    cases x with
    | arr τ xs => rfl
    | box cs =>
      have e : ∀ k, boxesF hp l k = boxesF hp' l k := boxesF_congr (fun o ho => h o (by simp [ho]))
      simp only [e]

theorem effS_congr {hp hp' : Hp} {g : List AV → List (List AV) → Option (Prop × Out × List (List AV))} {vs : List AV} (h : ∀ o ∈ AV.namesL vs, hlook hp o = hlook hp' o) {k : AV → List (Nat × AO) → Prop} (he : effS g vs hp k) : effS g vs hp' k := by
  unfold effS at he ⊢
  rw [viewsF_congr h] at he
  obtain ⟨ws, h1, hn, hv⟩ := viewsF_names he
  refine hv _ ?_
  rw [boxesF_congr (fun o ho => h o ?_)] at h1
  · exact h1
  · rcases idss_mem ws [] ho with h2 | h2
    · exact hn o h2
    · simp at h2
theorem effP_congr {hp hp' : Hp} {g : List AV → Option (Prop × AV)} {vs caps : List AV} (h : ∀ o ∈ AV.namesL vs, hlook hp o = hlook hp' o) {k : AV → List (Nat × AO) → Prop} (he : effP g vs caps hp k) : effP g vs caps hp' k := by
  unfold effP at he ⊢
  rw [viewsF_congr h] at he
  exact he
theorem namesL_append (l m : List AV) : AV.namesL (l ++ m) = AV.namesL l ++ AV.namesL m := by
  induction l with
  | nil => rfl
  | cons v l ih => simp [AV.namesL, ih]
theorem effC_congr {E : Env} {hp hp' : Hp} {g : Nat} {vs caps : List AV} (h : ∀ o ∈ AV.namesL (vs ++ caps), hlook hp o = hlook hp' o) {k : AV → List (Nat × AO) → Prop} (he : effC E g vs caps hp k) : effC E g vs caps hp' k := by
  unfold effC at he ⊢
  obtain ⟨s, he, hs⟩ := lin_spGet _ _ _ he
  refine hs _ ?_
  cases s with
  | pure g => exact effP_congr (fun o ho => h o (by simp [namesL_append, ho])) he
  | full g => exact effS_congr h he

theorem hlive_look (h : Hp) (n : Nat) : hlive h n = (hlook h n).isSome := by
  induction h with
  | nil => rfl
  | cons p h ih =>
    obtain ⟨o, x⟩ := p
    simp only [hlive, hlook]
    cases Nat.beq o n <;> simp [ih]
theorem newE_congr {hp hp' : Hp} {d : Option Nat} {x : AO} {u : Nat → AV} {v : AV} {ws : List (Nat × AO)} (h : newE hp d x u (Is v ws)) (hw : ∀ n ∈ ws.map (·.1), hlook hp n = hlook hp' n) : newE hp' d x u (Is v ws) := by
  unfold newE at h ⊢
  split at h
  · rename_i d
    split at h
    · rename_i h1 h2
      have : hlook hp d = hlook hp' d := hw d (by rw [← h.2]; simp)
      have h3 : hlive hp' d = false := by rw [hlive_look, ← this, ← hlive_look]; exact h1
      simp only [h3, h2]
      exact h
    · exact h.elim
  · exact h.elim

section congr
variable {E : Env} {o : Oper} {tm tm' : List AV} {hp hp' : Hp} {v : AV} {ws : List (Nat × AO)}

theorem opNames_mem {tm : List AV} {l : List Operand} {n : Nat} : n ∈ opNames tm l ↔ ∃ x ∈ l, n ∈ (evalV tm x).names := by
  induction l with
  | nil => simp [opNames]
  | cons x l ih => simp [opNames, ih]

theorem eff1_congr (ht : ∀ x ∈ o.op.operands.toList, evalV tm x = evalV tm' x) (hr : looksHp o.op = true → ∀ x ∈ o.op.operands.toList, ∀ n ∈ (evalV tm x).names, hlook hp n = hlook hp' n)
    (hw : ∀ n ∈ ws.map (·.1), hlook hp n = hlook hp' n) (h : eff1 E o tm hp (Is v ws)) : eff1 E o tm' hp' (Is v ws) := by
  have dflt : (pop E o.op tm hp fun x => Is v ws x []) → pop E o.op tm' hp' fun x => Is v ws x [] := fun h => by
    rw [pop_hcongr o.op hr, pop_congr o.op ht] at h
    exact h
  unfold eff1 at h ⊢
  cases hop : o.op with
  | alloc T =>
    simp only [hop] at h ⊢
    obtain ⟨ti, h, ht⟩ := lin_tiGet _ _ _ h
    obtain ⟨cs, h, hc⟩ := lin_constsF _ _ h
    refine ht _ (hc _ ?_)
    cases e1 : AV.frees cs <;> rw [e1] at h
    · exact h.elim
    · exact newE_congr h hw
  | box T x =>
    have hx := ht x (by simp [hop, Op.operands])
    simp only [hop, hx] at h ⊢
    obtain ⟨ti, h, ht⟩ := lin_tiGet _ _ _ h
    obtain ⟨v, h, hv⟩ := lin_f _ _ h
    obtain ⟨cs, h, hc⟩ := lin_cellsF _ _ h
    refine ht _ (hv _ (hc _ ?_))
    cases e1 : AV.frees cs <;> cases e2 : Nat.beq cs.length ti.size <;> rw [e1, e2] at h <;> try exact h.elim
    exact newE_congr h hw
  | store T a x =>
    have ha := ht a (by simp [hop, Op.operands])
    have hx := ht x (by simp [hop, Op.operands])
    have hra := hr (by rw [hop]; rfl) a (by simp [hop, Op.operands])
    rw [ha] at hra
    simp only [hop, hx, ha] at h ⊢
    generalize evalV tm' a = va at h hra
    cases va with
    | ptr p off =>
      have e := hra p (by simp [AV.names])
      simp only [hget_congr e] at h
      exact h
    | oep p i =>
      have e := hra p (by simp [AV.names])
      simp only [hget_congr e] at h
      exact h
    | _ => exact h.elim
  | makeSlice T l c =>
    have hl := ht l (by simp [hop, Op.operands])
    have hc := ht c (by simp [hop, Op.operands])
    simp only [hop, hl, hc] at h ⊢
    split at h
    · rename_i h1 h2
      obtain ⟨ti, h, ht⟩ := lin_tiGet _ _ _ h
      refine ht _ ?_
      cases e1 : ti.has .i64 <;> rw [e1] at h
      · exact h.elim
      · exact ⟨h.1, newE_congr h.2 hw⟩
    · exact h.elim
  | assign x =>
    have hx := ht x (by simp [hop, Op.operands])
    simp only [hop, hx] at h ⊢
    split at h
    · obtain ⟨ti, h, ht⟩ := lin_tiGet _ _ _ h
      refine ht _ ?_
      split at h
      · exact newE_congr h hw
      · exact h.elim
    · exact h.elim
    · exact h
  | call c =>
    have hargs : ∀ x ∈ c.args.toList, evalV tm x = evalV tm' x := fun x hx => ht x (by simp [hop, Op.operands, Call.operands] at hx ⊢; exact .inr hx)
    simp only [hop] at h ⊢
    cases hc : c.callee with
    | value f =>
      have hf := ht f (by simp [hop, Op.operands, Call.operands, hc])
      have hrf := hr (by rw [hop]; rfl) f (by simp [hop, Op.operands, Call.operands, hc])
      rw [hf] at hrf
      have hra : ∀ n ∈ AV.namesL (c.args.toList.map (evalV tm')), hlook hp n = hlook hp' n := by
        intro n hn
        obtain ⟨x, h1, h2⟩ := namesL_map hn
        exact hr (by rw [hop]; rfl) x (by simp [hop, Op.operands, Call.operands] at h1 ⊢; exact .inr h1) n (by rw [hargs x h1]; exact h2)
      have hmap : c.args.toList.map (evalV tm) = c.args.toList.map (evalV tm') := List.map_congr_left hargs
      simp only [hc, hf, evs_eq, hmap] at h ⊢
      revert h hrf
      generalize evalV tm' f = vf
      intro hrf h
      cases vf with
      | fn g => exact effC_congr (fun n hn => hra n (by simpa using hn)) h
      | clo g caps =>
        refine effC_congr (fun n hn => ?_) h
        rw [namesL_append, List.mem_append] at hn
        rcases hn with hn | hn
        · exact hra n hn
        · exact hrf n (by simpa [AV.names] using hn)
      | _ => exact h.elim
    | builtin b => simp only [hc] at h ⊢; have := dflt (by rw [hop]; exact h); rw [hop] at this; exact this
    | invoke r m => simp only [hc] at h ⊢; have := dflt (by rw [hop]; exact h); rw [hop] at this; exact this
  | _ =>
    simp only [hop] at h ⊢
    have := dflt (by rw [hop]; exact h)
    rw [hop] at this
    exact this

theorem kept_congr {op : Op} (h : ∀ x ∈ op.operands.toList, evalV tm x = evalV tm' x) (k : List AV → Prop) : kept op tm k = kept op tm' k := by
  cases op with
  | build T parts =>
    simp only [kept]
    rw [evs_congr]
    intro x hx
    refine h x ?_
    simp only [List.mem_map] at hx
    obtain ⟨p, h1, rfl⟩ := hx
    simp only [Op.operands]
    exact List.mem_map.2 ⟨p, h1, rfl⟩
  | box T x => simp only [kept]; rw [evs_congr]; intro y hy; exact h y (by simp at hy; subst hy; simp [Op.operands])
  | store T a x => simp only [kept]; rw [evs_congr]; intro y hy; exact h y (by simp at hy; subst hy; simp [Op.operands])
  | makeFunc fn first caps => simp only [kept]; rw [evs_congr]; intro y hy; exact h y (by simp [Op.operands] at hy ⊢; exact .inr hy)
  | slice T x lo hi mx => simp only [kept]; rw [evs_congr]; intro y hy; exact h y (by simp at hy; subst hy; simp [Op.operands])
  | _ => rfl

theorem eff_congr (ht : ∀ x ∈ o.op.operands.toList, evalV tm x = evalV tm' x) (hr : ∀ n ∈ rdOf tm o.op, hlook hp n = hlook hp' n)
    (hw : ∀ n ∈ ws.map (·.1), hlook hp n = hlook hp' n) (h : eff E o tm hp (Is v ws)) : eff E o tm' hp' (Is v ws) := by
  unfold eff at h ⊢
  rw [kept_congr ht] at h
  obtain ⟨vs, e⟩ := kept_eq o.op tm'
  rw [e] at h ⊢
  cases e1 : anyOwn vs <;> rw [e1] at h
  · exact eff1_congr ht (fun hl x hx n hn => hr n (by unfold rdOf; rw [hl]; exact opNames_mem.2 ⟨x, hx, hn⟩)) hw h
  · exact h.elim

theorem opNames_congr {l : List Operand} (ht : ∀ x ∈ l, evalV tm x = evalV tm' x) : opNames tm l = opNames tm' l := by
  induction l with
  | nil => rfl
  | cons x l ih => simp only [opNames, ht x (by simp), ih (fun y hy => ht y (by simp [hy]))]

end congr
end Go.Proofs.Ythakgbecpkfeoaa.Ev
