/- Operations that write objects, told as a value and the objects written: each answers once, looks at its operands and at the objects that these name, and its step does just that. -/
import Derived.Test.YthakgbecpkfeoaaEvW
set_option linter.unusedVariables false
set_option linter.unusedSimpArgs false
namespace Go.Proofs.Ythakgbecpkfeoaa.Ev

def hputs : Hp → List (Nat × AO) → Hp
  | h, [] => h
  | h, (o, x) :: l => hputs (hput h o x) l
theorem hputsF_eq (h : Hp) (l : List (Nat × AO)) (k : Hp → Prop) : hputsF h l k = k (hputs h l) := by
  induction l generalizing h with
  | nil => rfl
  | cons p l ih => obtain ⟨o, x⟩ := p; simp only [hputsF, hputF_eq, ih, hputs]
theorem natsF_eq (l : List Nat) (k : List Nat → Prop) : natsF l k = k l := by
  induction l generalizing k with
  | nil => rfl
  | cons x l ih => simp only [natsF, ih]
theorem keysOf_eq (l : List (Nat × AO)) : keysOf l = l.map (·.1) := by
  induction l with
  | nil => rfl
  | cons p l ih => obtain ⟨o, x⟩ := p; simp [keysOf, ih]

def spLook : List (Nat × Spec) → Nat → Option Spec
  | [], _ => none
  | (o, x) :: h, n => match Nat.beq o n with
    | true => some x
    | false => spLook h n
theorem spGet_look (h : List (Nat × Spec)) (n : Nat) (k : Spec → Prop) : spGet h n k = match spLook h n with | some x => k x | none => False := by
  induction h with
  | nil => rfl
  | cons p h ih =>
    obtain ⟨o, x⟩ := p
    simp only [spGet, spLook]
    cases Nat.beq o n <;> simp [ih]

/-! ### One answer -/
/-- Goes on at one pair of answers. -/
def Lin2 (F : (AV → List (Nat × AO) → Prop) → Prop) : Prop := ∀ k, F k → ∃ v ws, k v ws ∧ ∀ k' : AV → List (Nat × AO) → Prop, k' v ws → F k'
theorem Lin2.no : Lin2 fun _ => False := fun _ h => h.elim
theorem Lin2.const (v : AV) (ws : List (Nat × AO)) : Lin2 fun k => k v ws := fun _ h => ⟨v, ws, h, fun _ h => h⟩
theorem Lin2.and {p : Prop} {F : (AV → List (Nat × AO) → Prop) → Prop} (h : Lin2 F) : Lin2 fun k => p ∧ F k := fun k ⟨h1, h2⟩ => by
  obtain ⟨v, ws, hx, hk⟩ := h k h2
  exact ⟨v, ws, hx, fun k' hk' => ⟨h1, hk k' hk'⟩⟩
theorem Lin2.bind {α : Type} {F : (α → Prop) → Prop} {G : α → (AV → List (Nat × AO) → Prop) → Prop} (hF : Lin F) (hG : ∀ x, Lin2 (G x)) : Lin2 fun k => F fun x => G x k := fun k h => by
  obtain ⟨x, hx, hk⟩ := hF _ h
  obtain ⟨v, ws, hy, hk2⟩ := hG x _ hx
  exact ⟨v, ws, hy, fun k' hk' => hk _ (hk2 k' hk')⟩
theorem Lin2.pop {E : Env} {op : Op} {tm : List AV} {hp : Hp} : Lin2 fun k => pop E op tm hp fun v => k v [] := Lin2.bind (lin_pop op) fun v => Lin2.const v []

theorem lin_backF : ∀ (ids : List Nat) (bs : List (List AV)), Lin fun k => backF ids bs k
  | [], [] => Lin.const _
  | [], _ :: _ => Lin.no
  | _ :: _, [] => Lin.no
  | o :: l, cs :: bs => by
    simp only [backF]
    cases AV.frees cs
    · exact Lin.no
    · exact Lin.bind (lin_backF l bs) fun _ => Lin.const _
theorem lin_boxesF (hp : Hp) : ∀ (ids : List Nat), Lin fun k => boxesF hp ids k
  | [] => Lin.const _
  | o :: l => by
    simp only [boxesF]
    refine Lin.bind (lin_hget _ _) fun x => ?_
    cases x with
    | arr τ xs => exact Lin.no
    | box cs =>
      simp only
      cases AV.frees cs
      · exact Lin.no
      · exact Lin.bind (lin_boxesF hp l) fun l' => Lin.const _
theorem lin_rensF (ids : List Nat) (l : List AV) : Lin fun k => rensF ids l k := by simp only [rensF_eq]; exact Lin.const _

theorem lin_effS (g : List AV → List (List AV) → Option (Prop × Out × List (List AV))) (vs : List AV) (hp : Hp) : Lin2 fun k => effS g vs hp k := by
  unfold effS
  refine Lin2.bind (lin_viewsF _ _) fun ws => Lin2.bind (lin_boxesF _ _) fun bs => Lin2.bind (lin_rensF _ _) fun ws' => ?_
  cases anyOwn vs <;> cases AV.renoks (AV.idss ws []) ws && nodupB (AV.idss ws []) <;> simp only <;> try exact Lin2.no
  rcases g ws' bs with _ | ⟨p, out, bs'⟩
  · exact Lin2.no
  · cases out with
    | pan v => exact Lin2.no
    | ret r =>
      simp only
      refine Lin2.and (Lin2.bind (lin_f r) fun r => ?_)
      cases r.calm
      · exact Lin2.no
      · exact Lin2.bind (lin_backF _ _) fun us => Lin2.const _ _
theorem lin_effP (h : List AV → Option (Prop × AV)) (vs caps : List AV) (hp : Hp) : Lin2 fun k => effP h vs caps hp k := by
  unfold effP
  refine Lin2.bind (lin_viewsF _ _) fun ws => ?_
  cases AV.calms (ws ++ caps)
  · exact Lin2.no
  · simp only
    rcases h (ws ++ caps) with _ | ⟨p, r⟩
    · exact Lin2.no
    · simp only
      refine Lin2.and (Lin2.bind (lin_f r) fun r => ?_)
      cases r.calm <;> cases anyOwn vs <;> cases plainV r <;> first | exact Lin2.no | exact Lin2.const _ _
theorem lin_effC (E : Env) (g : Nat) (vs caps : List AV) (hp : Hp) : Lin2 fun k => effC E g vs caps hp k := by
  unfold effC
  refine Lin2.bind (lin_spGet _ _) fun s => ?_
  cases s with
  | pure h => exact lin_effP _ _ _ _
  | full s => exact lin_effS _ _ _
theorem lin_newE (hp : Hp) (d : Option Nat) (x : AO) (v : Nat → AV) : Lin2 fun k => newE hp d x v k := by
  unfold newE
  cases d with
  | none => exact Lin2.no
  | some d =>
    simp only
    cases hlive hp d <;> cases Nat.blt d 1000 <;> first | exact Lin2.no | exact Lin2.const _ _

section effs
variable {E : Env} {o : Oper} {tm : List AV} {hp : Hp} {kp : AV → List AV → Hp → Prop}

theorem lin_eff1 : Lin2 fun k => eff1 E o tm hp k := by
  unfold eff1
  cases o.op with
  | alloc T =>
    refine Lin2.bind (lin_tiGet _ _) fun ti => Lin2.bind (lin_constsF _) fun cs => ?_
    cases AV.frees cs
    · exact Lin2.no
    · exact lin_newE _ _ _ _
  | box T x =>
    refine Lin2.bind (lin_tiGet _ _) fun ti => Lin2.bind (lin_f _) fun v => Lin2.bind (lin_cellsF _) fun cs => ?_
    cases AV.frees cs <;> cases Nat.beq cs.length ti.size <;> first | exact Lin2.no | exact lin_newE _ _ _ _
  | store T a x =>
    simp only
    generalize evalV tm a = va
    cases va with
    | ptr p off =>
      refine Lin2.bind (lin_tiGet _ _) fun ti => Lin2.bind (lin_f _) fun v => Lin2.bind (lin_cellsF _) fun vs => ?_
      cases anyOwn vs <;> cases Nat.beq vs.length ti.size && ones vs <;> simp only <;> try exact Lin2.no
      refine Lin2.bind (lin_hget _ _) fun x => ?_
      cases x with
      | box cs => exact Lin2.bind (lin_spliceF _ _ _) fun cs' => Lin2.const _ _
      | arr τ xs => exact Lin2.no
    | oep p i =>
      simp only
      cases Nat.beq T 3
      · exact Lin2.no
      · simp only
        generalize evalV tm x = vx
        rcases vx with ⟨κ, n⟩ | _ | _ | _ | _ | _ | _ | _ | _ | _ | _ | _ | _ | _ | _ | _ | _ | _ <;> try exact Lin2.no
        cases κ <;> simp only <;> try exact Lin2.no
        refine Lin2.bind (lin_hget _ _) fun x => ?_
        cases x with
        | box cs => exact Lin2.no
        | arr τ xs => cases τ <;> simp only <;> first | exact Lin2.no | exact Lin2.and (Lin2.const _ _)
    | _ => exact Lin2.no
  | makeSlice T l c =>
    simp only
    generalize evalV tm l = vl
    generalize evalV tm c = vc
    rcases vl with ⟨κ, n⟩ | _ | _ | _ | _ | _ | _ | _ | _ | _ | _ | _ | _ | _ | _ | _ | _ | _ <;> try exact Lin2.no
    rcases vc with ⟨κ', m⟩ | _ | _ | _ | _ | _ | _ | _ | _ | _ | _ | _ | _ | _ | _ | _ | _ | _ <;> first
      | (cases κ <;> exact Lin2.no)
      | skip
    cases κ <;> cases κ' <;> simp only <;> try exact Lin2.no
    refine Lin2.bind (lin_tiGet _ _) fun ti => ?_
    cases ti.has .i64
    · exact Lin2.no
    · exact Lin2.and (lin_newE _ _ _ _)
  | assign x =>
    simp only
    generalize evalV tm x = v
    cases v with
    | nil =>
      refine Lin2.bind (lin_tiGet _ _) fun ti => ?_
      cases ti.elem with
      | none => exact Lin2.no
      | some τ => exact lin_newE _ _ _ _
    | own p => exact Lin2.no
    | _ => exact Lin2.bind (lin_f _) fun v => Lin2.const _ _
  | call c =>
    simp only
    cases c.callee with
    | value f =>
      simp only
      generalize evalV tm f = v
      cases v with
      | fn g => exact Lin2.bind (lin_evs _ _) fun vs => lin_effC _ _ _ _ _
      | clo g caps => exact Lin2.bind (lin_evs _ _) fun vs => lin_effC _ _ _ _ _
      | _ => exact Lin2.no
    | builtin b => exact Lin2.pop
    | invoke r m => exact Lin2.pop
  | _ => exact Lin2.pop

theorem kept_eq (op : Op) (tm : List AV) : ∃ vs, ∀ k : List AV → Prop, kept op tm k = k vs := by
  unfold kept
  cases op <;> first | exact ⟨[], fun k => rfl⟩ | (simp only [evs_eq]; exact ⟨_, fun k => rfl⟩)

theorem lin_eff : Lin2 fun k => eff E o tm hp k := by
  unfold eff
  obtain ⟨vs, e⟩ := kept_eq o.op tm
  simp only [e]
  cases anyOwn vs
  · exact lin_eff1
  · exact Lin2.no

/-! ### The step does just that -/
/-- What an operation's step must come to. -/
def Comes (o : Oper) (tm : List AV) (hp : Hp) (k : AV → List (Nat × AO) → Prop) (tm' : List AV) (hp' : Hp) : Prop := ∃ v ws, k v ws ∧ tm' = putL tm o.dst v ∧ hp' = hputs hp ws

theorem newE_step {x : AO} {v : Nat → AV} {k : AV → List (Nat × AO) → Prop} (h : newE hp o.dst x v k) :
    ∃ e, o.dst = some e ∧ newObj tm hp e x (v e) (Comes o tm hp k) := by
  unfold newE at h
  split at h
  · rename_i e hd
    split at h
    · rename_i hl hb
      refine ⟨e, hd, ?_⟩
      unfold newObj
      rw [hb]
      simp only [dropObj, hl, hputF_eq, setF_eq]
      exact ⟨_, _, h, by rw [hd]; rfl, rfl⟩
    · exact h.elim
  · exact h.elim

theorem backF_of : ∀ {ids : List Nat} {bs : List (List AV)} {k : List (Nat × AO) → Prop}, backF ids bs k → ∃ ws, k ws ∧ ∀ (hp : Hp) (k' : Hp → Prop), k' (hputs hp ws) → unboxF ids bs hp k'
  | [], [], k, h => ⟨[], h, fun hp k' hk => hk⟩
  | [], _ :: _, k, h => h.elim
  | _ :: _, [], k, h => h.elim
  | o :: l, cs :: bs, k, h => by
    simp only [backF] at h
    split at h
    · rename_i hf
      obtain ⟨ws, h1, h2⟩ := backF_of h
      refine ⟨_, h1, fun hp k' hk => ?_⟩
      simp only [unboxF, hf, hputF_eq]
      exact h2 _ _ hk
    · exact h.elim

theorem effS_step {g : List AV → List (List AV) → Option (Prop × Out × List (List AV))} {vs : List AV} {k : AV → List (Nat × AO) → Prop} (h : effS g vs hp k) :
    callS E (detS g) vs tm hp o.dst kp (Comes o tm hp k) := by
  unfold effS at h
  unfold callS
  obtain ⟨ws, h, hv⟩ := lin_viewsF hp vs _ h
  refine hv _ ?_
  obtain ⟨bs, h, hb⟩ := lin_boxesF hp _ _ h
  refine hb _ ?_
  rw [rensF_eq] at h ⊢
  cases e1 : anyOwn vs <;> cases e2 : AV.renoks (AV.idss ws []) ws && nodupB (AV.idss ws []) <;> rw [e1, e2] at h <;> try exact h.elim
  simp only at h ⊢
  unfold detS
  rcases e3 : g (AV.rens (AV.idss ws []) ws) bs with _ | ⟨p, out, bs'⟩ <;> rw [e3] at h
  · exact h.elim
  · cases out with
    | pan v => exact h.elim
    | ret r =>
      refine ⟨h.1, ?_⟩
      have h' := h.2
      rw [AV.f_eq] at h'
      simp only [AV.f_eq]
      cases e4 : r.calm <;> rw [e4] at h'
      · exact h'.elim
      · obtain ⟨us, hk, hu⟩ := backF_of h'
        refine hu _ _ ?_
        rw [putD_eq]
        exact ⟨_, _, hk, rfl, rfl⟩

theorem effP_step {g : List AV → Option (Prop × AV)} {vs caps : List AV} {k : AV → List (Nat × AO) → Prop} (h : effP g vs caps hp k) :
    callP E g vs caps tm hp o.dst (Comes o tm hp k) := by
  unfold effP at h
  unfold callP
  obtain ⟨ws, h, hv⟩ := lin_viewsF hp vs _ h
  refine hv _ ?_
  cases e0 : AV.calms (ws ++ caps) <;> rw [e0] at h
  · exact h.elim
  · simp only at h ⊢
    rcases e4 : g (ws ++ caps) with _ | ⟨p, r⟩ <;> rw [e4] at h
    · exact h.elim
    · refine ⟨h.1, ?_⟩
      have h' := h.2
      rw [AV.f_eq] at h' ⊢
      cases e1 : r.calm <;> cases e2 : anyOwn vs <;> cases e3 : plainV r <;> simp only [e1, e2, e3] at h' ⊢ <;> first
        | exact h'.elim
        | (rw [putD_eq]; exact ⟨_, _, h', rfl, rfl⟩)

theorem effC_step {g : Nat} {vs caps : List AV} {k : AV → List (Nat × AO) → Prop} (h : effC E g vs caps hp k) :
    callF E g vs caps tm hp o.dst kp (Comes o tm hp k) := by
  unfold effC at h
  unfold callF
  rw [spGet_look] at h ⊢
  cases e : spLook E.sp g with
  | none => rw [e] at h; exact h.elim
  | some s =>
    rw [e] at h
    cases s with
    | pure g => exact effP_step h
    | full g => exact effS_step h

theorem pop_step {k : AV → List (Nat × AO) → Prop} (h : pop E o.op tm hp fun v => k v []) : pop E o.op tm hp fun v => putD tm o.dst v fun tm' => Comes o tm hp k tm' hp := by
  obtain ⟨v, h1, h2⟩ := lin_pop o.op _ h
  refine h2 _ ?_
  rw [putD_eq]
  exact ⟨v, [], h1, rfl, rfl⟩

theorem eff1_step {k : AV → List (Nat × AO) → Prop} (h : eff1 E o tm hp k) : step1 E o tm hp kp (Comes o tm hp k) := by
  unfold eff1 at h
  unfold step1
  cases hop : o.op with
  | alloc T =>
    simp only [hop] at h ⊢
    obtain ⟨ti, h, ht⟩ := lin_tiGet _ _ _ h
    obtain ⟨cs, h, hc⟩ := lin_constsF _ _ h
    split at h
    · rename_i hf
      obtain ⟨e, he, hn⟩ := newE_step (tm := tm) h
      rw [he]
      refine ht _ (hc _ ?_)
      simp only [hf]
      exact hn
    · exact h.elim
  | box T x =>
    simp only [hop] at h ⊢
    obtain ⟨ti, h, ht⟩ := lin_tiGet _ _ _ h
    obtain ⟨v, h, hv⟩ := lin_f _ _ h
    obtain ⟨cs, h, hc⟩ := lin_cellsF _ _ h
    split at h
    · rename_i hf hb
      obtain ⟨e, he, hn⟩ := newE_step (tm := tm) h
      rw [he]
      refine ht _ (hv _ (hc _ ?_))
      simp only [hf, hb]
      exact hn
    · exact h.elim
  | store T a x =>
    simp only [hop] at h ⊢
    generalize evalV tm a = va at h
    cases va with
    | ptr p off =>
      obtain ⟨ti, h, ht⟩ := lin_tiGet _ _ _ h
      obtain ⟨v, h, hv⟩ := lin_f _ _ h
      obtain ⟨vs, h, hc⟩ := lin_cellsF _ _ h
      refine ht _ (hv _ (hc _ ?_))
      cases e1 : anyOwn vs <;> cases e2 : (Nat.beq vs.length ti.size && ones vs) <;> rw [e1, e2] at h <;> try exact h.elim
      simp only at h ⊢
      obtain ⟨x, h, hx⟩ := lin_hget _ _ _ h
      refine hx _ ?_
      cases x with
      | arr τ xs => exact h.elim
      | box cs =>
        obtain ⟨cs', h, hs⟩ := lin_spliceF _ _ _ _ h
        refine hs _ ?_
        rw [hputF_eq, putD_eq]
        exact ⟨_, _, h, rfl, rfl⟩
    | oep p i =>
      simp only at h ⊢
      cases e : Nat.beq T 3 with
      | false => rw [e] at h; exact h.elim
      | true =>
        rw [e] at h
        simp only at h ⊢
        generalize evalV tm x = vx at h
        split at h
        · obtain ⟨x, h, hx⟩ := lin_hget _ _ _ h
          refine hx _ ?_
          split at h
          · refine ⟨h.1, ?_⟩
            rw [hputF_eq, putD_eq]
            exact ⟨_, _, h.2, rfl, rfl⟩
          · exact h.elim
        · exact h.elim
    | _ => exact h.elim
  | makeSlice T l c =>
    simp only [hop] at h ⊢
    split at h
    · rename_i h1 h2
      obtain ⟨ti, h, ht⟩ := lin_tiGet _ _ _ h
      split at h
      · rename_i hf
        obtain ⟨e, he, hn⟩ := newE_step (tm := tm) h.2
        rw [he]
        simp only [h1, h2]
        refine ht _ ?_
        simp only [hf]
        exact ⟨h.1, hn⟩
      · exact h.elim
    · exact h.elim
  | assign x =>
    simp only [hop] at h ⊢
    generalize evalV tm x = v at h
    cases v with
    | nil =>
      simp only at h ⊢
      obtain ⟨ti, h, ht⟩ := lin_tiGet _ _ _ h
      split at h
      · rename_i τ hf
        obtain ⟨e, he, hn⟩ := newE_step (tm := tm) h
        rw [he]
        refine ht _ ?_
        simp only [hf]
        exact hn
      · exact h.elim
    | own p => exact h.elim
    | _ =>
      simp only [AV.f_eq, putD_eq] at h ⊢
      exact ⟨_, _, h, rfl, rfl⟩
  | call c =>
    have dflt : (pop E o.op tm hp fun v => k v []) → pop E (.call c) tm hp (fun v => putD tm o.dst v fun tm' => Comes o tm hp k tm' hp) := fun h => by have := pop_step h; rw [hop] at this; exact this
    simp only [hop] at h ⊢
    cases hc : c.callee with
    | value f =>
      simp only [hc] at h ⊢
      generalize evalV tm f = v at h
      cases v with
      | fn g =>
        simp only [evs_eq] at h ⊢
        exact effC_step h
      | clo g caps =>
        simp only [evs_eq] at h ⊢
        exact effC_step h
      | _ => exact h.elim
    | builtin b =>
      simp only [hc] at h ⊢
      cases b with
      | append => unfold pop at h; simp only [hc] at h
      | copy => unfold pop at h; simp only [hc] at h
      | _ => exact dflt (by rw [hop]; exact h)
    | invoke r m =>
      simp only [hc] at h ⊢
      exact dflt (by rw [hop]; exact h)
  | panic x => simp only [hop] at h; exact h.elim
  | _ =>
    simp only [hop] at h ⊢
    have := pop_step (o := o) (k := k) (by rw [hop]; exact h)
    rw [hop] at this
    exact this

theorem eff_step {k : AV → List (Nat × AO) → Prop} (h : eff E o tm hp k) : step E o tm hp kp (Comes o tm hp k) := by
  unfold eff at h
  unfold step
  obtain ⟨vs, e⟩ := kept_eq o.op tm
  rw [e] at h ⊢
  cases e1 : anyOwn vs <;> rw [e1] at h
  · exact eff1_step h
  · exact h.elim

end effs
end Go.Proofs.Ythakgbecpkfeoaa.Ev
