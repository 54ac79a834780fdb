/- What an operation looks at in the heap. -/
import Derived.Test.YthakgbecpkfeoaaEvR
set_option linter.unusedVariables false
set_option linter.unusedSimpArgs false
namespace Go.Proofs.Ythakgbecpkfeoaa.Ev

def hlook : Hp → Nat → Option AO
  | [], _ => none
  | (o, x) :: h, n => match Nat.beq o n with
    | true => some x
    | false => hlook h n
theorem hget_look (h : Hp) (n : Nat) (k : AO → Prop) : hget h n k = match hlook h n with | some x => k x | none => False := by
  induction h with
  | nil => rfl
  | cons p h ih =>
    obtain ⟨o, x⟩ := p
    simp only [hget, hlook]
    cases Nat.beq o n <;> simp [ih]
theorem hget_congr {h h' : Hp} {n : Nat} (e : hlook h n = hlook h' n) (k : AO → Prop) : hget h n k = hget h' n k := by rw [hget_look, hget_look, e]

theorem listF_congr {h h' : Hp} {v : AV} (e : ∀ o ∈ v.names, hlook h o = hlook h' o) (k : (τ : ET) → List τ.T → Prop) : listF h v k = listF h' v k := by
  cases v <;> try rfl
  simp only [listF]
  exact hget_congr (e _ (by simp [AV.names])) _
theorem viewF_congr {h h' : Hp} {v : AV} (e : ∀ o ∈ v.names, hlook h o = hlook h' o) (k : AV → Prop) : viewF h v k = viewF h' v k := by
  cases v <;> try rfl
  simp only [viewF]
  exact hget_congr (e _ (by simp [AV.names])) _
theorem viewsF_congr {h h' : Hp} : ∀ {l : List AV} (e : ∀ o ∈ AV.namesL l, hlook h o = hlook h' o) (k : List AV → Prop), viewsF h l k = viewsF h' l k
  | [], _, _ => rfl
  | v :: l, e, k => by
    simp only [viewsF]
    rw [viewF_congr (h' := h') (fun o ho => e o (by simp [AV.namesL, ho]))]
    congr 1
    funext v'
    exact viewsF_congr (fun o ho => e o (by simp [AV.namesL, ho])) _

theorem namesL_map {tm : List AV} {l : List Operand} {o : Nat} (h : o ∈ AV.namesL (l.map (evalV tm))) : ∃ x ∈ l, o ∈ (evalV tm x).names := by
  induction l with
  | nil => simp [AV.namesL] at h
  | cons x l ih =>
    simp only [List.map_cons, AV.namesL, List.mem_append] at h
    rcases h with h | h
    · exact ⟨x, by simp, h⟩
    · obtain ⟨y, h1, h2⟩ := ih h; exact ⟨y, by simp [h1], h2⟩

theorem pop_hcongr {E : Env} {tm : List AV} {hp hp' : Hp} (op : Op) (h : looksHp op = true → ∀ x ∈ op.operands.toList, ∀ o ∈ (evalV tm x).names, hlook hp o = hlook hp' o) (k : AV → Prop) : pop E op tm hp k = pop E op tm hp' k := by
  cases op with
  | load T x =>
    have hx := h rfl x (by simp [Op.operands])
    simp only [pop]
    generalize evalV tm x = v at hx
    cases v with
    | ptr o off =>
      have e := hx o (by simp [AV.names])
      simp only [hget_congr e]
    | oep o i =>
      have e := hx o (by simp [AV.names])
      simp only [hget_congr e]
    | _ => rfl
  | indexAddr T x i =>
    have hx := h rfl x (by simp [Op.operands])
    simp only [pop]
    generalize evalV tm x = v at hx
    generalize evalV tm i = u
    cases u <;> try rfl
    cases v with
    | own o =>
      have e := hx o (by simp [AV.names])
      simp only [hget_congr e]
    | _ => rfl
  | slice T x lo hi mx =>
    have hx := h rfl x (by simp [Op.operands])
    simp only [pop, listF_congr hx]
  | call c =>
    cases hc : c.callee with
    | invoke r m => simp only [pop, hc]
    | value f =>
      have hargs : ∀ o ∈ AV.namesL (c.args.toList.map (evalV tm)), hlook hp o = hlook hp' o := by
        intro o ho
        obtain ⟨x, h1, h2⟩ := namesL_map ho
        exact h rfl x (by simp [Op.operands, Call.operands] at h1 ⊢; exact .inr h1) o h2
      simp only [pop, hc, evs_eq, viewsF_congr hargs]
    | builtin b =>
      cases b with
      | len =>
        simp only [pop, hc]
        rcases e : c.args.toList with _ | ⟨x, _ | ⟨y, l⟩⟩ <;> try rfl
        have hx := h rfl x (by simp [Op.operands, Call.operands, hc, e])
        rcases c.argTypes.toList with _ | ⟨T, _ | ⟨T', l⟩⟩ <;> try rfl
        simp only
        generalize evalV tm x = v at hx
        cases v <;> simp only [listF_congr hx]
      | _ => simp only [pop, hc]
  | _ => rfl

end Go.Proofs.Ythakgbecpkfeoaa.Ev
