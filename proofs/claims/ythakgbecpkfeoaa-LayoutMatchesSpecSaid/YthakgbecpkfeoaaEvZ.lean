/- Regions of operations that write objects: where all who touch the same thing are bound, the order of the text stands for every order. -/
import Derived.Test.YthakgbecpkfeoaaEvY
set_option linter.unusedVariables false
set_option linter.unusedSimpArgs false
namespace Go.Proofs.Ythakgbecpkfeoaa.Ev

/-! ### Lookups -/
theorem hlook_mem {h : Hp} (hn : (h.map (·.1)).Nodup) {n : Nat} {x : AO} : hlook h n = some x ↔ (n, x) ∈ h := by
  induction h with
  | nil => simp [hlook]
  | cons p h ih =>
    obtain ⟨o, y⟩ := p
    simp only [List.map_cons, List.nodup_cons] at hn
    simp only [hlook]
    cases e : Nat.beq o n with
    | true =>
      obtain rfl := Nat.eq_of_beq_eq_true e
      simp only [Option.some.injEq, List.mem_cons, Prod.mk.injEq, true_and]
      constructor
      · intro h; exact .inl h.symm
      · rintro (h | h)
        · exact h.symm
        · exact absurd (List.mem_map.2 ⟨_, h, rfl⟩) hn.1
    | false =>
      have hne := Nat.ne_of_beq_eq_false e
      simp only [ih hn.2, List.mem_cons, Prod.mk.injEq]
      constructor
      · exact .inr
      · rintro (⟨rfl, _⟩ | h)
        · exact absurd rfl hne
        · exact h
theorem hlook_hput (h : Hp) (n : Nat) (x : AO) (m : Nat) : hlook (hput h n x) m = if n = m then some x else hlook h m := by
  induction h with
  | nil =>
    simp only [hput, hlook]
    cases e : Nat.beq n m with
    | true => simp [Nat.eq_of_beq_eq_true e]
    | false => simp [Nat.ne_of_beq_eq_false e]
  | cons p h ih =>
    obtain ⟨o, y⟩ := p
    simp only [hput]
    by_cases e : o = n
    · subst e
      simp only [if_true, hlook]
      cases e2 : Nat.beq o m with
      | true => simp [Nat.eq_of_beq_eq_true e2]
      | false => simp [Nat.ne_of_beq_eq_false e2]
    · simp only [e, if_false, hlook, ih]
      cases e2 : Nat.beq o m with
      | true =>
        have := Nat.eq_of_beq_eq_true e2
        subst this
        have : ¬ n = o := fun h => e h.symm
        simp [this]
      | false => rfl
theorem hlook_hputs (ws : List (Nat × AO)) : ∀ (h h' : Hp) (m : Nat), (m ∉ ws.map (·.1) → hlook (hputs h ws) m = hlook h m) ∧ (m ∈ ws.map (·.1) → hlook (hputs h ws) m = hlook (hputs h' ws) m) := by
  induction ws with
  | nil => intro h h' m; exact ⟨fun _ => rfl, fun hm => by simp at hm⟩
  | cons p ws ih =>
    obtain ⟨o, x⟩ := p
    intro h h' m
    simp only [hputs, List.map_cons, List.mem_cons, not_or]
    refine ⟨fun hm => ?_, fun hm => ?_⟩
    · rw [(ih _ h m).1 hm.2, hlook_hput]
      have : ¬ o = m := fun e => hm.1 e.symm
      simp [this]
    · by_cases hi : m ∈ ws.map (·.1)
      · exact (ih _ _ m).2 hi
      · rw [(ih _ h m).1 hi, (ih _ h m).1 hi, hlook_hput, hlook_hput]
        rcases hm with hm | hm
        · subst hm; simp
        · exact absurd hm hi

/-! ### What an operation does, and when it does the same -/
section mixed
variable {E : Env} {all : List Oper}

def DoesM (E : Env) (all : List Oper) (o : Oper) (tm : List AV) (hp : Hp) (v : AV) (ws : List (Nat × AO)) (f : Ft) : Prop :=
  guardF all o tm (fun tm' => eff E o tm' hp (Is v ws) ∧ f = ⟨rdOf tm' o.op, ws.map (·.1)⟩) (fun _ => v = .skp ∧ ws = [] ∧ f = ⟨[], []⟩)

theorem DoesM.wr {o : Oper} {tm : List AV} {hp : Hp} {v : AV} {ws : List (Nat × AO)} {f : Ft} (h : DoesM E all o tm hp v ws f) : f.wr = ws.map (·.1) := by
  rcases guardF_lin h with ⟨h, _⟩ | ⟨h, _⟩
  · rw [h.2]
  · rw [h.2.2, h.2.1]; rfl

theorem guardF_same {o : Oper} {tm tm' : List AV} (hl : ∀ s ∈ looks all o, getV tm s = getV tm' s) {yes no yes' no' : List AV → Prop} (hy : yes tm → yes' tm') (hn : no tm → no' tm') (h : guardF all o tm yes no) : guardF all o tm' yes' no' := by
  unfold guardF at h ⊢
  split at h
  · rename_i hg
    exact hy h
  · rename_i j want hg
    split at h
    · exact h.elim
    · rename_i d hd
      have hd' : getV tm d = getV tm' d := hl d (List.mem_append_left _ (by simp only [hg, hd]; simp))
      rw [hd'] at h
      split at h
      · rename_i b hb
        obtain ⟨hset', _⟩ := set_same hb (by simp)
        obtain ⟨hset, _⟩ := set_same (hd'.trans hb) (by simp)
        cases b <;> cases want <;> simp only [setF_eq, hset, hset'] at h ⊢ <;> first | exact hy h | exact hn h
      · rename_i hb
        exact hn h
      · exact h.elim

theorem looks_ops {o : Oper} {tm tm' : List AV} (hl : ∀ s ∈ looks all o, getV tm s = getV tm' s) : ∀ x ∈ o.op.operands.toList, evalV tm x = evalV tm' x := by
  intro x hx
  cases x with
  | tmp t =>
    refine hl t (List.mem_append_right _ ?_)
    have : ∀ l : List Operand, Operand.tmp t ∈ l → t ∈ opTmps l := by
      intro l
      induction l with
      | nil => simp
      | cons y l ih =>
        intro hm
        rcases List.mem_cons.1 hm with h1 | h1
        · subst h1; simp [opTmps]
        · have h2 := ih h1
          cases y <;> simp [opTmps, h2]
    exact this _ hx
  | _ => rfl

theorem DoesM.congr {o : Oper} {tm tm' : List AV} {hp hp' : Hp} {v : AV} {ws : List (Nat × AO)} {f : Ft} (h : DoesM E all o tm hp v ws f) (hl : ∀ s ∈ looks all o, getV tm s = getV tm' s)
    (hr : ∀ n ∈ f.rd, hlook hp n = hlook hp' n) (hw : ∀ n ∈ f.wr, hlook hp n = hlook hp' n) : DoesM E all o tm' hp' v ws f := by
  have hops := looks_ops hl
  refine guardF_same hl ?_ ?_ h
  · rintro ⟨h1, rfl⟩
    exact ⟨eff_congr hops hr hw h1, by unfold rdOf; rw [opNames_congr hops]⟩
  · exact fun h => h

theorem evM_cons {o : Oper} {l : List Oper} {tm : List AV} {hp : Hp} {k : List AV → Hp → List Ft → Prop} (h : evM E all (o :: l) tm hp k) :
    ∃ v ws f, DoesM E all o tm hp v ws f ∧ evM E all l (putL tm o.dst v) (hputs hp ws) fun tm hp fs => k tm hp (f :: fs) := by
  simp only [evM] at h
  rcases guardF_lin h with ⟨h1, h2⟩ | ⟨h1, h2⟩
  · obtain ⟨v, ws, h3, h4⟩ := lin_eff _ h1
    simp only [natsF_eq, putD_eq, hputsF_eq, keysOf_eq] at h3
    exact ⟨v, ws, _, h2 _ _ ⟨h4 _ ⟨rfl, rfl⟩, rfl⟩, h3⟩
  · rw [putD_eq] at h1
    exact ⟨.skp, [], _, h2 _ _ ⟨rfl, rfl, rfl⟩, h1⟩

abbrev F0 : Ft := ⟨[], []⟩
theorem evM_all : ∀ {l : List Oper} {tm : List AV} {hp : Hp} {k : List AV → Hp → List Ft → Prop}, evM E all l tm hp k → ∃ (vs : List AV) (wss : List (List (Nat × AO))) (fs : List Ft) (T : Nat → List AV) (H : Nat → Hp),
    T 0 = tm ∧ H 0 = hp ∧ k (T l.length) (H l.length) fs ∧ ∀ (j : Nat) (o : Oper), l[j]? = some o →
      DoesM E all o (T j) (H j) (vs.getD j .undef) (wss.getD j []) (fs.getD j F0) ∧ T (j + 1) = putL (T j) o.dst (vs.getD j .undef) ∧ H (j + 1) = hputs (H j) (wss.getD j [])
  | [], tm, hp, k, h => ⟨[], [], [], fun _ => tm, fun _ => hp, rfl, rfl, h, by simp⟩
  | o :: l, tm, hp, k, h => by
    obtain ⟨v, ws, f, hv, h⟩ := evM_cons h
    obtain ⟨vs, wss, fs, T, H, h1, h2, h3, h4⟩ := evM_all h
    refine ⟨v :: vs, ws :: wss, f :: fs, fun n => match n with | 0 => tm | n + 1 => T n, fun n => match n with | 0 => hp | n + 1 => H n, rfl, rfl, h3, ?_⟩
    intro j o' hj
    cases j with
    | zero => simp at hj; subst hj; exact ⟨by simpa using hv, by simpa using h1, by simpa using h2⟩
    | succ j => simpa using h4 j o' (by simpa using hj)

/-! ### Whom the edges lead back to -/
theorem getN_lt {l : List (List Nat)} {n x : Nat} (h : x ∈ getN l n) : n < l.length := by
  induction l generalizing n with
  | nil => simp [getN] at h
  | cons y l ih => cases n <;> simp [getN] at h ⊢; exact ih h
theorem getN_app {l m : List (List Nat)} {n : Nat} (h : n < l.length) : getN (l ++ m) n = getN l n := by
  induction l generalizing n with
  | nil => simp at h
  | cons y l ih => cases n <;> simp [getN] at h ⊢; exact ih h
theorem getN_len {l m : List (List Nat)} {a : List Nat} : getN (l ++ a :: m) l.length = a := by
  induction l with
  | nil => rfl
  | cons y l ih => simpa [getN] using ih
theorem addN_mem {n x : Nat} {l : List Nat} : x ∈ addN n l → x = n ∨ x ∈ l := by
  unfold addN
  split
  · exact .inr
  · simp
theorem addNs_mem {x : Nat} : ∀ {m l : List Nat}, x ∈ addNs m l → x ∈ m ∨ x ∈ l
  | [], l, h => .inr h
  | y :: m, l, h => by
    simp only [addNs] at h
    rcases addNs_mem h with h | h
    · exact .inl (by simp [h])
    · rcases addN_mem h with h | h
      · exact .inl (by simp [h])
      · exact .inr h
theorem ancOf_mem {done : List (List Nat)} {x : Nat} : ∀ {l : List Edge}, x ∈ ancOf done l → ∃ e ∈ l, Region.binds .any e = true ∧ (x = e.on ∨ x ∈ getN done e.on)
  | [], h => by simp [ancOf] at h
  | e :: l, h => by
    simp only [ancOf] at h
    split at h
    · rename_i hb
      rcases addN_mem h with h | h
      · exact ⟨e, by simp, hb, .inl h⟩
      · rcases addNs_mem h with h | h
        · exact ⟨e, by simp, hb, .inr h⟩
        · obtain ⟨e', h1, h2⟩ := ancOf_mem h; exact ⟨e', by simp [h1], h2⟩
    · obtain ⟨e', h1, h2⟩ := ancOf_mem h; exact ⟨e', by simp [h1], h2⟩
theorem ancs_mem : ∀ {l : List Oper} {done : List (List Nat)}, (∃ m, ancs done l = done ++ m) ∧ ∀ (j : Nat) (o : Oper), l[j]? = some o → ∀ x ∈ getN (ancs done l) (done.length + j),
    ∃ e ∈ o.after.toList, Region.binds .any e = true ∧ (x = e.on ∨ x ∈ getN (ancs done l) e.on)
  | [], done => ⟨⟨[], by simp [ancs]⟩, by simp⟩
  | o :: l, done => by
    obtain ⟨⟨m, hm⟩, ih⟩ := ancs_mem (l := l) (done := done ++ [ancOf done o.after.toList])
    simp only [ancs]
    refine ⟨⟨_, by rw [hm, List.append_assoc]⟩, ?_⟩
    intro j o' hj x hx
    cases j with
    | zero =>
      simp only [List.getElem?_cons_zero, Option.some.injEq] at hj
      subst hj
      rw [hm] at hx ⊢
      simp only [Nat.add_zero, List.append_assoc, List.singleton_append] at hx ⊢
      rw [getN_len] at hx
      obtain ⟨e, h1, h2, h3⟩ := ancOf_mem hx
      refine ⟨e, h1, h2, ?_⟩
      rcases h3 with h3 | h3
      · exact .inl h3
      · refine .inr ?_
        rw [getN_app (getN_lt h3)]
        exact h3
    | succ j =>
      refine ih j o' (by simpa using hj) x ?_
      rw [show (done ++ [ancOf done o.after.toList]).length + j = done.length + (j + 1) by simp; omega]
      exact hx

structure Mixed (all : List Oper) (n : Nat) (fs : List Ft) : Prop where
  self : ∀ (i : Nat) (o : Oper), i < n → all[i]? = some o → ∀ d, o.dst = some d → d ∉ looks all o
  back : ∀ (i : Nat) (o : Oper), all[i]? = some o → ∀ e ∈ o.after.toList, Region.binds .any e = true → e.on < i
  dsts : ∀ (i j d : Nat), dstOf all i = some d → dstOf all j = some d → i = j
  conf : ∀ (i : Nat) (o : Oper) (j : Nat) (p : Oper), i < n → all[i]? = some o → all[j]? = some p → j < i →
    (∃ d, p.dst = some d ∧ d ∈ looks all o) ∨ (∃ d, o.dst = some d ∧ d ∈ looks all p) ∨ (∃ n, n ∈ (fs.getD j F0).wr ∧ (n ∈ (fs.getD i F0).rd ∨ n ∈ (fs.getD i F0).wr)) ∨ (∃ n, n ∈ (fs.getD j F0).rd ∧ n ∈ (fs.getD i F0).wr) →
    j ∈ getN (ancs [] all) i
  tail : ∀ (i : Nat), n ≤ i → i < all.length → ∀ j, j < i → j ∈ getN (ancs [] all) i
  size : n ≤ all.length

theorem anyIn_iff {l m : List Nat} {n : Nat} (h1 : n ∈ l) (h2 : n ∈ m) : anyIn l m = true := by
  induction m with
  | nil => simp at h2
  | cons x m ih =>
    simp only [anyIn]
    rcases List.mem_cons.1 h2 with rfl | h2
    · rw [(memN_iff l n).2 h1]
    · rw [ih h2]; split <;> rfl
theorem rowM_of {i : Nat} {o : Oper} {f : Ft} {A : List Nat} : ∀ {l : List Oper} {gs : List Ft} {j : Nat}, rowM all i o f A j l gs = true → ∀ (m : Nat) (p : Oper), l[m]? = some p → j + m < i →
    optNe o.dst p.dst = true ∧ (confM all o p f (gs.getD m F0) = true → j + m ∈ A)
  | [], [], j, h, m, p, hm, hlt => by simp at hm
  | [], _ :: _, j, h, m, p, hm, hlt => by simp at hm
  | _ :: _, [], j, h, m, p, hm, hlt => by simp [rowM] at h
  | q :: l, g :: gs, j, h, m, p, hm, hlt => by
    simp only [rowM, Bool.and_eq_true] at h
    cases m with
    | zero =>
      simp only [List.getElem?_cons_zero, Option.some.injEq] at hm
      subst hm
      simp only [Nat.add_zero] at hlt ⊢
      have hb : Nat.blt j i = true := by rw [Nat.blt_eq]; exact hlt
      rw [hb] at h
      simp only [Bool.and_eq_true, Bool.or_eq_true, Bool.not_eq_true'] at h
      refine ⟨h.1.1, fun hc => ?_⟩
      simp only [List.getD_cons_zero] at hc
      rcases h.1.2 with h2 | h2
      · rw [hc] at h2; simp at h2
      · exact (memN_iff _ _).1 h2
    | succ m =>
      have := rowM_of h.2 m p (by simpa using hm) (by omega)
      rw [show j + 1 + m = j + (m + 1) by omega] at this
      simpa using this
theorem rowsM_of {front : List Oper} {fs : List Ft} {acs : List (List Nat)} : ∀ {l : List Oper} {gs : List Ft} {i : Nat}, rowsM all front fs acs i l gs = true → ∀ (m : Nat) (o : Oper), l[m]? = some o →
    rowM all (i + m) o (gs.getD m F0) (getN acs (i + m)) 0 front fs = true ∧ optIn (looks all o) o.dst = false
  | [], [], i, h, m, o, hm => by simp at hm
  | [], _ :: _, i, h, m, o, hm => by simp at hm
  | _ :: _, [], i, h, m, o, hm => by simp [rowsM] at h
  | q :: l, g :: gs, i, h, m, o, hm => by
    simp only [rowsM, Bool.and_eq_true, Bool.not_eq_true'] at h
    cases m with
    | zero =>
      simp only [List.getElem?_cons_zero, Option.some.injEq] at hm
      subst hm
      exact ⟨h.1.1, h.1.2⟩
    | succ m =>
      have := rowsM_of h.2 m o (by simpa using hm)
      rw [show i + 1 + m = i + (m + 1) by omega] at this
      simpa using this
theorem belowB_of {A : List Nat} : ∀ {n : Nat}, belowB n A = true → ∀ j, j < n → j ∈ A
  | 0, _, j, hj => by omega
  | n + 1, h, j, hj => by
    simp only [belowB] at h
    split at h
    · rename_i hm
      by_cases e : j = n
      · subst e; exact (memN_iff _ _).1 hm
      · exact belowB_of h j (by omega)
    · simp at h
theorem tailB_of {acs : List (List Nat)} {n : Nat} : ∀ {l : List Oper} {i : Nat}, tailB acs n i l = true → ∀ (m : Nat) (o : Oper), l[m]? = some o → (n ≤ i + m → ∀ j, j < i + m → j ∈ getN acs (i + m)) ∧ edgesBack (i + m) o.after.toList = true
  | [], i, h, m, o, hm => by simp at hm
  | q :: l, i, h, m, o, hm => by
    simp only [tailB, Bool.and_eq_true] at h
    cases m with
    | zero =>
      simp only [List.getElem?_cons_zero, Option.some.injEq] at hm
      subst hm
      simp only [Nat.add_zero]
      refine ⟨fun hn j hj => ?_, h.1.2⟩
      have h1 := h.1.1
      have hb : Nat.blt i n = false := by
        cases e : Nat.blt i n with
        | false => rfl
        | true => rw [Nat.blt_eq] at e; omega
      rw [hb] at h1
      exact belowB_of h1 j hj
    | succ m =>
      have := tailB_of h.2 m o (by simpa using hm)
      rw [show i + 1 + m = i + (m + 1) by omega] at this
      exact this
theorem dstsC_of {d : Nat} : ∀ {l : List Oper}, dstsB.dstsC (some d) l = true → ∀ (m : Nat) (o : Oper), l[m]? = some o → o.dst ≠ some d
  | [], h, m, o, hm => by simp at hm
  | q :: l, h, m, o, hm => by
    simp only [dstsB.dstsC, Bool.and_eq_true] at h
    cases m with
    | zero =>
      simp only [List.getElem?_cons_zero, Option.some.injEq] at hm
      subst hm
      intro e
      rw [e] at h
      simp [optNe] at h
    | succ m => exact dstsC_of h.2 m o (by simpa using hm)
theorem dstsB_of : ∀ {l : List Oper}, dstsB all l = true → ∀ (i j d : Nat), dstOf l i = some d → dstOf l j = some d → i = j
  | [], h, i, j, d, hi, hj => by simp [dstOf] at hi
  | q :: l, h, i, j, d, hi, hj => by
    simp only [dstsB, Bool.and_eq_true] at h
    have key : ∀ j, q.dst = some d → dstOf l j = some d → False := by
      intro j hq hj
      rw [hq] at h
      rw [dstOf_eq] at hj
      cases e : l[j]? with
      | none => rw [e] at hj; simp at hj
      | some p => rw [e] at hj; exact dstsC_of h.1 j p e (by simpa using hj)
    cases i with
    | zero =>
      cases j with
      | zero => rfl
      | succ j => exact (key j (by simpa [dstOf] using hi) (by simpa [dstOf] using hj)).elim
    | succ i =>
      cases j with
      | zero => exact (key i (by simpa [dstOf] using hj) (by simpa [dstOf] using hi)).elim
      | succ j => rw [dstsB_of h.2 i j d (by simpa [dstOf] using hi) (by simpa [dstOf] using hj)]

theorem Mixed.of {n : Nat} {fs : List Ft} (h : fitsM all n fs = true) : Mixed all n fs := by
  unfold fitsM at h
  simp only [Bool.and_eq_true] at h
  obtain ⟨⟨⟨hrows, htail⟩, hdsts⟩, hsize⟩ := h
  have hsize := Nat.le_of_ble_eq_true hsize
  have hf : ∀ (i : Nat) (o : Oper), i < n → all[i]? = some o → (all.take n)[i]? = some o := fun i o hi ho => by rw [List.getElem?_take, if_pos hi]; exact ho
  have hr : ∀ (i : Nat) (o : Oper), i < n → all[i]? = some o → rowM all i o (fs.getD i F0) (getN (ancs [] all) i) 0 (all.take n) fs = true ∧ optIn (looks all o) o.dst = false := by
    intro i o hi ho
    have := rowsM_of hrows i o (hf i o hi ho)
    simpa using this
  have ht : ∀ (i : Nat) (o : Oper), all[i]? = some o → (n ≤ i → ∀ j, j < i → j ∈ getN (ancs [] all) i) ∧ edgesBack i o.after.toList = true := by
    intro i o ho
    have := tailB_of htail i o ho
    simpa using this
  refine ⟨fun i o hin hi d hd hm => ?_, fun i o hi => edgesBack_of (ht i o hi).2, dstsB_of hdsts, fun i o j p hin hi hj hlt hc => ?_, fun i hni hil => (ht i all[i] (List.getElem?_eq_getElem hil)).1 hni, hsize⟩
  · have := (hr i o hin hi).2
    rw [hd] at this
    simp only [optIn] at this
    rw [(memN_iff _ _).2 hm] at this
    simp at this
  · have := (rowM_of (hr i o hin hi).1 j p (hf j p (by omega) hj) (by simpa using hlt)).2
    simp only [Nat.zero_add] at this
    refine this ?_
    unfold confM
    simp only [Bool.or_eq_true]
    rcases hc with ⟨d, h1, h2⟩ | ⟨d, h1, h2⟩ | ⟨n, h1, h2 | h2⟩ | ⟨n, h1, h2⟩
    · exact .inl (.inl (.inl (.inl (by rw [h1]; exact (memN_iff _ _).2 h2))))
    · exact .inl (.inl (.inl (.inr (by rw [h1]; exact (memN_iff _ _).2 h2))))
    · exact .inl (.inl (.inr (anyIn_iff h1 h2)))
    · exact .inl (.inr (anyIn_iff h1 h2))
    · exact .inr (anyIn_iff h1 h2)

/-- Whatever is listed, all that its edges lead back to is listed. -/
theorem Mixed.listed {n : Nat} {fs : List Ft} (h : Mixed all n fs) {L : Nat → Prop} (hL : ∀ (i : Nat) (o : Oper), L i → all[i]? = some o → ∀ e ∈ o.after.toList, Region.binds .any e = true → L e.on) :
    ∀ (m i : Nat) (o : Oper), i ≤ m → all[i]? = some o → (∀ e ∈ o.after.toList, Region.binds .any e = true → L e.on) → ∀ j ∈ getN (ancs [] all) i, L j := by
  intro m
  induction m with
  | zero =>
    intro i o him ho hr j hj
    have := (ancs_mem (l := all) (done := [])).2 i o ho j (by simpa using hj)
    obtain ⟨e, h1, h2, h3⟩ := this
    have := h.back i o ho e h1 h2
    omega
  | succ m ih =>
    intro i o him ho hr j hj
    obtain ⟨e, h1, h2, h3⟩ := (ancs_mem (l := all) (done := [])).2 i o ho j (by simpa using hj)
    have hlt := h.back i o ho e h1 h2
    rcases h3 with h3 | h3
    · rw [h3]; exact hr e h1 h2
    · have hon := hr e h1 h2
      cases eo : all[e.on]? with
      | none =>
        have h4 := List.getElem?_eq_none_iff.1 eo
        have h5 := (List.getElem?_eq_some_iff.1 ho).1
        omega
      | some p => exact ih e.on p (by omega) eo (hL e.on p hon eo) j h3

end mixed

theorem Inv.perm {X : XR} {w0 : World} {β : Nat → Option Value} {S : Nat → Prop} {tm : List AV} {hp hp' : Hp} {a : Act} {w : World} (h : Inv X w0 β S tm hp a w) (hn : (hp'.map (·.1)).Nodup) (he : ∀ n, hlook hp n = hlook hp' n) :
    Inv X w0 β S tm hp' a w := by
  have hm : ∀ n x, (n, x) ∈ hp' ↔ (n, x) ∈ hp := fun n x => by rw [← hlook_mem hn, ← he, hlook_mem h.nodup]
  exact { h with
    box := fun o cs ho => h.box o cs ((hm _ _).1 ho)
    arr := fun o τ xs ho => h.arr o τ xs ((hm _ _).1 ho)
    live := fun o v hv => by obtain ⟨x, hx⟩ := h.live o v hv; exact ⟨x, (hm _ _).2 hx⟩
    nodup := hn }
theorem hputs_nodup {h : Hp} (hn : (h.map (·.1)).Nodup) (ws : List (Nat × AO)) : ((hputs h ws).map (·.1)).Nodup := by
  induction ws generalizing h with
  | nil => exact hn
  | cons p ws ih => obtain ⟨o, x⟩ := p; exact ih (hput_nodup hn o x)

section main
variable {P : Program} {E : Env} {X : XR} {w0 : World} {β : Nat → Option Value} {S : Nat → Prop} {tm : List AV} {hp : Hp} {a : Act} {w : World}
variable {ops : Array Oper} {Q : Exit → Act → World → Prop} {k : List AV → Hp → Prop}

theorem doesM_wp (hE : EnvOK P E) (hM : ∀ o ∈ ops.toList, MoreOK P o) {i : Nat} {o : Oper} (ho : ops[i]? = some o) {K : Act → World → Prop} (hI : Inv X w0 β S tm hp a w) {v : AV} {ws : List (Nat × AO)} {f : Ft} (h : DoesM E ops.toList o tm hp v ws f)
    (hK : ∀ β' S' a' w', Inv X w0 β' S' (putL tm o.dst v) (hputs hp ws) a' w' → K a' w') : wpOp P ops Q i K a w := by
  have hm : MoreOK P o := hM o (List.mem_of_getElem? (by rw [Array.getElem?_toList]; exact ho))
  unfold wpOp
  simp only [ho]
  rcases guardF_of hI.rel h with ⟨hw, h⟩ | ⟨hw, h⟩
  · rw [if_pos hw]
    refine .inl (step_wp (kp := fun _ _ _ => False) hE hm hI ?_ (fun _ _ _ _ _ _ _ _ h => h.elim) (eff_step h.1))
    rintro β' S' tm' hp' a' w' ⟨v', ws', ⟨rfl, rfl⟩, rfl, rfl⟩ hI'
    exact hK _ _ _ _ hI'
  · rw [if_neg (by simp [hw])]
    obtain ⟨rfl, rfl, _⟩ := h
    exact hK β S _ _ (hI.put (v := .skp) (u := undef) rfl o.dst)

/-- Objects, when some operations have been performed: each is as the text has it somewhere between its writers. -/
def Objs (n : Nat) (fs : List Ft) (H : Nat → Hp) (L : Nat → Bool) (hp : Hp) : Prop :=
  ∀ x, ∃ m, m ≤ n ∧ (∀ j, j < n → x ∈ (fs.getD j F0).wr → (L j = true ↔ j < m)) ∧ hlook hp x = hlook (H m) x

theorem steady {n : Nat} {fs : List Ft} {H : Nat → Hp} {wss : List (List (Nat × AO))} (hH : ∀ j, j < n → H (j + 1) = hputs (H j) (wss.getD j [])) (hw : ∀ j, j < n → (fs.getD j F0).wr = (wss.getD j []).map (·.1)) {x : Nat} {m : Nat} :
    ∀ (d : Nat), m + d ≤ n → (∀ j, m ≤ j → j < m + d → x ∉ (fs.getD j F0).wr) → hlook (H (m + d)) x = hlook (H m) x := by
  intro d
  induction d with
  | zero => intro _ _; rfl
  | succ d ih =>
    intro h1 h2
    rw [← ih (by omega) (fun j h3 h4 => h2 j h3 (by omega))]
    rw [show m + (d + 1) = (m + d) + 1 by omega, hH (m + d) (by omega)]
    refine (hlook_hputs _ (H (m + d)) (H (m + d)) x).1 ?_
    rw [← hw (m + d) (by omega)]
    exact h2 (m + d) (by omega) (by omega)

theorem mixed_wp (hE : EnvOK P E) (hM : ∀ o ∈ ops.toList, MoreOK P o) {fs : List Ft} {nf : Nat} (hq : Mixed ops.toList nf fs) {vs : List AV} {wss : List (List (Nat × AO))} {tm0 : List AV} {T : Nat → List AV} {H : Nat → Hp}
    (hT : ∀ i, i ≤ nf → Agree ops.toList (fun j => vs.getD j .undef) tm0 (fun j => decide (j < i)) (T i)) (hH : ∀ j, j < nf → H (j + 1) = hputs (H j) (wss.getD j [])) (hHn : ((H nf).map (·.1)).Nodup)
    (hD : ∀ i o, i < nf → ops[i]? = some o → DoesM E ops.toList o (T i) (H i) (vs.getD i .undef) (wss.getD i []) (fs.getD i F0)) (hK : ∀ (listed : Array Bool) β' S' a' w', listed.size = ops.size → (∀ j, j < ops.size → listed[j]? = some (decide (j < nf))) → Inv X w0 β' S' (T nf) (H nf) a' w' → wpAny P .any ops Q (ops.size - nf) listed a' w') :
    ∀ (n : Nat) (listed : Array Bool), listed.size = ops.size → listed.toList.count false = n → (∀ (i : Nat) (o : Oper), listed[i]? = some true → ops[i]? = some o → ∀ e ∈ o.after.toList, Region.binds .any e = true → listed[e.on]? = some true) → (∀ i, nf ≤ i → listed[i]? ≠ some true) →
      ∀ (β : Nat → Option Value) (S : Nat → Prop) (tm : List AV) (hp : Hp) (a : Act) (w : World), Agree ops.toList (fun j => vs.getD j .undef) tm0 (fun j => listed.getD j false) tm → Objs nf fs H (fun j => listed.getD j false) hp → Inv X w0 β S tm hp a w → wpAny P .any ops Q n listed a w := by
  have hnf : nf ≤ ops.size := by have := hq.size; simpa using this
  have hw : ∀ j, j < nf → (fs.getD j F0).wr = (wss.getD j []).map (·.1) := fun j hj => (hD j ops[j] hj (by simp [show j < ops.size by omega])).wr
  have cnt : ∀ (l : List Bool) (k : Nat), k ≤ l.length → (∀ j, j < l.length → l[j]? = some (decide (j < k))) → l.count false = l.length - k := by
    intro l
    induction l with
    | nil => intro k _ _; simp
    | cons b l ih =>
      intro k hk h
      have h0 := h 0 (by simp)
      simp only [List.getElem?_cons_zero, Option.some.injEq] at h0
      cases k with
      | zero =>
        have := ih 0 (by omega) (fun j hj => by have := h (j + 1) (by simpa using hj); simpa using this)
        simp only [Nat.lt_irrefl, decide_false] at h0
        subst h0
        simp [this]
      | succ k =>
        have := ih k (by simpa using hk) (fun j hj => by have := h (j + 1) (by simpa using hj); simpa using this)
        simp only [Nat.zero_lt_succ, decide_true] at h0
        subst h0
        simp [this]
  have fin : ∀ (n : Nat) (listed : Array Bool), listed.size = ops.size → listed.toList.count false = n → (∀ i, nf ≤ i → listed[i]? ≠ some true) → (∀ i, i < nf → listed[i]? = some true) → ∀ (β : Nat → Option Value) (S : Nat → Prop) (tm : List AV) (hp : Hp) (a : Act) (w : World), Agree ops.toList (fun j => vs.getD j .undef) tm0 (fun j => listed.getD j false) tm → Objs nf fs H (fun j => listed.getD j false) hp → Inv X w0 β S tm hp a w → wpAny P .any ops Q n listed a w := by
    intro n listed hs hc hback hfront β S tm hp a w hA hO hI
    have hA2 := hT nf (Nat.le_refl _)
    have hex : ∀ j, j < ops.size → listed[j]? = some (decide (j < nf)) := by
      intro j hj
      by_cases hjn : j < nf
      · rw [hfront j hjn]; simp [hjn]
      · have := hback j (by omega)
        rw [Array.getElem?_eq_getElem (by omega)] at this ⊢
        simp only [ne_eq, Option.some.injEq, Bool.not_eq_true] at this
        rw [this]
        simp [hjn]
    have hn : n = ops.size - nf := by
      have := cnt listed.toList nf (by simp [hs, hnf]) (fun j hj => by rw [Array.getElem?_toList]; exact hex j (by simpa [hs] using hj))
      rw [hc] at this
      simpa [hs] using this
    have hget : ∀ i, i < ops.size → listed.getD i false = decide (i < nf) := fun i hi => by
      simp [Array.getD_eq_getD_getElem?, hex i hi]
    have hA1 : Agree ops.toList (fun j => vs.getD j .undef) tm0 (fun j => decide (j < nf)) tm := hA.ext fun i hi => by
      simp only [Array.length_toList] at hi
      exact hget i hi
    have : tm = T nf := by
      refine List.ext_getElem (hA1.len.trans hA2.len.symm) fun s h1 h2 => ?_
      have hget : tm.getD s .undef = (T nf).getD s .undef := by
        by_cases hex : ∃ i, decide (i < nf) = true ∧ dstOf ops.toList i = some s
        · obtain ⟨i, hi, hd⟩ := hex
          rw [hA1.on i s hi hd (by rw [← hA1.len]; exact h1), hA2.on i s hi hd (by rw [← hA1.len]; exact h1)]
        · have hno : ∀ i, decide (i < nf) = true → dstOf ops.toList i ≠ some s := fun i h1 h2 => hex ⟨i, h1, h2⟩
          rw [hA1.off s hno, hA2.off s hno]
      simpa [List.getD_eq_getElem?_getD, h1, h2] using hget
    rw [this] at hI
    subst hn
    refine hK listed β S a w hs hex (hI.perm hHn fun x => ?_)
    obtain ⟨m, h1, h2, h3⟩ := hO x
    rw [h3]
    have := steady hH hw (x := x) (m := m) (nf - m) (by omega) (fun j h4 h5 h6 => by
      have := (h2 j (by omega) h6).1 (by show listed.getD j false = true; rw [hget j (by omega)]; simp; omega)
      omega)
    rw [show m + (nf - m) = nf by omega] at this
    exact this.symm
  intro n
  induction n with
  | zero =>
    intro listed hs hc hcl hback β S tm hp a w hA hO hI
    refine fin 0 listed hs hc hback (fun i hi => ?_) β S tm hp a w hA hO hI
    have := all_true hc i (by simp [hs]; omega)
    rwa [Array.getElem?_toList] at this
  | succ n ih =>
    intro listed hs hc hcl hback β S tm hp a w hA hO hI
    by_cases hfront : ∀ i, i < nf → listed[i]? = some true
    · exact fin (n + 1) listed hs hc hback hfront β S tm hp a w hA hO hI
    have hsome : ∃ i, i < nf ∧ listed[i]? = some false := by
      refine Classical.byContradiction fun hno => hfront fun i hi => ?_
      rw [Array.getElem?_eq_getElem (by omega)]
      cases e : listed[i]'(by omega) with
      | true => rfl
      | false => exact (hno ⟨i, hi, by rw [Array.getElem?_eq_getElem (by omega), e]⟩).elim
    refine ⟨fun hnil => ?_, fun i hi => ?_⟩
    · -- some operation of the front is still to come, and the first such one is ready
      exfalso
      have key : ∀ m i, i ≤ m → i < ops.size → listed[i]? = some false → False := by
        intro m
        induction m with
        | zero =>
          intro i him hi hf
          obtain rfl : i = 0 := by omega
          have ho : ops[0]? = some ops[0] := by simp [hi]
          have : 0 ∈ Region.ready .any ops listed := (ready_iff hs 0).2 ⟨_, ho, by
            unfold isReady
            rw [getB_eq, List.getD_eq_getElem?_getD, Array.getElem?_toList, hf]
            simp only [Option.getD_some]
            rw [edgesOk_eq, List.all_eq_true]
            intro e he
            cases hb : Region.binds .any e with
            | false => rfl
            | true => exact absurd (hq.back 0 _ (by rw [Array.getElem?_toList]; exact ho) e he hb) (by omega)⟩
          rw [hnil] at this
          simp at this
        | succ m ihm =>
          intro i him hi hf
          by_cases hlt : i ≤ m
          · exact ihm i hlt hi hf
          · have ho : ops[i]? = some ops[i] := by simp [hi]
            have : i ∈ Region.ready .any ops listed := (ready_iff hs i).2 ⟨_, ho, by
              unfold isReady
              rw [getB_eq, List.getD_eq_getElem?_getD, Array.getElem?_toList, hf]
              simp only [Option.getD_some]
              rw [edgesOk_eq, List.all_eq_true]
              intro e he
              cases hb : Region.binds .any e with
              | false => rfl
              | true =>
                have hon := hq.back i _ (by rw [Array.getElem?_toList]; exact ho) e he hb
                rw [Array.getD_eq_getD_getElem?]
                cases hl : listed[e.on]? with
                | none => rw [Array.getElem?_eq_none_iff] at hl; omega
                | some b =>
                  cases b with
                  | true => rfl
                  | false => exact (ihm e.on (by omega) (by omega) hl).elim⟩
            rw [hnil] at this
            simp at this
      obtain ⟨i, hi, hf⟩ := hsome
      exact key i i (Nat.le_refl _) (by omega) hf
    · obtain ⟨o, ho, hr⟩ := (ready_iff hs i).1 hi
      have hlts := (Array.getElem?_eq_some_iff.1 ho).1
      have hol : ops.toList[i]? = some o := by rw [Array.getElem?_toList]; exact ho
      have hil : listed[i]? = some false := by
        unfold isReady at hr
        split at hr
        · simp at hr
        · rename_i hb
          rw [getB_eq, List.getD_eq_getElem?_getD, Array.getElem?_toList] at hb
          rw [Array.getElem?_eq_getElem (by omega)] at hb ⊢
          simpa using hb
      have hre : ∀ e ∈ o.after.toList, Region.binds .any e = true → listed[e.on]? = some true := by
        intro e he hb
        unfold isReady at hr
        split at hr
        · simp at hr
        · rw [edgesOk_eq, List.all_eq_true] at hr
          have := hr e he
          rw [hb] at this
          simp only [Bool.not_true, Bool.false_or] at this
          rw [Array.getD_eq_getD_getElem?] at this
          cases hl : listed[e.on]? with
          | none => rw [hl] at this; simp at this
          | some b => rw [hl] at this; simp at this; rw [this]
      have hclL : ∀ (j : Nat) (p : Oper), (fun j => listed[j]? = some true) j → ops.toList[j]? = some p → ∀ e ∈ p.after.toList, Region.binds .any e = true → (fun j => listed[j]? = some true) e.on := by
        intro j p hj hp' e he hb
        exact hcl j p hj (by rw [← Array.getElem?_toList]; exact hp') e he hb
      have hlt : i < nf := by
        refine Classical.byContradiction fun hge => ?_
        obtain ⟨j, hj, hf⟩ := hsome
        have : listed[j]? = some true := hq.listed hclL i i o (Nat.le_refl _) hol hre j (hq.tail i (by omega) (by simpa using hlts) j (by omega))
        rw [hf] at this
        simp at this
      -- what is bound before operation i is listed; what operation i is bound before is not
      have pre : ∀ j, j ∈ getN (ancs [] ops.toList) i → listed.getD j false = true := by
        intro j hj
        have : listed[j]? = some true := hq.listed hclL i i o (Nat.le_refl _) hol hre j hj
        simp [Array.getD_eq_getD_getElem?, this]
      have post : ∀ j p, ops.toList[j]? = some p → i ∈ getN (ancs [] ops.toList) j → listed.getD j false = false := by
        intro j p hj hm
        cases hl : listed[j]? with
        | none => simp [Array.getD_eq_getD_getElem?, hl]
        | some b =>
          cases b with
          | false => simp [Array.getD_eq_getD_getElem?, hl]
          | true =>
            have : listed[i]? = some true := hq.listed hclL j j p (Nat.le_refl _) hj (hclL j p hl hj) i hm
            rw [hil] at this
            simp at this
      have hLi : (listed.getD i false) = false := by rw [Array.getD_eq_getD_getElem?, hil]; rfl
      have hAt := hT i (by omega)
      have hlooks : ∀ s ∈ looks ops.toList o, getV (T i) s = getV tm s := by
        intro s hsl
        rw [getV_eq, getV_eq]
        by_cases hex : ∃ j, dstOf ops.toList j = some s
        · obtain ⟨j, hj⟩ := hex
          have hjd := hj
          rw [dstOf_eq] at hjd
          cases ej : ops.toList[j]? with
          | none => rw [ej] at hjd; simp at hjd
          | some p =>
            rw [ej] at hjd
            simp only [Option.bind_some] at hjd
            rcases Nat.lt_trichotomy j i with hji | hji | hji
            · have hl := pre j (hq.conf i o j p hlt hol ej hji (.inl ⟨s, hjd, hsl⟩))
              by_cases hslt : s < tm0.length
              · rw [hAt.on j s (by simpa using hji) hj hslt, hA.on j s hl hj hslt]
              · have e1 : (T i).getD s .undef = .undef := by rw [List.getD_eq_getElem?_getD, List.getElem?_eq_none (by rw [hAt.len]; omega)]; rfl
                have e2 : tm.getD s .undef = .undef := by rw [List.getD_eq_getElem?_getD, List.getElem?_eq_none (by rw [hA.len]; omega)]; rfl
                rw [e1, e2]
            · subst hji
              rw [hol] at ej
              obtain rfl : o = p := by simpa using ej
              exact absurd hsl (hq.self j o hlt hol s hjd)
            · have hjn : listed.getD j false = false := by
                by_cases hjf : j < nf
                · exact post j p ej (hq.conf j p i o hjf ej hol hji (.inr (.inl ⟨s, hjd, hsl⟩)))
                · have := hback j (by omega)
                  cases hl : listed[j]? with
                  | none => simp [Array.getD_eq_getD_getElem?, hl]
                  | some b => cases b with
                    | false => simp [Array.getD_eq_getD_getElem?, hl]
                    | true => exact absurd hl this
              have uniq : ∀ j', dstOf ops.toList j' = some s → j' = j := fun j' h' => hq.dsts j' j s h' hj
              rw [hAt.off s (fun j' h1 h2 => by rw [uniq j' h2] at h1; simp at h1; omega), hA.off s (fun j' h1 h2 => by rw [uniq j' h2, hjn] at h1; simp at h1)]
        · have hno : ∀ j, dstOf ops.toList j ≠ some s := fun j hj => hex ⟨j, hj⟩
          rw [hAt.off s (fun j _ => hno j), hA.off s (fun j _ => hno j)]
      -- the writers of what operation i touches: those before it are listed, those behind it are not
      have touch : ∀ x, x ∈ (fs.getD i F0).rd ∨ x ∈ (fs.getD i F0).wr → ∀ j, j < nf → x ∈ (fs.getD j F0).wr → (listed.getD j false = true ↔ j < i) := by
        intro x hx j hj hxj
        have ej : ops.toList[j]? = some (ops[j]'(by omega)) := by rw [Array.getElem?_toList]; simp [show j < ops.size by omega]
        rcases Nat.lt_trichotomy j i with hji | hji | hji
        · have := pre j (hq.conf i o j _ hlt hol ej hji (.inr (.inr (.inl ⟨x, hxj, hx⟩))))
          simp [this, hji]
        · subst hji; simp [hLi]
        · have : listed.getD j false = false := by
            refine post j _ ej (hq.conf j _ i o hj ej hol hji ?_)
            rcases hx with hx | hx
            · exact .inr (.inr (.inr ⟨x, hx, hxj⟩))
            · exact .inr (.inr (.inl ⟨x, hx, .inr hxj⟩))
          simp [this]; omega
      have hobj : ∀ x, x ∈ (fs.getD i F0).rd ∨ x ∈ (fs.getD i F0).wr → hlook (H i) x = hlook hp x := by
        intro x hx
        obtain ⟨m, h1, h2, h3⟩ := hO x
        rw [h3]
        have ht := touch x hx
        rcases Nat.le_total m i with hmi | him
        · have := steady hH hw (x := x) (m := m) (i - m) (by omega) (fun j h4 h5 h6 => by
            have h7 := (ht j (by omega) h6).2 (by omega)
            have h8 := (h2 j (by omega) h6).1 h7
            omega)
          rw [show m + (i - m) = i by omega] at this
          exact this
        · have := steady hH hw (x := x) (m := i) (m - i) (by omega) (fun j h4 h5 h6 => by
            have h7 := (h2 j (by omega) h6).2 (by omega)
            have h8 := (ht j (by omega) h6).1 h7
            omega)
          rw [show i + (m - i) = m by omega] at this
          exact this.symm
      have hdo := (hD i o hlt ho).congr hlooks (fun x hx => hobj x (.inl hx)) (fun x hx => hobj x (.inr hx))
      refine doesM_wp hE hM ho hI hdo ?_
      intro β' S' a' w' hI'
      have hdst : dstOf ops.toList i = o.dst := by rw [dstOf_eq, hol]; rfl
      have hnew : ∀ j, j < ops.size → (listed.setIfInBounds i true).getD j false = (listed.getD j false || j == i) := by
        intro j hj
        by_cases hij : j = i
        · subst hij
          simp [Array.getD_eq_getD_getElem?, Array.getElem?_setIfInBounds, hs, hlts]
        · have hij' : i ≠ j := fun e => hij e.symm
          simp [Array.getD_eq_getD_getElem?, Array.getElem?_setIfInBounds_ne hij', hij]
      refine ih (listed.setIfInBounds i true) (by simp [hs]) ?_ ?_ ?_ β' S' _ _ a' w' ?_ ?_ hI'
      · have := count_set listed.toList i (by rw [Array.getElem?_toList]; exact hil)
        simp only [Array.toList_setIfInBounds]
        omega
      · intro j p hj hp e he hb
        rw [Array.getElem?_setIfInBounds] at hj ⊢
        by_cases hij : i = j
        · subst hij
          rw [ho] at hp
          obtain rfl : o = p := by simpa using hp
          have := hre e he hb
          split
          · split
            · rfl
            · rename_i h1 h2; rw [h1] at hil; rw [hil] at this; simp at this
          · exact this
        · rw [if_neg hij] at hj
          have := hcl j p hj hp e he hb
          split
          · split
            · rfl
            · rename_i h1 h2; rw [← h1] at this; rw [hil] at this; simp at this
          · exact this
      · intro j hj hj'
        rw [Array.getElem?_setIfInBounds_ne (by omega)] at hj'
        exact hback j hj hj'
      · have := hA.step hq.dsts hLi
        rw [hdst] at this
        refine this.ext fun j hj => ?_
        simp only [Array.length_toList] at hj
        exact (hnew j hj).symm
      · intro x
        by_cases hx : x ∈ (fs.getD i F0).wr
        · refine ⟨i + 1, by omega, fun j hj hxj => ?_, ?_⟩
          · show (listed.setIfInBounds i true).getD j false = true ↔ _
            rw [hnew j (by omega)]
            have := touch x (.inr hx) j hj hxj
            by_cases hij : j = i
            · subst hij; simp
            · simp only [Bool.or_eq_true, this, beq_iff_eq, hij, or_false]; omega
          · rw [hH i hlt]
            exact (hlook_hputs _ hp (H i) x).2 (by rw [← hw i hlt]; exact hx)
        · obtain ⟨m, h1, h2, h3⟩ := hO x
          refine ⟨m, h1, fun j hj hxj => ?_, ?_⟩
          · show (listed.setIfInBounds i true).getD j false = true ↔ _
            rw [hnew j (by omega)]
            have hij : j ≠ i := by rintro rfl; exact hx hxj
            simp only [Bool.or_eq_true, beq_iff_eq, hij, or_false]
            exact h2 j hj hxj
          · rw [(hlook_hputs _ hp hp x).1 (by rw [← hw i hlt]; exact hx)]
            exact h3

/-- One by one from number n on. -/
theorem tail_wp {kp : AV → List AV → Hp → Prop} (hE : EnvOK P E) (hM : ∀ o ∈ ops.toList, MoreOK P o) (hKp : Falls X w0 kp Q) (hK : Goes X w0 k (Q .normal)) {nf : Nat} {fs : List Ft} (hq : Mixed ops.toList nf fs) :
    ∀ (d m : Nat), m + d = ops.size → nf ≤ m → ∀ (listed : Array Bool) (β : Nat → Option Value) (S : Nat → Prop) (tm : List AV) (hp : Hp) (a : Act) (w : World), listed.size = ops.size → (∀ j, j < ops.size → listed[j]? = some (decide (j < m))) → Inv X w0 β S tm hp a w →
      evOps E ops.toList (ops.toList.drop m) tm hp kp k → wpAny P .any ops Q d listed a w := by
  have rdy : ∀ (m : Nat), nf ≤ m → ∀ (listed : Array Bool), listed.size = ops.size → (∀ j, j < ops.size → listed[j]? = some (decide (j < m))) → ∀ i, i ∈ Region.ready .any ops listed ↔ i = m ∧ m < ops.size := by
    intro m hm listed hs hl i
    rw [ready_iff hs]
    constructor
    · rintro ⟨o, ho, hr⟩
      have hlt := (Array.getElem?_eq_some_iff.1 ho).1
      have hol : ops.toList[i]? = some o := by rw [Array.getElem?_toList]; exact ho
      unfold isReady at hr
      split at hr
      · simp at hr
      · rename_i hb
        rw [getB_eq, List.getD_eq_getElem?_getD, Array.getElem?_toList, hl i hlt] at hb
        simp only [Option.getD_some, decide_eq_false_iff_not] at hb
        have hcl : ∀ (i : Nat) (o : Oper), (fun j => listed[j]? = some true) i → ops.toList[i]? = some o → ∀ e ∈ o.after.toList, Region.binds .any e = true → (fun j => listed[j]? = some true) e.on := by
          intro i o hi hoi e he hbe
          have hib := hq.back i o hoi e he hbe
          have h1 : i < ops.size := by have := (List.getElem?_eq_some_iff.1 hoi).1; simpa using this
          have hi : listed[i]? = some true := hi
          show listed[e.on]? = some true
          rw [hl i h1] at hi
          simp only [Option.some.injEq, decide_eq_true_eq] at hi
          rw [hl e.on (by omega)]
          simp; omega
        have hre : ∀ e ∈ o.after.toList, Region.binds .any e = true → (fun j => listed[j]? = some true) e.on := by
          intro e he hbe
          rw [edgesOk_eq, List.all_eq_true] at hr
          have := hr e he
          rw [hbe] at this
          simp only [Bool.not_true, Bool.false_or] at this
          rw [Array.getD_eq_getD_getElem?] at this
          show listed[e.on]? = some true
          cases hl2 : listed[e.on]? with
          | none => rw [hl2] at this; simp at this
          | some b => rw [hl2] at this; simp at this; rw [this]
        refine ⟨Classical.byContradiction fun hne => ?_, by omega⟩
        have : listed[m]? = some true := hq.listed hcl i i o (Nat.le_refl _) hol hre m (hq.tail i (by omega) (by simpa using hlt) m (by omega))
        rw [hl m (by omega)] at this
        simp at this
    · rintro ⟨rfl, hlt⟩
      have ho : ops[i]? = some ops[i] := by simp [hlt]
      refine ⟨_, ho, ?_⟩
      unfold isReady
      rw [getB_eq, List.getD_eq_getElem?_getD, Array.getElem?_toList, hl i hlt]
      simp only [Option.getD_some, Nat.lt_irrefl, decide_false]
      rw [edgesOk_eq, List.all_eq_true]
      intro e he
      cases hb : Region.binds .any e with
      | false => rfl
      | true =>
        have hon := hq.back i _ (by rw [Array.getElem?_toList]; exact ho) e he hb
        rw [Array.getD_eq_getD_getElem?, hl e.on (by omega)]
        simp [hon]
  intro d
  induction d with
  | zero =>
    intro m hmd hm listed β S tm hp a w hs hl hI h
    refine ⟨?_, ?_⟩
    · cases e : Region.ready .any ops listed with
      | nil => rfl
      | cons i l =>
        have := (rdy m hm listed hs hl i).1 (by rw [e]; simp)
        omega
    · rw [List.drop_of_length_le (by simp; omega)] at h
      exact hK _ _ _ _ _ _ h hI
  | succ d ih =>
    intro m hmd hm listed β S tm hp a w hs hl hI h
    refine ⟨fun hnil => ?_, fun i hi => ?_⟩
    · have := (rdy m hm listed hs hl m).2 ⟨rfl, by omega⟩
      rw [hnil] at this
      simp at this
    · obtain ⟨rfl, hlt⟩ := (rdy m hm listed hs hl i).1 hi
      have ho : ops[i]? = some ops[i] := by simp [hlt]
      rw [show ops.toList.drop i = ops[i] :: ops.toList.drop (i + 1) by rw [← Array.getElem_toList (h := hlt)]; exact List.drop_eq_getElem_cons (by simpa using hlt)] at h
      refine evOp_wp (k := fun tm hp => evOps E ops.toList (ops.toList.drop (i + 1)) tm hp kp k) hE hM hKp ho hI ?_ h
      intro β' S' tm' hp' a' w' h' hI'
      refine ih (i + 1) (by omega) (by omega) _ β' S' tm' hp' a' w' (by simp [hs]) (fun j hj => ?_) hI' h'
      rw [Array.getElem?_setIfInBounds]
      split
      · rename_i e; subst e; simp [hs, hlt]
      · rename_i e
        rw [hl j hj]
        simp only [Option.some.injEq, decide_eq_decide]
        omega

/-- THE ORDER OF THE TEXT STANDS FOR ALL, where operations write objects too. -/
theorem evM_wp {kp : AV → List AV → Hp → Prop} (hE : EnvOK P E) (hM : ∀ o ∈ ops.toList, MoreOK P o) (hKp : Falls X w0 kp Q) (hK : Goes X w0 k (Q .normal)) (hI : Inv X w0 β S tm hp a w) {nf : Nat}
    (h : evM E ops.toList (ops.toList.take nf) tm hp fun tm hp fs => fitsM ops.toList nf fs = true ∧ evOps E ops.toList (ops.toList.drop nf) tm hp kp k) : wpAny P .any ops Q ops.size (Array.replicate ops.size false) a w := by
  obtain ⟨vs, wss, fs, T, H, hT0, hH0, ⟨hfit, hkT⟩, hall⟩ := evM_all h
  have hQ := Mixed.of hfit
  have hnf : nf ≤ ops.size := by have := hQ.size; simpa using this
  have hlen : (ops.toList.take nf).length = nf := by rw [List.length_take]; simp; omega
  rw [hlen] at hkT
  have hoi : ∀ i, (hi : i < nf) → ops.toList[i]? = some (ops[i]'(by omega)) := fun i hi => by rw [Array.getElem?_toList]; simp [show i < ops.size by omega]
  have hoj : ∀ i, (hi : i < nf) → (ops.toList.take nf)[i]? = some (ops[i]'(by omega)) := fun i hi => by rw [List.getElem?_take, if_pos hi]; exact hoi i hi
  have hT : ∀ i, i ≤ nf → Agree ops.toList (fun j => vs.getD j .undef) tm (fun j => decide (j < i)) (T i) := by
    intro i
    induction i with
    | zero =>
      intro _
      rw [hT0]
      exact ⟨rfl, fun j d hj => by simp at hj, fun s _ => rfl⟩
    | succ i ih =>
      intro hi
      have hA := ih (by omega)
      have ho := hoi i (by omega)
      rw [(hall i _ (hoj i (by omega))).2.1]
      have hd : dstOf ops.toList i = (ops[i]'(by omega)).dst := by rw [dstOf_eq, ho]; rfl
      have := hA.step hQ.dsts (i := i) (by simp)
      rw [hd] at this
      refine this.ext fun j _ => ?_
      have hj : (j < i + 1) = (j < i ∨ j = i) := propext (by omega)
      simp only [hj, Bool.decide_or]
      rfl
  have hHn : ∀ i, i ≤ nf → ((H i).map (·.1)).Nodup := by
    intro i
    induction i with
    | zero => intro _; rw [hH0]; exact hI.nodup
    | succ i ih => intro hi; rw [(hall i _ (hoj i (by omega))).2.2]; exact hputs_nodup (ih (by omega)) _
  refine mixed_wp hE hM hQ hT (fun j hj => (hall j _ (hoj j hj)).2.2) (hHn nf (Nat.le_refl _)) (fun i o hi ho => (hall i o (by rw [List.getElem?_take, if_pos hi, Array.getElem?_toList]; exact ho)).1)
    (fun listed β' S' a' w' hs hl hI' => tail_wp hE hM hKp hK hQ _ nf (by omega) (Nat.le_refl _) listed β' S' _ _ a' w' hs hl hI' hkT) ops.size _ (by simp) (by simp) ?_ ?_ β S tm hp a w ?_ ?_ hI
  · intro i o hi
    rw [Array.getElem?_replicate] at hi
    split at hi <;> simp at hi
  · intro i _ hi
    rw [Array.getElem?_replicate] at hi
    split at hi <;> simp at hi
  · refine ⟨rfl, fun i d hi => ?_, fun s _ => rfl⟩
    simp only [Array.getD_eq_getD_getElem?, Array.getElem?_replicate] at hi
    split at hi <;> simp at hi
  · intro x
    refine ⟨0, Nat.zero_le _, fun j hj _ => ?_, by rw [hH0]⟩
    simp only [Array.getD_eq_getD_getElem?, Array.getElem?_replicate, show j < ops.size by omega]
    simp

end main
end Go.Proofs.Ythakgbecpkfeoaa.Ev
