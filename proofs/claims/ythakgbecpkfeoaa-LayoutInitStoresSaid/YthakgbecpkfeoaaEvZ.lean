/- Regions of operations that write objects: where all who touch the same thing are bound, the order of the text stands for every order. -/
import Derived.Test.YthakgbecpkfeoaaEvY
set_option linter.unusedVariables false
set_option linter.unusedSimpArgs false
namespace Go.Proofs.Ythakgbecpkfeoaa.Ev

/-! ### Lookups -/
theorem hlook_mem {h : Hp} (hn : (h.map (·.1)).Nodup) {n : Nat} {x : AO} : hlook h n = some x ↔ (n, x) ∈ h := by
  induction h with
  | nil => simp [hlook]
  | cons p h ih =>
    obtain ⟨o, y⟩ := p
    simp only [List.map_cons, List.nodup_cons] at hn
    simp only [hlook]
    cases e : Nat.beq o n with
    | true =>
      obtain rfl := Nat.eq_of_beq_eq_true e
      simp only [Option.some.injEq, List.mem_cons, Prod.mk.injEq, true_and]
      constructor
      · intro h; exact .inl h.symm
      · rintro (h | h)
        · exact h.symm
        · exact absurd (List.mem_map.2 ⟨_, h, rfl⟩) hn.1
    | false =>
      have hne := Nat.ne_of_beq_eq_false e
      simp only [ih hn.2, List.mem_cons, Prod.mk.injEq]
      constructor
      · exact .inr
      · rintro (⟨rfl, _⟩ | h)
        · exact absurd rfl hne
        · exact h
theorem hlook_hput (h : Hp) (n : Nat) (x : AO) (m : Nat) : hlook (hput h n x) m = if n = m then some x else hlook h m := by
  induction h with
  | nil =>
    simp only [hput, hlook]
    cases e : Nat.beq n m with
    | true => simp [Nat.eq_of_beq_eq_true e]
    | false => simp [Nat.ne_of_beq_eq_false e]
  | cons p h ih =>
    obtain ⟨o, y⟩ := p
    simp only [hput]
    by_cases e : o = n
    · subst e
      simp only [if_true, hlook]
      cases e2 : Nat.beq o m with
      | true => simp [Nat.eq_of_beq_eq_true e2]
      | false => simp [Nat.ne_of_beq_eq_false e2]
    · simp only [e, if_false, hlook, ih]
      cases e2 : Nat.beq o m with
      | true =>
        have := Nat.eq_of_beq_eq_true e2
        subst this
        have : ¬ n = o := fun h => e h.symm
        simp [this]
      | false => rfl
theorem hlook_hputs (ws : List (Nat × AO)) : ∀ (h h' : Hp) (m : Nat), (m ∉ ws.map (·.1) → hlook (hputs h ws) m = hlook h m) ∧ (m ∈ ws.map (·.1) → hlook (hputs h ws) m = hlook (hputs h' ws) m) := by
  induction ws with
  | nil => intro h h' m; exact ⟨fun _ => rfl, fun hm => by simp at hm⟩
  | cons p ws ih =>
    obtain ⟨o, x⟩ := p
    intro h h' m
    simp only [hputs, List.map_cons, List.mem_cons, not_or]
    refine ⟨fun hm => ?_, fun hm => ?_⟩
    · rw [(ih _ h m).1 hm.2, hlook_hput]
      have : ¬ o = m := fun e => hm.1 e.symm
      simp [this]
    · by_cases hi : m ∈ ws.map (·.1)
      · exact (ih _ _ m).2 hi
      · rw [(ih _ h m).1 hi, (ih _ h m).1 hi, hlook_hput, hlook_hput]
        rcases hm with hm | hm
        · subst hm; simp
        · exact absurd hm hi

/-! ### What an operation does, and when it does the same -/
section mixed
variable {E : Env} {all : List Oper}

def DoesM (E : Env) (all : List Oper) (o : Oper) (tm : List AV) (hp : Hp) (v : AV) (ws : List (Nat × AO)) (f : Ft) : Prop :=
  guardF all o tm (fun tm' => eff E o tm' hp (Is v ws) ∧ f = ⟨rdOf tm' o.op, ws.map (·.1)⟩) (fun _ => v = .skp ∧ ws = [] ∧ f = ⟨[], []⟩)

theorem DoesM.wr {o : Oper} {tm : List AV} {hp : Hp} {v : AV} {ws : List (Nat × AO)} {f : Ft} (h : DoesM E all o tm hp v ws f) : f.wr = ws.map (·.1) := by
  rcases guardF_lin h with ⟨h, _⟩ | ⟨h, _⟩
  · rw [h.2]
  · rw [h.2.2, h.2.1]; rfl

theorem guardF_same {o : Oper} {tm tm' : List AV} (hl : ∀ s ∈ looks all o, getV tm s = getV tm' s) {yes no yes' no' : List AV → Prop} (hy : yes tm → yes' tm') (hn : no tm → no' tm') (h : guardF all o tm yes no) : guardF all o tm' yes' no' := by
  unfold guardF at h ⊢
  split at h
  · rename_i hg
    exact hy h
  · rename_i j want hg
    split at h
    · exact h.elim
    · rename_i d hd
      have hd' : getV tm d = getV tm' d := hl d (List.mem_append_left _ (by simp only [hg, hd]; simp))
      rw [hd'] at h
      split at h
      · rename_i b hb
        obtain ⟨hset', _⟩ := set_same hb (by simp)
        obtain ⟨hset, _⟩ := set_same (hd'.trans hb) (by simp)
        cases b <;> cases want <;> simp only [setF_eq, hset, hset'] at h ⊢ <;> first | exact hy h | exact hn h
      · rename_i hb
        exact hn h
      · exact h.elim

theorem looks_ops {o : Oper} {tm tm' : List AV} (hl : ∀ s ∈ looks all o, getV tm s = getV tm' s) : ∀ x ∈ o.op.operands.toList, evalV tm x = evalV tm' x := by
  intro x hx
  cases x with
  | tmp t =>
    refine hl t (List.mem_append_right _ ?_)
    have : ∀ l : List Operand, Operand.tmp t ∈ l → t ∈ opTmps l := by
      intro l
      induction l with
      | nil => simp
      | cons y l ih =>
        intro hm
        rcases List.mem_cons.1 hm with h1 | h1
        · subst h1; simp [opTmps]
        · have h2 := ih h1
          cases y <;> simp [opTmps, h2]
    exact this _ hx
  | _ => rfl

theorem DoesM.congr {o : Oper} {tm tm' : List AV} {hp hp' : Hp} {v : AV} {ws : List (Nat × AO)} {f : Ft} (h : DoesM E all o tm hp v ws f) (hl : ∀ s ∈ looks all o, getV tm s = getV tm' s)
    (hr : ∀ n ∈ f.rd, hlook hp n = hlook hp' n) (hw : ∀ n ∈ f.wr, hlook hp n = hlook hp' n) : DoesM E all o tm' hp' v ws f := by
  have hops := looks_ops hl
  refine guardF_same hl ?_ ?_ h
  · rintro ⟨h1, rfl⟩
    exact ⟨eff_congr hops hr hw h1, by unfold rdOf; rw [opNames_congr hops]⟩
  · exact fun h => h

theorem evM_cons {o : Oper} {l : List Oper} {tm : List AV} {hp : Hp} {k : List AV → Hp → List Ft → Prop} (h : evM E all (o :: l) tm hp k) :
    ∃ v ws f, DoesM E all o tm hp v ws f ∧ evM E all l (putL tm o.dst v) (hputs hp ws) fun tm hp fs => k tm hp (f :: fs) := by
  simp only [evM] at h
  rcases guardF_lin h with ⟨h1, h2⟩ | ⟨h1, h2⟩
  · obtain ⟨v, ws, h3, h4⟩ := lin_eff _ h1
    simp only [natsF_eq, putD_eq, hputsF_eq, keysOf_eq] at h3
    exact ⟨v, ws, _, h2 _ _ ⟨h4 _ ⟨rfl, rfl⟩, rfl⟩, h3⟩
  · rw [putD_eq] at h1
    exact ⟨.skp, [], _, h2 _ _ ⟨rfl, rfl, rfl⟩, h1⟩

abbrev F0 : Ft := ⟨[], []⟩
theorem evM_all : ∀ {l : List Oper} {tm : List AV} {hp : Hp} {k : List AV → Hp → List Ft → Prop}, evM E all l tm hp k → ∃ (vs : List AV) (wss : List (List (Nat × AO))) (fs : List Ft) (T : Nat → List AV) (H : Nat → Hp),
    T 0 = tm ∧ H 0 = hp ∧ k (T l.length) (H l.length) fs ∧ ∀ (j : Nat) (o : Oper), l[j]? = some o →
      DoesM E all o (T j) (H j) (vs.getD j .undef) (wss.getD j []) (fs.getD j F0) ∧ T (j + 1) = putL (T j) o.dst (vs.getD j .undef) ∧ H (j + 1) = hputs (H j) (wss.getD j [])
  | [], tm, hp, k, h => ⟨[], [], [], fun _ => tm, fun _ => hp, rfl, rfl, h, by simp⟩
  | o :: l, tm, hp, k, h => by
    obtain ⟨v, ws, f, hv, h⟩ := evM_cons h
    obtain ⟨vs, wss, fs, T, H, h1, h2, h3, h4⟩ := evM_all h
    refine ⟨v :: vs, ws :: wss, f :: fs, fun n => match n with | 0 => tm | n + 1 => T n, fun n => match n with | 0 => hp | n + 1 => H n, rfl, rfl, h3, ?_⟩
    intro j o' hj
    cases j with
    | zero => simp at hj; subst hj; exact ⟨by simpa using hv, by simpa using h1, by simpa using h2⟩
    | succ j => simpa using h4 j o' (by simpa using hj)

/-! ### Whom the edges lead back to -/
theorem getN_lt {l : List (List Nat)} {n x : Nat} (h : x ∈ getN l n) : n < l.length := by
  induction l generalizing n with
  | nil => simp [getN] at h
  | cons y l ih => cases n <;> simp [getN] at h ⊢; exact ih h
theorem getN_app {l m : List (List Nat)} {n : Nat} (h : n < l.length) : getN (l ++ m) n = getN l n := by
  induction l generalizing n with
  | nil => simp at h
  | cons y l ih => cases n <;> simp [getN] at h ⊢; exact ih h
theorem getN_len {l m : List (List Nat)} {a : List Nat} : getN (l ++ a :: m) l.length = a := by
  induction l with
  | nil => rfl
  | cons y l ih => simpa [getN] using ih
theorem addN_mem {n x : Nat} {l : List Nat} : x ∈ addN n l → x = n ∨ x ∈ l := by
  unfold addN
  split
  · exact .inr
  · simp
theorem addNs_mem {x : Nat} : ∀ {m l : List Nat}, x ∈ addNs m l → x ∈ m ∨ x ∈ l
  | [], l, h => .inr h
  | y :: m, l, h => by
    simp only [addNs] at h
    rcases addNs_mem h with h | h
    · exact .inl (by simp [h])
    · rcases addN_mem h with h | h
      · exact .inl (by simp [h])
      · exact .inr h
theorem ancOf_mem {done : List (List Nat)} {x : Nat} : ∀ {l : List Edge}, x ∈ ancOf done l → ∃ e ∈ l, Region.binds .any e = true ∧ (x = e.on ∨ x ∈ getN done e.on)
  | [], h => by simp [ancOf] at h
  | e :: l, h => by
    simp only [ancOf] at h
    split at h
    · rename_i hb
      rcases addN_mem h with h | h
      · exact ⟨e, by simp, hb, .inl h⟩
      · rcases addNs_mem h with h | h
        · exact ⟨e, by simp, hb, .inr h⟩
        · obtain ⟨e', h1, h2⟩ := ancOf_mem h; exact ⟨e', by simp [h1], h2⟩
    · obtain ⟨e', h1, h2⟩ := ancOf_mem h; exact ⟨e', by simp [h1], h2⟩
theorem ancs_mem : ∀ {l : List Oper} {done : List (List Nat)}, (∃ m, ancs done l = done ++ m) ∧ ∀ (j : Nat) (o : Oper), l[j]? = some o → ∀ x ∈ getN (ancs done l) (done.length + j),
    ∃ e ∈ o.after.toList, Region.binds .any e = true ∧ (x = e.on ∨ x ∈ getN (ancs done l) e.on)
  | [], done => ⟨⟨[], by simp [ancs]⟩, by simp⟩
  | o :: l, done => by
    obtain ⟨⟨m, hm⟩, ih⟩ := ancs_mem (l := l) (done := done ++ [ancOf done o.after.toList])
    simp only [ancs]
    refine ⟨⟨_, by rw [hm, List.append_assoc]⟩, ?_⟩
    intro j o' hj x hx
    cases j with
    | zero =>
      simp only [List.getElem?_cons_zero, Option.some.injEq] at hj
      subst hj
      rw [hm] at hx ⊢
      simp only [Nat.add_zero, List.append_assoc, List.singleton_append] at hx ⊢
      rw [getN_len] at hx
      obtain ⟨e, h1, h2, h3⟩ := ancOf_mem hx
      refine ⟨e, h1, h2, ?_⟩
      rcases h3 with h3 | h3
      · exact .inl h3
      · refine .inr ?_
        rw [getN_app (getN_lt h3)]
        exact h3
    | succ j =>
      refine ih j o' (by simpa using hj) x ?_
      rw [show (done ++ [ancOf done o.after.toList]).length + j = done.length + (j + 1) by simp; omega]
      exact hx

structure Mixed (all : List Oper) (fs : List Ft) : Prop where
  self : ∀ (i : Nat) (o : Oper), all[i]? = some o → ∀ d, o.dst = some d → d ∉ looks all o
  back : ∀ (i : Nat) (o : Oper), all[i]? = some o → ∀ e ∈ o.after.toList, Region.binds .any e = true → e.on < i
  dst : ∀ (i : Nat) (o : Oper) (j : Nat) (p : Oper), all[i]? = some o → all[j]? = some p → j < i → ∀ d, o.dst = some d → p.dst ≠ some d
  conf : ∀ (i : Nat) (o : Oper) (j : Nat) (p : Oper), all[i]? = some o → all[j]? = some p → j < i →
    (∃ d, p.dst = some d ∧ d ∈ looks all o) ∨ (∃ d, o.dst = some d ∧ d ∈ looks all p) ∨ (∃ n, n ∈ (fs.getD j F0).wr ∧ (n ∈ (fs.getD i F0).rd ∨ n ∈ (fs.getD i F0).wr)) ∨ (∃ n, n ∈ (fs.getD j F0).rd ∧ n ∈ (fs.getD i F0).wr) →
    j ∈ getN (ancs [] all) i

theorem anyIn_iff {l m : List Nat} {n : Nat} (h1 : n ∈ l) (h2 : n ∈ m) : anyIn l m = true := by
  induction m with
  | nil => simp at h2
  | cons x m ih =>
    simp only [anyIn]
    rcases List.mem_cons.1 h2 with rfl | h2
    · rw [(memN_iff l n).2 h1]
    · rw [ih h2]; split <;> rfl
theorem rowM_of {i : Nat} {o : Oper} {f : Ft} {A : List Nat} : ∀ {l : List Oper} {gs : List Ft} {j : Nat}, rowM all i o f A j l gs = true → ∀ (m : Nat) (p : Oper), l[m]? = some p → j + m < i →
    optNe o.dst p.dst = true ∧ (confM all o p f (gs.getD m F0) = true → j + m ∈ A)
  | [], [], j, h, m, p, hm, hlt => by simp at hm
  | [], _ :: _, j, h, m, p, hm, hlt => by simp at hm
  | _ :: _, [], j, h, m, p, hm, hlt => by simp [rowM] at h
  | q :: l, g :: gs, j, h, m, p, hm, hlt => by
    simp only [rowM, Bool.and_eq_true] at h
    cases m with
    | zero =>
      simp only [List.getElem?_cons_zero, Option.some.injEq] at hm
      subst hm
      simp only [Nat.add_zero] at hlt ⊢
      have hb : Nat.blt j i = true := by rw [Nat.blt_eq]; exact hlt
      rw [hb] at h
      simp only [Bool.and_eq_true, Bool.or_eq_true, Bool.not_eq_true'] at h
      refine ⟨h.1.1, fun hc => ?_⟩
      simp only [List.getD_cons_zero] at hc
      rcases h.1.2 with h2 | h2
      · rw [hc] at h2; simp at h2
      · exact (memN_iff _ _).1 h2
    | succ m =>
      have := rowM_of h.2 m p (by simpa using hm) (by omega)
      rw [show j + 1 + m = j + (m + 1) by omega] at this
      simpa using this
theorem rowsM_of {fs : List Ft} {acs : List (List Nat)} : ∀ {l : List Oper} {gs : List Ft} {i : Nat}, rowsM all fs acs i l gs = true → ∀ (m : Nat) (o : Oper), l[m]? = some o →
    rowM all (i + m) o (gs.getD m F0) (getN acs (i + m)) 0 all fs = true ∧ optIn (looks all o) o.dst = false ∧ edgesBack (i + m) o.after.toList = true
  | [], [], i, h, m, o, hm => by simp at hm
  | [], _ :: _, i, h, m, o, hm => by simp at hm
  | _ :: _, [], i, h, m, o, hm => by simp [rowsM] at h
  | q :: l, g :: gs, i, h, m, o, hm => by
    simp only [rowsM, Bool.and_eq_true, Bool.not_eq_true'] at h
    cases m with
    | zero =>
      simp only [List.getElem?_cons_zero, Option.some.injEq] at hm
      subst hm
      exact ⟨h.1.1.1, h.1.1.2, h.1.2⟩
    | succ m =>
      have := rowsM_of h.2 m o (by simpa using hm)
      rw [show i + 1 + m = i + (m + 1) by omega] at this
      simpa using this

theorem Mixed.of {fs : List Ft} (h : fitsM all fs = true) : Mixed all fs := by
  have hr : ∀ (i : Nat) (o : Oper), all[i]? = some o → rowM all i o (fs.getD i F0) (getN (ancs [] all) i) 0 all fs = true ∧ optIn (looks all o) o.dst = false ∧ edgesBack i o.after.toList = true := by
    intro i o hi
    have := rowsM_of h i o hi
    simpa using this
  refine ⟨fun i o hi d hd hm => ?_, fun i o hi => edgesBack_of (hr i o hi).2.2, fun i o j p hi hj hlt d hd hp => ?_, fun i o j p hi hj hlt hc => ?_⟩
  · have := (hr i o hi).2.1
    rw [hd] at this
    simp only [optIn] at this
    rw [(memN_iff _ _).2 hm] at this
    simp at this
  · have := (rowM_of (hr i o hi).1 j p hj (by simpa using hlt)).1
    rw [hd, hp] at this
    simp [optNe] at this
  · have := (rowM_of (hr i o hi).1 j p hj (by simpa using hlt)).2
    simp only [Nat.zero_add] at this
    refine this ?_
    unfold confM
    simp only [Bool.or_eq_true]
    rcases hc with ⟨d, h1, h2⟩ | ⟨d, h1, h2⟩ | ⟨n, h1, h2 | h2⟩ | ⟨n, h1, h2⟩
    · exact .inl (.inl (.inl (.inl (by rw [h1]; exact (memN_iff _ _).2 h2))))
    · exact .inl (.inl (.inl (.inr (by rw [h1]; exact (memN_iff _ _).2 h2))))
    · exact .inl (.inl (.inr (anyIn_iff h1 h2)))
    · exact .inl (.inr (anyIn_iff h1 h2))
    · exact .inr (anyIn_iff h1 h2)

theorem Mixed.dsts {fs : List Ft} (h : Mixed all fs) (i j d : Nat) (hi : dstOf all i = some d) (hj : dstOf all j = some d) : i = j := by
  rw [dstOf_eq] at hi hj
  cases ei : all[i]? with
  | none => rw [ei] at hi; simp at hi
  | some o =>
    cases ej : all[j]? with
    | none => rw [ej] at hj; simp at hj
    | some p =>
      rw [ei] at hi
      rw [ej] at hj
      simp only [Option.bind_some] at hi hj
      rcases Nat.lt_trichotomy i j with hlt | he | hlt
      · exact absurd hi (h.dst j p i o ej ei hlt d hj)
      · exact he
      · exact absurd hj (h.dst i o j p ei ej hlt d hi)

/-- Whatever is listed, all that its edges lead back to is listed. -/
theorem Mixed.listed {fs : List Ft} (h : Mixed all fs) {L : Nat → Prop} (hL : ∀ (i : Nat) (o : Oper), L i → all[i]? = some o → ∀ e ∈ o.after.toList, Region.binds .any e = true → L e.on) :
    ∀ (m i : Nat) (o : Oper), i ≤ m → all[i]? = some o → (∀ e ∈ o.after.toList, Region.binds .any e = true → L e.on) → ∀ j ∈ getN (ancs [] all) i, L j := by
  intro m
  induction m with
  | zero =>
    intro i o him ho hr j hj
    have := (ancs_mem (l := all) (done := [])).2 i o ho j (by simpa using hj)
    obtain ⟨e, h1, h2, h3⟩ := this
    have := h.back i o ho e h1 h2
    omega
  | succ m ih =>
    intro i o him ho hr j hj
    obtain ⟨e, h1, h2, h3⟩ := (ancs_mem (l := all) (done := [])).2 i o ho j (by simpa using hj)
    have hlt := h.back i o ho e h1 h2
    rcases h3 with h3 | h3
    · rw [h3]; exact hr e h1 h2
    · have hon := hr e h1 h2
      cases eo : all[e.on]? with
      | none =>
        have h4 := List.getElem?_eq_none_iff.1 eo
        have h5 := (List.getElem?_eq_some_iff.1 ho).1
        omega
      | some p => exact ih e.on p (by omega) eo (hL e.on p hon eo) j h3

end mixed

theorem Inv.perm {X : XR} {w0 : World} {β : Nat → Option Value} {S : Nat → Prop} {tm : List AV} {hp hp' : Hp} {a : Act} {w : World} (h : Inv X w0 β S tm hp a w) (hn : (hp'.map (·.1)).Nodup) (he : ∀ n, hlook hp n = hlook hp' n) :
    Inv X w0 β S tm hp' a w := by
  have hm : ∀ n x, (n, x) ∈ hp' ↔ (n, x) ∈ hp := fun n x => by rw [← hlook_mem hn, ← he, hlook_mem h.nodup]
  exact { h with
    box := fun o cs ho => h.box o cs ((hm _ _).1 ho)
    arr := fun o τ xs ho => h.arr o τ xs ((hm _ _).1 ho)
    live := fun o v hv => by obtain ⟨x, hx⟩ := h.live o v hv; exact ⟨x, (hm _ _).2 hx⟩
    nodup := hn }
theorem hputs_nodup {h : Hp} (hn : (h.map (·.1)).Nodup) (ws : List (Nat × AO)) : ((hputs h ws).map (·.1)).Nodup := by
  induction ws generalizing h with
  | nil => exact hn
  | cons p ws ih => obtain ⟨o, x⟩ := p; exact ih (hput_nodup hn o x)

section main
variable {P : Program} {E : Env} {X : XR} {w0 : World} {β : Nat → Option Value} {S : Nat → Prop} {tm : List AV} {hp : Hp} {a : Act} {w : World}
variable {ops : Array Oper} {Q : Exit → Act → World → Prop} {k : List AV → Hp → Prop}

theorem doesM_wp (hE : EnvOK P E) (hM : ∀ o ∈ ops.toList, MoreOK P o) {i : Nat} {o : Oper} (ho : ops[i]? = some o) {K : Act → World → Prop} (hI : Inv X w0 β S tm hp a w) {v : AV} {ws : List (Nat × AO)} {f : Ft} (h : DoesM E ops.toList o tm hp v ws f)
    (hK : ∀ β' S' a' w', Inv X w0 β' S' (putL tm o.dst v) (hputs hp ws) a' w' → K a' w') : wpOp P ops Q i K a w := by
  have hm : MoreOK P o := hM o (List.mem_of_getElem? (by rw [Array.getElem?_toList]; exact ho))
  unfold wpOp
  simp only [ho]
  rcases guardF_of hI.rel h with ⟨hw, h⟩ | ⟨hw, h⟩
  · rw [if_pos hw]
    refine .inl (step_wp (kp := fun _ _ _ => False) hE hm hI ?_ (fun _ _ _ _ _ _ _ _ h => h.elim) (eff_step h.1))
    rintro β' S' tm' hp' a' w' ⟨v', ws', ⟨rfl, rfl⟩, rfl, rfl⟩ hI'
    exact hK _ _ _ _ hI'
  · rw [if_neg (by simp [hw])]
    obtain ⟨rfl, rfl, _⟩ := h
    exact hK β S _ _ (hI.put (v := .skp) (u := undef) rfl o.dst)

/-- Objects, when some operations have been performed: each is as the text has it somewhere between its writers. -/
def Objs (n : Nat) (fs : List Ft) (H : Nat → Hp) (L : Nat → Bool) (hp : Hp) : Prop :=
  ∀ x, ∃ m, m ≤ n ∧ (∀ j, j < n → x ∈ (fs.getD j F0).wr → (L j = true ↔ j < m)) ∧ hlook hp x = hlook (H m) x

theorem steady {n : Nat} {fs : List Ft} {H : Nat → Hp} {wss : List (List (Nat × AO))} (hH : ∀ j, j < n → H (j + 1) = hputs (H j) (wss.getD j [])) (hw : ∀ j, j < n → (fs.getD j F0).wr = (wss.getD j []).map (·.1)) {x : Nat} {m : Nat} :
    ∀ (d : Nat), m + d ≤ n → (∀ j, m ≤ j → j < m + d → x ∉ (fs.getD j F0).wr) → hlook (H (m + d)) x = hlook (H m) x := by
  intro d
  induction d with
  | zero => intro _ _; rfl
  | succ d ih =>
    intro h1 h2
    rw [← ih (by omega) (fun j h3 h4 => h2 j h3 (by omega))]
    rw [show m + (d + 1) = (m + d) + 1 by omega, hH (m + d) (by omega)]
    refine (hlook_hputs _ (H (m + d)) (H (m + d)) x).1 ?_
    rw [← hw (m + d) (by omega)]
    exact h2 (m + d) (by omega) (by omega)

theorem mixed_wp (hE : EnvOK P E) (hM : ∀ o ∈ ops.toList, MoreOK P o) {fs : List Ft} (hq : Mixed ops.toList fs) {vs : List AV} {wss : List (List (Nat × AO))} {tm0 : List AV} {T : Nat → List AV} {H : Nat → Hp}
    (hT : ∀ i, i ≤ ops.size → Agree ops.toList (fun j => vs.getD j .undef) tm0 (fun j => decide (j < i)) (T i)) (hH : ∀ j, j < ops.size → H (j + 1) = hputs (H j) (wss.getD j [])) (hHn : ((H ops.size).map (·.1)).Nodup)
    (hD : ∀ i o, ops[i]? = some o → DoesM E ops.toList o (T i) (H i) (vs.getD i .undef) (wss.getD i []) (fs.getD i F0)) (hK : ∀ β' S' a' w', Inv X w0 β' S' (T ops.size) (H ops.size) a' w' → Q .normal a' w') :
    ∀ (n : Nat) (listed : Array Bool), listed.size = ops.size → listed.toList.count false = n → (∀ (i : Nat) (o : Oper), listed[i]? = some true → ops[i]? = some o → ∀ e ∈ o.after.toList, Region.binds .any e = true → listed[e.on]? = some true) →
      ∀ (β : Nat → Option Value) (S : Nat → Prop) (tm : List AV) (hp : Hp) (a : Act) (w : World), Agree ops.toList (fun j => vs.getD j .undef) tm0 (fun j => listed.getD j false) tm → Objs ops.size fs H (fun j => listed.getD j false) hp → Inv X w0 β S tm hp a w → wpAny P .any ops Q n listed a w := by
  have hw : ∀ j, j < ops.size → (fs.getD j F0).wr = (wss.getD j []).map (·.1) := fun j hj => (hD j ops[j] (by simp [hj])).wr
  have fin : ∀ (listed : Array Bool), listed.size = ops.size → listed.toList.count false = 0 → ∀ (β : Nat → Option Value) (S : Nat → Prop) (tm : List AV) (hp : Hp) (a : Act) (w : World), Agree ops.toList (fun j => vs.getD j .undef) tm0 (fun j => listed.getD j false) tm → Objs ops.size fs H (fun j => listed.getD j false) hp → Inv X w0 β S tm hp a w → Q .normal a w := by
    intro listed hs hc β S tm hp a w hA hO hI
    have hA2 := hT ops.size (Nat.le_refl _)
    have hall : ∀ i, i < ops.size → listed.getD i false = true := fun i hi => by
      have := all_true hc i (by simp [hs, hi])
      rw [Array.getElem?_toList] at this
      simp [Array.getD_eq_getD_getElem?, this]
    have hA1 : Agree ops.toList (fun j => vs.getD j .undef) tm0 (fun j => decide (j < ops.size)) tm := hA.ext fun i hi => by
      simp only [Array.length_toList] at hi
      rw [hall i hi]
      simp [hi]
    have : tm = T ops.size := by
      refine List.ext_getElem (hA1.len.trans hA2.len.symm) fun s h1 h2 => ?_
      have hget : tm.getD s .undef = (T ops.size).getD s .undef := by
        by_cases hex : ∃ i, decide (i < ops.size) = true ∧ dstOf ops.toList i = some s
        · obtain ⟨i, hi, hd⟩ := hex
          rw [hA1.on i s hi hd (by rw [← hA1.len]; exact h1), hA2.on i s hi hd (by rw [← hA1.len]; exact h1)]
        · have hno : ∀ i, decide (i < ops.size) = true → dstOf ops.toList i ≠ some s := fun i h1 h2 => hex ⟨i, h1, h2⟩
          rw [hA1.off s hno, hA2.off s hno]
      simpa [List.getD_eq_getElem?_getD, h1, h2] using hget
    rw [this] at hI
    refine hK β S a w (hI.perm hHn fun x => ?_)
    obtain ⟨m, h1, h2, h3⟩ := hO x
    rw [h3]
    have := steady hH hw (x := x) (m := m) (ops.size - m) (by omega) (fun j h4 h5 h6 => by
      have := (h2 j (by omega) h6).1 (hall j (by omega))
      omega)
    rw [show m + (ops.size - m) = ops.size by omega] at this
    exact this.symm
  intro n
  induction n with
  | zero =>
    intro listed hs hc hcl β S tm hp a w hA hO hI
    refine ⟨?_, fin listed hs hc β S tm hp a w hA hO hI⟩
    cases e : Region.ready .any ops listed with
    | nil => rfl
    | cons i l =>
      obtain ⟨o, h1, h2⟩ := (ready_iff hs i).1 (by rw [e]; simp)
      have hlt := (Array.getElem?_eq_some_iff.1 h1).1
      have := all_true hc i (by simp [hs, hlt])
      unfold isReady at h2
      rw [getB_eq, List.getD_eq_getElem?_getD, this] at h2
      simp at h2
  | succ n ih =>
    intro listed hs hc hcl β S tm hp a w hA hO hI
    refine ⟨fun hnil => ?_, fun i hi => ?_⟩
    · -- some operation is still to come, and the first such one is ready
      exfalso
      have hsome : ∃ i, i < ops.size ∧ listed[i]? = some false := by
        have : false ∈ listed.toList := List.count_pos_iff.1 (by omega)
        obtain ⟨i, hi, he⟩ := List.mem_iff_getElem.1 this
        simp only [Array.length_toList] at hi
        exact ⟨i, by omega, by rw [← Array.getElem?_toList, List.getElem?_eq_getElem (by simpa using hi), he]⟩
      have key : ∀ m i, i ≤ m → i < ops.size → listed[i]? = some false → False := by
        intro m
        induction m with
        | zero =>
          intro i him hi hf
          obtain rfl : i = 0 := by omega
          have ho : ops[0]? = some ops[0] := by simp [hi]
          have : 0 ∈ Region.ready .any ops listed := (ready_iff hs 0).2 ⟨_, ho, by
            unfold isReady
            rw [getB_eq, List.getD_eq_getElem?_getD, Array.getElem?_toList, hf]
            simp only [Option.getD_some]
            rw [edgesOk_eq, List.all_eq_true]
            intro e he
            cases hb : Region.binds .any e with
            | false => rfl
            | true => exact absurd (hq.back 0 _ (by rw [Array.getElem?_toList]; exact ho) e he hb) (by omega)⟩
          rw [hnil] at this
          simp at this
        | succ m ihm =>
          intro i him hi hf
          by_cases hlt : i ≤ m
          · exact ihm i hlt hi hf
          · have ho : ops[i]? = some ops[i] := by simp [hi]
            have : i ∈ Region.ready .any ops listed := (ready_iff hs i).2 ⟨_, ho, by
              unfold isReady
              rw [getB_eq, List.getD_eq_getElem?_getD, Array.getElem?_toList, hf]
              simp only [Option.getD_some]
              rw [edgesOk_eq, List.all_eq_true]
              intro e he
              cases hb : Region.binds .any e with
              | false => rfl
              | true =>
                have hon := hq.back i _ (by rw [Array.getElem?_toList]; exact ho) e he hb
                rw [Array.getD_eq_getD_getElem?]
                cases hl : listed[e.on]? with
                | none => rw [Array.getElem?_eq_none_iff] at hl; omega
                | some b =>
                  cases b with
                  | true => rfl
                  | false => exact (ihm e.on (by omega) (by omega) hl).elim⟩
            rw [hnil] at this
            simp at this
      obtain ⟨i, hi, hf⟩ := hsome
      exact key i i (Nat.le_refl _) hi hf
    · obtain ⟨o, ho, hr⟩ := (ready_iff hs i).1 hi
      have hlt := (Array.getElem?_eq_some_iff.1 ho).1
      have hol : ops.toList[i]? = some o := by rw [Array.getElem?_toList]; exact ho
      have hil : listed[i]? = some false := by
        unfold isReady at hr
        split at hr
        · simp at hr
        · rename_i hb
          rw [getB_eq, List.getD_eq_getElem?_getD, Array.getElem?_toList] at hb
          rw [Array.getElem?_eq_getElem (by omega)] at hb ⊢
          simpa using hb
      have hre : ∀ e ∈ o.after.toList, Region.binds .any e = true → listed[e.on]? = some true := by
        intro e he hb
        unfold isReady at hr
        split at hr
        · simp at hr
        · rw [edgesOk_eq, List.all_eq_true] at hr
          have := hr e he
          rw [hb] at this
          simp only [Bool.not_true, Bool.false_or] at this
          rw [Array.getD_eq_getD_getElem?] at this
          cases hl : listed[e.on]? with
          | none => rw [hl] at this; simp at this
          | some b => rw [hl] at this; simp at this; rw [this]
      have hclL : ∀ (j : Nat) (p : Oper), (fun j => listed[j]? = some true) j → ops.toList[j]? = some p → ∀ e ∈ p.after.toList, Region.binds .any e = true → (fun j => listed[j]? = some true) e.on := by
        intro j p hj hp' e he hb
        exact hcl j p hj (by rw [← Array.getElem?_toList]; exact hp') e he hb
      -- what is bound before operation i is listed; what operation i is bound before is not
      have pre : ∀ j, j ∈ getN (ancs [] ops.toList) i → listed.getD j false = true := by
        intro j hj
        have : listed[j]? = some true := hq.listed hclL i i o (Nat.le_refl _) hol hre j hj
        simp [Array.getD_eq_getD_getElem?, this]
      have post : ∀ j p, ops.toList[j]? = some p → i ∈ getN (ancs [] ops.toList) j → listed.getD j false = false := by
        intro j p hj hm
        cases hl : listed[j]? with
        | none => simp [Array.getD_eq_getD_getElem?, hl]
        | some b =>
          cases b with
          | false => simp [Array.getD_eq_getD_getElem?, hl]
          | true =>
            have : listed[i]? = some true := hq.listed hclL j j p (Nat.le_refl _) hj (hclL j p hl hj) i hm
            rw [hil] at this
            simp at this
      have hLi : (listed.getD i false) = false := by rw [Array.getD_eq_getD_getElem?, hil]; rfl
      have hAt := hT i (by omega)
      have hlooks : ∀ s ∈ looks ops.toList o, getV (T i) s = getV tm s := by
        intro s hsl
        rw [getV_eq, getV_eq]
        by_cases hex : ∃ j, dstOf ops.toList j = some s
        · obtain ⟨j, hj⟩ := hex
          have hjd := hj
          rw [dstOf_eq] at hjd
          cases ej : ops.toList[j]? with
          | none => rw [ej] at hjd; simp at hjd
          | some p =>
            rw [ej] at hjd
            simp only [Option.bind_some] at hjd
            rcases Nat.lt_trichotomy j i with hji | hji | hji
            · have hl := pre j (hq.conf i o j p hol ej hji (.inl ⟨s, hjd, hsl⟩))
              by_cases hslt : s < tm0.length
              · rw [hAt.on j s (by simpa using hji) hj hslt, hA.on j s hl hj hslt]
              · have e1 : (T i).getD s .undef = .undef := by rw [List.getD_eq_getElem?_getD, List.getElem?_eq_none (by rw [hAt.len]; omega)]; rfl
                have e2 : tm.getD s .undef = .undef := by rw [List.getD_eq_getElem?_getD, List.getElem?_eq_none (by rw [hA.len]; omega)]; rfl
                rw [e1, e2]
            · subst hji
              rw [hol] at ej
              obtain rfl : o = p := by simpa using ej
              exact absurd hsl (hq.self j o hol s hjd)
            · have hjn := post j p ej (hq.conf j p i o ej hol hji (.inr (.inl ⟨s, hjd, hsl⟩)))
              have uniq : ∀ j', dstOf ops.toList j' = some s → j' = j := fun j' h' => hq.dsts j' j s h' hj
              rw [hAt.off s (fun j' h1 h2 => by rw [uniq j' h2] at h1; simp at h1; omega), hA.off s (fun j' h1 h2 => by rw [uniq j' h2, hjn] at h1; simp at h1)]
        · have hno : ∀ j, dstOf ops.toList j ≠ some s := fun j hj => hex ⟨j, hj⟩
          rw [hAt.off s (fun j _ => hno j), hA.off s (fun j _ => hno j)]
      -- the writers of what operation i touches: those before it are listed, those behind it are not
      have touch : ∀ x, x ∈ (fs.getD i F0).rd ∨ x ∈ (fs.getD i F0).wr → ∀ j, j < ops.size → x ∈ (fs.getD j F0).wr → (listed.getD j false = true ↔ j < i) := by
        intro x hx j hj hxj
        have ej : ops.toList[j]? = some ops[j] := by rw [Array.getElem?_toList]; simp [hj]
        rcases Nat.lt_trichotomy j i with hji | hji | hji
        · have := pre j (hq.conf i o j _ hol ej hji (.inr (.inr (.inl ⟨x, hxj, hx⟩))))
          simp [this, hji]
        · subst hji; simp [hLi]
        · have : listed.getD j false = false := by
            refine post j _ ej (hq.conf j _ i o ej hol hji ?_)
            rcases hx with hx | hx
            · exact .inr (.inr (.inr ⟨x, hx, hxj⟩))
            · exact .inr (.inr (.inl ⟨x, hx, .inr hxj⟩))
          simp [this]; omega
      have hobj : ∀ x, x ∈ (fs.getD i F0).rd ∨ x ∈ (fs.getD i F0).wr → hlook (H i) x = hlook hp x := by
        intro x hx
        obtain ⟨m, h1, h2, h3⟩ := hO x
        rw [h3]
        have ht := touch x hx
        rcases Nat.le_total m i with hmi | him
        · have := steady hH hw (x := x) (m := m) (i - m) (by omega) (fun j h4 h5 h6 => by
            have h7 := (ht j (by omega) h6).2 (by omega)
            have h8 := (h2 j (by omega) h6).1 h7
            omega)
          rw [show m + (i - m) = i by omega] at this
          exact this
        · have := steady hH hw (x := x) (m := i) (m - i) (by omega) (fun j h4 h5 h6 => by
            have h7 := (h2 j (by omega) h6).2 (by omega)
            have h8 := (ht j (by omega) h6).1 h7
            omega)
          rw [show i + (m - i) = m by omega] at this
          exact this.symm
      have hdo := (hD i o ho).congr hlooks (fun x hx => hobj x (.inl hx)) (fun x hx => hobj x (.inr hx))
      refine doesM_wp hE hM ho hI hdo ?_
      intro β' S' a' w' hI'
      have hdst : dstOf ops.toList i = o.dst := by rw [dstOf_eq, hol]; rfl
      have hnew : ∀ j, j < ops.size → (listed.setIfInBounds i true).getD j false = (listed.getD j false || j == i) := by
        intro j hj
        by_cases hij : j = i
        · subst hij
          simp [Array.getD_eq_getD_getElem?, Array.getElem?_setIfInBounds, hs, hlt]
        · have hij' : i ≠ j := fun e => hij e.symm
          simp [Array.getD_eq_getD_getElem?, Array.getElem?_setIfInBounds_ne hij', hij]
      refine ih (listed.setIfInBounds i true) (by simp [hs]) ?_ ?_ β' S' _ _ a' w' ?_ ?_ hI'
      · have := count_set listed.toList i (by rw [Array.getElem?_toList]; exact hil)
        simp only [Array.toList_setIfInBounds]
        omega
      · intro j p hj hp e he hb
        rw [Array.getElem?_setIfInBounds] at hj ⊢
        by_cases hij : i = j
        · subst hij
          rw [ho] at hp
          obtain rfl : o = p := by simpa using hp
          have := hre e he hb
          split
          · split
            · rfl
            · rename_i h1 h2; rw [h1] at hil; rw [hil] at this; simp at this
          · exact this
        · rw [if_neg hij] at hj
          have := hcl j p hj hp e he hb
          split
          · split
            · rfl
            · rename_i h1 h2; rw [← h1] at this; rw [hil] at this; simp at this
          · exact this
      · have := hA.step hq.dsts hLi
        rw [hdst] at this
        refine this.ext fun j hj => ?_
        simp only [Array.length_toList] at hj
        exact (hnew j hj).symm
      · intro x
        by_cases hx : x ∈ (fs.getD i F0).wr
        · refine ⟨i + 1, by omega, fun j hj hxj => ?_, ?_⟩
          · show (listed.setIfInBounds i true).getD j false = true ↔ _
            rw [hnew j hj]
            have := touch x (.inr hx) j hj hxj
            by_cases hij : j = i
            · subst hij; simp
            · simp only [Bool.or_eq_true, this, beq_iff_eq, hij, or_false]; omega
          · rw [hH i hlt]
            exact (hlook_hputs _ hp (H i) x).2 (by rw [← hw i hlt]; exact hx)
        · obtain ⟨m, h1, h2, h3⟩ := hO x
          refine ⟨m, h1, fun j hj hxj => ?_, ?_⟩
          · show (listed.setIfInBounds i true).getD j false = true ↔ _
            rw [hnew j hj]
            have hij : j ≠ i := by rintro rfl; exact hx hxj
            simp only [Bool.or_eq_true, beq_iff_eq, hij, or_false]
            exact h2 j hj hxj
          · rw [(hlook_hputs _ hp hp x).1 (by rw [← hw i hlt]; exact hx)]
            exact h3

/-- THE ORDER OF THE TEXT STANDS FOR ALL, where operations write objects too. -/
theorem evM_wp (hE : EnvOK P E) (hM : ∀ o ∈ ops.toList, MoreOK P o) (hK : Goes X w0 k (Q .normal)) (hI : Inv X w0 β S tm hp a w)
    (h : evM E ops.toList ops.toList tm hp fun tm hp fs => fitsM ops.toList fs = true ∧ k tm hp) : wpAny P .any ops Q ops.size (Array.replicate ops.size false) a w := by
  obtain ⟨vs, wss, fs, T, H, hT0, hH0, ⟨hfit, hkT⟩, hall⟩ := evM_all h
  have hQ := Mixed.of hfit
  have hoi : ∀ i, (hi : i < ops.size) → ops.toList[i]? = some ops[i] := fun i hi => by rw [Array.getElem?_toList]; simp [hi]
  have hT : ∀ i, i ≤ ops.size → Agree ops.toList (fun j => vs.getD j .undef) tm (fun j => decide (j < i)) (T i) := by
    intro i
    induction i with
    | zero =>
      intro _
      rw [hT0]
      exact ⟨rfl, fun j d hj => by simp at hj, fun s _ => rfl⟩
    | succ i ih =>
      intro hi
      have hA := ih (by omega)
      have ho := hoi i (by omega)
      rw [(hall i _ ho).2.1]
      have hd : dstOf ops.toList i = ops[i].dst := by rw [dstOf_eq, ho]; rfl
      have := hA.step hQ.dsts (i := i) (by simp)
      rw [hd] at this
      refine this.ext fun j _ => ?_
      have hj : (j < i + 1) = (j < i ∨ j = i) := propext (by omega)
      simp only [hj, Bool.decide_or]
      rfl
  have hHn : ∀ i, i ≤ ops.size → ((H i).map (·.1)).Nodup := by
    intro i
    induction i with
    | zero => intro _; rw [hH0]; exact hI.nodup
    | succ i ih => intro hi; rw [(hall i _ (hoi i (by omega))).2.2]; exact hputs_nodup (ih (by omega)) _
  refine mixed_wp hE hM hQ hT (fun j hj => (hall j _ (hoi j hj)).2.2) (hHn ops.size (Nat.le_refl _)) (fun i o ho => (hall i o (by rw [Array.getElem?_toList]; exact ho)).1)
    (fun β' S' a' w' hI' => hK _ _ _ _ _ _ (by simpa using hkT) hI') ops.size _ (by simp) (by simp) ?_ β S tm hp a w ?_ ?_ hI
  · intro i o hi
    rw [Array.getElem?_replicate] at hi
    split at hi <;> simp at hi
  · refine ⟨rfl, fun i d hi => ?_, fun s _ => rfl⟩
    simp only [Array.getD_eq_getD_getElem?, Array.getElem?_replicate] at hi
    split at hi <;> simp at hi
  · intro x
    refine ⟨0, Nat.zero_le _, fun j hj _ => ?_, by rw [hH0]⟩
    simp only [Array.getD_eq_getD_getElem?, Array.getElem?_replicate, hj]
    simp

end main
end Go.Proofs.Ythakgbecpkfeoaa.Ev
