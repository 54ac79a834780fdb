/- Calls of functions that are handed boxes: told rightly; every operation, all together. -/
import Derived.Test.YthakgbecpkfeoaaEvM
set_option linter.unusedVariables false
set_option linter.unusedSimpArgs false
namespace Go.Proofs.Ythakgbecpkfeoaa.Ev

section ren
variable {β β' : Nat → Option Value} {S : Nat → Prop} {w : World} {ids : List Nat}

theorem idxOf_of : ∀ {l : List Nat} {o i : Nat}, idxOf l o i < i + l.length → i ≤ idxOf l o i ∧ l[idxOf l o i - i]? = some o
  | [], o, i, h => by simp [idxOf] at h
  | p :: l, o, i, h => by
    simp only [idxOf] at h ⊢
    cases e : Nat.beq p o with
    | true => obtain rfl := Nat.eq_of_beq_eq_true e; simp
    | false =>
      rw [e] at h
      obtain ⟨h1, h2⟩ := idxOf_of (l := l) (o := o) (i := i + 1) (by simp only [List.length_cons] at h; omega)
      simp only
      refine ⟨by omega, ?_⟩
      rw [show idxOf l o (i + 1) - i = (idxOf l o (i + 1) - (i + 1)) + 1 by omega, List.getElem?_cons_succ]
      exact h2

theorem notIn_of : ∀ {l : List Nat} {n : Nat}, notIn l n = true → n ∉ l
  | [], n, _ => by simp
  | x :: l, n, h => by
    simp only [notIn] at h
    cases e : Nat.beq x n with
    | true => rw [e] at h; simp at h
    | false =>
      rw [e] at h
      have := Nat.ne_of_beq_eq_false e
      have := notIn_of (l := l) h
      simp only [List.mem_cons, not_or]
      exact ⟨fun z => by omega, this⟩
theorem nodupB_of : ∀ {l : List Nat}, nodupB l = true → l.Nodup
  | [], _ => by simp
  | x :: l, h => by
    simp only [nodupB] at h
    cases e : notIn l x with
    | false => rw [e] at h; simp at h
    | true => rw [e] at h; exact List.nodup_cons.2 ⟨notIn_of e, nodupB_of h⟩

mutual
theorem RelV.ren (hβ : ∀ o i v, ids[i]? = some o → β o = some v → β' (1000 + i) = some v) : ∀ (v : AV) (u : Value), v.renok ids = true → RelV β S w v u → RelV β' S w (v.ren ids) u
  | .int .., _, _, h => h
  | .bool .., _, _, h => h
  | .str .., _, _, h => h
  | .ptr o off, _, hc, ⟨g, h1, h2⟩ => by
    simp only [AV.renok, Nat.blt_eq] at hc
    obtain ⟨_, h3⟩ := idxOf_of (l := ids) (o := o) (i := 0) (by omega)
    exact ⟨g, hβ o _ _ (by simpa using h3) h1, h2⟩
  | .ep .., _, _, h => h
  | .oep .., _, hc, _ => by simp [AV.renok, AV.free] at hc
  | .sl .., _, _, h => h
  | .lit .., _, _, h => h
  | .own .., _, hc, _ => by simp [AV.renok, AV.free] at hc
  | .nil, _, _, h => h
  | .fn .., _, _, h => h
  | .clo _ l, _, hc, ⟨cs, h1, h2⟩ => ⟨cs, h1, RelVs.ren hβ l cs (by simpa [AV.renok] using hc) h2⟩
  | .agg l, _, hc, h => RelV.free (.agg l) _ hc h
  | .tup l, _, hc, h => RelV.free (.tup l) _ hc h
  | .ifc t x, _, hc, h => RelV.free (.ifc t x) _ hc h
  | .opq .., _, _, h => h
  | .skp, _, _, h => h
  | .undef, _, _, h => h
theorem RelVs.ren (hβ : ∀ o i v, ids[i]? = some o → β o = some v → β' (1000 + i) = some v) : ∀ (l : List AV) (us : List Value), AV.renoks ids l = true → RelVs β S w l us → RelVs β' S w (AV.rens ids l) us
  | [], _, _, h => h
  | v :: l, _, hc, ⟨u, us, h1, h2, h3⟩ => by
    simp only [AV.renoks] at hc
    cases e : v.renok ids with
    | true => rw [e] at hc; exact ⟨u, us, h1, RelV.ren hβ v u e h2, RelVs.ren hβ l us hc h3⟩
    | false => rw [e] at hc; simp at hc
end

theorem rensF_eq (ids : List Nat) (l : List AV) (k : List AV → Prop) : rensF ids l k = k (AV.rens ids l) := by
  induction l generalizing k with
  | nil => rfl
  | cons v l ih => simp [rensF, AV.f_eq, ih, AV.rens]

theorem boxesF_of {hp : Hp} : ∀ {ids : List Nat} {k : List (List AV) → Prop}, boxesF hp ids k → ∃ bs : List (List AV), k bs ∧ bs.length = ids.length ∧ ∀ (i : Nat) (cs : List AV), bs[i]? = some cs → ∃ o, ids[i]? = some o ∧ (o, .box cs) ∈ hp ∧ AV.frees cs = true
  | [], k, h => ⟨[], h, rfl, by simp⟩
  | o :: l, k, h => by
    simp only [boxesF] at h
    obtain ⟨x, hx, h⟩ := hget_of h
    split at h
    · rename_i cs
      split at h
      · rename_i hf
        obtain ⟨bs, h, hl, hall⟩ := boxesF_of h
        refine ⟨_, h, by simp [hl], ?_⟩
        intro i cs' hi
        cases i with
        | zero => simp at hi; subst hi; exact ⟨o, rfl, hx, hf⟩
        | succ i => simpa using hall i cs' (by simpa using hi)
      · exact h.elim
    · exact h.elim

theorem unboxF_of : ∀ {ids : List Nat} {bs : List (List AV)} {hp : Hp} {k : Hp → Prop}, (hp.map (·.1)).Nodup → unboxF ids bs hp k → ∃ hp', k hp' ∧ (hp'.map (·.1)).Nodup ∧ bs.length = ids.length ∧
    (∀ o x, (o, x) ∈ hp' → (∃ (i : Nat) (cs : List AV), ids[i]? = some o ∧ bs[i]? = some cs ∧ x = .box cs ∧ AV.frees cs = true) ∨ (o ∉ ids ∧ (o, x) ∈ hp)) ∧ (∀ o x, (o, x) ∈ hp → ∃ y, (o, y) ∈ hp')
  | [], [], hp, k, hn, h => ⟨hp, h, hn, rfl, fun o x hm => .inr ⟨by simp, hm⟩, fun o x hm => ⟨x, hm⟩⟩
  | [], _ :: _, hp, k, _, h => h.elim
  | _ :: _, [], hp, k, _, h => h.elim
  | o :: l, cs :: bs, hp, k, hn, h => by
    simp only [unboxF] at h
    split at h
    · rename_i hf
      rw [hputF_eq] at h
      obtain ⟨hp', h, h1, h2, h3, h4⟩ := unboxF_of (hput_nodup hn o (.box cs)) h
      refine ⟨hp', h, h1, by simp [h2], ?_, ?_⟩
      · intro p x hm
        rcases h3 p x hm with ⟨i, ds, q1, q2, q3, q4⟩ | ⟨q1, q2⟩
        · exact .inl ⟨i + 1, ds, by simpa using q1, by simpa using q2, q3, q4⟩
        · rcases hput_mem hn q2 with ⟨rfl, rfl⟩ | ⟨q3, q4⟩
          · exact .inl ⟨0, cs, rfl, rfl, rfl, hf⟩
          · exact .inr ⟨by simp [q1, q3], q4⟩
      · intro p x hm
        by_cases hpo : p = o
        · subst hpo; exact h4 p _ (hput_self hp p (.box cs))
        · exact h4 p x (hput_keep hpo hm)
    · exact h.elim
end ren

section ops
variable {P : Program} {E : Env} {X : XR} {w0 : World} {β : Nat → Option Value} {S : Nat → Prop} {tm : List AV} {hp : Hp} {a : Act} {w : World}
variable {o : Oper} {K : Act → World → Prop} {Q : Exit → Act → World → Prop} {k : List AV → Hp → Prop} {kp : AV → List AV → Hp → Prop}

/-- Behind a call that was handed boxes. -/
theorem Inv.back (hI : Inv X w0 β S tm hp a w) {ids gs : List Nat} {w' : World} {S' : Nat → Prop} {hp' : Hp} (hos : w'.os = w.os) (htape : w'.tape = w.tape) (hout : w'.output = w.output) (hsz : w.heap.size ≤ w'.heap.size)
    (hb : ∀ b, b < w.heap.size → b ∉ gs → w'.heap[b]? = w.heap[b]?) (hS : ∀ b, S b → S' b) (hS2 : ∀ b, S' b → b < w'.heap.size ∧ (S b ∨ w.heap.size ≤ b))
    (hgs : ∀ g ∈ gs, ∃ o cs, o ∈ ids ∧ (o, AO.box cs) ∈ hp ∧ β o = some (.pointer (some ⟨g, 0, none⟩)))
    (hmem : ∀ o x, (o, x) ∈ hp' → (∃ g T vs cs, x = .box cs ∧ g ∈ gs ∧ β o = some (.pointer (some ⟨g, 0, none⟩)) ∧ w'.heap[g]? = some (Obj.cells vs T (0, 0)) ∧ RelVs β S' w' cs vs.toList) ∨ (o ∉ ids ∧ (o, x) ∈ hp))
    (hlive : ∀ o x, (o, x) ∈ hp → ∃ y, (o, y) ∈ hp') (hnod : (hp'.map (·.1)).Nodup) : Inv X w0 β S' tm hp' a w' := by
  have hgp : ∀ g ∈ gs, (w0.heap.size ≤ g ∨ X g) ∧ ¬ S g ∧ g < w.heap.size := fun g hg => by
    obtain ⟨o, cs, _, h1, h2⟩ := hgs g hg
    obtain ⟨g', T, vs, q1, q2, q3, q4, _⟩ := hI.box o cs h1
    rw [h2] at q1
    obtain rfl : g = g' := by simpa using q1
    exact ⟨q2, q3, heap_lt q4⟩
  have hw : ∀ b, S b → w'.heap[b]? = w.heap[b]? := fun b h => hb b (hI.sb b h) (fun hg => (hgp b hg).2.1 h)
  have hm : ∀ (l : List AV) vs, RelVs β S w l vs → RelVs β S' w' l vs := fun l vs => RelVs.mono (fun _ _ x => x) hS hw l vs
  have hn : ∀ b, b < w.heap.size → ¬ S b → ¬ S' b := fun b h1 h2 h3 => (hS2 b h3).2.elim h2 (by omega)
  have hsep : ∀ p u g, p ∉ ids → β p = some u → blk u = some g → w'.heap[g]? = w.heap[g]? := fun p u g h1 h2 h3 => by
    refine hb g (blk_lt hI h2 h3) (fun hg => ?_)
    obtain ⟨o, cs, h4, h5, h6⟩ := hgs g hg
    exact hI.apart o p _ u g (fun e => h1 (e ▸ h4)) h6 h2 rfl (hgp g hg).2.1 h3
  refine ⟨hos.trans hI.os, htape.trans hI.tape, hout.trans hI.output, Nat.le_trans hI.size hsz, ?_, hI.ext, fun b h => (hS2 b h).1, ?_, ?_, ?_, hnod, ?_, hm _ _ hI.rel, hI.defs, fun b hb hlt => (hS2 b hb).2.elim (fun h => hI.grew b h hlt) (fun h => by have := hI.size; omega), hI.keep, hI.far⟩
  · intro b h1 h2
    refine (hb b (Nat.lt_of_lt_of_le h1 hI.size) (fun hg => ?_)).trans (hI.old b h1 h2)
    rcases (hgp b hg).1 with h | h
    · omega
    · exact h2 h
  · intro p cs hmm
    rcases hmem p _ hmm with ⟨g, T, vs, cs', q1, q2, q3, q4, q5⟩ | ⟨q1, q2⟩
    · simp only [AO.box.injEq] at q1
      subst q1
      exact ⟨g, T, vs, q3, (hgp g q2).1, hn g (hgp g q2).2.2 (hgp g q2).2.1, q4, q5⟩
    · obtain ⟨g, T, vs, h1, h2, h3, h4, h5⟩ := hI.box p cs q2
      exact ⟨g, T, vs, h1, h2, hn g (heap_lt h4) h3, (hsep p _ g q1 h1 rfl).trans h4, hm _ _ h5⟩
  · intro p τ xs hmm
    rcases hmem p _ hmm with ⟨g, T, vs, cs', q1, _⟩ | ⟨q1, q2⟩
    · simp at q1
    · obtain ⟨v, h1, h2⟩ := hI.arr p τ xs q2
      exact ⟨v, h1, h2.mono hS (fun b hv => hn b (blk_lt hI h1 hv)) (fun b hv => hsep p v b q1 h1 hv)⟩
  · intro p v h
    obtain ⟨x, hx⟩ := hI.live p v h
    exact hlive p x hx
  · intro p p' v v' g hne h1 h2 h3 h4
    exact hI.apart p p' v v' g hne h1 h2 h3 (fun h5 => h4 (hS g h5))

theorem step_callS (hE : EnvOK P E) {g : Nat} {s : List AV → List (List AV) → Option (Prop × Out × List (List AV))} (hs : (g, Spec.full s) ∈ E.sp) {vs : List AV} {us : List Value} (hI : Inv X w0 β S tm hp a w) (hvs : RelVs β S w vs us)
    (hent : (execOp a.eval o).run P w = .ok (.enter g us.toArray) w) (hK : Goes X w0 k K) (hKp : Falls X w0 kp Q) (h : callS E (detS s) vs tm hp o.dst kp k) : o.wp P a w K Q := by
  unfold callS at h
  obtain ⟨ws, g1, hws, _⟩ := viewsF_of hI hvs h
  obtain ⟨bs, g2, hbl, hbs⟩ := boxesF_of g1
  clear h g1
  rw [rensF_eq] at g2
  split at g2
  · exact g2.elim
  · exact g2.elim
  · rename_i hno hok
    simp only [Bool.and_eq_true] at hok
    obtain ⟨hren, hnd⟩ := hok
    have hnd := nodupB_of hnd
    have hvs := hws hno
    let gs : List Nat := (AV.idss ws []).map fun o => match β o with | some (.pointer (some ad)) => ad.block | _ => 0
    have hg : ∀ (i o : Nat), (AV.idss ws [])[i]? = some o → ∃ (cs : List AV) (g T : Nat) (vs : Array Value), bs[i]? = some cs ∧ (o, .box cs) ∈ hp ∧ AV.frees cs = true ∧ gs[i]? = some g ∧ β o = some (.pointer (some ⟨g, 0, none⟩)) ∧ ¬ S g ∧ w.heap[g]? = some (.cells vs T (0, 0)) ∧ RelVs β S w cs vs.toList := by
      intro i o hi
      have hlt : i < bs.length := by rw [hbl]; exact (List.getElem?_eq_some_iff.1 hi).1
      obtain ⟨o', q1, q2, q3⟩ := hbs i bs[i] (List.getElem?_eq_getElem hlt)
      rw [hi] at q1
      obtain rfl : o = o' := by simpa using q1
      obtain ⟨g, T, vs, q4, q5, q6, q7, q8⟩ := hI.box o _ q2
      exact ⟨_, g, T, vs, List.getElem?_eq_getElem hlt, q2, q3, by simp [gs, hi, q4], q4, q6, q7, q8⟩
    have hglen : gs.length = bs.length := by simp [gs, hbl]
    have hgin : ∀ (i g : Nat), gs[i]? = some g → ∃ o, (AV.idss ws [])[i]? = some o ∧ β o = some (.pointer (some ⟨g, 0, none⟩)) ∧ ¬ S g ∧ g < w.heap.size ∧ ∃ cs, (o, AO.box cs) ∈ hp := by
      intro i g hi
      have hlt : i < (AV.idss ws []).length := by have := (List.getElem?_eq_some_iff.1 hi).1; rw [hglen, hbl] at this; exact this
      obtain ⟨cs, g', T, vs, _, q1, _, q2, q3, q4, q5, _⟩ := hg i _ (List.getElem?_eq_getElem hlt)
      rw [hi] at q2
      obtain rfl : g = g' := by simpa using q2
      exact ⟨_, List.getElem?_eq_getElem hlt, q3, q4, heap_lt q5, cs, q1⟩
    have hgnd : gs.Nodup := by
      rw [List.nodup_iff_pairwise_ne, List.pairwise_iff_getElem]
      intro i j hi hj hij e
      obtain ⟨o, q1, q2, q3, _⟩ := hgin i _ (List.getElem?_eq_getElem hi)
      obtain ⟨o', r1, r2, _⟩ := hgin j _ (List.getElem?_eq_getElem hj)
      have hne : o ≠ o' := by
        intro e'
        subst e'
        have h1 := (List.getElem?_eq_some_iff.1 q1)
        have h2 := (List.getElem?_eq_some_iff.1 r1)
        obtain ⟨a1, a2⟩ := h1
        obtain ⟨b1, b2⟩ := h2
        have := (List.getElem_inj (h₀ := a1) (h₁ := b1) hnd).1 (a2.trans b2.symm)
        omega
      rw [e] at q2 q3
      exact hI.apart o o' _ _ _ hne q2 r2 rfl q3 rfl
    have hext : ∀ o i v, (AV.idss ws [])[i]? = some o → β o = some v → extβ gs (1000 + i) = some v := by
      intro o i v hi hv
      obtain ⟨cs, g', T, vs, _, _, _, q2, q3, _⟩ := hg i o hi
      rw [hv] at q3
      simp only [Option.some.injEq] at q3
      subst q3
      simp [extβ, q2]
    have hcall := (hE.full g s hs).1 S w (AV.rens (AV.idss ws []) ws) us bs gs _ hI.sb hglen hgnd (fun g hg' => by
        obtain ⟨i, hi⟩ := List.getElem?_of_mem hg'
        obtain ⟨o, _, _, q3, q4, _⟩ := hgin i g hi
        exact ⟨q3, q4⟩) (fun i cs hi => by
        obtain ⟨o, q1, _⟩ := hbs i cs hi
        obtain ⟨cs', g', T, vs, r1, _, r3, r4, _, _, r7, r8⟩ := hg i o q1
        rw [hi] at r1
        obtain rfl : cs = cs' := by simpa using r1
        exact ⟨g', T, vs, r4, r7, RelVs.free _ _ r3 r8⟩) (RelVs.ren hext ws us hren hvs) g2
    refine wp_enter hent hcall ?_
    rintro e w' ⟨out, bs', S', hQ, hout, hbl', hbs', l1, l2, l3, l4, l5, l6, l7⟩
    have back : ∀ {kk : Hp → Prop}, unboxF (AV.idss ws []) bs' hp kk → ∃ hp', kk hp' ∧ Inv X w0 β S' tm hp' a w' := by
      intro kk hk
      obtain ⟨hp', hk, u1, u2, u3, u4⟩ := unboxF_of hI.nodup hk
      refine ⟨hp', hk, hI.back (ids := AV.idss ws []) (gs := gs) l1 l2 l3 l4 l5 l6 l7 ?_ ?_ u4 u1⟩
      · intro g' hg'
        obtain ⟨i, hi⟩ := List.getElem?_of_mem hg'
        obtain ⟨o, q1, q2, _, _, cs, q5⟩ := hgin i g' hi
        exact ⟨o, cs, List.mem_of_getElem? q1, q5, q2⟩
      · intro p x hm
        rcases u3 p x hm with ⟨i, cs, q1, q2, q3, q4⟩ | hr
        · obtain ⟨_, g1, _, _, _, _, _, r4, r5, _⟩ := hg i p q1
          obtain ⟨g2, T, vs, s1, s2, s3⟩ := hbs' i cs q2
          rw [r4] at s1
          obtain rfl : g1 = g2 := by simpa using s1
          exact .inl ⟨g1, T, vs, cs, q3, List.mem_of_getElem? r4, r5, s2, RelVs.free _ _ q4 s3⟩
        · exact .inr hr
    cases out with
    | ret r =>
      obtain ⟨u, rfl, hru⟩ := hout
      simp only [AV.f_eq] at hQ
      split at hQ
      · rename_i hc
        obtain ⟨hp', hQ, hI'⟩ := back hQ
        rw [putD_eq] at hQ
        exact hK _ _ _ _ _ _ hQ (hI'.put (RelV.calm r u hc hru) o.dst)
      · exact hQ.elim
    | pan r =>
      obtain ⟨u, rfl, hru⟩ := hout
      simp only [AV.f_eq] at hQ
      split at hQ
      · rename_i hc
        obtain ⟨hp', hQ, hI'⟩ := back hQ
        exact hKp _ _ _ _ _ _ _ _ hQ hc hI' (RelV.calm r u hc hru)
      · exact hQ.elim

theorem step_callv (hE : EnvOK P E) {c : Call} {f : Operand} (hop : o.op = .call c) (hc : c.callee = .value f) (hI : Inv X w0 β S tm hp a w) (hK : Goes X w0 k K) (hKp : Falls X w0 kp Q) (h : step1 E o tm hp kp k) : o.wp P a w K Q := by
  unfold step1 at h
  rw [hop] at h
  simp only [hc] at h
  have hf := hI.eval f
  have hargs := hI.evals c.args.toList
  split at h
  · rename_i g hv
    rw [hv] at hf
    simp only [RelV] at hf
    rw [evs_eq] at h
    unfold callF at h
    obtain ⟨s, hs, h⟩ := spGet_of h
    split at h
    · rename_i hh
      have hent := exec_fn hI hop hc hf (hE.pure g hh hs).2
      exact step_callP hE hs (cs := []) hI hargs (by simp [RelVs]) (by simpa using hent) hK h
    · rename_i s
      have hent := exec_fn hI hop hc hf (hE.full g s hs).2
      exact step_callS hE hs hI (by simpa using hargs) hent hK hKp (by simpa using h)
  · rename_i g caps hv
    rw [hv] at hf
    obtain ⟨cs, hf, hcs⟩ := hf
    rw [evs_eq] at h
    unfold callF at h
    obtain ⟨s, hs, h⟩ := spGet_of h
    split at h
    · rename_i hh
      have hent := exec_clo hI hop hc hf (hE.pure g hh hs).2
      exact step_callP hE hs hI hargs hcs hent hK h
    · rename_i s
      have hent := exec_clo hI hop hc hf (hE.full g s hs).2
      exact step_callS hE hs hI (hargs.append hcs) hent hK hKp h
  · exact h.elim

/-- EVERY OPERATION IS TOLD RIGHTLY. -/
theorem step1_wp (hE : EnvOK P E) (hM : MoreOK P o) (hI : Inv X w0 β S tm hp a w) (hK : Goes X w0 k K) (hKp : Falls X w0 kp Q) (h : step1 E o tm hp kp k) : o.wp P a w K Q := by
  have dflt : pop E o.op tm hp (fun v => putD tm o.dst v fun tm => k tm hp) → o.wp P a w K Q := fun h => pop_wp hE hM hI (goes_pop hK) h
  cases hop : o.op with
  | alloc T => exact step_alloc hE hop hI hK h
  | box T x => exact step_box hE hop hI hK h
  | store T x y => exact step_store hE hop hI hK h
  | makeSlice T x y => exact step_make hE hop hI hK h
  | assign x => exact step_assign hop hI hK h
  | panic x => exact step_panic hop hI hKp h
  | call c =>
    cases hc : c.callee with
    | value f => exact step_callv hE hop hc hI hK hKp h
    | builtin b =>
      cases b with
      | append => exact step_append hE hop hc hI hK h
      | copy => exact step_copy hE hop hc hI hK h
      | _ =>
        refine dflt ?_
        unfold step1 at h
        rw [hop] at h ⊢
        simpa only [hc] using h
    | invoke r m =>
      refine dflt ?_
      unfold step1 at h
      rw [hop] at h ⊢
      simpa only [hc] using h
  | _ =>
    refine dflt ?_
    unfold step1 at h
    rw [hop] at h ⊢
    exact h

theorem kept_of {op : Op} {tm : List AV} {k : List AV → Prop} (h : kept op tm k) : ∃ vs, k vs := by
  unfold kept at h
  split at h
  case h_6 => exact ⟨_, h⟩
  all_goals (rw [evs_eq] at h; exact ⟨_, h⟩)

theorem step_wp (hE : EnvOK P E) (hM : MoreOK P o) (hI : Inv X w0 β S tm hp a w) (hK : Goes X w0 k K) (hKp : Falls X w0 kp Q) (h : step E o tm hp kp k) : o.wp P a w K Q := by
  unfold step at h
  obtain ⟨vs, h⟩ := kept_of h
  split at h
  · obtain ⟨tm', hp', β', S', h, _, hI'⟩ := freezesF_of hI h
    exact step1_wp hE hM hI' hK hKp h
  · exact step1_wp hE hM hI hK hKp h

end ops
end Go.Proofs.Ythakgbecpkfeoaa.Ev
