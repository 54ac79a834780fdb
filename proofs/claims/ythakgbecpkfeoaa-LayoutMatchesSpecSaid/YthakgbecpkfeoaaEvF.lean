/- Calls of functions that only compute; literals, lengths, parts of slices; all operations that change no object together. -/
import Derived.Test.YthakgbecpkfeoaaEvE
set_option linter.unusedVariables false
set_option linter.unusedSimpArgs false
namespace Go.Proofs.Ythakgbecpkfeoaa.Ev

section calm
variable {β β' : Nat → Option Value} {S S' : Nat → Prop} {w w' : World}
mutual
theorem RelV.calm : ∀ (v : AV) (u : Value), v.calm = true → RelV β S w v u → RelV β' S w v u
  | .int .., _, _, h => h
  | .bool .., _, _, h => h
  | .str .., _, _, h => h
  | .ptr .., _, hc, _ => by simp [AV.calm] at hc
  | .ep .., _, hc, _ => by simp [AV.calm] at hc
  | .oep .., _, hc, _ => by simp [AV.calm] at hc
  | .sl .., _, _, h => h
  | .lit .., _, _, h => h
  | .own .., _, hc, _ => by simp [AV.calm] at hc
  | .nil, _, _, h => h
  | .fn .., _, _, h => h
  | .clo .., _, hc, _ => by simp [AV.calm] at hc
  | .agg l, _, hc, ⟨cs, h1, h2⟩ => ⟨cs, h1, RelVs.calm l cs (by simpa [AV.calm] using hc) h2⟩
  | .tup l, _, hc, ⟨cs, h1, h2⟩ => ⟨cs, h1, RelVs.calm l cs (by simpa [AV.calm] using hc) h2⟩
  | .ifc _ x, _, hc, ⟨u, h1, h2⟩ => ⟨u, h1, RelV.calm x u (by simpa [AV.calm] using hc) h2⟩
  | .opq .., _, hc, _ => by simp [AV.calm] at hc
  | .skp, _, hc, _ => by simp [AV.calm] at hc
  | .undef, _, _, _ => by simp [RelV]
theorem RelVs.calm : ∀ (l : List AV) (us : List Value), AV.calms l = true → RelVs β S w l us → RelVs β' S w l us
  | [], _, _, h => h
  | v :: l, _, hc, ⟨u, us, h1, h2, h3⟩ => by
    simp only [AV.calms] at hc
    cases e : v.calm with
    | true => rw [e] at hc; exact ⟨u, us, h1, RelV.calm v u e h2, RelVs.calm l us hc h3⟩
    | false => rw [e] at hc; simp at hc
end

theorem plainA_rel {v : AV} {u : Value} (hp : plainA v = true) (h : RelV β S w v u) : RelV β' S' w' v u := by
  cases v <;> first | exact h | simp [plainA] at hp
theorem plainL_rel : ∀ {l : List AV} {us : List Value}, plainL l = true → RelVs β S w l us → RelVs β' S' w' l us
  | [], _, _, h => h
  | v :: l, _, hc, ⟨u, us, h1, h2, h3⟩ => by
    simp only [plainL] at hc
    cases e : plainA v with
    | true => rw [e] at hc; exact ⟨u, us, h1, plainA_rel e h2, plainL_rel hc h3⟩
    | false => rw [e] at hc; simp at hc
theorem plain1_rel {v : AV} {u : Value} (hp : plain1 v = true) (h : RelV β S w v u) : RelV β' S' w' v u := by
  cases v with
  | agg l => obtain ⟨vs, h1, h2⟩ := h; exact ⟨vs, h1, plainL_rel hp h2⟩
  | _ => exact plainA_rel hp h
theorem plainM_rel : ∀ {l : List AV} {us : List Value}, plainM l = true → RelVs β S w l us → RelVs β' S' w' l us
  | [], _, _, h => h
  | v :: l, _, hc, ⟨u, us, h1, h2, h3⟩ => by
    simp only [plainM] at hc
    cases e : plain1 v with
    | true => rw [e] at hc; exact ⟨u, us, h1, plain1_rel e h2, plainM_rel hc h3⟩
    | false => rw [e] at hc; simp at hc
theorem plainV_rel {v : AV} {u : Value} (hp : plainV v = true) (h : RelV β S w v u) : RelV β' S' w' v u := by
  cases v with
  | tup l => obtain ⟨vs, h1, h2⟩ := h; exact ⟨vs, h1, plainM_rel hp h2⟩
  | _ => exact plain1_rel hp h
end calm

/-- Behind a call: what was stable, and all that is new. -/
def after (S : Nat → Prop) (w w' : World) (b : Nat) : Prop := b < w'.heap.size ∧ (S b ∨ w.heap.size ≤ b)

section calls
variable {P : Program} {E : Env} {X : XR} {w0 : World} {β : Nat → Option Value} {S : Nat → Prop} {tm : List AV} {hp : Hp} {a : Act} {w : World}
variable {o : Oper} {K : Act → World → Prop} {Q : Exit → Act → World → Prop} {k : AV → Prop}

theorem heap_lt {w : World} {g : Nat} {x : Obj} (h : w.heap[g]? = some x) : g < w.heap.size := (Array.getElem?_eq_some_iff.1 h).1

theorem blk_lt (hI : Inv X w0 β S tm hp a w) {p : Nat} {v : Value} (h : β p = some v) {g : Nat} (hg : blk v = some g) : g < w.heap.size := by
  obtain ⟨x, hx⟩ := hI.live p v h
  cases x with
  | box cs =>
    obtain ⟨g', T, vs, h1, _, _, h4, _⟩ := hI.box p cs hx
    rw [h] at h1
    simp only [Option.some.injEq] at h1
    subst h1
    simp only [blk, Option.some.injEq] at hg
    subst hg
    exact heap_lt h4
  | arr τ xs =>
    obtain ⟨v', h1, h2⟩ := hI.arr p τ xs hx
    rw [h] at h1
    simp only [Option.some.injEq] at h1
    subst h1
    rcases h2 with ⟨_, rfl | ⟨g', rfl, h3, _⟩⟩ | ⟨g', cap, cur, rfl, _, _, h3, _⟩
    · simp [blk] at hg
    · simp only [blk, Option.some.injEq] at hg; subst hg; exact hI.sb _ h3
    · simp only [blk, Option.some.injEq] at hg; subst hg; exact heap_lt h3

/-- New blocks alone. -/
theorem Inv.grow (hI : Inv X w0 β S tm hp a w) {w' : World} (ho : w'.os = w.os) (ht : w'.tape = w.tape) (hu : w'.output = w.output) (hz : w.heap.size ≤ w'.heap.size)
    (hb : ∀ b, b < w.heap.size → w'.heap[b]? = w.heap[b]?) : Inv X w0 β (after S w w') tm hp a w' := by
  have hS : ∀ b, S b → after S w w' b := fun b h => ⟨Nat.lt_of_lt_of_le (hI.sb b h) hz, .inl h⟩
  have hw : ∀ b, S b → w'.heap[b]? = w.heap[b]? := fun b h => hb b (hI.sb b h)
  have hm : ∀ (l : List AV) vs, RelVs β S w l vs → RelVs β (after S w w') w' l vs := fun l vs => RelVs.mono (fun _ _ x => x) hS hw l vs
  have hn : ∀ b, b < w.heap.size → ¬ S b → ¬ after S w w' b := fun b h1 h2 h3 => h3.2.elim h2 (by omega)
  refine ⟨ho.trans hI.os, ht.trans hI.tape, hu.trans hI.output, Nat.le_trans hI.size hz, fun b h1 h2 => (hb b (Nat.lt_of_lt_of_le h1 hI.size)).trans (hI.old b h1 h2), hI.ext, fun b h => h.1, ?_, ?_, hI.live, hI.nodup, ?_, hm _ _ hI.rel, hI.defs, fun b hb hlt => hb.2.elim (fun h => hI.grew b h hlt) (fun h => by have := hI.size; omega), hI.keep, hI.far⟩
  · intro p cs hp'
    obtain ⟨g, T, vs, h1, h2, h3, h4, h5⟩ := hI.box p cs hp'
    exact ⟨g, T, vs, h1, h2, hn g (heap_lt h4) h3, (hb g (heap_lt h4)).trans h4, hm _ _ h5⟩
  · intro p τ xs hp'
    obtain ⟨v, h1, h2⟩ := hI.arr p τ xs hp'
    exact ⟨v, h1, h2.mono hS (fun b hv => hn b (blk_lt hI h1 hv)) (fun b hv => hb b (blk_lt hI h1 hv))⟩
  · intro p p' v v' g hne h1 h2 h3 h4 h5
    exact hI.apart p p' v v' g hne h1 h2 h3 (fun h6 => h4 (hS g h6)) h5

theorem viewsF_of (hI : Inv X w0 β S tm hp a w) : ∀ {vs : List AV} {us : List Value} {k : List AV → Prop}, RelVs β S w vs us → viewsF hp vs k →
    ∃ ws, k ws ∧ (anyOwn vs = false → RelVs β S w ws us) ∧ RelVs β (fun b => b < w.heap.size) w ws us
  | [], us, k, hr, h => ⟨[], h, fun _ => by simpa [RelVs] using hr, by simpa [RelVs] using hr⟩
  | v :: vs, us, k, ⟨u, us', h1, h2, h3⟩, h => by
    simp only [viewsF] at h
    obtain ⟨v', h, hv⟩ := viewF_of hI h2 h
    obtain ⟨ws, hk, hws, hrs⟩ := viewsF_of hI h3 h
    refine ⟨_, hk, ?_, ?_⟩
    · intro ha
      simp only [anyOwn] at ha
      rcases hv with ⟨hv1, rfl⟩ | ⟨p, τ, xs, rfl, hv2, rfl⟩
      · rw [hv1] at ha
        exact ⟨u, us', h1, RelV.low _ _ h2, hws ha⟩
      · simp [isOwn] at ha
    · refine ⟨u, us', h1, ?_, hrs⟩
      rcases hv with ⟨hv1, rfl⟩ | ⟨p, τ, xs, rfl, hv2, rfl⟩
      · exact RelV.mono (fun _ _ x => x) (fun b hb => hI.sb b hb) (fun _ _ => rfl) _ _ (RelV.low _ _ h2)
      · obtain ⟨hb, _⟩ := h2
        obtain ⟨v, h4, h5⟩ := hI.arr p τ xs hv2
        rw [hb] at h4
        obtain rfl : u = v := by simpa using h4
        exact own_sl h5 (fun b h => hI.sb b h) (fun b h => blk_lt hI hb h)

/-- A call of a function that only computes. -/
theorem call_pure (hE : EnvOK P E) (hI : Inv X w0 β S tm hp a w) {g : Nat} {h : List AV → Option (Prop × AV)} (hg : (g, Spec.pure h) ∈ E.sp)
    {vs ws : List AV} {us : List Value} {p : Prop} {r : AV} (hws : anyOwn vs = false → RelVs β S w ws us) (hrs : RelVs β (fun b => b < w.heap.size) w ws us)
    (hcalm : AV.calms ws = true) (hh : h ws = some (p, r)) (hp' : p) (hr : r.calm = true) :
    Calls P g us.toArray w fun e w' => ∃ u, e = .returned u ∧ w'.os = w.os ∧ w'.tape = w.tape ∧ w'.output = w.output ∧ w.heap.size ≤ w'.heap.size ∧ (∀ b, b < w.heap.size → w'.heap[b]? = w.heap[b]?) ∧
      (anyOwn vs = false → RelV β (after S w w') w' r u) ∧ RelV β (fun b => b < w'.heap.size) w' r u := by
  have hspec := (hE.pure g h hg).1
  cases hown : anyOwn vs with
  | false =>
    refine (hspec S w ws us p r hI.sb (RelVs.calm ws us hcalm (hws hown)) hh hp').mono fun e w' ⟨u, h1, h2, h3, h4, h5, h6, h7⟩ => ?_
    have h8 : RelV β (after S w w') w' r u := RelV.calm r u hr h2
    exact ⟨u, h1, h3, h4, h5, h6, h7, fun _ => h8, RelV.mono (fun _ _ x => x) (fun b hb => hb.1) (fun _ _ => rfl) _ _ h8⟩
  | true =>
    refine (hspec (fun b => b < w.heap.size) w ws us p r (fun _ x => x) (RelVs.calm ws us hcalm hrs) hh hp').mono fun e w' ⟨u, h1, h2, h3, h4, h5, h6, h7⟩ => ?_
    exact ⟨u, h1, h3, h4, h5, h6, h7, fun hf => by simp at hf, RelV.mono (fun _ _ x => x) (fun b hb => hb.1) (fun _ _ => rfl) _ _ (RelV.calm (β' := β) r u hr h2)⟩

theorem exec_fn (hI : Inv X w0 β S tm hp a w) {c : Call} {f : Operand} (hop : o.op = .call c) (hc : c.callee = .value f) {g : Nat} (hf : a.eval f = .func (.func g) #[] #[])
    (hgo : ∀ w args, (callFunc g args).run P w = .ok (.enter g args) w) : (execOp a.eval o).run P w = .ok (.enter g (c.args.toList.map a.eval).toArray) w := by
  have e : c.args.map a.eval = (c.args.toList.map a.eval).toArray := by rw [← Array.toList_map]
  simp [execOp, hop, resolve, hc, hf, Deferred.ofValue, invoke, hgo, e]

theorem exec_clo (hI : Inv X w0 β S tm hp a w) {c : Call} {f : Operand} (hop : o.op = .call c) (hc : c.callee = .value f) {g : Nat} {cs : List Value} (hf : a.eval f = .func (.func g) #[] cs.toArray)
    (hgo : ∀ w args, (callFunc g args).run P w = .ok (.enter g args) w) : (execOp a.eval o).run P w = .ok (.enter g (c.args.toList.map a.eval ++ cs).toArray) w := by
  have e : c.args.map a.eval = (c.args.toList.map a.eval).toArray := by rw [← Array.toList_map]
  simp [execOp, hop, resolve, hc, hf, Deferred.ofValue, invoke, hgo, e]

theorem wp_enter {g : Nat} {args : Array Value} (h : (execOp a.eval o).run P w = .ok (.enter g args) w) {R : Ending → World → Prop} (hc : Calls P g args w R)
    (hR : ∀ e w', R e w' → match e with | .returned v => K (a.put o.dst v) w' | .panicked chain => Q (.panic chain) a w' | .outgrown => LetsOut Q) : o.wp P a w K Q := by
  unfold Oper.wp
  rw [h, Oper.upon_enter]
  refine hc.mono fun e w' he => ?_
  have := hR e w' he
  cases e <;> exact this

theorem anyOwn_append (l m : List AV) : anyOwn (l ++ m) = (anyOwn l || anyOwn m) := by
  induction l with
  | nil => simp [anyOwn]
  | cons v l ih => simp only [List.cons_append, anyOwn]; cases isOwn v <;> simp [ih]
theorem calms_append (l m : List AV) : AV.calms (l ++ m) = (AV.calms l && AV.calms m) := by
  induction l with
  | nil => simp [AV.calms]
  | cons v l ih => simp only [List.cons_append, AV.calms]; cases v.calm <;> simp [ih]
theorem calm_own : ∀ {l : List AV}, AV.calms l = true → anyOwn l = false
  | [], _ => rfl
  | v :: l, h => by
    simp only [AV.calms] at h
    cases e : v.calm with
    | true =>
      rw [e] at h
      simp only [anyOwn]
      cases v <;> first | exact calm_own h | simp [AV.calm] at e
    | false => rw [e] at h; simp at h

end calls
end Go.Proofs.Ythakgbecpkfeoaa.Ev
