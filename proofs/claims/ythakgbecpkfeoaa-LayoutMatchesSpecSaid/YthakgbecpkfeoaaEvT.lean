/- Functions: what the evaluator says of a body holds of every call. -/
import Derived.Test.YthakgbecpkfeoaaEvS
set_option linter.unusedVariables false
set_option linter.unusedSimpArgs false
namespace Go.Proofs.Ythakgbecpkfeoaa.Ev

theorem skpsF_eq (n : Nat) (k : List AV → Prop) : skpsF n k = k (List.replicate n .skp) := by
  induction n generalizing k with
  | zero => rfl
  | succ n ih => simp [skpsF, ih, List.replicate_succ]
theorem initF_eq (l : List AV) (n : Nat) (k : List AV → Prop) : initF l n k = k (l ++ List.replicate (n - l.length) .skp) := by
  induction l generalizing n k with
  | nil => simp [initF, skpsF_eq]
  | cons v l ih =>
    simp only [initF, AV.f_eq, ih, List.cons_append, List.length_cons]
    rw [show n - 1 - l.length = n - (l.length + 1) by omega]

def extL : Nat → List (List AV) → Hp
  | _, [] => []
  | i, cs :: l => (1000 + i, .box cs) :: extL (i + 1) l
theorem extF_eq (i : Nat) (l : List (List AV)) (k : Hp → Prop) : extF i l k = k (extL i l) := by
  induction l generalizing i k with
  | nil => rfl
  | cons cs l ih => simp [extF, extL, ih]
theorem extL_mem {l : List (List AV)} {i o : Nat} {x : AO} : (o, x) ∈ extL i l ↔ ∃ j cs, l[j]? = some cs ∧ o = 1000 + i + j ∧ x = .box cs := by
  induction l generalizing i with
  | nil => simp [extL]
  | cons cs l ih =>
    simp only [extL, List.mem_cons, Prod.mk.injEq, ih]
    constructor
    · rintro (⟨rfl, rfl⟩ | ⟨j, cs', h1, rfl, rfl⟩)
      · exact ⟨0, cs, rfl, rfl, rfl⟩
      · exact ⟨j + 1, cs', by simpa using h1, by omega, rfl⟩
    · rintro ⟨j, cs', h1, rfl, rfl⟩
      cases j with
      | zero => simp at h1; subst h1; exact .inl ⟨rfl, rfl⟩
      | succ j => exact .inr ⟨j, cs', by simpa using h1, by omega, rfl⟩
theorem extL_nodup (i : Nat) (l : List (List AV)) : ((extL i l).map (·.1)).Nodup := by
  induction l generalizing i with
  | nil => simp [extL]
  | cons cs l ih =>
    simp only [extL, List.map_cons, List.nodup_cons]
    refine ⟨?_, ih _⟩
    intro hm
    obtain ⟨⟨o, x⟩, h1, h2⟩ := List.mem_map.1 hm
    obtain ⟨j, cs', _, h3, _⟩ := extL_mem.1 h1
    simp only at h2
    omega

theorem extOut_of {hp : Hp} : ∀ {n i : Nat} {k : List (List AV) → Prop}, extOut hp n i k → ∃ bs, k bs ∧ bs.length = n ∧ ∀ (j : Nat) (cs : List AV), bs[j]? = some cs → (1000 + i + j, AO.box cs) ∈ hp ∧ AV.frees cs = true
  | 0, i, k, h => ⟨[], h, rfl, by simp⟩
  | n + 1, i, k, h => by
    simp only [extOut] at h
    obtain ⟨x, hx, h⟩ := hget_of h
    split at h
    · rename_i cs
      split at h
      · rename_i hf
        obtain ⟨bs, h, hl, hall⟩ := extOut_of h
        refine ⟨_, h, by simp [hl], ?_⟩
        intro j cs' hj
        cases j with
        | zero => simp at hj; subst hj; exact ⟨hx, hf⟩
        | succ j =>
          have := hall j cs' (by simpa using hj)
          rwa [show 1000 + (i + 1) + j = 1000 + i + (j + 1) by omega] at this
      · exact h.elim
    · exact h.elim

section funs
variable {P : Program} {E : Env} {X : XR} {w0 : World} {β : Nat → Option Value} {S : Nat → Prop} {tm : List AV} {hp : Hp} {a : Act} {w : World}

theorem loadVar_run {T : Nat} {ti : TI} (ht : tiOf P T = some ti) {b : Addr} {vs : List Value} (hl : vs.length = ti.size) (hc : ∀ j v, vs[j]? = some v → w.cell? (b.add j) = some v) {l : List AV} (hr : RelVs β S w l vs)
    {k : AV → Prop} (h : shapeF ti.agg l k) : ∃ r u, k r ∧ RelV β S w r u ∧ (loadVar T b).run P w = .ok u w := by
  obtain ⟨i, z, d, h1, h2, h3, h4, h5, h6⟩ := tiOf_info ht
  have hsz : (loadCells b ti.size).run P w = .ok vs.toArray w := by rw [← hl]; exact run_loadCells_list w b vs hc
  have hagg : (isAgg T).run P w = .ok ti.agg w := by
    unfold isAgg
    simp only [Sem.run_bind, run_underlying h3, Result.andThen_ok]
    rw [← h6]
    cases d <;> rfl
  unfold shapeF at h
  split at h
  · rename_i hb
    refine ⟨.agg l, .agg vs.toArray, h, ⟨vs, rfl, hr⟩, ?_⟩
    simp [loadVar, hagg, hb, sizeOf, typeInfo, h1, h4, hsz]
  · rename_i hb
    split at h
    · rename_i x
      obtain ⟨v, us, rfl, hx, hn⟩ := hr
      simp only [RelVs] at hn
      subst hn
      rw [AV.f_eq] at h
      have h0 := hc 0 v rfl
      have e : b.add 0 = b := by simp [Addr.add]
      rw [e] at h0
      exact ⟨x, v, h, hx, by simp [loadVar, hagg, hb, h0]⟩
    · exact h.elim

/-- What a caller may read behind the call. -/
def seen (S : Nat → Prop) (w0 w : World) (b : Nat) : Prop := b < w.heap.size ∧ (S b ∨ w0.heap.size ≤ b)

def resRun (tmps : Array Value) : ResultVar → Sem Value
  | .tmp t => pure (tmps.getD t undef)
  | .cell a t => do loadVar t (← asAddr (tmps.getD a undef))

theorem resF_of (hE : EnvOK P E) (hI : Inv X w0 β S tm hp a w) : ∀ {l : List ResultVar} {k : List AV → Prop}, resF E tm hp l k →
    ∃ vs us, k vs ∧ RelVs β (seen S w0 w) w vs us ∧ (l.mapM (resRun a.tmps)).run P w = .ok us w
  | [], k, h => ⟨[], [], h, by simp [RelVs], rfl⟩
  | .tmp t :: l, k, h => by
    simp only [resF] at h
    have ht := hI.eval (.tmp t)
    obtain ⟨v', h, hv⟩ := viewF_of hI (v := getV tm t) ht h
    rw [AV.f_eq] at h
    obtain ⟨vs, us, hk, hr, hrun⟩ := resF_of hE hI h
    refine ⟨_, (a.eval (.tmp t)) :: us, hk, ⟨_, _, rfl, ?_, hr⟩, ?_⟩
    · rcases hv with ⟨_, rfl⟩ | ⟨p, τ, xs, hv1, hv2, rfl⟩
      · exact RelV.mono (fun _ _ x => x) (fun b hb => ⟨hI.sb b hb, .inl hb⟩) (fun _ _ => rfl) _ _ (RelV.low _ _ ht)
      · simp only [evalV, hv1] at ht
        obtain ⟨hb, _⟩ := ht
        obtain ⟨v, h4, h5⟩ := hI.arr p τ xs hv2
        rw [hb] at h4
        obtain rfl : a.eval (.tmp t) = v := by simpa using h4
        refine own_sl h5 (fun b h => ⟨hI.sb b h, .inl h⟩) (fun b h => ⟨blk_lt hI hb h, ?_⟩)
        rcases h5 with ⟨_, h6 | ⟨g, h6, h7, _⟩⟩ | ⟨g, cap, cur, h6, h7, _⟩
        · rw [h6] at h; simp [blk] at h
        · rw [h6] at h; simp only [blk, Option.some.injEq] at h; subst h; exact .inl h7
        · rw [h6] at h; simp only [blk, Option.some.injEq] at h; subst h; exact .inr h7
    · simp only [List.mapM_cons, resRun, Sem.run_bind, Sem.run_pure, Result.andThen_ok, hrun]
      rfl
  | .cell c T :: l, k, h => by
    simp only [resF] at h
    have ht := hI.eval (.tmp c)
    split at h
    · rename_i p off hv
      simp only [evalV, hv] at ht
      obtain ⟨g, hg, hxv⟩ := ht
      obtain ⟨ti, hti, h⟩ := tiGet_of h
      obtain ⟨ao, hao, h⟩ := hget_of h
      split at h
      · rename_i cs
        obtain ⟨T', vs, hh, hr⟩ := box_cells hI hao hg
        obtain ⟨hd1, h⟩ := dropF_of h
        obtain ⟨hd2, h⟩ := takeF_of h
        have hr' := (hr.drop off).take ti.size
        have hl : ((vs.toList.drop off).take ti.size).length = ti.size := by rw [← hr'.length]; simp at hd2 ⊢; omega
        obtain ⟨r, u, hk, hru, hrun⟩ := loadVar_run (hE.ty _ _ hti) (b := ⟨g, off, none⟩) hl (fun j v hj => cells_at hh j v hj) hr' h
        obtain ⟨vs', us, hk, hrs, hrun2⟩ := resF_of hE hI hk
        refine ⟨_, u :: us, hk, ⟨_, _, rfl, RelV.mono (fun _ _ x => x) (fun b hb => ⟨hI.sb b hb, .inl hb⟩) (fun _ _ => rfl) _ _ hru, hrs⟩, ?_⟩
        have hx' : a.tmps.getD c undef = .pointer (some ⟨g, off, none⟩) := hxv
        simp only [List.mapM_cons, resRun, hx', asAddr, Sem.run_bind, Sem.run_pure, Result.andThen_ok, hrun, hrun2]
      · exact h.elim
    · exact h.elim

theorem results_eq (fn : Func) (tmps : Array Value) : results fn tmps = (do let vs ← fn.results.mapM (resRun tmps); pure (if h : vs.size = 1 then vs[0] else .tuple vs)) := by
  have e : ∀ x, resRun tmps x = (match x with | .tmp t => pure (tmps.getD t undef) | .cell a t => do loadVar t (← asAddr (tmps.getD a undef)) : Sem Value) := fun x => by cases x <;> rfl
  unfold results
  rw [funext e]
  rfl

/-- One result, or a tuple of them. -/
def packed : List Value → Value
  | [u] => u
  | us => .tuple us.toArray

theorem results_run {fn : Func} {tmps : Array Value} {us : List Value} (h : (fn.results.toList.mapM (resRun tmps)).run P w = .ok us w) :
    (results fn tmps).run P w = .ok (packed us) w := by
  rw [results_eq, Array.mapM_eq_mapM_toList]
  simp only [Sem.run_bind, Sem.run_map, h, Result.andThen_ok, Sem.run_pure]
  match us with
  | [] => rfl
  | [u] => rfl
  | u :: v :: l => simp [packed]

/-- What the evaluator asks at a function's end. -/
def retK (E : Env) (fn : Func) (n : Nat) (Q : Out → List (List AV) → Prop) (tm : List AV) (hp : Hp) : Prop :=
  resF E tm hp fn.results.toList fun vs => extOut hp n 0 fun bs' => match vs with
      | [v] => match v.calm with
        | true => Q (.ret v) bs'
        | false => False
      | vs => match AV.calms vs with
        | true => Q (.ret (.tup vs)) bs'
        | false => False

theorem evFn_full {fn : Func} {f : Nat} {c : Code} (hE : EnvOK P E) (hmix : P.follows .mixedOrders = true) (hf : P.funcs[f]? = some fn) (hb : fn.body = some c) (hm : moreB P c = true)
    {s : List AV → List (List AV) → (Out → List (List AV) → Prop) → Prop} (H : ∀ args bs Q, s args bs Q → evFn E fn args bs Q) : SpecFull P f s := by
  intro S w args vals bs gs Q hS hgl hgn hgd hbs hargs hs
  have h := H args bs Q hs
  unfold evFn at h
  rw [hb] at h
  simp only [initF_eq, extF_eq] at h
  let X : XR := ⟨fun g => g ∈ gs, S, extβ gs⟩
  have hext : ∀ i g, gs[i]? = some g → extβ gs (1000 + i) = some (.pointer (some ⟨g, 0, none⟩)) := fun i g hi => by simp [extβ, hi]
  have hext' : ∀ o v, extβ gs o = some v → ∃ i g, o = 1000 + i ∧ gs[i]? = some g ∧ v = .pointer (some ⟨g, 0, none⟩) := by
    intro o v h
    unfold extβ at h
    split at h
    · obtain ⟨g, h1, h2⟩ := Option.map_eq_some_iff.1 h
      exact ⟨o - 1000, g, by omega, h1, h2.symm⟩
    · simp at h
  have hsz : args.length = vals.length := hargs.length
  have hI : Inv X w (extβ gs) S (args ++ List.replicate (fn.ntmps - args.length) .skp) (extL 0 bs) { tmps := vals.toArray ++ Array.replicate (fn.ntmps - vals.toArray.size) undef, defers := [] } w := by
    refine ⟨rfl, rfl, rfl, Nat.le_refl _, fun _ _ _ => rfl, fun b hb => (hgd b hb).2, hS, ?_, ?_, ?_, extL_nodup 0 bs, ?_, ?_, rfl, fun b hb _ => hb, fun o v u h1 h2 => ?_, fun o v h => ?_⟩
    · intro o cs hm
      obtain ⟨j, cs', h1, rfl, h3⟩ := extL_mem.1 hm
      simp only [AO.box.injEq] at h3
      subst h3
      obtain ⟨g, T, vs, h4, h5, h6⟩ := hbs j cs h1
      exact ⟨g, T, vs, by simpa using hext j g h4, .inr (List.mem_of_getElem? h4), (hgd g (List.mem_of_getElem? h4)).1, h5, h6⟩
    · intro o τ xs hm
      obtain ⟨j, cs', h1, rfl, h3⟩ := extL_mem.1 hm
      simp at h3
    · intro o v h
      obtain ⟨i, g, rfl, h1, rfl⟩ := hext' o v h
      have hlt : i < bs.length := by rw [← hgl]; exact (List.getElem?_eq_some_iff.1 h1).1
      exact ⟨.box bs[i], extL_mem.2 ⟨i, bs[i], List.getElem?_eq_getElem hlt, by omega, rfl⟩⟩
    · intro o o' v v' g hne h1 h2 h3 h4 h5
      obtain ⟨i, g1, rfl, q1, rfl⟩ := hext' o v h1
      obtain ⟨j, g2, rfl, q2, rfl⟩ := hext' o' v' h2
      simp only [blk, Option.some.injEq] at h3 h5
      subst h3
      subst h5
      obtain ⟨a1, a2⟩ := List.getElem?_eq_some_iff.1 q1
      obtain ⟨b1, b2⟩ := List.getElem?_eq_some_iff.1 q2
      have := (List.getElem_inj (h₀ := a1) (h₁ := b1) hgn).1 (a2.trans b2.symm)
      omega
    · simp only [Array.toList_append, Array.toList_replicate, List.size_toArray]
      rw [hsz]
      refine hargs.append ?_
      generalize fn.ntmps - vals.length = n
      induction n with
      | zero => simp [RelVs]
      | succ n ih => exact ⟨undef, _, rfl, rfl, ih⟩
    · rw [show X.e o = extβ gs o from rfl, h2] at h1; simpa using h1
    · obtain ⟨i, g, rfl, _⟩ := hext' o v h
      omega
  refine calls_of_wp hf hb (ev_wp hE hmix c hm _ _ ?_ _ _ _ _ _ _ hI h)
  intro β' S' tm' hp' a' w' hI'
  have hback : ∀ {n : Nat} {bs' : List (List AV)}, (∀ (j : Nat) (cs : List AV), bs'[j]? = some cs → (1000 + 0 + j, AO.box cs) ∈ hp' ∧ AV.frees cs = true) → bs'.length = bs.length →
      ∀ (i : Nat) (cs : List AV), bs'[i]? = some cs → ∃ (g T : Nat) (vs : Array Value), gs[i]? = some g ∧ w'.heap[g]? = some (Obj.cells vs T (0, 0)) ∧ RelVs (extβ gs) (seen S' w w') w' cs vs.toList := by
    intro n bs' hall hl i cs hi
    obtain ⟨h1, h2⟩ := hall i cs hi
    obtain ⟨g, T, vs, h3, _, _, h5, h6⟩ := hI'.box _ cs h1
    have hlt : i < gs.length := by rw [hgl, ← hl]; exact (List.getElem?_eq_some_iff.1 hi).1
    have hgi := List.getElem?_eq_getElem hlt
    have := hI'.keep (1000 + 0 + i) _ _ (by simpa using hext i _ hgi) h3
    simp only [Value.pointer.injEq, Option.some.injEq, Addr.mk.injEq, and_true] at this
    subst this
    exact ⟨_, T, vs, hgi, h5, RelVs.mono (fun _ _ x => x) (fun b hb => ⟨hI'.sb b hb, .inl hb⟩) (fun _ _ => rfl) _ _ (RelVs.free (β' := extβ gs) _ _ h2 h6)⟩
  have hold : ∀ b, b < w.heap.size → b ∉ gs → w'.heap[b]? = w.heap[b]? := fun b h1 h2 => hI'.old b h1 h2
  have hS' : ∀ b, seen S' w w' b → b < w'.heap.size ∧ (S b ∨ w.heap.size ≤ b) := fun b hb => ⟨hb.1, hb.2.elim (fun h => (Nat.lt_or_ge b w.heap.size).elim (fun hlt => .inl (hI'.grew b h hlt)) .inr) .inr⟩
  let S2 : Nat → Prop := fun b => seen S' w w' b ∨ S b
  have hS2 : ∀ b, S2 b → b < w'.heap.size ∧ (S b ∨ w.heap.size ≤ b) := fun b hb => hb.elim (hS' b) (fun h => ⟨Nat.lt_of_lt_of_le (hS b h) hI'.size, .inl h⟩)
  have hret : retK E fn bs.length Q tm' hp' → a'.defers = [] ∧ ∃ v, (results fn a'.tmps).run P w' = .ok v w' ∧
      ∃ (out : Out) (bs' : List (List AV)) (S' : Nat → Prop), Q out bs' ∧
      (match out with | .ret r => ∃ v', Ending.returned v = .returned v' ∧ RelV (extβ gs) S' w' r v' | .pan r => ∃ v', Ending.returned v = .panicked [{ v := v', recovered := false }] ∧ RelV (extβ gs) S' w' r v') ∧
      bs'.length = bs.length ∧ (∀ (i : Nat) (cs : List AV), bs'[i]? = some cs → ∃ (g T : Nat) (vs : Array Value), gs[i]? = some g ∧ w'.heap[g]? = some (Obj.cells vs T (0, 0)) ∧ RelVs (extβ gs) S' w' cs vs.toList) ∧
      w'.os = w.os ∧ w'.tape = w.tape ∧ w'.output = w.output ∧ w.heap.size ≤ w'.heap.size ∧ (∀ b, b < w.heap.size → b ∉ gs → w'.heap[b]? = w.heap[b]?) ∧
      (∀ b, S b → S' b) ∧ (∀ b, S' b → b < w'.heap.size ∧ (S b ∨ w.heap.size ≤ b)) := by
    intro hk
    unfold retK at hk
    obtain ⟨vs, us, hk, hr, hrun⟩ := resF_of hE hI' hk
    obtain ⟨bs', hk2, hl, hall⟩ := extOut_of hk
    clear hk
    have hrun := results_run hrun
    refine ⟨hI'.defs, _, hrun, ?_⟩
    have hbb := hback (n := 0) hall hl
    have fin : ∀ (r : AV) (u : Value), RelV (extβ gs) (seen S' w w') w' r u → Q (.ret r) bs' → ∃ (out : Out) (bs' : List (List AV)) (S' : Nat → Prop), Q out bs' ∧
      (match out with | .ret r => ∃ v', Ending.returned u = .returned v' ∧ RelV (extβ gs) S' w' r v' | .pan r => ∃ v', Ending.returned u = .panicked [{ v := v', recovered := false }] ∧ RelV (extβ gs) S' w' r v') ∧
      bs'.length = bs.length ∧ (∀ (i : Nat) (cs : List AV), bs'[i]? = some cs → ∃ (g T : Nat) (vs : Array Value), gs[i]? = some g ∧ w'.heap[g]? = some (Obj.cells vs T (0, 0)) ∧ RelVs (extβ gs) S' w' cs vs.toList) ∧
      w'.os = w.os ∧ w'.tape = w.tape ∧ w'.output = w.output ∧ w.heap.size ≤ w'.heap.size ∧ (∀ b, b < w.heap.size → b ∉ gs → w'.heap[b]? = w.heap[b]?) ∧
      (∀ b, S b → S' b) ∧ (∀ b, S' b → b < w'.heap.size ∧ (S b ∨ w.heap.size ≤ b)) := by
      intro r u hru hq
      refine ⟨.ret r, bs', S2, hq, ⟨u, rfl, RelV.mono (fun _ _ x => x) (fun b hb => .inl hb) (fun _ _ => rfl) _ _ hru⟩, hl, ?_, hI'.os, hI'.tape, hI'.output, hI'.size, hold, fun b hb => .inr hb, hS2⟩
      intro i cs hi
      obtain ⟨g, T, vs, h1, h2, h3⟩ := hbb i cs hi
      exact ⟨g, T, vs, h1, h2, RelVs.mono (fun _ _ x => x) (fun b hb => .inl hb) (fun _ _ => rfl) _ _ h3⟩
    split at hk2
    · rename_i v
      obtain ⟨u, us', rfl, hru, hn⟩ := hr
      simp only [RelVs] at hn
      subst hn
      split at hk2
      · rename_i hc
        exact fin v u (RelV.calm v u hc hru) hk2
      · exact hk2.elim
    · rename_i vs' hne
      split at hk2
      · rename_i hc
        have hus : packed us = Value.tuple us.toArray := by
          match us, hr with
          | [], _ => rfl
          | [u], hr =>
            have := hr.length
            match vs, this with
            | [v], _ => exact absurd rfl (hne v)
          | _ :: _ :: _, _ => rfl
        rw [hus]
        exact fin (.tup vs) _ ⟨us, rfl, RelVs.calm vs us hc hr⟩ hk2
      · exact hk2.elim
  refine ⟨hret, fun id h => h.elim, hret, fun v u hk hc hr => ?_⟩
  obtain ⟨bs', hk, hl, hall⟩ := extOut_of hk
  have hbb := hback (n := 0) hall hl
  refine ⟨hI'.defs, .pan v, bs', S2, hk, ⟨u, rfl, RelV.mono (fun _ _ x => x) (fun b hb => .inl ⟨hI'.sb b hb, .inl hb⟩) (fun _ _ => rfl) _ _ (RelV.calm (β' := extβ gs) v u hc hr)⟩, hl, ?_, hI'.os, hI'.tape, hI'.output, hI'.size, hold, fun b hb => .inr hb, hS2⟩
  intro i cs hi
  obtain ⟨g, T, vs, h1, h2, h3⟩ := hbb i cs hi
  exact ⟨g, T, vs, h1, h2, RelVs.mono (fun _ _ x => x) (fun b hb => .inl hb) (fun _ _ => rfl) _ _ h3⟩

theorem extβ_nil : extβ [] = fun _ => none := by funext o; unfold extβ; split <;> simp

/- Says no more than the other. -/
mutual
inductive Wk : AV → AV → Prop where
  | refl (v : AV) : Wk v v
  | nil (τ : ET) : Wk .nil (.sl τ [])
  | agg {l m : List AV} : WkL l m → Wk (.agg l) (.agg m)
  | tup {l m : List AV} : WkL l m → Wk (.tup l) (.tup m)
inductive WkL : List AV → List AV → Prop where
  | nil : WkL [] []
  | cons {v u : AV} {l m : List AV} : Wk v u → WkL l m → WkL (v :: l) (u :: m)
end

mutual
theorem Wk.rel {β : Nat → Option Value} {S : Nat → Prop} {w : World} : ∀ {v r : AV}, Wk v r → ∀ (u : Value), RelV β S w v u → RelV β S w r u
  | _, _, .refl _, _, h => h
  | _, _, .nil τ, _, h => by
    simp only [RelV] at h
    subst h
    exact ⟨none, 0, rfl, by simp, by simp, fun hne => absurd rfl hne⟩
  | _, _, .agg hl, _, ⟨cs, h1, h2⟩ => ⟨cs, h1, WkL.rel hl cs h2⟩
  | _, _, .tup hl, _, ⟨cs, h1, h2⟩ => ⟨cs, h1, WkL.rel hl cs h2⟩
theorem WkL.rel {β : Nat → Option Value} {S : Nat → Prop} {w : World} : ∀ {l m : List AV}, WkL l m → ∀ (us : List Value), RelVs β S w l us → RelVs β S w m us
  | _, _, .nil, _, h => h
  | _, _, .cons h1 h2, _, ⟨u, us, h3, h4, h5⟩ => ⟨u, us, h3, Wk.rel h1 u h4, WkL.rel h2 us h5⟩
end

theorem Wk.eq {v r : AV} (h : v = r) : Wk v r := h ▸ .refl v

theorem evFn_pure {fn : Func} {f : Nat} {c : Code} (hE : EnvOK P E) (hmix : P.follows .mixedOrders = true) (hf : P.funcs[f]? = some fn) (hb : fn.body = some c) (hm : moreB P c = true)
    {h : List AV → Option (Prop × AV)} (H : ∀ args p r, h args = some (p, r) → p → evFn E fn args [] fun out _ => ∃ v, out = .ret v ∧ Wk v r) : SpecPure P f h := by
  intro S w args vals p r hS hr hh hp
  have hfull := evFn_full (s := fun args bs Q => ∃ p r, h args = some (p, r) ∧ p ∧ bs = [] ∧ Q = fun out _ => ∃ v, out = .ret v ∧ Wk v r) hE hmix hf hb hm (fun args bs Q ⟨p, r, h1, h2, h3, h4⟩ => by subst h3; subst h4; exact H args p r h1 h2)
  have := hfull S w args vals [] [] (fun out _ => ∃ v, out = .ret v ∧ Wk v r) hS rfl (by simp) (by simp) (by simp) (by rw [extβ_nil]; exact hr) ⟨p, r, hh, hp, rfl, rfl⟩
  refine this.mono fun e w' ⟨out, bs', S', hQ, hout, hl, _, h1, h2, h3, h4, h5, h6, h7⟩ => ?_
  obtain ⟨v0, rfl, hwk⟩ := hQ
  simp only at hout
  obtain ⟨v, he, hv⟩ := hout
  rw [extβ_nil] at hv
  exact ⟨v, he, RelV.mono (fun _ _ x => x) h7 (fun _ _ => rfl) _ _ (hwk.rel _ hv), h1, h2, h3, h4, fun b hb => h5 b hb (by simp)⟩

end funs
end Go.Proofs.Ythakgbecpkfeoaa.Ev
