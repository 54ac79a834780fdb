/- Copies and calls: told rightly; every operation, all together. -/
import Derived.Test.YthakgbecpkfeoaaEvL
set_option linter.unusedVariables false
set_option linter.unusedSimpArgs false
namespace Go.Proofs.Ythakgbecpkfeoaa.Ev

section ops
variable {P : Program} {E : Env} {X : XR} {w0 : World} {β : Nat → Option Value} {S : Nat → Prop} {tm : List AV} {hp : Hp} {a : Act} {w : World}
variable {o : Oper} {K : Act → World → Prop} {Q : Exit → Act → World → Prop} {k : List AV → Hp → Prop} {kp : AV → List AV → Hp → Prop}

theorem nodup_one {h : Hp} (hn : (h.map (·.1)).Nodup) {o : Nat} {x y : AO} (h1 : (o, x) ∈ h) (h2 : (o, y) ∈ h) : x = y := by
  induction h with
  | nil => simp at h1
  | cons p h ih =>
    obtain ⟨q, z⟩ := p
    simp only [List.map_cons, List.nodup_cons] at hn
    simp only [List.mem_cons, Prod.mk.injEq] at h1 h2
    rcases h1 with ⟨rfl, rfl⟩ | h1
    · rcases h2 with ⟨_, rfl⟩ | h2
      · rfl
      · exact absurd (List.mem_map.2 ⟨_, h2, rfl⟩) hn.1
    · rcases h2 with ⟨rfl, _⟩ | h2
      · exact absurd (List.mem_map.2 ⟨_, h1, rfl⟩) hn.1
      · exact ih hn.2 h1 h2

theorem step_copy (hE : EnvOK P E) {c : Call} (hop : o.op = .call c) (hc : c.callee = .builtin .copy) (hI : Inv X w0 β S tm hp a w) (hK : Goes X w0 k K) (h : step1 E o tm hp kp k) : o.wp P a w K Q := by
  unfold step1 at h
  rw [hop] at h
  simp only [hc] at h
  split at h
  · rename_i x y T T' hargs htys
    have e1 : c.args = #[x, y] := by simpa using congrArg List.toArray hargs
    have e2 : c.argTypes = #[T, T'] := by simpa using congrArg List.toArray htys
    obtain ⟨ti, hti, h⟩ := tiGet_of h
    split at h
    · rename_i p hhas hv
      obtain ⟨j, z, h1, h2, h3, h4, h5, h6⟩ := tiOf_elem (hE.ty _ _ hti) (τ := .i64) (by simpa using has_of hhas)
      have hx := hI.eval x
      rw [hv] at hx
      obtain ⟨hb, hsl⟩ := hx
      obtain ⟨ao, hao, h⟩ := hget_of h
      split at h
      · rename_i xs
        obtain ⟨τ', ys, h, A, cy, hyv, _, _, hrd, _⟩ := listF_of hI (hI.eval y) h
        obtain ⟨rfl, h⟩ := castF_of h
        obtain ⟨⟨hx0, hy0⟩, h⟩ := h
        simp only at hy0 h
        rw [hputF_eq, putD_eq] at h
        obtain ⟨v, hv1, hv2⟩ := hI.arr p _ xs hao
        rw [hb] at hv1
        obtain rfl : a.eval x = v := by simpa using hv1
        rcases hv2 with ⟨e, _⟩ | ⟨g, cap, cur, hxv, k1, k2, hh, k3, k4, k5, htake⟩
        · exact absurd e hx0
        · obtain ⟨ad, rfl, _, hnew⟩ := hrd (by rw [cellsOf_ints]; simpa using hy0)
          simp only [ET.size, Nat.mul_one] at k5 htake
          have hcl : (cellsOf .i64 (ys.take xs.length)).length = Nat.min ys.length xs.length := by
            rw [cellsOf_length, List.length_take, ET.size, Nat.mul_one]
            exact Nat.min_comm _ _
          have hmn : Nat.min ys.length xs.length ≤ xs.length := Nat.min_le_right _ _
          have hr := run_copy_row (P := P) w T T' o.type ET.i64.tid g 0 xs.length cap ad ys.length cy cur ET.i64.tid (cellsOf .i64 (ys.take xs.length)) h1 (by rw [h2]; simp [h4, ET.size]) hh hcl
            (fun j v hj => hnew j v (by
              rw [cellsOf_ints] at hj ⊢
              rw [List.map_take, List.getElem?_take] at hj
              split at hj
              · exact hj
              · simp at hj)) (by omega) (cellsOf_one _ _)
          rw [hcl] at hr
          simp only [List.take_zero, List.nil_append, Nat.zero_add] at hr
          have hI2 := hI.write hao hb (g := g) (by rw [hxv]; rfl) k2 (.inl k1) (w' := w.setRow g (cellsOf .i64 (ys.take xs.length) ++ cur.toList.drop (Nat.min ys.length xs.length)).toArray) rfl rfl rfl (by simp) (fun b hb => setRow_other _ _ _ _ hb)
            (x := .arr .i64 (ys.take xs.length ++ xs.drop ys.length)) (.inr ⟨g, cap, _, by
                rw [hxv]
                congr 1
                simp only [List.length_append, List.length_take, List.length_drop]
                omega, k1, k2, setRow_heap w g cur _ _ _ hh, by
                simp only [List.length_append, List.length_take, List.length_drop]
                omega, k4, by
                simp only [List.size_toArray, List.length_append, List.length_drop, Array.length_toList, hcl, ET.size, k5]
                omega, by
                have e3 : (ys.take xs.length ++ xs.drop ys.length).length = xs.length := by simp only [List.length_append, List.length_take, List.length_drop]; omega
                rw [e3]
                simp only [ET.size, Nat.mul_one]
                rw [cellsOf_append, List.take_append, List.take_of_length_le (by rw [hcl]; exact hmn), hcl]
                congr 1
                rw [cellsOf_ints xs] at htake
                rw [cellsOf_ints, List.map_drop, ← htake, List.drop_take]
                by_cases hle : ys.length ≤ xs.length
                · rw [show Nat.min ys.length xs.length = ys.length from Nat.min_eq_left hle]
                · rw [show Nat.min ys.length xs.length = xs.length from Nat.min_eq_right (by omega)]
                  rw [Nat.sub_self, show xs.length - ys.length = 0 by omega]
                  simp⟩)
          have hI3 := hI2.put (v := .int .i64 (min ys.length xs.length : Nat)) (u := goInt (Nat.min ys.length xs.length)) rfl o.dst
          refine wp_value (exec_builtin' hop hc fun cs => ?_) (hK _ _ _ _ _ _ h hI3)
          simp only [builtin, Sem.run_bind, e1, e2, List.map_toArray, List.map_cons, List.map_nil, hyv, hxv, hr, Result.andThen_ok, Sem.run_pure]
      · exact h.elim
    · exact h.elim
  · exact h.elim

/-- Arguments, read where they lie; and once their arrays are read alone. -/
theorem viewsF_all (hI : Inv X w0 β S tm hp a w) : ∀ {vs : List AV} {us : List Value} {k : List AV → Prop}, RelVs β S w vs us → viewsF hp vs k →
    ∃ ws, k ws ∧ (anyOwn vs = false → RelVs β S w ws us) ∧ RelVs β (fun b => b < w.heap.size) w ws us ∧
      ∀ (β' : Nat → Option Value) (S' : Nat → Prop), (∀ b, S b → S' b) → (∀ p τ xs u, AV.own p ∈ vs → (p, AO.arr τ xs) ∈ hp → β p = some u → RelV β' S' w (.sl τ xs) u) → AV.calms ws = true → RelVs β' S' w ws us
  | [], us, k, hr, h => ⟨[], h, fun _ => by simpa [RelVs] using hr, by simpa [RelVs] using hr, fun _ _ _ _ _ => by simpa [RelVs] using hr⟩
  | v :: vs, us, k, ⟨u, us', h1, h2, h3⟩, h => by
    simp only [viewsF] at h
    obtain ⟨v', h, hv⟩ := viewF_of hI h2 h
    obtain ⟨ws, hk, hws, hrs, hfr⟩ := viewsF_all hI h3 h
    refine ⟨_, hk, ?_, ?_, ?_⟩
    · intro ha
      simp only [anyOwn] at ha
      rcases hv with ⟨hv1, rfl⟩ | ⟨p, τ, xs, rfl, hv2, rfl⟩
      · rw [hv1] at ha
        exact ⟨u, us', h1, RelV.low _ _ h2, hws ha⟩
      · simp [isOwn] at ha
    · refine ⟨u, us', h1, ?_, hrs⟩
      rcases hv with ⟨hv1, rfl⟩ | ⟨p, τ, xs, rfl, hv2, rfl⟩
      · exact RelV.mono (fun _ _ x => x) (fun b hb => hI.sb b hb) (fun _ _ => rfl) _ _ (RelV.low _ _ h2)
      · obtain ⟨hb, _⟩ := h2
        obtain ⟨v, h4, h5⟩ := hI.arr p τ xs hv2
        rw [hb] at h4
        obtain rfl : u = v := by simpa using h4
        exact own_sl h5 (fun b h => hI.sb b h) (fun b h => blk_lt hI hb h)
    · intro β' S' hS ho hc
      simp only [AV.calms] at hc
      split at hc
      · rename_i hc1
        refine ⟨u, us', h1, ?_, hfr β' S' hS (fun p τ xs u hm => ho p τ xs u (List.mem_cons_of_mem _ hm)) hc⟩
        rcases hv with ⟨hv1, rfl⟩ | ⟨p, τ, xs, rfl, hv2, rfl⟩
        · exact RelV.mono (fun _ _ x => x) hS (fun _ _ => rfl) _ _ (RelV.calm (β' := β') _ _ hc1 (RelV.low _ _ h2))
        · exact ho p τ xs u (List.mem_cons_self ..) hv2 h2.1
      · simp at hc

theorem freezesF_all : ∀ {vs : List AV} {β : Nat → Option Value} {S : Nat → Prop} {tm : List AV} {hp : Hp} {k : List AV → Hp → Prop}, Inv X w0 β S tm hp a w → freezesF vs tm hp k →
    ∃ tm' hp' β' S', k tm' hp' ∧ (∀ b, S b → S' b) ∧ Inv X w0 β' S' tm' hp' a w ∧ ∀ p τ xs u, AV.own p ∈ vs → (p, AO.arr τ xs) ∈ hp → β p = some u → RelV β' S' w (.sl τ xs) u
  | [], β, S, tm, hp, k, hI, h => ⟨tm, hp, β, S, h, fun _ x => x, hI, fun p τ xs u hm => by simp at hm⟩
  | v :: vs, β, S, tm, hp, k, hI, h => by
    simp only [freezesF] at h
    split at h
    · rename_i o
      split at h
      · unfold freezeF at h
        obtain ⟨x, hx, h⟩ := hget_of h
        split at h
        · rename_i σ ys
          rw [hdelF_eq, frzs_eq, frzHp_eq] at h
          obtain ⟨S1, hS1, hsl, hI1⟩ := hI.freeze hx
          obtain ⟨tm2, hp2, β2, S2, h2, hS2, hI2, hall⟩ := freezesF_all hI1 h
          refine ⟨tm2, hp2, β2, S2, h2, fun b hb => hS2 b (hS1 b hb), hI2, ?_⟩
          intro p τ xs u hm hph hβ
          by_cases hpo : p = o
          · subst hpo
            obtain ⟨v1, q1, q2⟩ := hI.arr p τ xs hph
            obtain ⟨v2, q3, q4⟩ := hI.arr p σ ys hx
            have heq : (⟨τ, xs⟩ : (τ : ET) × List τ.T) = ⟨σ, ys⟩ := by
              have := nodup_one hI.nodup hph hx
              simp only [AO.arr.injEq] at this
              obtain ⟨rfl, h⟩ := this
              cases h
              rfl
            simp only [Sigma.mk.injEq] at heq
            obtain ⟨rfl, h⟩ := heq
            cases h
            obtain ⟨A, c, r1, r2, r3, r4⟩ := hsl u hβ
            exact ⟨A, c, r1, r2, r3, r4.mono hS2 (fun _ _ => rfl)⟩
          · have hm' : AV.own p ∈ vs := by
              rcases List.mem_cons.1 hm with h | h
              · simp only [AV.own.injEq] at h; exact absurd h hpo
              · exact h
            exact hall p τ xs u hm' (List.mem_map.2 ⟨(p, .arr τ xs), (hdel_mem hI.nodup).2 ⟨hpo, hph⟩, rfl⟩) (by simp [delβ, hpo, hβ])
        · exact h.elim
      · rename_i hl
        obtain ⟨tm2, hp2, β2, S2, h2, hS2, hI2, hall⟩ := freezesF_all hI h
        refine ⟨tm2, hp2, β2, S2, h2, hS2, hI2, ?_⟩
        intro p τ xs u hm hph hβ
        rcases List.mem_cons.1 hm with h | h
        · simp only [AV.own.injEq] at h
          subst h
          have := (hlive_iff hp p).2 ⟨_, hph⟩
          rw [hl] at this
          simp at this
        · exact hall p τ xs u h hph hβ
    · rename_i hno
      obtain ⟨tm2, hp2, β2, S2, h2, hS2, hI2, hall⟩ := freezesF_all hI h
      refine ⟨tm2, hp2, β2, S2, h2, hS2, hI2, ?_⟩
      intro p τ xs u hm hph hβ
      rcases List.mem_cons.1 hm with h | h
      · exact absurd h.symm (hno p)
      · exact hall p τ xs u h hph hβ

/-- A call of a function that only computes; arrays that come back in its answer are read alone from then on. -/
theorem step_callP (hE : EnvOK P E) {g : Nat} {hh : List AV → Option (Prop × AV)} (hs : (g, Spec.pure hh) ∈ E.sp) {vs caps : List AV} {us cs : List Value} (hI : Inv X w0 β S tm hp a w) (hvs : RelVs β S w vs us) (hcs : RelVs β S w caps cs)
    (hent : (execOp a.eval o).run P w = .ok (.enter g (us ++ cs).toArray) w) (hK : Goes X w0 k K) (h : callP E hh vs caps tm hp o.dst k) : o.wp P a w K Q := by
  unfold callP at h
  obtain ⟨ws, h, hws, hrs, hfr⟩ := viewsF_all hI hvs h
  split at h
  · exact h.elim
  · rename_i hcalm
    have hcw : AV.calms ws = true := by rw [calms_append] at hcalm; simp at hcalm; exact hcalm.1
    have hcc : AV.calms caps = true := by rw [calms_append] at hcalm; simp at hcalm; exact hcalm.2
    have hoc := calm_own hcc
    split at h
    · rename_i p r hpr
      obtain ⟨hp', h⟩ := h
      rw [AV.f_eq] at h
      have hcall := fun hr => call_pure hE hI hs (vs := vs ++ caps) (ws := ws ++ caps) (by rw [anyOwn_append, hoc, Bool.or_false]; intro hno; exact (hws hno).append hcs)
        (hrs.append (RelVs.mono (fun _ _ x => x) (fun b hb => hI.sb b hb) (fun _ _ => rfl) _ _ hcs)) hcalm hpr hp' hr
      split at h
      · exact h.elim
      · rename_i hr hown hpl
        obtain ⟨tm2, hp2, β2, S2, h, hS2, hI2, hall⟩ := freezesF_all hI h
        have hargs : RelVs (fun _ => none) S2 w (ws ++ caps) (us ++ cs) :=
          RelVs.append (hfr (fun _ => none) S2 hS2 (fun p τ xs u h1 h2 h3 => hall p τ xs u h1 h2 h3) hcw) (RelVs.mono (fun _ _ x => x) hS2 (fun _ _ => rfl) _ _ (RelVs.calm _ _ hcc hcs))
        refine wp_enter hent ((hE.pure g hh hs).1 S2 w (ws ++ caps) (us ++ cs) p r hI2.sb hargs hpr hp') ?_
        rintro e w' ⟨u, rfl, hru, h1, h2, h3, h4, h5⟩
        rw [putD_eq] at h
        exact hK _ _ _ _ _ _ h ((hI2.grow h1 h2 h3 h4 h5).put (RelV.calm r u hr hru) o.dst)
      · rename_i hr hno
        refine wp_enter hent (hcall hr) ?_
        rintro e w' ⟨u, rfl, h1, h2, h3, h4, h5, h6, h7⟩
        rw [putD_eq] at h
        have hI2 := hI.grow h1 h2 h3 h4 h5
        refine hK _ _ _ _ _ _ h (hI2.put ?_ o.dst)
        cases hown : anyOwn vs with
        | false => exact h6 (by rw [anyOwn_append, hown, hoc]; rfl)
        | true =>
          cases hpl : plainV r with
          | true => exact plainV_rel hpl h7
          | false => exact (hno hown hpl).elim
    · exact h.elim

end ops
end Go.Proofs.Ythakgbecpkfeoaa.Ev
