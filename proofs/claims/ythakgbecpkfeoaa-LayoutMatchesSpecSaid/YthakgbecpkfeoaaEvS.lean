/- Code and functions: what the evaluator says of them holds. -/
import Derived.Test.YthakgbecpkfeoaaEvZ
import Derived.Control
set_option linter.unusedVariables false
set_option linter.unusedSimpArgs false
namespace Go.Proofs.Ythakgbecpkfeoaa.Ev

/-- What the program must say of an operation beside the tables, reckoned. -/
def moreO (P : Program) (o : Oper) : Bool :=
  match o.op with
  | .convert s _ _ => (P.underlying s).isSome
  | .makeInterface T _ => P.concrete T
  | _ => true
def moreB (P : Program) : Code → Bool
  | .region _ ops _ => ops.toList.all (moreO P)
  | .seq a b => moreB P a && moreB P b
  | .cond _ a b => moreB P a && moreB P b
  | .block _ c => moreB P c
  | .loop c => moreB P c
  | _ => true

theorem moreO_of {P : Program} {o : Oper} (h : moreO P o = true) : MoreOK P o := by
  refine ⟨fun s d x hop => ?_, fun T x hop => ?_⟩
  · simp only [moreO, hop] at h; exact Option.isSome_iff_exists.1 h
  · simp only [moreO, hop] at h; exact h

section code
variable {P : Program} {E : Env} {X : XR} {w0 : World}

/-- What a piece of code's end must serve. -/
def Ends (X : XR) (w0 : World) (k : Post) (Q : Exit → Act → World → Prop) : Prop :=
  ∀ β S tm hp a w, Inv X w0 β S tm hp a w → (k .normal tm hp → Q .normal a w) ∧ (∀ id, k (.exit id) tm hp → Q (.exit id) a w) ∧ (k .ret tm hp → Q .ret a w) ∧
    ∀ v u, k (.pan v) tm hp → v.calm = true → RelV β S w v u → Q (.panic [{ v := u, recovered := false }]) a w

theorem exists_min {p : Nat → Prop} (h : ∃ n, p n) : ∃ n, p n ∧ ∀ m, p m → n ≤ m := by
  obtain ⟨n, hn⟩ := h
  induction n using Nat.strongRecOn with
  | _ n ih =>
    by_cases hm : ∃ m, m < n ∧ p m
    · obtain ⟨m, h1, h2⟩ := hm
      exact ih m h1 h2
    · exact ⟨n, hn, fun m h => Nat.le_of_not_lt fun hlt => hm ⟨m, hlt, h⟩⟩

theorem drops_of {ds : List Nat} : ∀ {β : Nat → Option Value} {S : Nat → Prop} {tm : List AV} {hp : Hp} {a : Act} {w : World} {k : List AV → Hp → Prop}, Inv X w0 β S tm hp a w → drops ds tm hp k →
    ∃ tm' hp' β', k tm' hp' ∧ Inv X w0 β' S tm' hp' a w := by
  induction ds with
  | nil => intro β S tm hp a w k hI h; exact ⟨tm, hp, β, h, hI⟩
  | cons d ds ih =>
    intro β S tm hp a w k hI h
    obtain ⟨tm1, hp1, h1, hI1⟩ := dropObj_of hI h
    exact ih hI1 h1

theorem loop_wp {c : Code} {Q : Exit → Act → World → Prop} {body : List AV → Hp → Post → Prop} {k : Post} (hk : Ends X w0 k Q)
    (hbody : ∀ (k' : Post) (Q' : Exit → Act → World → Prop), Ends X w0 k' Q' → ∀ β S tm hp a w, Inv X w0 β S tm hp a w → body tm hp k' → c.wp P Q' a w)
    {β : Nat → Option Value} {S : Nat → Prop} {tm : List AV} {hp : Hp} {a : Act} {w : World} (hI : Inv X w0 β S tm hp a w) (h : LoopVC body tm hp k) : (Code.loop c).wp P Q a w := by
  unfold LoopVC at h
  obtain ⟨J, n, hJ, hround⟩ := h
  let p : Act → World → Nat → Prop := fun a w n => ∃ β S tm hp, J tm hp n ∧ Inv X w0 β S tm hp a w
  let μ : Act → World → Nat := fun a w => open Classical in if h : ∃ n, p a w n then Classical.choose (exists_min h) else 0
  have hμ : ∀ a w n, p a w n → p a w (μ a w) ∧ μ a w ≤ n := by
    intro a w n hn
    have h : ∃ n, p a w n := ⟨n, hn⟩
    have e : μ a w = Classical.choose (exists_min h) := by simp only [μ]; rw [dif_pos h]
    rw [e]
    have := Classical.choose_spec (exists_min h)
    exact ⟨this.1, this.2 n hn⟩
  refine wp_loop (fun a w => ∃ n, p a w n) μ ⟨n, β, S, tm, hp, hJ, hI⟩ ?_
  rintro a w ⟨n, hn⟩
  obtain ⟨⟨β, S, tm, hp, hJ, hI⟩, _⟩ := hμ a w n hn
  obtain ⟨ds, hds⟩ := hround tm hp _ hJ
  obtain ⟨tm, hp, β, ⟨tm', hp', hw, hwh, hb⟩, hI⟩ := drops_of hI hds
  refine hbody _ _ ?_ β S tm' hp' a w ((hI.weak hw).weakH hwh) hb
  intro β1 S1 tm1 hp1 a1 w1 hI1
  refine ⟨?_, fun id h => (hk _ _ _ _ _ _ hI1).2.1 id h, fun h => (hk _ _ _ _ _ _ hI1).2.2.1 h, fun v u h hc hr => (hk _ _ _ _ _ _ hI1).2.2.2 v u h hc hr⟩
  rintro ⟨m, hm, hJ1⟩
  have hp1 : p a1 w1 m := ⟨β1, S1, tm1, hp1, hJ1, hI1⟩
  exact ⟨⟨m, hp1⟩, Nat.lt_of_le_of_lt (hμ a1 w1 m hp1).2 hm⟩

theorem draw_wp (hE : EnvOK P E) (hmix : P.follows .mixedOrders = true) {ops : Array Oper} (hM : ∀ o ∈ ops.toList, MoreOK P o) {Q : Exit → Act → World → Prop} {k : Post} (hk : Ends X w0 k Q) {id : Nat}
    {β : Nat → Option Value} {S : Nat → Prop} {tm : List AV} {hp : Hp} {a : Act} {w : World} (hI : Inv X w0 β S tm hp a w)
    (h : DrawVC E ops tm hp (fun v tm hp => k (.pan v) tm hp) fun tm hp => k .normal tm hp) : (Code.region id ops true).wp P Q a w := by
  have hg : Goes X w0 (fun tm hp => k .normal tm hp) (Q .normal) := fun β S tm hp a w h hI => (hk _ _ _ _ _ _ hI).1 h
  have hf : Falls X w0 (fun v tm hp => k (.pan v) tm hp) Q := fun β S tm hp a w v u h hI hc hr => (hk _ _ _ _ _ _ hc).2.2.2 v u h hI hr
  have hI' : Inv X w0 β S tm hp a { w with drawn := w.drawn + 1 } := hI.same rfl rfl rfl rfl
  refine wp_region_any hmix ?_
  unfold DrawVC at h
  rcases h with ⟨hq, h⟩ | ⟨n, h⟩ | h
  · exact evQ_wp hE hM hq hg hI' h
  · exact evM_wp hE hM hf hg hI' h
  · have hl : List.replicate ops.size false = (Array.replicate ops.size false).toList := by simp
    obtain ⟨tm', hp', h, hk'⟩ := h
    rw [hl] at h
    have hg' : Goes X w0 (fun tm hp => tm = tm' ∧ hp = hp') (Q .normal) := fun β S tm hp a w ⟨e1, e2⟩ hI => by subst e1; subst e2; exact hg _ _ _ _ _ _ hk' hI
    exact evAny_wp hE hM hf hg' ops.size _ (by simp) hI' h

theorem ev_wp (hE : EnvOK P E) (hmix : P.follows .mixedOrders = true) : ∀ (c : Code), moreB P c = true → ∀ (k : Post) (Q : Exit → Act → World → Prop), Ends X w0 k Q →
    ∀ β S tm hp a w, Inv X w0 β S tm hp a w → ev E c tm hp k → c.wp P Q a w
  | .skip, _, k, Q, hk, β, S, tm, hp, a, w, hI, h => wp_skip ((hk _ _ _ _ _ _ hI).1 h)
  | .label l, _, k, Q, hk, β, S, tm, hp, a, w, hI, h => wp_label ((hk _ _ _ _ _ _ hI).1 h)
  | .exit id, _, k, Q, hk, β, S, tm, hp, a, w, hI, h => wp_exit ((hk _ _ _ _ _ _ hI).2.1 id h)
  | .ret, _, k, Q, hk, β, S, tm, hp, a, w, hI, h => wp_ret ((hk _ _ _ _ _ _ hI).2.2.1 h)
  | .region id ops draw, hm, k, Q, hk, β, S, tm, hp, a, w, hI, h => by
    have hM : ∀ o ∈ ops.toList, MoreOK P o := fun o ho => moreO_of (List.all_eq_true.1 hm o ho)
    simp only [ev] at h
    cases draw with
    | true => exact draw_wp hE hmix hM hk hI h
    | false =>
      have hg : Goes X w0 (fun tm hp => k .normal tm hp) (Q .normal) := fun β S tm hp a w h hI => (hk _ _ _ _ _ _ hI).1 h
      have hf : Falls X w0 (fun v tm hp => k (.pan v) tm hp) Q := fun β S tm hp a w v u h hI hc hr => (hk _ _ _ _ _ _ hc).2.2.2 v u h hI hr
      refine wp_region ?_
      have := evOps_wp hE hM hf hg ops.toList [] rfl hI h
      rw [List.range_eq_range']
      simpa using this
  | .seq x y, hm, k, Q, hk, β, S, tm, hp, a, w, hI, h => by
    simp only [moreB, Bool.and_eq_true] at hm
    simp only [ev] at h
    refine wp_seq (ev_wp hE hmix x hm.1 _ _ ?_ β S tm hp a w hI h)
    intro β1 S1 tm1 hp1 a1 w1 hI1
    exact ⟨fun h => ev_wp hE hmix y hm.2 k Q hk _ _ _ _ _ _ hI1 h, fun id h => (hk _ _ _ _ _ _ hI1).2.1 id h, fun h => (hk _ _ _ _ _ _ hI1).2.2.1 h, fun v u h hc hr => (hk _ _ _ _ _ _ hI1).2.2.2 v u h hc hr⟩
  | .cond c x y, hm, k, Q, hk, β, S, tm, hp, a, w, hI, h => by
    simp only [moreB, Bool.and_eq_true] at hm
    simp only [ev] at h
    split at h
    · rename_i t ht
      have hc := bool_of hI ht
      cases t with
      | true => exact wp_cond_true hc (ev_wp hE hmix x hm.1 k Q hk _ _ _ _ _ _ hI h)
      | false => exact wp_cond_false hc (ev_wp hE hmix y hm.2 k Q hk _ _ _ _ _ _ hI h)
    · exact h.elim
  | .block id c, hm, k, Q, hk, β, S, tm, hp, a, w, hI, h => by
    simp only [ev] at h
    refine wp_block (ev_wp hE hmix c hm _ _ ?_ β S tm hp a w hI h)
    intro β1 S1 tm1 hp1 a1 w1 hI1
    refine ⟨fun h => (hk _ _ _ _ _ _ hI1).1 h, fun j h => ?_, fun h => (hk _ _ _ _ _ _ hI1).2.2.1 h, fun v u h hc hr => (hk _ _ _ _ _ _ hI1).2.2.2 v u h hc hr⟩
    simp only at h
    cases e : Nat.beq j id with
    | true =>
      rw [e] at h
      simp only [Exit.inBlock, Nat.eq_of_beq_eq_true e, if_true]
      exact (hk _ _ _ _ _ _ hI1).1 h
    | false =>
      rw [e] at h
      simp only [Exit.inBlock, Nat.ne_of_beq_eq_false e, if_false]
      exact (hk _ _ _ _ _ _ hI1).2.1 j h
  | .loop c, hm, k, Q, hk, β, S, tm, hp, a, w, hI, h => by
    simp only [ev] at h
    exact loop_wp hk (fun k' Q' hk' β S tm hp a w hI h => ev_wp hE hmix c hm k' Q' hk' β S tm hp a w hI h) hI h

end code
end Go.Proofs.Ythakgbecpkfeoaa.Ev
