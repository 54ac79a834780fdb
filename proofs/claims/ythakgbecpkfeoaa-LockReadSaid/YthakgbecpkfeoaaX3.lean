/- Parts of the proof, joined. -/
import Derived.Test.YthakgbecpkfeoaaX2
import Derived.Control
import Derived.WalkKit
import Derived.ProofKit
import Derived.OpenShut
import Derived.ShutString
import Derived.ChangeOld
import Derived.Below
import Derived.SizedLaws
import Derived.Test.YthakgbecpkfeoaaRows
import Derived.JoinedOf
/- Code and functions: what the evaluator says of them holds. -/
set_option linter.unusedVariables false
set_option linter.unusedSimpArgs false
namespace Go.Proofs.Ythakgbecpkfeoaa.Ev

def mapB (P : Program) (T : TypeId) : Bool := match P.underlying T with
  | some (.map k e) => match P.underlying k, P.info? e with
    | some (.int .i64), some j => j.zero.isSome
    | _, _ => false
  | _ => false
theorem mapB_of {P : Program} {T : TypeId} (h : mapB P T = true) : mapOK P T := by
  unfold mapB at h
  split at h
  · rename_i k e h1
    split at h
    · rename_i j h2 h3
      obtain ⟨z, hz⟩ := Option.isSome_iff_exists.1 h
      exact ⟨k, e, j, z, h1, h2, h3, hz⟩
    · simp at h
  · simp at h
/-- What the program must say of an operation beside the tables, reckoned. -/
def moreO (P : Program) (o : Oper) : Bool :=
  match o.op with
  | .convert s _ _ => (P.underlying s).isSome
  | .makeInterface T _ => P.concrete T
  | .lookup T _ _ _ => mapB P T
  | .insert T _ _ _ => mapB P T
  | _ => true
def moreB (P : Program) : Code → Bool
  | .region _ ops _ => ops.toList.all (moreO P)
  | .seq a b => moreB P a && moreB P b
  | .cond _ a b => moreB P a && moreB P b
  | .block _ c => moreB P c
  | .loop c => moreB P c
  | _ => true

theorem moreO_of {P : Program} {o : Oper} (h : moreO P o = true) : MoreOK P o := by
  refine ⟨fun s d x hop => ?_, fun T x hop => ?_, fun T m i ok hop => ?_, fun T m i x hop => ?_⟩
  · simp only [moreO, hop] at h; exact Option.isSome_iff_exists.1 h
  · simp only [moreO, hop] at h; exact h
  · simp only [moreO, hop] at h; exact mapB_of h
  · simp only [moreO, hop] at h; exact mapB_of h

section code
variable {P : Program} {E : Env} {X : XR} {w0 : World}

/-- What a piece of code's end must serve. -/
def Ends (X : XR) (w0 : World) (k : Post) (Q : Exit → Act → World → Prop) : Prop :=
  ∀ β S tm hp a w, Inv X w0 β S tm hp a w → (k .normal tm hp → Q .normal a w) ∧ (∀ id, k (.exit id) tm hp → Q (.exit id) a w) ∧ (k .ret tm hp → Q .ret a w) ∧
    ∀ v u, k (.pan v) tm hp → v.calm = true → RelV β S w v u → Q (.panic [{ v := u, recovered := false }]) a w

theorem exists_min {p : Nat → Prop} (h : ∃ n, p n) : ∃ n, p n ∧ ∀ m, p m → n ≤ m := by
  obtain ⟨n, hn⟩ := h
  induction n using Nat.strongRecOn with
  | _ n ih =>
    by_cases hm : ∃ m, m < n ∧ p m
    · obtain ⟨m, h1, h2⟩ := hm
      exact ih m h1 h2
    · exact ⟨n, hn, fun m h => Nat.le_of_not_lt fun hlt => hm ⟨m, hlt, h⟩⟩

theorem drops_of {ds : List Nat} : ∀ {β : Nat → Option Value} {S : Nat → Prop} {tm : List AV} {hp : Hp} {a : Act} {w : World} {k : List AV → Hp → Prop}, Inv X w0 β S tm hp a w → drops ds tm hp k →
    ∃ tm' hp' β', k tm' hp' ∧ Inv X w0 β' S tm' hp' a w := by
  induction ds with
  | nil => intro β S tm hp a w k hI h; exact ⟨tm, hp, β, h, hI⟩
  | cons d ds ih =>
    intro β S tm hp a w k hI h
    obtain ⟨tm1, hp1, h1, hI1⟩ := dropObj_of hI h
    exact ih hI1 h1

theorem loop_wp {c : Code} {Q : Exit → Act → World → Prop} {body : List AV → Hp → Post → Prop} {k : Post} (hk : Ends X w0 k Q)
    (hbody : ∀ (k' : Post) (Q' : Exit → Act → World → Prop), Ends X w0 k' Q' → ∀ β S tm hp a w, Inv X w0 β S tm hp a w → body tm hp k' → c.wp P Q' a w)
    {β : Nat → Option Value} {S : Nat → Prop} {tm : List AV} {hp : Hp} {a : Act} {w : World} (hI : Inv X w0 β S tm hp a w) (h : LoopVC body tm hp k) : (Code.loop c).wp P Q a w := by
  unfold LoopVC at h
  obtain ⟨J, n, hJ, hround⟩ := h
  let p : Act → World → Nat → Prop := fun a w n => ∃ β S tm hp, J tm hp n ∧ Inv X w0 β S tm hp a w
  let μ : Act → World → Nat := fun a w => open Classical in if h : ∃ n, p a w n then Classical.choose (exists_min h) else 0
  have hμ : ∀ a w n, p a w n → p a w (μ a w) ∧ μ a w ≤ n := by
    intro a w n hn
    have h : ∃ n, p a w n := ⟨n, hn⟩
    have e : μ a w = Classical.choose (exists_min h) := by simp only [μ]; rw [dif_pos h]
    rw [e]
    have := Classical.choose_spec (exists_min h)
    exact ⟨this.1, this.2 n hn⟩
  refine wp_loop (fun a w => ∃ n, p a w n) μ ⟨n, β, S, tm, hp, hJ, hI⟩ ?_
  rintro a w ⟨n, hn⟩
  obtain ⟨⟨β, S, tm, hp, hJ, hI⟩, _⟩ := hμ a w n hn
  obtain ⟨ds, hds⟩ := hround tm hp _ hJ
  obtain ⟨tm, hp, β, ⟨tm', hp', hw, hwh, hb⟩, hI⟩ := drops_of hI hds
  refine hbody _ _ ?_ β S tm' hp' a w ((hI.weak hw).weakH hwh) hb
  intro β1 S1 tm1 hp1 a1 w1 hI1
  refine ⟨?_, fun id h => (hk _ _ _ _ _ _ hI1).2.1 id h, fun h => (hk _ _ _ _ _ _ hI1).2.2.1 h, fun v u h hc hr => (hk _ _ _ _ _ _ hI1).2.2.2 v u h hc hr⟩
  rintro ⟨m, hm, hJ1⟩
  have hp1 : p a1 w1 m := ⟨β1, S1, tm1, hp1, hJ1, hI1⟩
  exact ⟨⟨m, hp1⟩, Nat.lt_of_le_of_lt (hμ a1 w1 m hp1).2 hm⟩

theorem draw_wp (hE : EnvOK P E) (hmix : P.follows .mixedOrders = true) {ops : Array Oper} (hM : ∀ o ∈ ops.toList, MoreOK P o) {Q : Exit → Act → World → Prop} {k : Post} (hk : Ends X w0 k Q) {id : Nat}
    {β : Nat → Option Value} {S : Nat → Prop} {tm : List AV} {hp : Hp} {a : Act} {w : World} (hI : Inv X w0 β S tm hp a w)
    (h : DrawVC E ops tm hp (fun v tm hp => k (.pan v) tm hp) fun tm hp => k .normal tm hp) : (Code.region id ops true).wp P Q a w := by
  have hg : Goes X w0 (fun tm hp => k .normal tm hp) (Q .normal) := fun β S tm hp a w h hI => (hk _ _ _ _ _ _ hI).1 h
  have hf : Falls X w0 (fun v tm hp => k (.pan v) tm hp) Q := fun β S tm hp a w v u h hI hc hr => (hk _ _ _ _ _ _ hc).2.2.2 v u h hI hr
  have hI' : Inv X w0 β S tm hp a { w with drawn := w.drawn + 1 } := hI.same rfl rfl rfl rfl
  refine wp_region_any hmix ?_
  unfold DrawVC at h
  rcases h with ⟨hq, h⟩ | ⟨n, h⟩ | h
  · exact evQ_wp hE hM hq hg hI' h
  · exact evM_wp hE hM hf hg hI' h
  · have hl : List.replicate ops.size false = (Array.replicate ops.size false).toList := by simp
    obtain ⟨tm', hp', h, hk'⟩ := h
    rw [hl] at h
    have hg' : Goes X w0 (fun tm hp => tm = tm' ∧ hp = hp') (Q .normal) := fun β S tm hp a w ⟨e1, e2⟩ hI => by subst e1; subst e2; exact hg _ _ _ _ _ _ hk' hI
    exact evAny_wp hE hM hf hg' ops.size _ (by simp) hI' h

theorem ev_wp (hE : EnvOK P E) (hmix : P.follows .mixedOrders = true) : ∀ (c : Code), moreB P c = true → ∀ (k : Post) (Q : Exit → Act → World → Prop), Ends X w0 k Q →
    ∀ β S tm hp a w, Inv X w0 β S tm hp a w → ev E c tm hp k → c.wp P Q a w
  | .skip, _, k, Q, hk, β, S, tm, hp, a, w, hI, h => wp_skip ((hk _ _ _ _ _ _ hI).1 h)
  | .label l, _, k, Q, hk, β, S, tm, hp, a, w, hI, h => wp_label ((hk _ _ _ _ _ _ hI).1 h)
  | .exit id, _, k, Q, hk, β, S, tm, hp, a, w, hI, h => wp_exit ((hk _ _ _ _ _ _ hI).2.1 id h)
  | .ret, _, k, Q, hk, β, S, tm, hp, a, w, hI, h => wp_ret ((hk _ _ _ _ _ _ hI).2.2.1 h)
  | .region id ops draw, hm, k, Q, hk, β, S, tm, hp, a, w, hI, h => by
    have hM : ∀ o ∈ ops.toList, MoreOK P o := fun o ho => moreO_of (List.all_eq_true.1 hm o ho)
    cases draw with
    | true => exact draw_wp hE hmix hM hk hI h
    | false =>
      have hg : Goes X w0 (fun tm hp => k .normal tm hp) (Q .normal) := fun β S tm hp a w h hI => (hk _ _ _ _ _ _ hI).1 h
      have hf : Falls X w0 (fun v tm hp => k (.pan v) tm hp) Q := fun β S tm hp a w v u h hI hc hr => (hk _ _ _ _ _ _ hc).2.2.2 v u h hI hr
      refine wp_region ?_
      rw [List.range_eq_range']
      have h : (match mapLit ops.toList with
        | none => evOps E ops.toList ops.toList tm hp (fun v tm hp => k (.pan v) tm hp) fun tm hp => k .normal tm hp
        | some (d0, r, e, f) => mapF d0 r e f tm fun tm => k .normal tm hp) := h
      split at h
      · have := evOps_wp hE hM hf hg ops.toList [] rfl hI h
        simpa using this
      · rename_i d0 r e f hm
        exact lit_wp hM hm hI (fun S' tm' a' w' h hI' => (hk _ _ _ _ _ _ hI').1 h) h
  | .seq x y, hm, k, Q, hk, β, S, tm, hp, a, w, hI, h => by
    simp only [moreB, Bool.and_eq_true] at hm
    refine wp_seq (ev_wp hE hmix x hm.1 (seqK (ev E y) k) _ ?_ β S tm hp a w hI h)
    intro β1 S1 tm1 hp1 a1 w1 hI1
    exact ⟨fun h => ev_wp hE hmix y hm.2 k Q hk _ _ _ _ _ _ hI1 h, fun id h => (hk _ _ _ _ _ _ hI1).2.1 id h, fun h => (hk _ _ _ _ _ _ hI1).2.2.1 h, fun v u h hc hr => (hk _ _ _ _ _ _ hI1).2.2.2 v u h hc hr⟩
  | .cond c x y, hm, k, Q, hk, β, S, tm, hp, a, w, hI, h => by
    simp only [moreB, Bool.and_eq_true] at hm
    have h : condF tm c (ev E x tm hp k) (ev E y tm hp k) := h
    unfold condF at h
    split at h
    · rename_i t ht
      have hc := bool_of hI ht
      cases t with
      | true => exact wp_cond_true hc (ev_wp hE hmix x hm.1 k Q hk _ _ _ _ _ _ hI h)
      | false => exact wp_cond_false hc (ev_wp hE hmix y hm.2 k Q hk _ _ _ _ _ _ hI h)
    · exact h.elim
  | .block id c, hm, k, Q, hk, β, S, tm, hp, a, w, hI, h => by
    refine wp_block (ev_wp hE hmix c hm (blockK id k) _ ?_ β S tm hp a w hI h)
    intro β1 S1 tm1 hp1 a1 w1 hI1
    refine ⟨fun h => (hk _ _ _ _ _ _ hI1).1 h, fun j h => ?_, fun h => (hk _ _ _ _ _ _ hI1).2.2.1 h, fun v u h hc hr => (hk _ _ _ _ _ _ hI1).2.2.2 v u h hc hr⟩
    simp only [blockK] at h
    cases e : Nat.beq j id with
    | true =>
      rw [e] at h
      simp only [Exit.inBlock, Nat.eq_of_beq_eq_true e, if_true]
      exact (hk _ _ _ _ _ _ hI1).1 h
    | false =>
      rw [e] at h
      simp only [Exit.inBlock, Nat.ne_of_beq_eq_false e, if_false]
      exact (hk _ _ _ _ _ _ hI1).2.1 j h
  | .loop c, hm, k, Q, hk, β, S, tm, hp, a, w, hI, h => by
    exact loop_wp hk (fun k' Q' hk' β S tm hp a w hI h => ev_wp hE hmix c hm k' Q' hk' β S tm hp a w hI h) hI h

end code
end Go.Proofs.Ythakgbecpkfeoaa.Ev

/- Functions: what the evaluator says of a body holds of every call. -/
set_option linter.unusedVariables false
set_option linter.unusedSimpArgs false
namespace Go.Proofs.Ythakgbecpkfeoaa.Ev

theorem skpsF_eq (n : Nat) (k : List AV → Prop) : skpsF n k = k (List.replicate n .skp) := by
  induction n generalizing k with
  | zero => rfl
  | succ n ih => simp [skpsF, ih, List.replicate_succ]
theorem initF_eq (l : List AV) (n : Nat) (k : List AV → Prop) : initF l n k = k (l ++ List.replicate (n - l.length) .skp) := by
  induction l generalizing n k with
  | nil => simp [initF, skpsF_eq]
  | cons v l ih =>
    simp only [initF, AV.f_eq, ih, List.cons_append, List.length_cons]
    rw [show n - 1 - l.length = n - (l.length + 1) by omega]

def extL : Nat → List (List AV) → Hp
  | _, [] => []
  | i, cs :: l => (1000 + i, .box cs) :: extL (i + 1) l
theorem extF_eq (i : Nat) (l : List (List AV)) (k : Hp → Prop) : extF i l k = k (extL i l) := by
  induction l generalizing i k with
  | nil => rfl
  | cons cs l ih => simp [extF, extL, ih]
theorem extL_mem {l : List (List AV)} {i o : Nat} {x : AO} : (o, x) ∈ extL i l ↔ ∃ j cs, l[j]? = some cs ∧ o = 1000 + i + j ∧ x = .box cs := by
  induction l generalizing i with
  | nil => simp [extL]
  | cons cs l ih =>
    simp only [extL, List.mem_cons, Prod.mk.injEq, ih]
    constructor
    · rintro (⟨rfl, rfl⟩ | ⟨j, cs', h1, rfl, rfl⟩)
      · exact ⟨0, cs, rfl, rfl, rfl⟩
      · exact ⟨j + 1, cs', by simpa using h1, by omega, rfl⟩
    · rintro ⟨j, cs', h1, rfl, rfl⟩
      cases j with
      | zero => simp at h1; subst h1; exact .inl ⟨rfl, rfl⟩
      | succ j => exact .inr ⟨j, cs', by simpa using h1, by omega, rfl⟩
theorem extL_nodup (i : Nat) (l : List (List AV)) : ((extL i l).map (·.1)).Nodup := by
  induction l generalizing i with
  | nil => simp [extL]
  | cons cs l ih =>
    simp only [extL, List.map_cons, List.nodup_cons]
    refine ⟨?_, ih _⟩
    intro hm
    obtain ⟨⟨o, x⟩, h1, h2⟩ := List.mem_map.1 hm
    obtain ⟨j, cs', _, h3, _⟩ := extL_mem.1 h1
    simp only at h2
    omega

theorem extOut_of {hp : Hp} : ∀ {n i : Nat} {k : List (List AV) → Prop}, extOut hp n i k → ∃ bs, k bs ∧ bs.length = n ∧ ∀ (j : Nat) (cs : List AV), bs[j]? = some cs → (1000 + i + j, AO.box cs) ∈ hp ∧ AV.frees cs = true
  | 0, i, k, h => ⟨[], h, rfl, by simp⟩
  | n + 1, i, k, h => by
    simp only [extOut] at h
    obtain ⟨x, hx, h⟩ := hget_of h
    split at h
    · rename_i cs
      split at h
      · rename_i hf
        obtain ⟨bs, h, hl, hall⟩ := extOut_of h
        refine ⟨_, h, by simp [hl], ?_⟩
        intro j cs' hj
        cases j with
        | zero => simp at hj; subst hj; exact ⟨hx, hf⟩
        | succ j =>
          have := hall j cs' (by simpa using hj)
          rwa [show 1000 + (i + 1) + j = 1000 + i + (j + 1) by omega] at this
      · exact h.elim
    · exact h.elim

section funs
variable {P : Program} {E : Env} {X : XR} {w0 : World} {β : Nat → Option Value} {S : Nat → Prop} {tm : List AV} {hp : Hp} {a : Act} {w : World}

theorem loadVar_run {T : Nat} {ti : TI} (ht : tiOf P T = some ti) {b : Addr} {vs : List Value} (hl : vs.length = ti.size) (hc : ∀ j v, vs[j]? = some v → w.cell? (b.add j) = some v) {l : List AV} (hr : RelVs β S w l vs)
    {k : AV → Prop} (h : shapeF ti.agg l k) : ∃ r u, k r ∧ RelV β S w r u ∧ (loadVar T b).run P w = .ok u w := by
  obtain ⟨i, z, d, h1, h2, h3, h4, h5, h6⟩ := tiOf_info ht
  have hsz : (loadCells b ti.size).run P w = .ok vs.toArray w := by rw [← hl]; exact run_loadCells_list w b vs hc
  have hagg : (isAgg T).run P w = .ok ti.agg w := by
    unfold isAgg
    simp only [Sem.run_bind, run_underlying h3, Result.andThen_ok]
    rw [← h6]
    cases d <;> rfl
  unfold shapeF at h
  split at h
  · rename_i hb
    refine ⟨.agg l, .agg vs.toArray, h, ⟨vs, rfl, hr⟩, ?_⟩
    simp [loadVar, hagg, hb, sizeOf, typeInfo, h1, h4, hsz]
  · rename_i hb
    split at h
    · rename_i x
      obtain ⟨v, us, rfl, hx, hn⟩ := hr
      simp only [RelVs] at hn
      subst hn
      rw [AV.f_eq] at h
      have h0 := hc 0 v rfl
      have e : b.add 0 = b := by simp [Addr.add]
      rw [e] at h0
      exact ⟨x, v, h, hx, by simp [loadVar, hagg, hb, h0]⟩
    · exact h.elim

/-- What a caller may read behind the call; of what it handed in, no more than what no object with another name holds. -/
def Loose (X : XR) (β : Nat → Option Value) (S : Nat → Prop) (b : Nat) : Prop := X b ∧ ¬ S b ∧ ∃ p v, β p = some v ∧ blk v = some b ∧ (p < 1000 ∨ ∃ A n c, v = .slice A n c)
def seen (X : XR) (β : Nat → Option Value) (S : Nat → Prop) (w0 w : World) (b : Nat) : Prop := b < w.heap.size ∧ (S b ∨ w0.heap.size ≤ b ∨ Loose X β S b)

theorem own_seen (hI : Inv X w0 β S tm hp a w) {p : Nat} {τ : ET} {xs : List τ.T} (hm : (p, .arr τ xs) ∈ hp) {u : Value} (hb : β p = some u) : RelV β (seen X β S w0 w) w (.sl τ xs) u := by
  obtain ⟨v, h4, h5⟩ := hI.arr p τ xs hm
  rw [hb] at h4
  obtain rfl : u = v := by simpa using h4
  have hsl : ∃ A n c, u = .slice A n c := by
    rcases h5 with ⟨_, h6 | ⟨g, h6, h7, _⟩⟩ | ⟨g, cap, cur, h6, h7, _⟩ <;> exact ⟨_, _, _, h6⟩
  refine own_sl h5 (fun b h => ⟨hI.sb b h, .inl h⟩) (fun b h => ⟨blk_lt hI hb h, ?_⟩)
  rcases h5 with ⟨_, h6 | ⟨g, h6, h7, _⟩⟩ | ⟨g, cap, cur, h6, h7, h8, _⟩
  · rw [h6] at h; simp [blk] at h
  · rw [h6] at h; simp only [blk, Option.some.injEq] at h; subst h; exact .inl h7
  · have h' := h
    rw [h6] at h; simp only [blk, Option.some.injEq] at h; subst h
    rcases h7 with h7 | h7
    · exact .inr (.inl h7)
    · exact .inr (.inr ⟨h7, h8, p, u, hb, h', .inr hsl⟩)

theorem viewF_seen (hI : Inv X w0 β S tm hp a w) {v : AV} {u : Value} (ht : RelV β S w v u) {k : AV → Prop} (h : viewF hp v k) : ∃ r, k r ∧ RelV β (seen X β S w0 w) w r u := by
  obtain ⟨v', h, hv⟩ := viewF_of hI ht h
  refine ⟨_, h, ?_⟩
  rcases hv with ⟨_, rfl⟩ | ⟨p, τ, xs, rfl, hv2, rfl⟩
  · exact RelV.mono (fun _ _ x => x) (fun b hb => ⟨hI.sb b hb, .inl hb⟩) (fun _ _ => rfl) _ _ (RelV.low _ _ ht)
  · exact own_seen hI hv2 ht.1
theorem viewsF_seen (hI : Inv X w0 β S tm hp a w) : ∀ {vs : List AV} {us : List Value} {k : List AV → Prop}, RelVs β S w vs us → viewsF hp vs k → ∃ ws, k ws ∧ RelVs β (seen X β S w0 w) w ws us
  | [], us, k, hr, h => ⟨[], h, by simpa [RelVs] using hr⟩
  | v :: vs, us, k, ⟨u, us', h1, h2, h3⟩, h => by
    simp only [viewsF] at h
    obtain ⟨r, h, hr⟩ := viewF_seen hI h2 h
    obtain ⟨ws, hk, hws⟩ := viewsF_seen hI h3 h
    exact ⟨_, hk, u, us', h1, hr, hws⟩

theorem viewR_seen (hI : Inv X w0 β S tm hp a w) {v : AV} {u : Value} (ht : RelV β S w v u) {k : AV → Prop} (h : viewR hp v k) : ∃ r, k r ∧ RelV β (seen X β S w0 w) w r u := by
  unfold viewR at h
  split at h
  · rename_i o off
    obtain ⟨g, hg, rfl⟩ := ht
    split at h
    · rename_i e1 e2
      obtain rfl := Nat.eq_of_beq_eq_true e1
      rw [Nat.blt_eq] at e2
      obtain ⟨ao, hao, h⟩ := hget_of h
      split at h
      · rename_i cs
        split at h
        · obtain ⟨g', T, vs, q1, q2, q3, q4, q5⟩ := hI.box o cs hao
          rw [hg] at q1
          obtain rfl : g = g' := by simpa using q1
          obtain ⟨ws, h, hws⟩ := viewsF_seen hI q5 h
          refine ⟨_, h, ⟨g, 0, none⟩, vs.toList, rfl, ⟨heap_lt q4, ?_⟩, fun j u hj => ?_, hws⟩
          · rcases q2 with q2 | q2
            · exact .inr (.inl q2)
            · exact .inr (.inr ⟨q2, q3, o, _, hg, rfl, .inl e2⟩)
          · rw [add_zero']
            simp only [World.cell?, q4, Option.isSome_none, Bool.false_eq_true, if_false]
            simpa using hj
        · exact h.elim
      · exact h.elim
    · exact h.elim
  · exact viewF_seen hI ht h

def resRun (tmps : Array Value) : ResultVar → Sem Value
  | .tmp t => pure (tmps.getD t undef)
  | .cell a t => do loadVar t (← asAddr (tmps.getD a undef))

theorem resF_of (hE : EnvOK P E) (hI : Inv X w0 β S tm hp a w) : ∀ {l : List ResultVar} {k : List AV → Prop}, resF E tm hp l k →
    ∃ vs us, k vs ∧ RelVs β (seen X β S w0 w) w vs us ∧ (l.mapM (resRun a.tmps)).run P w = .ok us w
  | [], k, h => ⟨[], [], h, by simp [RelVs], rfl⟩
  | .tmp t :: l, k, h => by
    simp only [resF] at h
    have ht := hI.eval (.tmp t)
    obtain ⟨v', h, hv⟩ := viewR_seen hI (v := getV tm t) ht h
    rw [AV.f_eq] at h
    obtain ⟨vs, us, hk, hr, hrun⟩ := resF_of hE hI h
    refine ⟨_, (a.eval (.tmp t)) :: us, hk, ⟨_, _, rfl, hv, hr⟩, ?_⟩
    · simp only [List.mapM_cons, resRun, Sem.run_bind, Sem.run_pure, Result.andThen_ok, hrun]
      rfl
  | .cell c T :: l, k, h => by
    simp only [resF] at h
    have ht := hI.eval (.tmp c)
    split at h
    · rename_i p off hv
      simp only [evalV, hv] at ht
      obtain ⟨g, hg, hxv⟩ := ht
      obtain ⟨ti, hti, h⟩ := tiGet_of h
      obtain ⟨ao, hao, h⟩ := hget_of h
      split at h
      · rename_i cs
        obtain ⟨T', vs, hh, hr⟩ := box_cells hI hao hg
        obtain ⟨hd1, h⟩ := dropF_of h
        obtain ⟨hd2, h⟩ := takeF_of h
        have hr' := (hr.drop off).take ti.size
        have hl : ((vs.toList.drop off).take ti.size).length = ti.size := by rw [← hr'.length]; simp at hd2 ⊢; omega
        obtain ⟨r, u, hk, hru, hrun⟩ := loadVar_run (hE.ty _ _ hti) (b := ⟨g, off, none⟩) hl (fun j v hj => cells_at hh j v hj) hr' h
        obtain ⟨vs', us, hk, hrs, hrun2⟩ := resF_of hE hI hk
        refine ⟨_, u :: us, hk, ⟨_, _, rfl, RelV.mono (fun _ _ x => x) (fun b hb => ⟨hI.sb b hb, .inl hb⟩) (fun _ _ => rfl) _ _ hru, hrs⟩, ?_⟩
        have hx' : a.tmps.getD c undef = .pointer (some ⟨g, off, none⟩) := hxv
        simp only [List.mapM_cons, resRun, hx', asAddr, Sem.run_bind, Sem.run_pure, Result.andThen_ok, hrun, hrun2]
      · exact h.elim
    · exact h.elim

theorem results_eq (fn : Func) (tmps : Array Value) : results fn tmps = (do let vs ← fn.results.mapM (resRun tmps); pure (if h : vs.size = 1 then vs[0] else .tuple vs)) := by
  have e : ∀ x, resRun tmps x = (match x with | .tmp t => pure (tmps.getD t undef) | .cell a t => do loadVar t (← asAddr (tmps.getD a undef)) : Sem Value) := fun x => by cases x <;> rfl
  unfold results
  rw [funext e]
  rfl

/-- One result, or a tuple of them. -/
def packed : List Value → Value
  | [u] => u
  | us => .tuple us.toArray

theorem results_run {fn : Func} {tmps : Array Value} {us : List Value} (h : (fn.results.toList.mapM (resRun tmps)).run P w = .ok us w) :
    (results fn tmps).run P w = .ok (packed us) w := by
  rw [results_eq, Array.mapM_eq_mapM_toList]
  simp only [Sem.run_bind, Sem.run_map, h, Result.andThen_ok, Sem.run_pure]
  match us with
  | [] => rfl
  | [u] => rfl
  | u :: v :: l => simp [packed]

/-- What the evaluator asks at a function's end. -/
def retK (E : Env) (fn : Func) (n : Nat) (Q : Out → List (List AV) → Prop) (tm : List AV) (hp : Hp) : Prop :=
  resF E tm hp fn.results.toList fun vs => extOut hp n 0 fun bs' => match vs with
      | [v] => match v.calm with
        | true => Q (.ret v) bs'
        | false => False
      | vs => match AV.calms vs with
        | true => Q (.ret (.tup vs)) bs'
        | false => False

theorem evFn_full {fn : Func} {f : Nat} {c : Code} (hE : EnvOK P E) (hmix : P.follows .mixedOrders = true) (hf : P.funcs[f]? = some fn) (hb : fn.body = some c) (hm : moreB P c = true)
    {s : List AV → List (List AV) → (Out → List (List AV) → Prop) → Prop} (H : ∀ args bs Q, s args bs Q → evFn E fn args bs Q) : SpecFull P f s := by
  intro S w args vals bs gs Q hS hgl hgn hgd hbs hargs hs
  have h := H args bs Q hs
  unfold evFn at h
  rw [hb] at h
  simp only [initF_eq, extF_eq] at h
  let X : XR := ⟨fun g => g ∈ gs, S, extβ gs, []⟩
  have hext : ∀ i g, gs[i]? = some g → extβ gs (1000 + i) = some (.pointer (some ⟨g, 0, none⟩)) := fun i g hi => by simp [extβ, hi]
  have hext' : ∀ o v, extβ gs o = some v → ∃ i g, o = 1000 + i ∧ gs[i]? = some g ∧ v = .pointer (some ⟨g, 0, none⟩) := by
    intro o v h
    unfold extβ at h
    split at h
    · obtain ⟨g, h1, h2⟩ := Option.map_eq_some_iff.1 h
      exact ⟨o - 1000, g, by omega, h1, h2.symm⟩
    · simp at h
  have hsz : args.length = vals.length := hargs.length
  have hI : Inv X w (extβ gs) S (args ++ List.replicate (fn.ntmps - args.length) .skp) (extL 0 bs) { tmps := vals.toArray ++ Array.replicate (fn.ntmps - vals.toArray.size) undef, defers := [] } w := by
    refine ⟨rfl, rfl, rfl, Nat.le_refl _, fun _ _ _ => rfl, fun b hb => (hgd b hb).2, hS, ?_, ?_, ?_, extL_nodup 0 bs, ?_, ?_, rfl, fun b hb _ => .inl hb, fun o v u h1 h2 => ?_, fun o v h => ?_⟩
    · intro o cs hm
      obtain ⟨j, cs', h1, rfl, h3⟩ := extL_mem.1 hm
      simp only [AO.box.injEq] at h3
      subst h3
      obtain ⟨g, T, vs, h4, h5, h6⟩ := hbs j cs h1
      exact ⟨g, T, vs, by simpa using hext j g h4, .inr (List.mem_of_getElem? h4), (hgd g (List.mem_of_getElem? h4)).1, h5, h6⟩
    · intro o τ xs hm
      obtain ⟨j, cs', h1, rfl, h3⟩ := extL_mem.1 hm
      simp at h3
    · intro o v h
      obtain ⟨i, g, rfl, h1, rfl⟩ := hext' o v h
      have hlt : i < bs.length := by rw [← hgl]; exact (List.getElem?_eq_some_iff.1 h1).1
      exact ⟨.box bs[i], extL_mem.2 ⟨i, bs[i], List.getElem?_eq_getElem hlt, by omega, rfl⟩⟩
    · intro o o' v v' g hne h1 h2 h3 h4 h5
      obtain ⟨i, g1, rfl, q1, rfl⟩ := hext' o v h1
      obtain ⟨j, g2, rfl, q2, rfl⟩ := hext' o' v' h2
      simp only [blk, Option.some.injEq] at h3 h5
      subst h3
      subst h5
      obtain ⟨a1, a2⟩ := List.getElem?_eq_some_iff.1 q1
      obtain ⟨b1, b2⟩ := List.getElem?_eq_some_iff.1 q2
      have := (List.getElem_inj (h₀ := a1) (h₁ := b1) hgn).1 (a2.trans b2.symm)
      omega
    · simp only [Array.toList_append, Array.toList_replicate, List.size_toArray]
      rw [hsz]
      refine hargs.append ?_
      generalize fn.ntmps - vals.length = n
      induction n with
      | zero => simp [RelVs]
      | succ n ih => exact ⟨undef, _, rfl, rfl, ih⟩
    · rw [show X.e o = extβ gs o from rfl, h2] at h1; simpa using h1
    · obtain ⟨i, g, rfl, _⟩ := hext' o v h
      omega
  refine calls_of_wp hf hb (ev_wp hE hmix c hm _ _ ?_ _ _ _ _ _ _ hI h)
  intro β' S' tm' hp' a' w' hI'
  have hback : ∀ {n : Nat} {bs' : List (List AV)}, (∀ (j : Nat) (cs : List AV), bs'[j]? = some cs → (1000 + 0 + j, AO.box cs) ∈ hp' ∧ AV.frees cs = true) → bs'.length = bs.length →
      ∀ (i : Nat) (cs : List AV), bs'[i]? = some cs → ∃ (g T : Nat) (vs : Array Value), gs[i]? = some g ∧ w'.heap[g]? = some (Obj.cells vs T (0, 0)) ∧ RelVs (extβ gs) (seen X β' S' w w') w' cs vs.toList := by
    intro n bs' hall hl i cs hi
    obtain ⟨h1, h2⟩ := hall i cs hi
    obtain ⟨g, T, vs, h3, _, _, h5, h6⟩ := hI'.box _ cs h1
    have hlt : i < gs.length := by rw [hgl, ← hl]; exact (List.getElem?_eq_some_iff.1 hi).1
    have hgi := List.getElem?_eq_getElem hlt
    have := hI'.keep (1000 + 0 + i) _ _ (by simpa using hext i _ hgi) h3
    simp only [Value.pointer.injEq, Option.some.injEq, Addr.mk.injEq, and_true] at this
    subst this
    exact ⟨_, T, vs, hgi, h5, RelVs.mono (fun _ _ x => x) (fun b hb => ⟨hI'.sb b hb, .inl hb⟩) (fun _ _ => rfl) _ _ (RelVs.free (β' := extβ gs) _ _ h2 h6)⟩
  have hold : ∀ b, b < w.heap.size → b ∉ gs → w'.heap[b]? = w.heap[b]? := fun b h1 h2 => hI'.old b h1 h2
  let S2 : Nat → Prop := fun b => seen X β' S' w w' b ∨ S b
  have hS2' : ∀ {bs' : List (List AV)}, (∀ (j : Nat) (cs : List AV), bs'[j]? = some cs → (1000 + 0 + j, AO.box cs) ∈ hp' ∧ AV.frees cs = true) → bs'.length = bs.length → ∀ b, S2 b → b < w'.heap.size ∧ (S b ∨ w.heap.size ≤ b) := by
    intro bs' hall hl b hb
    have hin : b ∈ gs → ∃ i, β' (1000 + i) = some (.pointer (some ⟨b, 0, none⟩)) ∧ ¬ S' b := by
      intro hg
      obtain ⟨i, hi⟩ := List.getElem?_of_mem hg
      have hlt : i < bs'.length := by rw [hl, ← hgl]; exact (List.getElem?_eq_some_iff.1 hi).1
      obtain ⟨h1, _⟩ := hall i _ (List.getElem?_eq_getElem hlt)
      obtain ⟨g, T, vs, h3, _, h4, _⟩ := hI'.box _ _ h1
      have h5 := hI'.keep (1000 + 0 + i) _ _ (by simpa using hext i _ hi) h3
      simp only [Value.pointer.injEq, Option.some.injEq, Addr.mk.injEq, and_true] at h5
      subst h5
      exact ⟨i, by simpa using h3, h4⟩
    rcases hb with ⟨h1, h2 | h2 | ⟨h2, h3, p, v, h4, h5, h6⟩⟩ | hb
    · refine ⟨h1, ?_⟩
      rcases Nat.lt_or_ge b w.heap.size with hlt | hge
      · rcases hI'.grew b h2 hlt with h | h
        · exact .inl h
        · obtain ⟨i, _, h7⟩ := hin h
          exact absurd h2 h7
      · exact .inr hge
    · exact ⟨h1, .inr h2⟩
    · obtain ⟨i, h7, h8⟩ := hin h2
      refine absurd rfl (hI'.apart p (1000 + i) v _ b ?_ h4 h7 h5 h3)
      rintro rfl
      rcases h6 with h6 | ⟨A, n, c, rfl⟩
      · omega
      · rw [h4] at h7; simp at h7
    · exact ⟨Nat.lt_of_lt_of_le (hS b hb) hI'.size, .inl hb⟩
  have hret : retK E fn bs.length Q tm' hp' → a'.defers = [] ∧ ∃ v, (results fn a'.tmps).run P w' = .ok v w' ∧
      ∃ (out : Out) (bs' : List (List AV)) (S' : Nat → Prop), Q out bs' ∧
      (match out with | .ret r => ∃ v', Ending.returned v = .returned v' ∧ RelV (extβ gs) S' w' r v' | .pan r => ∃ v', Ending.returned v = .panicked [{ v := v', recovered := false }] ∧ RelV (extβ gs) S' w' r v') ∧
      bs'.length = bs.length ∧ (∀ (i : Nat) (cs : List AV), bs'[i]? = some cs → ∃ (g T : Nat) (vs : Array Value), gs[i]? = some g ∧ w'.heap[g]? = some (Obj.cells vs T (0, 0)) ∧ RelVs (extβ gs) S' w' cs vs.toList) ∧
      w'.os = w.os ∧ w'.tape = w.tape ∧ w'.output = w.output ∧ w.heap.size ≤ w'.heap.size ∧ (∀ b, b < w.heap.size → b ∉ gs → w'.heap[b]? = w.heap[b]?) ∧
      (∀ b, S b → S' b) ∧ (∀ b, S' b → b < w'.heap.size ∧ (S b ∨ w.heap.size ≤ b)) := by
    intro hk
    unfold retK at hk
    obtain ⟨vs, us, hk, hr, hrun⟩ := resF_of hE hI' hk
    obtain ⟨bs', hk2, hl, hall⟩ := extOut_of hk
    clear hk
    have hrun := results_run hrun
    refine ⟨hI'.defs, _, hrun, ?_⟩
    have hbb := hback (n := 0) hall hl
    have hS2 := hS2' hall hl
    have fin : ∀ (r : AV) (u : Value), RelV (extβ gs) (seen X β' S' w w') w' r u → Q (.ret r) bs' → ∃ (out : Out) (bs' : List (List AV)) (S' : Nat → Prop), Q out bs' ∧
      (match out with | .ret r => ∃ v', Ending.returned u = .returned v' ∧ RelV (extβ gs) S' w' r v' | .pan r => ∃ v', Ending.returned u = .panicked [{ v := v', recovered := false }] ∧ RelV (extβ gs) S' w' r v') ∧
      bs'.length = bs.length ∧ (∀ (i : Nat) (cs : List AV), bs'[i]? = some cs → ∃ (g T : Nat) (vs : Array Value), gs[i]? = some g ∧ w'.heap[g]? = some (Obj.cells vs T (0, 0)) ∧ RelVs (extβ gs) S' w' cs vs.toList) ∧
      w'.os = w.os ∧ w'.tape = w.tape ∧ w'.output = w.output ∧ w.heap.size ≤ w'.heap.size ∧ (∀ b, b < w.heap.size → b ∉ gs → w'.heap[b]? = w.heap[b]?) ∧
      (∀ b, S b → S' b) ∧ (∀ b, S' b → b < w'.heap.size ∧ (S b ∨ w.heap.size ≤ b)) := by
      intro r u hru hq
      refine ⟨.ret r, bs', S2, hq, ⟨u, rfl, RelV.mono (fun _ _ x => x) (fun b hb => .inl hb) (fun _ _ => rfl) _ _ hru⟩, hl, ?_, hI'.os, hI'.tape, hI'.output, hI'.size, hold, fun b hb => .inr hb, hS2⟩
      intro i cs hi
      obtain ⟨g, T, vs, h1, h2, h3⟩ := hbb i cs hi
      exact ⟨g, T, vs, h1, h2, RelVs.mono (fun _ _ x => x) (fun b hb => .inl hb) (fun _ _ => rfl) _ _ h3⟩
    split at hk2
    · rename_i v
      obtain ⟨u, us', rfl, hru, hn⟩ := hr
      simp only [RelVs] at hn
      subst hn
      split at hk2
      · rename_i hc
        exact fin v u (RelV.calm v u hc hru) hk2
      · exact hk2.elim
    · rename_i vs' hne
      split at hk2
      · rename_i hc
        have hus : packed us = Value.tuple us.toArray := by
          match us, hr with
          | [], _ => rfl
          | [u], hr =>
            have := hr.length
            match vs, this with
            | [v], _ => exact absurd rfl (hne v)
          | _ :: _ :: _, _ => rfl
        rw [hus]
        exact fin (.tup vs) _ ⟨us, rfl, RelVs.calm vs us hc hr⟩ hk2
      · exact hk2.elim
  refine ⟨hret, fun id h => h.elim, hret, fun v u hk hc hr => ?_⟩
  obtain ⟨bs', hk, hl, hall⟩ := extOut_of hk
  have hbb := hback (n := 0) hall hl
  have hS2 := hS2' hall hl
  refine ⟨hI'.defs, .pan v, bs', S2, hk, ⟨u, rfl, RelV.mono (fun _ _ x => x) (fun b hb => .inl ⟨hI'.sb b hb, .inl hb⟩) (fun _ _ => rfl) _ _ (RelV.calm (β' := extβ gs) v u hc hr)⟩, hl, ?_, hI'.os, hI'.tape, hI'.output, hI'.size, hold, fun b hb => .inr hb, hS2⟩
  intro i cs hi
  obtain ⟨g, T, vs, h1, h2, h3⟩ := hbb i cs hi
  exact ⟨g, T, vs, h1, h2, RelVs.mono (fun _ _ x => x) (fun b hb => .inl hb) (fun _ _ => rfl) _ _ h3⟩

theorem extβ_nil : extβ [] = fun _ => none := by funext o; unfold extβ; split <;> simp

/- Says no more than the other. -/
mutual
inductive Wk : AV → AV → Prop where
  | refl (v : AV) : Wk v v
  | nil (τ : ET) : Wk .nil (.sl τ [])
  | agg {l m : List AV} : WkL l m → Wk (.agg l) (.agg m)
  | tup {l m : List AV} : WkL l m → Wk (.tup l) (.tup m)
inductive WkL : List AV → List AV → Prop where
  | nil : WkL [] []
  | cons {v u : AV} {l m : List AV} : Wk v u → WkL l m → WkL (v :: l) (u :: m)
end

mutual
theorem Wk.rel {β : Nat → Option Value} {S : Nat → Prop} {w : World} : ∀ {v r : AV}, Wk v r → ∀ (u : Value), RelV β S w v u → RelV β S w r u
  | _, _, .refl _, _, h => h
  | _, _, .nil τ, _, h => by
    simp only [RelV] at h
    subst h
    exact ⟨none, 0, rfl, by simp, by simp, fun hne => absurd rfl hne⟩
  | _, _, .agg hl, _, ⟨cs, h1, h2⟩ => ⟨cs, h1, WkL.rel hl cs h2⟩
  | _, _, .tup hl, _, ⟨cs, h1, h2⟩ => ⟨cs, h1, WkL.rel hl cs h2⟩
theorem WkL.rel {β : Nat → Option Value} {S : Nat → Prop} {w : World} : ∀ {l m : List AV}, WkL l m → ∀ (us : List Value), RelVs β S w l us → RelVs β S w m us
  | _, _, .nil, _, h => h
  | _, _, .cons h1 h2, _, ⟨u, us, h3, h4, h5⟩ => ⟨u, us, h3, Wk.rel h1 u h4, WkL.rel h2 us h5⟩
end

theorem Wk.eq {v r : AV} (h : v = r) : Wk v r := h ▸ .refl v

theorem evFn_pure {fn : Func} {f : Nat} {c : Code} (hE : EnvOK P E) (hmix : P.follows .mixedOrders = true) (hf : P.funcs[f]? = some fn) (hb : fn.body = some c) (hm : moreB P c = true)
    {h : List AV → Option (Prop × AV)} (H : ∀ args p r, h args = some (p, r) → p → evFn E fn args [] fun out _ => ∃ v, out = .ret v ∧ Wk v r) : SpecPure P f h := by
  intro S w args vals p r hS hr hh hp
  have hfull := evFn_full (s := fun args bs Q => ∃ p r, h args = some (p, r) ∧ p ∧ bs = [] ∧ Q = fun out _ => ∃ v, out = .ret v ∧ Wk v r) hE hmix hf hb hm (fun args bs Q ⟨p, r, h1, h2, h3, h4⟩ => by subst h3; subst h4; exact H args p r h1 h2)
  have := hfull S w args vals [] [] (fun out _ => ∃ v, out = .ret v ∧ Wk v r) hS rfl (by simp) (by simp) (by simp) (by rw [extβ_nil]; exact hr) ⟨p, r, hh, hp, rfl, rfl⟩
  refine this.mono fun e w' ⟨out, bs', S', hQ, hout, hl, _, h1, h2, h3, h4, h5, h6, h7⟩ => ?_
  obtain ⟨v0, rfl, hwk⟩ := hQ
  simp only at hout
  obtain ⟨v, he, hv⟩ := hout
  rw [extβ_nil] at hv
  exact ⟨v, he, RelV.mono (fun _ _ x => x) h7 (fun _ _ => rfl) _ _ (hwk.rel _ hv), h1, h2, h3, h4, fun b hb => h5 b hb (by simp)⟩

/-- A function that is handed a table. -/
theorem evFn_tab {fn : Func} {f : Nat} {c : Code} (hE : EnvOK P E) (hmix : P.follows .mixedOrders = true) (hf : P.funcs[f]? = some fn) (hb : fn.body = some c) (hm : moreB P c = true) (hres : fn.results.toList = [])
    {h : List AV → List AV → Option (List Int) → Option (Prop × List AV × Option (List Int))}
    (H : ∀ args cs ext p cs' ext', h args cs ext = some (p, cs', ext') → p → evFnT E fn args cs ext fun cs1 ext1 => WkL cs1 cs' ∧ ext1 = ext') : SpecTab P f h := by
  intro S w args vals g T vs cs ext va p cs' ext' hS hgS hg hcs hown hargs hh hp
  have h := H _ _ _ _ _ _ hh hp
  unfold evFnT at h
  rw [hb] at h
  simp only [initF_eq] at h
  let X : XR := ⟨fun b => b = g ∨ Its S ext va b, S, fun o => if o = 1000 then some (.pointer (some ⟨g, 0, none⟩)) else none, []⟩
  have hits : ∀ b, Its S ext va b → b < w.heap.size ∧ b ≠ g := by
    rintro b ⟨h1, h2, h3⟩
    obtain ⟨xs, rfl⟩ := Option.isSome_iff_exists.1 h1
    rcases (hown xs rfl).2 with ⟨_, h4 | ⟨g', h4, h5, _⟩⟩ | ⟨g', cap, cur, h4, h5, _⟩
    · rw [h4] at h2; simp [blk] at h2
    · rw [h4] at h2; simp only [blk, Option.some.injEq] at h2; subst h2; exact absurd h5 h3
    · rw [h4] at h2; simp only [blk, Option.some.injEq] at h2; subst h2; exact h5
  have hsz : args.length = vals.length := hargs.length
  have hsome : ∀ o v, tabβ g ext va o = some v → (o = 1000 ∧ v = .pointer (some ⟨g, 0, none⟩)) ∨ (o = 1001 ∧ v = va ∧ ∃ xs, ext = some xs) := by
    intro o v h
    unfold tabβ at h
    split at h
    · rename_i e; exact .inl ⟨e, by simpa using h.symm⟩
    · split at h
      · rename_i e; exact .inr ⟨e.1, by simpa using h.symm, Option.isSome_iff_exists.1 e.2⟩
      · simp at h
  have hI : Inv X w (tabβ g ext va) S (args ++ List.replicate (fn.ntmps - args.length) .skp) (tabHp cs ext)
      { tmps := vals.toArray ++ Array.replicate (fn.ntmps - vals.toArray.size) undef, defers := [] } w := by
    refine ⟨rfl, rfl, rfl, Nat.le_refl _, fun _ _ _ => rfl, ?_, hS, ?_, ?_, ?_, ?_, ?_, ?_, rfl, fun b hb _ => .inl hb, fun o v u h1 h2 => ?_, fun o v h => ?_⟩
    · rintro b (rfl | h)
      · exact heap_lt hg
      · exact (hits b h).1
    · intro o cs0 hm
      have : o = 1000 ∧ cs0 = cs := by
        unfold tabHp at hm
        split at hm
        · simpa using hm
        · simpa using hm
      obtain ⟨rfl, rfl⟩ := this
      exact ⟨g, T, vs, by simp [tabβ], .inr (.inl rfl), hgS, hg, hcs⟩
    · intro o τ xs hm
      unfold tabHp at hm
      split at hm
      · simp at hm
      · rename_i xs'
        simp only [List.mem_cons, Prod.mk.injEq, reduceCtorEq, and_false, List.not_mem_nil, or_false, false_or, AO.arr.injEq] at hm
        obtain ⟨rfl, rfl, hx⟩ := hm
        obtain rfl := eq_of_heq hx
        refine ⟨va, by simp [tabβ], ?_⟩
        rcases (hown _ rfl).2 with h4 | ⟨g', cap, cur, h4, h5, h6, h7⟩
        · exact .inl h4
        · exact .inr ⟨g', cap, cur, h4, .inr (.inr ⟨rfl, by rw [h4]; rfl, h6⟩), h6, h7⟩
    · intro o v h
      rcases hsome o v h with ⟨rfl, _⟩ | ⟨rfl, _, xs, rfl⟩
      · cases ext
        · exact ⟨.box cs, by simp [tabHp]⟩
        · exact ⟨.box cs, by simp [tabHp]⟩
      · exact ⟨.arr .i64 xs, by simp [tabHp]⟩
    · cases ext <;> simp [tabHp]
    · intro o o' v v' g' hne h1 h2 h3 h4 h5
      rcases hsome o v h1 with ⟨rfl, rfl⟩ | ⟨rfl, rfl, xs, rfl⟩
      · rcases hsome o' v' h2 with ⟨rfl, _⟩ | ⟨rfl, rfl, xs, rfl⟩
        · exact hne rfl
        · simp only [blk, Option.some.injEq] at h3
          subst h3
          exact (hits _ ⟨rfl, h5, h4⟩).2 rfl
      · rcases hsome o' v' h2 with ⟨rfl, rfl⟩ | ⟨rfl, _⟩
        · simp only [blk, Option.some.injEq] at h5
          subst h5
          exact (hits _ ⟨rfl, h3, h4⟩).2 rfl
        · exact hne rfl
    · simp only [Array.toList_append, Array.toList_replicate, List.size_toArray]
      rw [hsz]
      refine hargs.append ?_
      generalize fn.ntmps - vals.length = n
      induction n with
      | zero => simp [RelVs]
      | succ n ih => exact ⟨undef, _, rfl, rfl, ih⟩
    · simp only [X] at h1
      split at h1
      · rename_i e; subst e; simp [tabβ] at h2; simp at h1; rw [← h1, ← h2]
      · simp at h1
    · simp only [X] at h
      split at h
      · omega
      · simp at h
  refine calls_of_wp hf hb (ev_wp hE hmix c hm _ _ ?_ _ _ _ _ _ _ hI h)
  intro β' S' tm' hp' a' w' hI'
  have hret : endT hp' (fun cs1 ext1 => WkL cs1 cs' ∧ ext1 = ext') → a'.defers = [] ∧ ∃ v, (results fn a'.tmps).run P w' = .ok v w' ∧ ∃ (S' : Nat → Prop) (va' : Value) (T' : Nat) (vs' : Array Value), Ending.returned v = .returned (.tuple #[]) ∧
      w'.heap[g]? = some (Obj.cells vs' T' (0, 0)) ∧ ¬ S' g ∧ RelVs (tabβ g ext' va') S' w' cs' vs'.toList ∧
      (∀ xs, ext' = some xs → OwnR S' w' (fun b => Its S ext va b ∨ w.heap.size ≤ b) .i64 xs va') ∧
      w'.os = w.os ∧ w'.tape = w.tape ∧ w'.output = w.output ∧ w.heap.size ≤ w'.heap.size ∧ (∀ b, b < w.heap.size → b ≠ g → ¬ Its S ext va b → w'.heap[b]? = w.heap[b]?) ∧
      (∀ b, S b → S' b) ∧ (∀ b, S' b → b < w'.heap.size ∧ (S b ∨ w.heap.size ≤ b ∨ Its S ext va b)) := by
    intro hk
    have hrun : (results fn a'.tmps).run P w' = .ok (packed []) w' := results_run (by rw [hres]; rfl)
    unfold endT at hk
    obtain ⟨ao, hao, hk⟩ := hget_of hk
    split at hk
    · rename_i cs1
      obtain ⟨g1, T', vs', q1, q2, q3, q4, q5⟩ := hI'.box 1000 cs1 hao
      have := hI'.keep 1000 (.pointer (some ⟨g, 0, none⟩)) _ (by simp [X]) q1
      simp only [Value.pointer.injEq, Option.some.injEq, Addr.mk.injEq, and_true] at this
      subst this
      let S2 : Nat → Prop := fun b => S' b ∨ S b
      have hm2 : ∀ (β2 : Nat → Option Value) (l : List AV) us, RelVs β2 S' w' l us → RelVs β2 S2 w' l us := fun β2 l us => RelVs.mono (fun _ _ x => x) (fun b hb => .inl hb) (fun _ _ => rfl) l us
      have hend : ∀ (va' : Value), RelVs (tabβ g1 ext' va') S' w' cs' vs'.toList → (∀ xs, ext' = some xs → OwnR S2 w' (fun b => Its S ext va b ∨ w.heap.size ≤ b) .i64 xs va') →
          a'.defers = [] ∧ ∃ v, (results fn a'.tmps).run P w' = .ok v w' ∧ ∃ (S' : Nat → Prop) (va' : Value) (T' : Nat) (vs' : Array Value), Ending.returned v = .returned (.tuple #[]) ∧
            w'.heap[g1]? = some (Obj.cells vs' T' (0, 0)) ∧ ¬ S' g1 ∧ RelVs (tabβ g1 ext' va') S' w' cs' vs'.toList ∧
            (∀ xs, ext' = some xs → OwnR S' w' (fun b => Its S ext va b ∨ w.heap.size ≤ b) .i64 xs va') ∧
            w'.os = w.os ∧ w'.tape = w.tape ∧ w'.output = w.output ∧ w.heap.size ≤ w'.heap.size ∧ (∀ b, b < w.heap.size → b ≠ g1 → ¬ Its S ext va b → w'.heap[b]? = w.heap[b]?) ∧
            (∀ b, S b → S' b) ∧ (∀ b, S' b → b < w'.heap.size ∧ (S b ∨ w.heap.size ≤ b ∨ Its S ext va b)) := by
        intro va' h1 h2
        refine ⟨hI'.defs, _, hrun, S2, va', T', vs', rfl, q4, fun h => h.elim q3 hgS, hm2 _ _ _ h1, h2, hI'.os, hI'.tape, hI'.output, hI'.size, fun b h3 h4 h5 => hI'.old b h3 (fun h => h.elim h4 h5), fun b hb => .inr hb, ?_⟩
        rintro b (hb | hb)
        · refine ⟨hI'.sb b hb, ?_⟩
          rcases Nat.lt_or_ge b w.heap.size with hlt | hge
          · rcases hI'.grew b hb hlt with h | h | h
            · exact .inl h
            · subst h; exact absurd hb q3
            · exact .inr (.inr h)
          · exact .inr (.inl hge)
        · exact ⟨Nat.lt_of_lt_of_le (hS b hb) hI'.size, .inl hb⟩
      split at hk
      · rename_i hfr
        split at hk
        · rename_i q hq
          obtain ⟨ar, har, hk⟩ := hget_of hk
          split at hk
          · rename_i xs
            rw [setF_eq] at hk
            obtain ⟨hwk, rfl⟩ := hk
            obtain ⟨va', r1, r2⟩ := hI'.arr q _ xs har
            obtain ⟨u14, r3, r4, A, m, cc, r5⟩ := getV_rel q5 hq (by simp)
            rw [r1] at r4
            obtain rfl : va' = u14 := by simpa using r4
            refine hend va' (hwk.rel _ (RelVs.hole hfr q5 (fun u hu => ?_))) ?_
            · rw [r3] at hu
              obtain rfl : va' = u := by simpa using hu
              exact ⟨by simp [tabβ], A, m, cc, r5⟩
            · intro xs' e
              obtain rfl : xs = xs' := by simpa using e
              rcases r2 with ⟨h1, h2 | ⟨g', h2, h3, h4⟩⟩ | ⟨g', cap, cur, h2, h3, h4, h5⟩
              · exact .inl ⟨h1, .inl h2⟩
              · exact .inl ⟨h1, .inr ⟨g', h2, .inl h3, h4⟩⟩
              · have hits' : Its S ext va g' ∨ w.heap.size ≤ g' := by
                  rcases h3 with h3 | h3 | h3
                  · exact .inr h3
                  · subst h3
                    refine absurd rfl (hI'.apart q 1000 va' _ g' ?_ r1 q1 (by rw [h2]; rfl) h4)
                    rintro rfl
                    rw [r1] at q1
                    obtain rfl : va' = Value.pointer (some ⟨g', 0, none⟩) := by simpa using q1
                    simp at r5
                  · exact .inl h3
                refine .inr ⟨g', cap, cur, h2, hits', fun h => ?_, h5⟩
                rcases h with h | h
                · exact h4 h
                · rcases hits' with h6 | h6
                  · exact h6.2.2 h
                  · have := hS _ h; omega
          · exact hk.elim
        · split at hk
          · rename_i hfc
            obtain ⟨hwk, rfl⟩ := hk
            exact hend undef (hwk.rel _ (RelVs.free _ _ (frees_set hfr hfc) q5)) (fun xs e => by simp at e)
          · exact hk.elim
      · exact hk.elim
    · exact hk.elim
  exact ⟨hret, fun id h => h.elim, hret, fun v u hk hc hr => hk.elim⟩

end funs
end Go.Proofs.Ythakgbecpkfeoaa.Ev

/- '==' of structs goes cell by cell; the tables, put together. -/
set_option linter.unusedVariables false
set_option linter.unusedSimpArgs false
namespace Go.Proofs.Ythakgbecpkfeoaa.Ev

def cksF (P : Program) (ck : Nat → Option (List CK)) : Nat → List Field → Option (List CK)
  | _, [] => some []
  | off, f :: fs => match f.name == "_", Nat.beq f.offset off, ck f.type with
    | false, true, some ks => match (P.info? f.type).map (fun i => Nat.beq i.size ks.length), cksF P ck (off + ks.length) fs with
      | some true, some r => some (ks ++ r)
      | _, _ => none
    | _, _, _ => none
/-- The kinds of a type's cells, where '==' asks cell by cell. -/
def cksT (P : Program) : Nat → Nat → Option (List CK)
  | 0, _ => none
  | n + 1, T => match P.underlying T with
    | some (.int κ) => some [.int κ]
    | some .bool => some [.bool]
    | some .string => some [.str]
    | some (.struct fs) => match P.stoodInHeld T with
      | true => none
      | false => cksF P (cksT P n) 0 fs.toList
    | _ => none
def aggB (P : Program) (T : Nat) : Bool := ((P.underlying T).map aggD).getD false
def valOf (P : Program) (T : Nat) (l : List CV) : Value :=
  match P.underlying T with
  | some (.struct _) => .agg (l.map CV.v).toArray
  | _ => match l with
    | [c] => c.v
    | _ => undef

theorem CKms_append : ∀ {ks r : List CK} {l : List CV}, CKms (ks ++ r) l = true → ∃ l1 l2, l = l1 ++ l2 ∧ CKms ks l1 = true ∧ CKms r l2 = true ∧ l1.length = ks.length
  | [], r, l, h => ⟨[], l, rfl, rfl, h, rfl⟩
  | k :: ks, r, [], h => by simp [CKms] at h
  | k :: ks, r, c :: l, h => by
    simp only [List.cons_append, CKms, Bool.and_eq_true] at h
    obtain ⟨l1, l2, rfl, h1, h2, h3⟩ := CKms_append h.2
    exact ⟨c :: l1, l2, rfl, by simp [CKms, h.1, h1], h2, by simp [h3]⟩
theorem eqCVs_append : ∀ {a b c d : List CV}, a.length = b.length → eqCVs (a ++ c) (b ++ d) = (eqCVs a b && eqCVs c d)
  | [], [], c, d, _ => by simp [eqCVs]
  | x :: a, y :: b, c, d, h => by simp only [List.cons_append, eqCVs, eqCVs_append (a := a) (b := b) (by simpa using h), Bool.and_assoc]
  | [], _ :: _, _, _, h => by simp at h
  | _ :: _, [], _, _, h => by simp at h
theorem CKms_one {k : CK} {l : List CV} (h : CKms [k] l = true) : ∃ c, l = [c] ∧ CKm k c = true := by
  match l with
  | [] => simp [CKms] at h
  | [c] => exact ⟨c, rfl, by simpa [CKms] using h⟩
  | _ :: _ :: _ => simp [CKms] at h
theorem CKms_length : ∀ {ks : List CK} {l : List CV}, CKms ks l = true → l.length = ks.length
  | [], [], _ => rfl
  | k :: ks, c :: l, h => by simp only [CKms, Bool.and_eq_true] at h; simp [CKms_length h.2]
  | [], _ :: _, h => by simp [CKms] at h
  | _ :: _, [], h => by simp [CKms] at h

section eq
variable {P : Program} {w : World}

theorem eqF_of {ck : Nat → Option (List CK)} {d : Nat}
    (hck : ∀ T ks, ck T = some ks → (∃ D, P.underlying T = some D ∧ (aggD D = false → ks.length = 1) ∧ (aggD D = true → ∃ fs, D = .struct fs)) ∧ ∀ l m, CKms ks l = true → CKms ks m = true → (Op.equalIn d T (valOf P T l) (valOf P T m)).run P w = .ok (eqCVs l m) w) :
    ∀ {fs : List Field} {off : Nat} {ks : List CK}, cksF P ck off fs = some ks → ∀ (pl pm l m : List CV), pl.length = off → pm.length = off → CKms ks l = true → CKms ks m = true →
      (Op.eqFields d ((pl ++ l).map CV.v).toArray ((pm ++ m).map CV.v).toArray fs).run P w = .ok (eqCVs l m) w
  | [], off, ks, h, pl, pm, l, m, h1, h2, h3, h4 => by
    simp only [cksF, Option.some.injEq] at h
    subst h
    match l, m, h3, h4 with
    | [], [], _, _ => simp [Op.eqFields, eqCVs]
  | f :: fs, off, ks, h, pl, pm, l, m, h1, h2, h3, h4 => by
    simp only [cksF] at h
    split at h
    · rename_i ks1 hn ho hk
      split at h
      · rename_i r hs hr
        simp only [Option.some.injEq] at h
        subst h
        obtain ⟨i, hi, hs⟩ := Option.map_eq_some_iff.1 hs
        have hs := Nat.eq_of_beq_eq_true hs
        have ho := Nat.eq_of_beq_eq_true ho
        obtain ⟨l1, l2, rfl, a1, a2, a3⟩ := CKms_append h3
        obtain ⟨m1, m2, rfl, b1, b2, b3⟩ := CKms_append h4
        obtain ⟨⟨D, hD, hone, hst⟩, heq⟩ := hck f.type ks1 hk
        have hagg : (isAgg f.type).run P w = .ok (aggD D) w := by
          unfold isAgg
          simp only [Sem.run_bind, run_underlying hD, Result.andThen_ok]
          cases D <;> rfl
        have hpart : ∀ (p l1 l2 : List CV), p.length = off → l1.length = ks1.length → (part f.type ((p ++ (l1 ++ l2)).map CV.v).toArray f.offset).run P w = .ok (valOf P f.type l1) w := by
          intro p l1 l2 hp hl
          cases hb : aggD D with
          | true =>
            obtain ⟨gs, rfl⟩ := hst hb
            simp only [part, Sem.run_bind, hagg, hb, Result.andThen_ok, if_true, sizeOf, typeInfo, run_program, hi, Sem.run_pure, hs, valOf, hD, ho]
            congr 2
            apply Array.ext'
            simp [List.extract_eq_take_drop, ← hp, ← hl]
          | false =>
            have := hone hb
            match l1, hl.trans this with
            | [c], _ =>
              have hv : valOf P f.type [c] = c.v := by
                unfold valOf
                rw [hD]
                cases D <;> first | rfl | simp [aggD] at hb
              rw [hv]
              have h0 : ((p ++ ([c] ++ l2)).map CV.v).toArray[f.offset]? = some c.v := by
                rw [ho, ← hp]
                simp
              simp only [part, Sem.run_bind, hagg, hb, Result.andThen_ok, Bool.false_eq_true, if_false]
              rw [h0]
              rfl
        have hn' : f.name ≠ "_" := by simpa using hn
        rw [Op.eqFields]
        simp only [if_pos hn', Sem.run_bind, hpart pl l1 l2 h1 a3, hpart pm m1 m2 h2 b3, heq l1 m1 a1 b1, Result.andThen_ok]
        have hrest := eqF_of hck hr (pl ++ l1) (pm ++ m1) l2 m2 (by simp [h1, a3]) (by simp [h2, b3]) a2 b2
        rw [eqCVs_append (a3.trans b3.symm)]
        cases eqCVs l1 m1 with
        | false => simp
        | true => simpa [List.append_assoc] using hrest
      · simp at h
    · simp at h

theorem eqT_of : ∀ (n T : Nat) (ks : List CK), cksT P n T = some ks → (∃ D, P.underlying T = some D ∧ (aggD D = false → ks.length = 1) ∧ (aggD D = true → ∃ fs, D = .struct fs)) ∧
    ∀ d, n ≤ d → ∀ l m, CKms ks l = true → CKms ks m = true → (Op.equalIn d T (valOf P T l) (valOf P T m)).run P w = .ok (eqCVs l m) w
  | 0, T, ks, h => by simp [cksT] at h
  | n + 1, T, ks, h => by
    simp only [cksT] at h
    split at h
    · rename_i κ hu
      simp only [Option.some.injEq] at h
      subst h
      refine ⟨⟨_, hu, fun _ => rfl, fun h => by simp [aggD] at h⟩, fun d hd l m hl hm => ?_⟩
      obtain ⟨d, rfl⟩ : ∃ d', d = d' + 1 := ⟨d - 1, by omega⟩
      obtain ⟨c, rfl, hc⟩ := CKms_one hl
      obtain ⟨c', rfl, hc'⟩ := CKms_one hm
      cases c <;> simp only [CKm, Bool.false_eq_true] at hc
      cases c' <;> simp only [CKm, Bool.false_eq_true] at hc'
      obtain rfl := kindEq_of hc
      obtain rfl := kindEq_of hc'
      simp only [valOf, hu, CV.v, run_equalIn_int (P := P) (h := hu), eqCVs, eqCV, Bool.and_true]
    · rename_i hu
      simp only [Option.some.injEq] at h
      subst h
      refine ⟨⟨_, hu, fun _ => rfl, fun h => by simp [aggD] at h⟩, fun d hd l m hl hm => ?_⟩
      obtain ⟨d, rfl⟩ : ∃ d', d = d' + 1 := ⟨d - 1, by omega⟩
      obtain ⟨c, rfl, hc⟩ := CKms_one hl
      obtain ⟨c', rfl, hc'⟩ := CKms_one hm
      cases c <;> simp only [CKm, Bool.false_eq_true] at hc
      cases c' <;> simp only [CKm, Bool.false_eq_true] at hc'
      simp only [valOf, hu, CV.v, run_equalIn_bool' (P := P) (h := hu), eqCVs, eqCV, Bool.and_true]
    · rename_i hu
      simp only [Option.some.injEq] at h
      subst h
      refine ⟨⟨_, hu, fun _ => rfl, fun h => by simp [aggD] at h⟩, fun d hd l m hl hm => ?_⟩
      obtain ⟨d, rfl⟩ : ∃ d', d = d' + 1 := ⟨d - 1, by omega⟩
      obtain ⟨c, rfl, hc⟩ := CKms_one hl
      obtain ⟨c', rfl, hc'⟩ := CKms_one hm
      cases c <;> simp only [CKm, Bool.false_eq_true] at hc
      cases c' <;> simp only [CKm, Bool.false_eq_true] at hc'
      simp only [valOf, hu, CV.v, run_equalIn_string (P := P) (h := hu), eqCVs, eqCV, Bool.and_true]
    · rename_i fs hu
      split at h
      · simp at h
      · rename_i hst
        refine ⟨⟨_, hu, fun h => by simp [aggD] at h, fun _ => ⟨fs, rfl⟩⟩, fun d hd l m hl hm => ?_⟩
        obtain ⟨d, rfl⟩ : ∃ d', d = d' + 1 := ⟨d - 1, by omega⟩
        have hf : P.fieldsOf T = fs := by simp [Program.fieldsOf, hu]
        simp only [valOf, hu]
        rw [run_equalIn_struct (P := P) w d T _ _ (by rw [hf]; exact hu) hst, hf]
        have := eqF_of (P := P) (w := w) (ck := cksT P n) (d := d) (fun T ks hk => ⟨(eqT_of n T ks hk).1, (eqT_of n T ks hk).2 d (by omega)⟩) h [] [] l m rfl rfl hl hm
        simpa using this
    · simp at h

theorem EqOK.of {n T : Nat} {ks : List CK} (h : cksT P n T = some ks) (hn : n ≤ 10000) (hu : aggB P T = true) (hg : P.eqGuardType P.depth T = false) : EqOK P T ks := by
  intro l m w hl hm
  refine ⟨?_, hg⟩
  obtain ⟨⟨D, hD, _, hst⟩, heq⟩ := eqT_of (P := P) (w := w) n T ks h
  have := heq 10000 hn l m hl hm
  unfold aggB at hu
  rw [hD] at hu
  obtain ⟨fs, rfl⟩ := hst (by simpa using hu)
  simpa [valOf, hD, Op.equal, Op.maxDepth] using this

end eq

/-! ### Tables -/
def AllTy (P : Program) : List (Nat × TI) → Prop
  | [] => True
  | p :: l => tiOf P p.1 = some { p.2 with eqk := [] } ∧ AllTy P l
theorem AllTy.get {P : Program} : ∀ {l : List (Nat × TI)}, AllTy P l → ∀ T ti, (T, ti) ∈ l → tiOf P T = some { ti with eqk := [] }
  | [], _, _, _, h => by simp at h
  | p :: l, ⟨h1, h2⟩, T, ti, h => by
    rcases List.mem_cons.1 h with rfl | h
    · exact h1
    · exact AllTy.get h2 T ti h
def AllEq (P : Program) : List (Nat × TI) → Prop
  | [] => True
  | p :: l => (p.2.eqk = [] ∨ EqOK P p.1 p.2.eqk) ∧ AllEq P l
theorem AllEq.get {P : Program} : ∀ {l : List (Nat × TI)}, AllEq P l → ∀ T ti, (T, ti) ∈ l → ti.eqk ≠ [] → EqOK P T ti.eqk
  | [], _, _, _, h, _ => by simp at h
  | p :: l, ⟨h1, h2⟩, T, ti, h, hne => by
    rcases List.mem_cons.1 h with rfl | h
    · exact h1.resolve_left hne
    · exact AllEq.get h2 T ti h hne

end Go.Proofs.Ythakgbecpkfeoaa.Ev

/- The program's tables: its types, as the evaluator reads them; what holds of the program at large. -/
set_option maxRecDepth 100000
namespace Go.Proofs.Ythakgbecpkfeoaa.Ev

def ti3 : TI := { agg := false, size := 1, zero := [.int .i64 (0)], fields := [], elem := none, arr := none, ik := some .i64, eqk := [] }
def ti4 : TI := { agg := false, size := 1, zero := [.bool false], fields := [], elem := none, arr := none, ik := none, eqk := [] }
def ti33 : TI := { agg := false, size := 1, zero := [.slice none 0 0], fields := [], elem := some .i64, arr := none, ik := none, eqk := [] }
def ti26 : TI := { agg := true, size := 13, zero := [.int .i64 (0), .int .i64 (0), .int .i64 (0), .int .i64 (0), .int .i64 (0), .int .i64 (0), .int .i64 (0), .int .i64 (0), .int .i64 (0), .int .i64 (0), .int .i64 (0), .int .i64 (0), .int .i64 (0)], fields := [(0, 5, true), (5, 1, false), (6, 1, false), (7, 1, false), (8, 1, false), (9, 1, false), (10, 1, false), (11, 1, false), (12, 1, false)], elem := none, arr := none, ik := none, eqk := [.int .i64, .int .i64, .int .i64, .int .i64, .int .i64, .int .i64, .int .i64, .int .i64, .int .i64, .int .i64, .int .i64, .int .i64, .int .i64] }
def ti23 : TI := { agg := true, size := 5, zero := [.int .i64 (0), .int .i64 (0), .int .i64 (0), .int .i64 (0), .int .i64 (0)], fields := [(0, 1, false), (1, 1, false), (2, 1, false), (3, 1, false), (4, 1, false)], elem := none, arr := none, ik := none, eqk := [.int .i64, .int .i64, .int .i64, .int .i64, .int .i64] }
def ti36 : TI := { agg := true, size := 7, zero := [.slice none 0 0, .slice none 0 0, .slice none 0 0, .slice none 0 0, .slice none 0 0, .slice none 0 0, .int .i64 (0)], fields := [(0, 1, false), (1, 1, false), (2, 1, false), (3, 1, false), (4, 1, false), (5, 1, false), (6, 1, false)], elem := none, arr := none, ik := none, eqk := [] }
def ti49 : TI := { agg := true, size := 1, zero := [.slice none 0 0], fields := [(0, 1, false)], elem := none, arr := none, ik := none, eqk := [] }
def ti51 : TI := { agg := true, size := 5, zero := [.int .i64 (0), .int .i64 (0), .int .i64 (0), .int .i64 (0), .string ⟨#[]⟩], fields := [(0, 1, false), (1, 1, false), (2, 1, false), (3, 1, false), (4, 1, false)], elem := none, arr := none, ik := none, eqk := [.int .i64, .int .i64, .int .i64, .int .i64, .str] }
def ti53 : TI := { agg := true, size := 2, zero := [.int .i64 (0), .bool false], fields := [(0, 1, false), (1, 1, false)], elem := none, arr := none, ik := none, eqk := [.int .i64, .bool] }
def ti44 : TI := { agg := false, size := 1, zero := [.slice none 0 0], fields := [], elem := some .acc, arr := none, ik := none, eqk := [] }
def ti59 : TI := { agg := false, size := 1, zero := [.slice none 0 0], fields := [], elem := some .res, arr := none, ik := none, eqk := [] }
def ti27 : TI := { agg := false, size := 1, zero := [.int .i64 (0)], fields := [], elem := none, arr := none, ik := some .i64, eqk := [] }
def ti5 : TI := { agg := false, size := 1, zero := [.int .u8 (0)], fields := [], elem := none, arr := none, ik := some .u8, eqk := [] }
def ti9 : TI := { agg := false, size := 1, zero := [.string ⟨#[]⟩], fields := [], elem := none, arr := none, ik := none, eqk := [] }
def ti66 : TI := { agg := false, size := 1, zero := [.int .u32 (0)], fields := [], elem := none, arr := none, ik := some .u32, eqk := [] }
def ti71 : TI := { agg := true, size := 7, zero := [.int .i64 (0), .int .i64 (0), .int .i64 (0), .int .i64 (0), .bool false, .bool false, .int .i64 (0)], fields := [(0, 1, false), (1, 1, false), (2, 1, false), (3, 1, false), (4, 1, false), (5, 1, false), (6, 1, false)], elem := none, arr := none, ik := none, eqk := [.int .i64, .int .i64, .int .i64, .int .i64, .bool, .bool, .int .i64] }
def ti75 : TI := { agg := true, size := 3, zero := [.int .i64 (0), .int .i64 (0), .int .i64 (0)], fields := [(0, 1, false), (1, 1, false), (2, 1, false)], elem := none, arr := none, ik := none, eqk := [] }
def ti76 : TI := { agg := false, size := 1, zero := [.slice none 0 0], fields := [], elem := some .i3, arr := none, ik := none, eqk := [] }
def ti77 : TI := { agg := false, size := 1, zero := [.slice none 0 0], fields := [], elem := some .i2, arr := none, ik := none, eqk := [] }
def ti79 : TI := { agg := true, size := 10, zero := [.int .i64 (0), .int .i64 (0), .int .i64 (0), .int .i64 (0), .int .i64 (0), .int .i64 (0), .int .i64 (0), .slice none 0 0, .slice none 0 0, .slice none 0 0], fields := [(0, 1, false), (1, 1, false), (2, 1, false), (3, 1, false), (4, 3, true), (7, 1, false), (8, 1, false), (9, 1, false)], elem := none, arr := none, ik := none, eqk := [] }
def ti89 : TI := { agg := false, size := 1, zero := [.slice none 0 0], fields := [], elem := some .u8, arr := none, ik := none, eqk := [] }
def ti34 : TI := { agg := false, size := 1, zero := [.slice none 0 0], fields := [], elem := some .bl, arr := none, ik := none, eqk := [] }
def ti90 : TI := { agg := true, size := 3, zero := [.slice none 0 0, .slice none 0 0, .slice none 0 0], fields := [], elem := none, arr := some (3, 1, false), ik := none, eqk := [] }
def ti92 : TI := { agg := true, size := 4, zero := [.slice none 0 0, .slice none 0 0, .slice none 0 0, .slice none 0 0], fields := [(0, 3, true), (3, 1, false)], elem := none, arr := none, ik := none, eqk := [] }
def ti97 : TI := { agg := true, size := 4, zero := [.int .i64 (0), .int .i64 (0), .slice none 0 0, .int .i64 (0)], fields := [(0, 1, false), (1, 1, false), (2, 1, false), (3, 1, false)], elem := none, arr := none, ik := none, eqk := [] }
def ti100 : TI := { agg := true, size := 16, zero := [.slice none 0 0, .int .i64 (0), .int .i64 (0), .slice none 0 0, .int .i64 (0), .int .i64 (0), .int .i64 (0), .slice none 0 0, .int .i64 (0), .int .i64 (0), .int .i64 (0), .slice none 0 0, .int .i64 (0), .int .i64 (0), .slice none 0 0, .bool false], fields := [(0, 1, true), (1, 12, true), (13, 1, false), (14, 1, false), (15, 1, false)], elem := none, arr := none, ik := none, eqk := [] }
def ti102 : TI := { agg := true, size := 3, zero := [.int .i64 (0), .int .i64 (0), .int .i64 (0)], fields := [], elem := none, arr := some (3, 1, false), ik := none, eqk := [] }
def ti109 : TI := { agg := false, size := 1, zero := [.int .u64 (0)], fields := [], elem := none, arr := none, ik := some .u64, eqk := [] }
def ti12 : TI := { agg := false, size := 1, zero := [.int .u64 (0)], fields := [], elem := none, arr := none, ik := some .u64, eqk := [] }
def ti136 : TI := { agg := true, size := 5, zero := [.int .i64 (0), .int .i64 (0), .int .i64 (0), .int .i64 (0), .string ⟨#[]⟩], fields := [(0, 5, true)], elem := none, arr := none, ik := none, eqk := [] }
def ti138 : TI := { agg := true, size := 1, zero := [.int .i64 (0)], fields := [(0, 1, false)], elem := none, arr := none, ik := none, eqk := [] }
def ti160 : TI := { agg := true, size := 3, zero := [.int .i64 (0), .int .i64 (0), .int .i64 (0)], fields := [(0, 1, false), (1, 1, false), (2, 1, false)], elem := none, arr := none, ik := none, eqk := [] }
def ti162 : TI := { agg := true, size := 2, zero := [.int .i64 (0), .int .i64 (0)], fields := [(0, 1, false), (1, 1, false)], elem := none, arr := none, ik := none, eqk := [] }
def ti113 : TI := { agg := false, size := 1, zero := [.nilFunc], fields := [], elem := none, arr := none, ik := none, eqk := [] }
def ti127 : TI := { agg := true, size := 8, zero := [.slice none 0 0, .int .i64 (0), .int .i64 (0), .int .i64 (0), .int .i64 (0), .int .i64 (0), .string ⟨#[]⟩, .bool false], fields := [(0, 1, false), (1, 1, false), (2, 5, true), (7, 1, false)], elem := none, arr := none, ik := none, eqk := [] }
def ti98 : TI := { agg := true, size := 12, zero := [.int .i64 (0), .int .i64 (0), .slice none 0 0, .int .i64 (0), .int .i64 (0), .int .i64 (0), .slice none 0 0, .int .i64 (0), .int .i64 (0), .int .i64 (0), .slice none 0 0, .int .i64 (0)], fields := [], elem := none, arr := some (3, 4, false), ik := none, eqk := [] }
def tys : List (Nat × TI) := [(98, ti98), (127, ti127), (113, ti113), (3, ti3), (4, ti4), (33, ti33), (26, ti26), (23, ti23), (36, ti36), (49, ti49), (51, ti51), (53, ti53), (44, ti44), (59, ti59), (27, ti27), (5, ti5), (9, ti9), (66, ti66), (71, ti71), (75, ti75), (76, ti76), (77, ti77), (79, ti79), (89, ti89), (34, ti34), (90, ti90), (92, ti92), (97, ti97), (100, ti100), (102, ti102), (109, ti109), (12, ti12), (136, ti136), (138, ti138), (160, ti160), (162, ti162)]

theorem tys_ok : AllTy Try.prog tys := ⟨by kernel_rfl, by kernel_rfl, by kernel_rfl, by kernel_rfl, by kernel_rfl, by kernel_rfl, by kernel_rfl, by kernel_rfl, by kernel_rfl, by kernel_rfl, by kernel_rfl, by kernel_rfl, by kernel_rfl, by kernel_rfl, by kernel_rfl, by kernel_rfl, by kernel_rfl, by kernel_rfl, by kernel_rfl, by kernel_rfl, by kernel_rfl, by kernel_rfl, by kernel_rfl, by kernel_rfl, by kernel_rfl, by kernel_rfl, by kernel_rfl, by kernel_rfl, by kernel_rfl, by kernel_rfl, by kernel_rfl, by kernel_rfl, by kernel_rfl, by kernel_rfl, by kernel_rfl, by kernel_rfl, trivial⟩
theorem tys_eq : AllEq Try.prog tys := ⟨.inl rfl, .inl rfl, .inl rfl, .inl rfl, .inl rfl, .inl rfl, .inr (EqOK.of (n := 5) (by kernel_rfl) (by omega) (by kernel_rfl) (by kernel_rfl)), .inr (EqOK.of (n := 5) (by kernel_rfl) (by omega) (by kernel_rfl) (by kernel_rfl)), .inl rfl, .inl rfl, .inr (EqOK.of (n := 5) (by kernel_rfl) (by omega) (by kernel_rfl) (by kernel_rfl)), .inr (EqOK.of (n := 5) (by kernel_rfl) (by omega) (by kernel_rfl) (by kernel_rfl)), .inl rfl, .inl rfl, .inl rfl, .inl rfl, .inl rfl, .inl rfl, .inr (EqOK.of (n := 5) (by kernel_rfl) (by omega) (by kernel_rfl) (by kernel_rfl)), .inl rfl, .inl rfl, .inl rfl, .inl rfl, .inl rfl, .inl rfl, .inl rfl, .inl rfl, .inl rfl, .inl rfl, .inl rfl, .inl rfl, .inl rfl, .inl rfl, .inl rfl, .inl rfl, .inl rfl, trivial⟩

theorem mixes : Try.prog.follows .mixedOrders = true := by kernel_rfl
theorem info3 : (Try.prog.info? 3).map (fun i => (i.zero, i.size, i.bytes)) = some (some (.int .i64 0), 1, 8) := by kernel_rfl
theorem env0 : EnvOK Try.prog ⟨tys, []⟩ := by
  refine ⟨tys_ok.get, tys_eq.get, fun f h hm => by simp at hm, fun f s hm => by simp at hm, fun f s hm => by simp at hm, ?_, by kernel_rfl, by kernel_rfl⟩
  have h := info3
  obtain ⟨i, h1, h2⟩ := Option.map_eq_some_iff.1 h
  simp only [Prod.mk.injEq] at h2
  exact ⟨i, h1, h2.1, h2.2.1, h2.2.2⟩

theorem enter_of {P : Program} {f : Nat} {fn : Func} {c : Code} (hf : P.funcs[f]? = some fn) (hname : (fn.name == "runtime.NumGoroutine") = false) (hb : fn.body = some c) :
    ∀ (w : World) (args : Array Value), (callFunc f args).run P w = .ok (.enter f args) w := by
  intro w args
  have h1 : fn.name ≠ "runtime.NumGoroutine" := by simpa using hname
  simp [callFunc, hf, h1, hb]

noncomputable def bodyOK (fn : Func) : Bool := match fn.body with
  | some c => moreB Try.prog c
  | none => false
theorem bodyOK_of {fn : Func} (h : bodyOK fn = true) : ∃ c, fn.body = some c ∧ moreB Try.prog c = true := by
  unfold bodyOK at h
  split at h
  · rename_i c hc; exact ⟨c, hc, h⟩
  · simp at h

/-- One function more that only computes. -/
theorem addPure {sp : List (Nat × Spec)} {f : Nat} {fn : Func} {h : List AV → Option (Prop × AV)} (hE : EnvOK Try.prog ⟨tys, sp⟩) (hf : Try.prog.funcs[f]? = some fn) (hname : (fn.name == "runtime.NumGoroutine") = false)
    (hm : bodyOK fn = true) (H : ∀ args p r, h args = some (p, r) → p → evFn ⟨tys, sp⟩ fn args [] fun out _ => ∃ v, out = .ret v ∧ Wk v r) : EnvOK Try.prog ⟨tys, (f, .pure h) :: sp⟩ := by
  obtain ⟨c, hb, hm⟩ := bodyOK_of hm
  have hs := evFn_pure hE mixes hf hb hm H
  refine ⟨hE.ty, hE.eq, fun g k hk => ?_, fun g s hk => ?_, fun g s hk => ?_, hE.z3, hE.u3, hE.u4⟩
  · rcases List.mem_cons.1 hk with h1 | h1
    · simp only [Prod.mk.injEq, Spec.pure.injEq] at h1
      obtain ⟨rfl, rfl⟩ := h1
      exact ⟨hs, enter_of hf hname hb⟩
    · exact hE.pure g k h1
  · rcases List.mem_cons.1 hk with h1 | h1
    · simp at h1
    · exact hE.full g s h1
  · rcases List.mem_cons.1 hk with h1 | h1
    · simp at h1
    · exact hE.tab g s h1

/-- One function more that is handed boxes, or panics. -/
theorem addFull {sp : List (Nat × Spec)} {f : Nat} {fn : Func} {s : List AV → List (List AV) → Option (Prop × Out × List (List AV))} (hE : EnvOK Try.prog ⟨tys, sp⟩) (hf : Try.prog.funcs[f]? = some fn) (hname : (fn.name == "runtime.NumGoroutine") = false)
    (hm : bodyOK fn = true) (H : ∀ args bs Q, detS s args bs Q → evFn ⟨tys, sp⟩ fn args bs Q) : EnvOK Try.prog ⟨tys, (f, .full s) :: sp⟩ := by
  obtain ⟨c, hb, hm⟩ := bodyOK_of hm
  have hs := evFn_full hE mixes hf hb hm H
  refine ⟨hE.ty, hE.eq, fun g k hk => ?_, fun g t hk => ?_, fun g t hk => ?_, hE.z3, hE.u3, hE.u4⟩
  · rcases List.mem_cons.1 hk with h1 | h1
    · simp at h1
    · exact hE.pure g k h1
  · rcases List.mem_cons.1 hk with h1 | h1
    · simp only [Prod.mk.injEq, Spec.full.injEq] at h1
      obtain ⟨rfl, rfl⟩ := h1
      exact ⟨hs, enter_of hf hname hb⟩
    · exact hE.full g t h1
  · rcases List.mem_cons.1 hk with h1 | h1
    · simp at h1
    · exact hE.tab g t h1

/-- One function more that is handed a table. -/
theorem addTab {sp : List (Nat × Spec)} {f : Nat} {fn : Func} {s : List AV → List AV → Option (List Int) → Option (Prop × List AV × Option (List Int))} (hE : EnvOK Try.prog ⟨tys, sp⟩) (hf : Try.prog.funcs[f]? = some fn) (hname : (fn.name == "runtime.NumGoroutine") = false)
    (hm : bodyOK fn = true) (hres : fn.results.toList = []) (H : ∀ args cs ext p cs' ext', s args cs ext = some (p, cs', ext') → p → evFnT ⟨tys, sp⟩ fn args cs ext fun cs1 ext1 => WkL cs1 cs' ∧ ext1 = ext') : EnvOK Try.prog ⟨tys, (f, .tab s) :: sp⟩ := by
  obtain ⟨c, hb, hm⟩ := bodyOK_of hm
  have hs := evFn_tab hE mixes hf hb hm hres H
  refine ⟨hE.ty, hE.eq, fun g k hk => ?_, fun g t hk => ?_, fun g t hk => ?_, hE.z3, hE.u3, hE.u4⟩
  · rcases List.mem_cons.1 hk with h1 | h1
    · simp at h1
    · exact hE.pure g k h1
  · rcases List.mem_cons.1 hk with h1 | h1
    · simp at h1
    · exact hE.full g t h1
  · rcases List.mem_cons.1 hk with h1 | h1
    · simp only [Prod.mk.injEq, Spec.tab.injEq] at h1
      obtain ⟨rfl, rfl⟩ := h1
      exact ⟨hs, enter_of hf hname hb⟩
    · exact hE.tab g t h1

end Go.Proofs.Ythakgbecpkfeoaa.Ev

/- What a call is handed, as the evaluator's values: arrays too, and the ranges of elements. -/
set_option linter.unusedVariables false
set_option linter.unusedSimpArgs false
namespace Go.Proofs.Ythakgbecpkfeoaa.Ev

/-- What a cell may be. -/
inductive SK where
  | int (κ : IntKind)
  | bool
  | str
  | sl (τ : ET)
  | any
  deriving DecidableEq

/-- A number of a slice is in its type's range. -/
def okCV : CV → Prop
  | .int κ n => (Lit.int κ n).wf = true
  | _ => True
def okE (τ : ET) (x : τ.T) : Prop := ∀ c ∈ τ.enc x, okCV c
def FitK : SK → AV → Prop
  | .int κ, v => ∃ n, v = .int κ n ∧ (Lit.int κ n).wf = true
  | .bool, v => ∃ b, v = .bool b
  | .str, v => ∃ s, v = .str s
  | .sl τ, v => ∃ xs, v = .sl τ xs ∧ ∀ x ∈ xs, okE τ x
  | .any, v => v = .undef
def FitKs : List SK → List AV → Prop
  | [], l => l = []
  | k :: ks, l => ∃ v m, l = v :: m ∧ FitK k v ∧ FitKs ks m

def skOf : ET → List SK
  | .i64 => [.int .i64]
  | .u8 => [.int .u8]
  | .bl => [.bool]
  | .acc => [.int .i64, .int .i64, .int .i64, .int .i64, .str]
  | .res => [.int .i64, .bool]
  | .i3 => [.int .i64, .int .i64, .int .i64]
  | .i2 => [.int .i64, .int .i64]

def shapeFs (P : Program) (sh : Nat → Option (List SK)) : Nat → List Field → Option (List SK)
  | _, [] => some []
  | off, f :: fs => match Nat.beq f.offset off, sh f.type with
    | true, some ks => match Nat.beq (P.cellsOf f.type) ks.length, shapeFs P sh (off + ks.length) fs with
      | true, some r => some (ks ++ r)
      | _, _ => none
    | _, _ => none
def reps : Nat → List SK → List SK
  | 0, _ => []
  | n + 1, ks => ks ++ reps n ks
theorem reps_length (n : Nat) (ks : List SK) : (reps n ks).length = n * ks.length := by
  induction n with
  | zero => simp [reps]
  | succ n ih => simp [reps, ih, Nat.succ_mul]; omega
def shapeT (P : Program) : Nat → Nat → Option (List SK)
  | 0, _ => none
  | n + 1, T => match P.underlying T with
    | some (.int κ) => some [.int κ]
    | some .bool => some [.bool]
    | some .string => some [.str]
    | some (.struct fs) => match shapeFs P (shapeT P n) 0 fs.toList with
      | some ks => if ks.length = P.cellsOf T then some ks else none
      | none => none
    | some (.slice e) => match etOf e with
      | some τ => if shapeT P n e = some (skOf τ) ∧ P.cellsOf e = τ.size then some [.sl τ] else none
      | none => some [.any]
    | some (.array m e) => match shapeT P n e with
      | some ks => if ks.length = P.cellsOf e then (if m * ks.length = P.cellsOf T then some (reps m ks) else none) else none
      | none => none
    | _ => none

theorem FitKs.append : ∀ {ks r : List SK} {l m : List AV}, FitKs ks l → FitKs r m → FitKs (ks ++ r) (l ++ m)
  | [], r, l, m, h, k => by simp only [FitKs] at h; subst h; exact k
  | q :: ks, r, l, m, ⟨v, l', h1, h2, h3⟩, k => by subst h1; exact ⟨v, _, rfl, h2, h3.append k⟩
theorem FitKs.length : ∀ {ks : List SK} {l : List AV}, FitKs ks l → l.length = ks.length
  | [], l, h => by simp only [FitKs] at h; subst h; rfl
  | k :: ks, l, ⟨v, m, h1, h2, h3⟩ => by subst h1; simp [h3.length]

theorem decode {β : Nat → Option Value} {S : Nat → Prop} {w : World} (τ : ET) {l : List AV} {us : List Value} (h : FitKs (skOf τ) l) (hr : RelVs β S w l us) : ∃ x : τ.T, us = (τ.enc x).map CV.v ∧ okE τ x := by
  cases τ with
  | i64 =>
    obtain ⟨v1, m, rfl, ⟨n, rfl, k1⟩, rfl⟩ := h
    obtain ⟨u, us', rfl, h1, rfl⟩ := hr
    simp only [RelV] at h1; subst h1
    exact ⟨n, rfl, fun c hc => by simp [ET.enc] at hc; subst hc; exact k1⟩
  | u8 =>
    obtain ⟨v1, m, rfl, ⟨n, rfl, k1⟩, rfl⟩ := h
    obtain ⟨u, us', rfl, h1, rfl⟩ := hr
    simp only [RelV] at h1; subst h1
    exact ⟨n, rfl, fun c hc => by simp [ET.enc] at hc; subst hc; exact k1⟩
  | bl =>
    obtain ⟨v1, m, rfl, ⟨b, rfl⟩, rfl⟩ := h
    obtain ⟨u, us', rfl, h1, rfl⟩ := hr
    simp only [RelV] at h1; subst h1
    exact ⟨b, rfl, fun c hc => by simp [ET.enc] at hc; subst hc; exact trivial⟩
  | acc =>
    obtain ⟨v1, m, rfl, ⟨a, rfl, k1⟩, v2, m, rfl, ⟨b, rfl, k2⟩, v3, m, rfl, ⟨c, rfl, k3⟩, v4, m, rfl, ⟨d, rfl, k4⟩, v5, m, rfl, ⟨s, rfl⟩, rfl⟩ := h
    obtain ⟨u1, us', rfl, h1, u2, us', rfl, h2, u3, us', rfl, h3, u4, us', rfl, h4, u5, us', rfl, h5, rfl⟩ := hr
    simp only [RelV] at h1 h2 h3 h4 h5
    subst h1 h2 h3 h4 h5
    exact ⟨⟨a, b, c, d, s⟩, rfl, fun z hz => by simp [ET.enc] at hz; rcases hz with rfl | rfl | rfl | rfl | rfl <;> first | assumption | exact trivial⟩
  | res =>
    obtain ⟨v1, m, rfl, ⟨a, rfl, k1⟩, v2, m, rfl, ⟨b, rfl⟩, rfl⟩ := h
    obtain ⟨u1, us', rfl, h1, u2, us', rfl, h2, rfl⟩ := hr
    simp only [RelV] at h1 h2
    subst h1 h2
    exact ⟨⟨a, b⟩, rfl, fun z hz => by simp [ET.enc] at hz; rcases hz with rfl | rfl <;> first | assumption | exact trivial⟩
  | i3 =>
    obtain ⟨v1, m, rfl, ⟨a, rfl, k1⟩, v2, m, rfl, ⟨b, rfl, k2⟩, v3, m, rfl, ⟨c, rfl, k3⟩, rfl⟩ := h
    obtain ⟨u1, us', rfl, h1, u2, us', rfl, h2, u3, us', rfl, h3, rfl⟩ := hr
    simp only [RelV] at h1 h2 h3
    subst h1 h2 h3
    exact ⟨(a, b, c), rfl, fun z hz => by simp [ET.enc] at hz; rcases hz with rfl | rfl | rfl <;> assumption⟩
  | i2 =>
    obtain ⟨v1, m, rfl, ⟨a, rfl, k1⟩, v2, m, rfl, ⟨b, rfl, k2⟩, rfl⟩ := h
    obtain ⟨u1, us', rfl, h1, u2, us', rfl, h2, rfl⟩ := hr
    simp only [RelV] at h1 h2
    subst h1 h2
    exact ⟨(a, b), rfl, fun z hz => by simp [ET.enc] at hz; rcases hz with rfl | rfl <;> assumption⟩

theorem cells_get {w : World} {base : Nat} {a : Addr} {n : Nat} {l : List Value} (h : w.cells? base a n = some l) : l.length = n ∧ ∀ j, j < n → w.cell? (a.add j) = l[j]? := by
  unfold World.cells? at h
  split at h
  · have h1 := mapM_some_length h
    refine ⟨by simpa using h1, fun j hj => ?_⟩
    exact mapM_some_get h j j (by simp [hj])
  · simp at h

theorem cell_lt {w : World} {a : Addr} {v : Value} (h : w.cell? a = some v) : a.block < w.heap.size := by
  unfold World.cell? at h
  split at h
  · rename_i hh; exact heap_lt hh
  · simp at h

/-- The elements of a row. -/
theorem row_of {τ : ET} {w : World} {a : Addr} : ∀ (len : Nat), (∀ i, i < len → ∃ x : τ.T, w.cells? 0 (a.add (i * τ.size)) τ.size = some ((τ.enc x).map CV.v) ∧ okE τ x) →
    ∃ xs : List τ.T, xs.length = len ∧ (∀ x ∈ xs, okE τ x) ∧ ∀ j u, (cellsOf τ xs)[j]? = some u → w.cell? (a.add j) = some u
  | 0, _ => ⟨[], rfl, by simp, by simp [cellsOf]⟩
  | n + 1, h => by
    obtain ⟨xs, h1, hok, h2⟩ := row_of n (fun i hi => h i (by omega))
    obtain ⟨x, hx, hxo⟩ := h n (by omega)
    obtain ⟨_, hg⟩ := cells_get hx
    refine ⟨xs ++ [x], by simp [h1], fun y hy => ?_, fun j u hj => ?_⟩
    · rcases List.mem_append.1 hy with hy | hy
      · exact hok y hy
      · simp at hy; subst hy; exact hxo
    rw [cellsOf_append] at hj
    by_cases hlt : j < (cellsOf τ xs).length
    · rw [List.getElem?_append_left hlt] at hj
      exact h2 j u hj
    · rw [List.getElem?_append_right (by omega), cellsOf_length, h1] at hj
      have hj' : ((τ.enc x).map CV.v)[j - n * τ.size]? = some u := by simpa [cellsOf] using hj
      have hjl := (List.getElem?_eq_some_iff.1 hj').1
      rw [List.length_map, enc_length] at hjl
      have := hg (j - n * τ.size) hjl
      rw [add_add, hj'] at this
      rw [cellsOf_length, h1] at hlt
      rw [show n * τ.size + (j - n * τ.size) = j by omega] at this
      exact this

theorem maxLen_eq : maxLen = maxI := rfl

section opens
variable {H : Type} {enc : TypeId × Value → H} {P : Program} {W : World} {spare : Nat → Bool} {held : Bool}

abbrev Fits (W : World) (ks : List SK) (cs : List Value) : Prop := ∃ l, FitKs ks l ∧ RelVs (fun _ => none) (fun b => b < W.heap.size) W l cs

theorem openFs {sh : Nat → Option (List SK)} {cs : List Value} (hsh : ∀ (f : Field) (ks : List SK), sh f.type = some ks → (∃ fuel x, DataW.trod enc P W 0 spare held fuel f.type ((cs.drop f.offset).take (P.cellsOf f.type)) = some x) → Fits W ks ((cs.drop f.offset).take (P.cellsOf f.type))) :
    ∀ {fs : List Field} {off : Nat} {ks : List SK}, shapeFs P sh off fs = some ks → (∀ f ∈ fs, ∃ fuel x, DataW.trod enc P W 0 spare held fuel f.type ((cs.drop f.offset).take (P.cellsOf f.type)) = some x) → Fits W ks ((cs.drop off).take ks.length)
  | [], off, ks, h, _ => by
    simp only [shapeFs, Option.some.injEq] at h
    subst h
    exact ⟨[], rfl, by simp [RelVs]⟩
  | f :: fs, off, ks, h, hx => by
    simp only [shapeFs] at h
    split at h
    · rename_i ks1 ho hk
      split at h
      · rename_i r hs hr
        simp only [Option.some.injEq] at h
        subst h
        have ho := Nat.eq_of_beq_eq_true ho
        have hs := Nat.eq_of_beq_eq_true hs
        obtain ⟨l1, f1, r1⟩ := hsh f ks1 hk (hx f (by simp))
        obtain ⟨l2, f2, r2⟩ := openFs hsh hr (fun g hg => hx g (by simp [hg]))
        refine ⟨l1 ++ l2, f1.append f2, ?_⟩
        rw [hs, ho] at r1
        have := r1.append r2
        rw [← List.drop_drop] at this
        rw [List.length_append, List.take_add]
        exact this
      · simp at h
    · simp at h

theorem openAs {ks : List SK} {cs : List Value} : ∀ (m off : Nat), (∀ i, i < m → Fits W ks ((cs.drop (off + i * ks.length)).take ks.length)) → Fits W (reps m ks) ((cs.drop off).take (reps m ks).length)
  | 0, off, _ => ⟨[], rfl, by simp [RelVs, reps]⟩
  | m + 1, off, h => by
    obtain ⟨l1, f1, r1⟩ := h 0 (by omega)
    obtain ⟨l2, f2, r2⟩ := openAs m (off + ks.length) (fun i hi => by
      have := h (i + 1) (by omega)
      rwa [show off + (i + 1) * ks.length = off + ks.length + i * ks.length by rw [Nat.succ_mul]; omega] at this)
    refine ⟨l1 ++ l2, f1.append f2, ?_⟩
    simp only [Nat.zero_mul, Nat.add_zero] at r1
    have := r1.append r2
    rw [← List.drop_drop] at this
    simp only [reps]
    rw [List.length_append, List.take_add]
    exact this

theorem openT : ∀ (n T : Nat) (ks : List SK), shapeT P n T = some ks → ∀ (fuel : Nat) (cs : List Value) (x : DataW H × List MemPlace), DataW.trod enc P W 0 spare held fuel T cs = some x → Fits W ks cs
  | 0, T, ks, h, _, _, _, _ => by simp [shapeT] at h
  | n + 1, T, ks, h, fuel, cs, x, hx => by
    simp only [shapeT] at h
    split at h
    · rename_i κ hu
      simp only [Option.some.injEq] at h
      subst h
      obtain ⟨m, rfl, _, hw⟩ := DataW.trod_int hu hx
      exact ⟨[.int κ m], ⟨_, _, rfl, ⟨m, rfl, hw⟩, rfl⟩, ⟨_, _, rfl, rfl, rfl⟩⟩
    · rename_i hu
      simp only [Option.some.injEq] at h
      subst h
      obtain ⟨b, rfl, _⟩ := DataW.trod_bool hu hx
      exact ⟨[.bool b], ⟨_, _, rfl, ⟨b, rfl⟩, rfl⟩, ⟨_, _, rfl, rfl, rfl⟩⟩
    · rename_i hu
      simp only [Option.some.injEq] at h
      subst h
      obtain ⟨s, rfl, _⟩ := DataW.trod_string hu hx
      exact ⟨[.str s], ⟨_, _, rfl, ⟨s, rfl⟩, rfl⟩, ⟨_, _, rfl, rfl, rfl⟩⟩
    · rename_i fs hu
      split at h
      · rename_i ks' hks
        split at h
        · rename_i hlen
          simp only [Option.some.injEq] at h
          subst h
          obtain ⟨xs, m, _, _, hl, hxl, hf⟩ := DataW.trod_struct hu hx
          have := openFs (enc := enc) (P := P) (W := W) (spare := spare) (held := held) (cs := cs) (fun f ks hk ⟨fuel, x, hx⟩ => openT n f.type ks hk fuel _ x hx) hks (by
            intro f hf'
            obtain ⟨i, hi, he⟩ := List.mem_iff_getElem.1 hf'
            simp only [Array.length_toList] at hi
            have hfi : fs[i]? = some f := by rw [← Array.getElem?_toList, List.getElem?_eq_getElem (by simpa using hi), he]
            have hxi : i < xs.length := by omega
            exact ⟨m, xs[i], by rw [hf i f hfi]; simp [hxi]⟩)
          rw [List.drop_zero, List.take_of_length_le (by omega)] at this
          exact this
        · simp at h
      · simp at h
    · rename_i e hu
      split at h
      · rename_i τ hτ
        split at h
        · rename_i hs
          simp only [Option.some.injEq] at h
          subst h
          rcases DataW.trod_slice hu hx with ⟨rfl, _⟩ | ⟨a, len, cap, elems, rest, m, _, rfl, _, hb, hlc, hcm, hel, hcells, _⟩
          · exact ⟨[.sl τ []], ⟨_, _, rfl, ⟨[], rfl, by simp⟩, rfl⟩, ⟨_, _, rfl, ⟨none, 0, rfl, by simp, by simp, fun hne => absurd rfl hne⟩, rfl⟩⟩
          · have hrow := row_of (τ := τ) (w := W) (a := a) len (by
              intro i hi
              have h1 := hcells i hi
              rw [hs.2] at h1
              have hsome : elems[i]? = some elems[i] := List.getElem?_eq_getElem (by omega)
              rw [hsome] at h1
              obtain ⟨ci, hc1, hc2⟩ := Option.bind_eq_some_iff.1 h1
              obtain ⟨l, hl1, hl2⟩ := openT n e _ hs.1 m ci _ hc2
              obtain ⟨y, hy, hyo⟩ := decode τ hl1 hl2
              exact ⟨y, by rw [hc1, hy], hyo⟩)
            obtain ⟨xs, hxl, hxo, hxr⟩ := hrow
            refine ⟨[.sl τ xs], ⟨_, _, rfl, ⟨xs, rfl, hxo⟩, rfl⟩, ⟨_, _, rfl, ⟨some a, cap, by rw [hxl], by omega, by rw [← maxLen_eq]; omega, fun hne => ⟨a, rfl, ?_, hxr⟩⟩, rfl⟩⟩
            cases hc : cellsOf τ xs with
            | nil => exact absurd hc hne
            | cons u us =>
              have := hxr 0 u (by rw [hc]; rfl)
              have := cell_lt this
              rwa [add_block] at this
        · simp at h
      · simp only [Option.some.injEq] at h
        subst h
        rcases DataW.trod_slice hu hx with ⟨rfl, _⟩ | ⟨a, len, cap, elems, rest, m, _, rfl, _⟩
        · exact ⟨[.undef], ⟨_, _, rfl, rfl, rfl⟩, ⟨_, _, rfl, by simp [RelV], rfl⟩⟩
        · exact ⟨[.undef], ⟨_, _, rfl, rfl, rfl⟩, ⟨_, _, rfl, by simp [RelV], rfl⟩⟩
    · rename_i m e hu
      split at h
      · rename_i ks' hks
        split at h
        · rename_i hc
          split at h
          · rename_i hlen
            simp only [Option.some.injEq] at h
            subst h
            obtain ⟨xs, q, _, _, hl, hxl, hf⟩ := DataW.trod_array hu hx
            have := openAs (W := W) (ks := ks') (cs := cs) m 0 (fun i hi => by
              have h1 := hf i hi
              have hxi : i < xs.length := by omega
              rw [List.getElem?_eq_getElem hxi] at h1
              have := openT n e ks' hks q _ _ h1
              rw [← hc] at this
              rwa [Nat.zero_add])
            rw [List.drop_zero, reps_length, hlen, List.take_of_length_le (by omega)] at this
            exact this
          · simp at h
        · simp at h
      · simp at h
    · simp at h

theorem open_one {n T : Nat} {k : SK} {D : TypeDesc} {r : Reach} {b0 : Nat} {v : Value} {d : DataW H} {ps : List MemPlace} (hs : shapeT P n T = some [k]) (hu : P.underlying T = some D) (hD : aggD D = false) (hval : Value.okWide P W r b0 T v) (hd : DataW.Trod enc P W 0 spare held T v d ps) :
    ∃ a, FitK k a ∧ RelV (fun _ => none) (fun b => b < W.heap.size) W a v := by
  obtain ⟨fuel, hf⟩ := hd
  obtain ⟨l, h1, h2⟩ := openT n T _ hs fuel _ _ hf
  obtain ⟨a, m, rfl, h3, rfl⟩ := h1
  obtain ⟨u, us, h4, h5, rfl⟩ := h2
  have hcell : v.cells.toList = [v] := by
    cases n with
    | zero => simp [shapeT] at hs
    | succ n =>
      simp only [shapeT, hu] at hs
      cases D <;> simp only [aggD, Bool.true_eq_false] at hD hs
      all_goals first
        | (obtain ⟨b, rfl⟩ := WideShapes.okWide_bool hu hval; rfl)
        | (obtain ⟨b, rfl⟩ := WideShapes.okWide_int hu hval; rfl)
        | (obtain ⟨b, rfl⟩ := WideShapes.okWide_string hu hval; rfl)
        | (obtain ⟨a, b, c, rfl⟩ := WideShapes.okWide_slice hu hval; rfl)
        | (simp at hs)
  rw [hcell] at h4
  simp only [List.cons.injEq, and_true] at h4
  subst h4
  exact ⟨a, h3, h5⟩

theorem open_many {n T : Nat} {ks : List SK} {fs : Array Field} {r : Reach} {b0 : Nat} {v : Value} {d : DataW H} {ps : List MemPlace} (hs : shapeT P n T = some ks) (hu : P.underlying T = some (.struct fs)) (hval : Value.okWide P W r b0 T v) (hd : DataW.Trod enc P W 0 spare held T v d ps) :
    ∃ l, FitKs ks l ∧ RelV (fun _ => none) (fun b => b < W.heap.size) W (.agg l) v := by
  obtain ⟨fuel, hf⟩ := hd
  obtain ⟨l, h1, h2⟩ := openT n T _ hs fuel _ _ hf
  simp only [Value.okWide, hu] at hval
  obtain ⟨cs, rfl, _⟩ := hval
  exact ⟨l, h1, ⟨cs.toList, by simp, h2⟩⟩
end opens

theorem okE_res {r : Res} (h : okE .res r) : -9223372036854775808 ≤ r.val ∧ r.val < 9223372036854775808 := by
  have := h (.int .i64 r.val) (by simp [ET.enc])
  simp [okCV, Lit.wf, IntKind.min, IntKind.max, IntKind.bits, IntKind.signed] at this
  omega
theorem okE_u8 {n : Int} (h : okE .u8 n) : 0 ≤ n ∧ n < 256 := by
  have := h (.int .u8 n) (by simp [ET.enc])
  simp [okCV, Lit.wf, IntKind.min, IntKind.max, IntKind.bits, IntKind.signed] at this
  omega
theorem wf_u8 {n : Int} (h : (Lit.int .u8 n).wf = true) : 0 ≤ n ∧ n < 256 := by
  simp [Lit.wf, IntKind.min, IntKind.max, IntKind.bits, IntKind.signed] at h
  omega
theorem wf_u32 {n : Int} (h : (Lit.int .u32 n).wf = true) : 0 ≤ n ∧ n < 4294967296 := by
  simp [Lit.wf, IntKind.min, IntKind.max, IntKind.bits, IntKind.signed] at h
  omega
theorem wf_i64 {n : Int} (h : (Lit.int .i64 n).wf = true) : -9223372036854775808 ≤ n ∧ n < 9223372036854775808 := by
  simp [Lit.wf, IntKind.min, IntKind.max, IntKind.bits, IntKind.signed] at h
  omega

end Go.Proofs.Ythakgbecpkfeoaa.Ev

/- The program's list of roots, as signs: the facts of its head that every row asks for. -/
set_option maxRecDepth 100000
namespace Go.Proofs.Ythakgbecpkfeoaa.Head

def signs : List Char := [Char.ofNat 104, Char.ofNat 97, Char.ofNat 114, Char.ofNat 110, Char.ofNat 101, Char.ofNat 115, Char.ofNat 115, Char.ofNat 32, Char.ofNat 101, Char.ofNat 102, Char.ofNat 100, Char.ofNat 99, Char.ofNat 98, Char.ofNat 101, Char.ofNat 53, Char.ofNat 50, Char.ofNat 102, Char.ofNat 51, Char.ofNat 51, Char.ofNat 53, Char.ofNat 48, Char.ofNat 102, Char.ofNat 56, Char.ofNat 53, Char.ofNat 97, Char.ofNat 97, Char.ofNat 56, Char.ofNat 49, Char.ofNat 49, Char.ofNat 57, Char.ofNat 48, Char.ofNat 48, Char.ofNat 53, Char.ofNat 100, Char.ofNat 56, Char.ofNat 48, Char.ofNat 50, Char.ofNat 54, Char.ofNat 55, Char.ofNat 53, Char.ofNat 97, Char.ofNat 55, Char.ofNat 97, Char.ofNat 53, Char.ofNat 54, Char.ofNat 55, Char.ofNat 50, Char.ofNat 50, Char.ofNat 102, Char.ofNat 97, Char.ofNat 56, Char.ofNat 101, Char.ofNat 57, Char.ofNat 51, Char.ofNat 48, Char.ofNat 101, Char.ofNat 50, Char.ofNat 53, Char.ofNat 52, Char.ofNat 55, Char.ofNat 56, Char.ofNat 52, Char.ofNat 51, Char.ofNat 97, Char.ofNat 49, Char.ofNat 99, Char.ofNat 98, Char.ofNat 101, Char.ofNat 102, Char.ofNat 57, Char.ofNat 50, Char.ofNat 97, Char.ofNat 32, Char.ofNat 99, Char.ofNat 117, Char.ofNat 116, Char.ofNat 32, Char.ofNat 97, Char.ofNat 116, Char.ofNat 32, Char.ofNat 104, Char.ofNat 97, Char.ofNat 108, Char.ofNat 108, Char.ofNat 109, Char.ofNat 111, Char.ofNat 111, Char.ofNat 116, Char.ofNat 47, Char.ofNat 104, Char.ofNat 97, Char.ofNat 108, Char.ofNat 108, Char.ofNat 109, Char.ofNat 111, Char.ofNat 111, Char.ofNat 116, Char.ofNat 108, Char.ofNat 97, Char.ofNat 119, Char.ofNat 49, Char.ofNat 53, Char.ofNat 46, Char.ofNat 76, Char.ofNat 97, Char.ofNat 121, Char.ofNat 111, Char.ofNat 117, Char.ofNat 116, Char.ofNat 82, Char.ofNat 101, Char.ofNat 106, Char.ofNat 101, Char.ofNat 99, Char.ofNat 116, Char.ofNat 115, Char.ofNat 67, Char.ofNat 104, Char.ofNat 97, Char.ofNat 110, Char.ofNat 103, Char.ofNat 101, Char.ofNat 32, Char.ofNat 104, Char.ofNat 97, Char.ofNat 108, Char.ofNat 108, Char.ofNat 109, Char.ofNat 111, Char.ofNat 111, Char.ofNat 116, Char.ofNat 47, Char.ofNat 104, Char.ofNat 97, Char.ofNat 108, Char.ofNat 108, Char.ofNat 109, Char.ofNat 111, Char.ofNat 111, Char.ofNat 116, Char.ofNat 108, Char.ofNat 97, Char.ofNat 119, Char.ofNat 49, Char.ofNat 53, Char.ofNat 46, Char.ofNat 76, Char.ofNat 97, Char.ofNat 121, Char.ofNat 111, Char.ofNat 117, Char.ofNat 116, Char.ofNat 70, Char.ofNat 111, Char.ofNat 114, Char.ofNat 70, Char.ofNat 105, Char.ofNat 116, Char.ofNat 115, Char.ofNat 32, Char.ofNat 104, Char.ofNat 97, Char.ofNat 108, Char.ofNat 108, Char.ofNat 109, Char.ofNat 111, Char.ofNat 111, Char.ofNat 116, Char.ofNat 47, Char.ofNat 104, Char.ofNat 97, Char.ofNat 108, Char.ofNat 108, Char.ofNat 109, Char.ofNat 111, Char.ofNat 111, Char.ofNat 116, Char.ofNat 108, Char.ofNat 97, Char.ofNat 119, Char.ofNat 49, Char.ofNat 53, Char.ofNat 46, Char.ofNat 76, Char.ofNat 97, Char.ofNat 121, Char.ofNat 111, Char.ofNat 117, Char.ofNat 116, Char.ofNat 77, Char.ofNat 97, Char.ofNat 116, Char.ofNat 99, Char.ofNat 104, Char.ofNat 101, Char.ofNat 115, Char.ofNat 83, Char.ofNat 112, Char.ofNat 101, Char.ofNat 99, Char.ofNat 32, Char.ofNat 104, Char.ofNat 97, Char.ofNat 108, Char.ofNat 108, Char.ofNat 109, Char.ofNat 111, Char.ofNat 111, Char.ofNat 116, Char.ofNat 47, Char.ofNat 104, Char.ofNat 97, Char.ofNat 108, Char.ofNat 108, Char.ofNat 109, Char.ofNat 111, Char.ofNat 111, Char.ofNat 116, Char.ofNat 108, Char.ofNat 97, Char.ofNat 119, Char.ofNat 49, Char.ofNat 53, Char.ofNat 46, Char.ofNat 76, Char.ofNat 97, Char.ofNat 121, Char.ofNat 111, Char.ofNat 117, Char.ofNat 116, Char.ofNat 80, Char.ofNat 97, Char.ofNat 114, Char.ofNat 116, Char.ofNat 105, Char.ofNat 116, Char.ofNat 105, Char.ofNat 111, Char.ofNat 110, Char.ofNat 115, Char.ofNat 32, Char.ofNat 104, Char.ofNat 97, Char.ofNat 108, Char.ofNat 108, Char.ofNat 109, Char.ofNat 111, Char.ofNat 111, Char.ofNat 116, Char.ofNat 47, Char.ofNat 104, Char.ofNat 97, Char.ofNat 108, Char.ofNat 108, Char.ofNat 109, Char.ofNat 111, Char.ofNat 111, Char.ofNat 116, Char.ofNat 108, Char.ofNat 97, Char.ofNat 119, Char.ofNat 48, Char.ofNat 50, Char.ofNat 46, Char.ofNat 77, Char.ofNat 101, Char.ofNat 109, Char.ofNat 77, Char.ofNat 97, Char.ofNat 116, Char.ofNat 99, Char.ofNat 104, Char.ofNat 101, Char.ofNat 115, Char.ofNat 83, Char.ofNat 112, Char.ofNat 101, Char.ofNat 99, Char.ofNat 32, Char.ofNat 104, Char.ofNat 97, Char.ofNat 108, Char.ofNat 108, Char.ofNat 109, Char.ofNat 111, Char.ofNat 111, Char.ofNat 116, Char.ofNat 47, Char.ofNat 104, Char.ofNat 97, Char.ofNat 108, Char.ofNat 108, Char.ofNat 109, Char.ofNat 111, Char.ofNat 111, Char.ofNat 116, Char.ofNat 108, Char.ofNat 97, Char.ofNat 119, Char.ofNat 48, Char.ofNat 50, Char.ofNat 46, Char.ofNat 77, Char.ofNat 101, Char.ofNat 109, Char.ofNat 65, Char.ofNat 108, Char.ofNat 108, Char.ofNat 77, Char.ofNat 97, Char.ofNat 116, Char.ofNat 99, Char.ofNat 104, Char.ofNat 101, Char.ofNat 115, Char.ofNat 83, Char.ofNat 112, Char.ofNat 101, Char.ofNat 99, Char.ofNat 32, Char.ofNat 104, Char.ofNat 97, Char.ofNat 108, Char.ofNat 108, Char.ofNat 109, Char.ofNat 111, Char.ofNat 111, Char.ofNat 116, Char.ofNat 47, Char.ofNat 104, Char.ofNat 97, Char.ofNat 108, Char.ofNat 108, Char.ofNat 109, Char.ofNat 111, Char.ofNat 111, Char.ofNat 116, Char.ofNat 108, Char.ofNat 97, Char.ofNat 119, Char.ofNat 48, Char.ofNat 50, Char.ofNat 46, Char.ofNat 77, Char.ofNat 101, Char.ofNat 109, Char.ofNat 67, Char.ofNat 111, Char.ofNat 109, Char.ofNat 109, Char.ofNat 117, Char.ofNat 116, Char.ofNat 101, Char.ofNat 115, Char.ofNat 32, Char.ofNat 104, Char.ofNat 97, Char.ofNat 108, Char.ofNat 108, Char.ofNat 109, Char.ofNat 111, Char.ofNat 111, Char.ofNat 116, Char.ofNat 47, Char.ofNat 104, Char.ofNat 97, Char.ofNat 108, Char.ofNat 108, Char.ofNat 109, Char.ofNat 111, Char.ofNat 111, Char.ofNat 116, Char.ofNat 108, Char.ofNat 97, Char.ofNat 119, Char.ofNat 48, Char.ofNat 50, Char.ofNat 46, Char.ofNat 77, Char.ofNat 101, Char.ofNat 109, Char.ofNat 67, Char.ofNat 104, Char.ofNat 97, Char.ofNat 110, Char.ofNat 103, Char.ofNat 101, Char.ofNat 115, Char.ofNat 79, Char.ofNat 110, Char.ofNat 101, Char.ofNat 67, Char.ofNat 101, Char.ofNat 108, Char.ofNat 108, Char.ofNat 32, Char.ofNat 104, Char.ofNat 97, Char.ofNat 108, Char.ofNat 108, Char.ofNat 109, Char.ofNat 111, Char.ofNat 111, Char.ofNat 116, Char.ofNat 47, Char.ofNat 104, Char.ofNat 97, Char.ofNat 108, Char.ofNat 108, Char.ofNat 109, Char.ofNat 111, Char.ofNat 111, Char.ofNat 116, Char.ofNat 108, Char.ofNat 97, Char.ofNat 119, Char.ofNat 49, Char.ofNat 54, Char.ofNat 46, Char.ofNat 76, Char.ofNat 111, Char.ofNat 99, Char.ofNat 107, Char.ofNat 65, Char.ofNat 108, Char.ofNat 111, Char.ofNat 110, Char.ofNat 101, Char.ofNat 32, Char.ofNat 104, Char.ofNat 97, Char.ofNat 108, Char.ofNat 108, Char.ofNat 109, Char.ofNat 111, Char.ofNat 111, Char.ofNat 116, Char.ofNat 47, Char.ofNat 104, Char.ofNat 97, Char.ofNat 108, Char.ofNat 108, Char.ofNat 109, Char.ofNat 111, Char.ofNat 111, Char.ofNat 116, Char.ofNat 108, Char.ofNat 97, Char.ofNat 119, Char.ofNat 48, Char.ofNat 50, Char.ofNat 46, Char.ofNat 77, Char.ofNat 101, Char.ofNat 109, Char.ofNat 65, Char.ofNat 108, Char.ofNat 108, Char.ofNat 83, Char.ofNat 112, Char.ofNat 108, Char.ofNat 105, Char.ofNat 116, Char.ofNat 115, Char.ofNat 32, Char.ofNat 104, Char.ofNat 97, Char.ofNat 108, Char.ofNat 108, Char.ofNat 109, Char.ofNat 111, Char.ofNat 111, Char.ofNat 116, Char.ofNat 47, Char.ofNat 104, Char.ofNat 97, Char.ofNat 108, Char.ofNat 108, Char.ofNat 109, Char.ofNat 111, Char.ofNat 111, Char.ofNat 116, Char.ofNat 108, Char.ofNat 97, Char.ofNat 119, Char.ofNat 48, Char.ofNat 50, Char.ofNat 46, Char.ofNat 77, Char.ofNat 101, Char.ofNat 109, Char.ofNat 65, Char.ofNat 100, Char.ofNat 100, Char.ofNat 115, Char.ofNat 83, Char.ofNat 117, Char.ofNat 109, Char.ofNat 32, Char.ofNat 104, Char.ofNat 97, Char.ofNat 108, Char.ofNat 108, Char.ofNat 109, Char.ofNat 111, Char.ofNat 111, Char.ofNat 116, Char.ofNat 47, Char.ofNat 104, Char.ofNat 97, Char.ofNat 108, Char.ofNat 108, Char.ofNat 109, Char.ofNat 111, Char.ofNat 111, Char.ofNat 116, Char.ofNat 108, Char.ofNat 97, Char.ofNat 119, Char.ofNat 48, Char.ofNat 50, Char.ofNat 46, Char.ofNat 77, Char.ofNat 101, Char.ofNat 109, Char.ofNat 67, Char.ofNat 97, Char.ofNat 115, Char.ofNat 79, Char.ofNat 110, Char.ofNat 99, Char.ofNat 101, Char.ofNat 32, Char.ofNat 104, Char.ofNat 97, Char.ofNat 108, Char.ofNat 108, Char.ofNat 109, Char.ofNat 111, Char.ofNat 111, Char.ofNat 116, Char.ofNat 47, Char.ofNat 104, Char.ofNat 97, Char.ofNat 108, Char.ofNat 108, Char.ofNat 109, Char.ofNat 111, Char.ofNat 111, Char.ofNat 116, Char.ofNat 108, Char.ofNat 97, Char.ofNat 119, Char.ofNat 49, Char.ofNat 53, Char.ofNat 46, Char.ofNat 76, Char.ofNat 97, Char.ofNat 121, Char.ofNat 111, Char.ofNat 117, Char.ofNat 116, Char.ofNat 73, Char.ofNat 110, Char.ofNat 105, Char.ofNat 116, Char.ofNat 83, Char.ofNat 116, Char.ofNat 111, Char.ofNat 114, Char.ofNat 101, Char.ofNat 115, Char.ofNat 32, Char.ofNat 104, Char.ofNat 97, Char.ofNat 108, Char.ofNat 108, Char.ofNat 109, Char.ofNat 111, Char.ofNat 111, Char.ofNat 116, Char.ofNat 47, Char.ofNat 104, Char.ofNat 97, Char.ofNat 108, Char.ofNat 108, Char.ofNat 109, Char.ofNat 111, Char.ofNat 111, Char.ofNat 116, Char.ofNat 108, Char.ofNat 97, Char.ofNat 119, Char.ofNat 49, Char.ofNat 54, Char.ofNat 46, Char.ofNat 76, Char.ofNat 111, Char.ofNat 99, Char.ofNat 107, Char.ofNat 78, Char.ofNat 101, Char.ofNat 120, Char.ofNat 116, Char.ofNat 32, Char.ofNat 104, Char.ofNat 97, Char.ofNat 108, Char.ofNat 108, Char.ofNat 109, Char.ofNat 111, Char.ofNat 111, Char.ofNat 116, Char.ofNat 47, Char.ofNat 104, Char.ofNat 97, Char.ofNat 108, Char.ofNat 108, Char.ofNat 109, Char.ofNat 111, Char.ofNat 111, Char.ofNat 116, Char.ofNat 108, Char.ofNat 97, Char.ofNat 119, Char.ofNat 49, Char.ofNat 54, Char.ofNat 46, Char.ofNat 76, Char.ofNat 111, Char.ofNat 99, Char.ofNat 107, Char.ofNat 69, Char.ofNat 120, Char.ofNat 99, Char.ofNat 108, Char.ofNat 117, Char.ofNat 115, Char.ofNat 105, Char.ofNat 118, Char.ofNat 101, Char.ofNat 32, Char.ofNat 104, Char.ofNat 97, Char.ofNat 108, Char.ofNat 108, Char.ofNat 109, Char.ofNat 111, Char.ofNat 111, Char.ofNat 116, Char.ofNat 47, Char.ofNat 104, Char.ofNat 97, Char.ofNat 108, Char.ofNat 108, Char.ofNat 109, Char.ofNat 111, Char.ofNat 111, Char.ofNat 116, Char.ofNat 108, Char.ofNat 97, Char.ofNat 119, Char.ofNat 49, Char.ofNat 54, Char.ofNat 46, Char.ofNat 76, Char.ofNat 111, Char.ofNat 99, Char.ofNat 107, Char.ofNat 82, Char.ofNat 101, Char.ofNat 97, Char.ofNat 100, Char.ofNat 32, Char.ofNat 104, Char.ofNat 97, Char.ofNat 108, Char.ofNat 108, Char.ofNat 109, Char.ofNat 111, Char.ofNat 111, Char.ofNat 116, Char.ofNat 47, Char.ofNat 104, Char.ofNat 97, Char.ofNat 108, Char.ofNat 108, Char.ofNat 109, Char.ofNat 111, Char.ofNat 111, Char.ofNat 116, Char.ofNat 108, Char.ofNat 97, Char.ofNat 119, Char.ofNat 49, Char.ofNat 54, Char.ofNat 46, Char.ofNat 76, Char.ofNat 111, Char.ofNat 99, Char.ofNat 107, Char.ofNat 86, Char.ofNat 97, Char.ofNat 108, Char.ofNat 105, Char.ofNat 100, Char.ofNat 97, Char.ofNat 116, Char.ofNat 101]
def roots : List (List Char) := [[Char.ofNat 99, Char.ofNat 117, Char.ofNat 116], [Char.ofNat 97, Char.ofNat 116], [Char.ofNat 104, Char.ofNat 97, Char.ofNat 108, Char.ofNat 108, Char.ofNat 109, Char.ofNat 111, Char.ofNat 111, Char.ofNat 116, Char.ofNat 47, Char.ofNat 104, Char.ofNat 97, Char.ofNat 108, Char.ofNat 108, Char.ofNat 109, Char.ofNat 111, Char.ofNat 111, Char.ofNat 116, Char.ofNat 108, Char.ofNat 97, Char.ofNat 119, Char.ofNat 49, Char.ofNat 53, Char.ofNat 46, Char.ofNat 76, Char.ofNat 97, Char.ofNat 121, Char.ofNat 111, Char.ofNat 117, Char.ofNat 116, Char.ofNat 82, Char.ofNat 101, Char.ofNat 106, Char.ofNat 101, Char.ofNat 99, Char.ofNat 116, Char.ofNat 115, Char.ofNat 67, Char.ofNat 104, Char.ofNat 97, Char.ofNat 110, Char.ofNat 103, Char.ofNat 101], [Char.ofNat 104, Char.ofNat 97, Char.ofNat 108, Char.ofNat 108, Char.ofNat 109, Char.ofNat 111, Char.ofNat 111, Char.ofNat 116, Char.ofNat 47, Char.ofNat 104, Char.ofNat 97, Char.ofNat 108, Char.ofNat 108, Char.ofNat 109, Char.ofNat 111, Char.ofNat 111, Char.ofNat 116, Char.ofNat 108, Char.ofNat 97, Char.ofNat 119, Char.ofNat 49, Char.ofNat 53, Char.ofNat 46, Char.ofNat 76, Char.ofNat 97, Char.ofNat 121, Char.ofNat 111, Char.ofNat 117, Char.ofNat 116, Char.ofNat 70, Char.ofNat 111, Char.ofNat 114, Char.ofNat 70, Char.ofNat 105, Char.ofNat 116, Char.ofNat 115], [Char.ofNat 104, Char.ofNat 97, Char.ofNat 108, Char.ofNat 108, Char.ofNat 109, Char.ofNat 111, Char.ofNat 111, Char.ofNat 116, Char.ofNat 47, Char.ofNat 104, Char.ofNat 97, Char.ofNat 108, Char.ofNat 108, Char.ofNat 109, Char.ofNat 111, Char.ofNat 111, Char.ofNat 116, Char.ofNat 108, Char.ofNat 97, Char.ofNat 119, Char.ofNat 49, Char.ofNat 53, Char.ofNat 46, Char.ofNat 76, Char.ofNat 97, Char.ofNat 121, Char.ofNat 111, Char.ofNat 117, Char.ofNat 116, Char.ofNat 77, Char.ofNat 97, Char.ofNat 116, Char.ofNat 99, Char.ofNat 104, Char.ofNat 101, Char.ofNat 115, Char.ofNat 83, Char.ofNat 112, Char.ofNat 101, Char.ofNat 99], [Char.ofNat 104, Char.ofNat 97, Char.ofNat 108, Char.ofNat 108, Char.ofNat 109, Char.ofNat 111, Char.ofNat 111, Char.ofNat 116, Char.ofNat 47, Char.ofNat 104, Char.ofNat 97, Char.ofNat 108, Char.ofNat 108, Char.ofNat 109, Char.ofNat 111, Char.ofNat 111, Char.ofNat 116, Char.ofNat 108, Char.ofNat 97, Char.ofNat 119, Char.ofNat 49, Char.ofNat 53, Char.ofNat 46, Char.ofNat 76, Char.ofNat 97, Char.ofNat 121, Char.ofNat 111, Char.ofNat 117, Char.ofNat 116, Char.ofNat 80, Char.ofNat 97, Char.ofNat 114, Char.ofNat 116, Char.ofNat 105, Char.ofNat 116, Char.ofNat 105, Char.ofNat 111, Char.ofNat 110, Char.ofNat 115], [Char.ofNat 104, Char.ofNat 97, Char.ofNat 108, Char.ofNat 108, Char.ofNat 109, Char.ofNat 111, Char.ofNat 111, Char.ofNat 116, Char.ofNat 47, Char.ofNat 104, Char.ofNat 97, Char.ofNat 108, Char.ofNat 108, Char.ofNat 109, Char.ofNat 111, Char.ofNat 111, Char.ofNat 116, Char.ofNat 108, Char.ofNat 97, Char.ofNat 119, Char.ofNat 48, Char.ofNat 50, Char.ofNat 46, Char.ofNat 77, Char.ofNat 101, Char.ofNat 109, Char.ofNat 77, Char.ofNat 97, Char.ofNat 116, Char.ofNat 99, Char.ofNat 104, Char.ofNat 101, Char.ofNat 115, Char.ofNat 83, Char.ofNat 112, Char.ofNat 101, Char.ofNat 99], [Char.ofNat 104, Char.ofNat 97, Char.ofNat 108, Char.ofNat 108, Char.ofNat 109, Char.ofNat 111, Char.ofNat 111, Char.ofNat 116, Char.ofNat 47, Char.ofNat 104, Char.ofNat 97, Char.ofNat 108, Char.ofNat 108, Char.ofNat 109, Char.ofNat 111, Char.ofNat 111, Char.ofNat 116, Char.ofNat 108, Char.ofNat 97, Char.ofNat 119, Char.ofNat 48, Char.ofNat 50, Char.ofNat 46, Char.ofNat 77, Char.ofNat 101, Char.ofNat 109, Char.ofNat 65, Char.ofNat 108, Char.ofNat 108, Char.ofNat 77, Char.ofNat 97, Char.ofNat 116, Char.ofNat 99, Char.ofNat 104, Char.ofNat 101, Char.ofNat 115, Char.ofNat 83, Char.ofNat 112, Char.ofNat 101, Char.ofNat 99], [Char.ofNat 104, Char.ofNat 97, Char.ofNat 108, Char.ofNat 108, Char.ofNat 109, Char.ofNat 111, Char.ofNat 111, Char.ofNat 116, Char.ofNat 47, Char.ofNat 104, Char.ofNat 97, Char.ofNat 108, Char.ofNat 108, Char.ofNat 109, Char.ofNat 111, Char.ofNat 111, Char.ofNat 116, Char.ofNat 108, Char.ofNat 97, Char.ofNat 119, Char.ofNat 48, Char.ofNat 50, Char.ofNat 46, Char.ofNat 77, Char.ofNat 101, Char.ofNat 109, Char.ofNat 67, Char.ofNat 111, Char.ofNat 109, Char.ofNat 109, Char.ofNat 117, Char.ofNat 116, Char.ofNat 101, Char.ofNat 115], [Char.ofNat 104, Char.ofNat 97, Char.ofNat 108, Char.ofNat 108, Char.ofNat 109, Char.ofNat 111, Char.ofNat 111, Char.ofNat 116, Char.ofNat 47, Char.ofNat 104, Char.ofNat 97, Char.ofNat 108, Char.ofNat 108, Char.ofNat 109, Char.ofNat 111, Char.ofNat 111, Char.ofNat 116, Char.ofNat 108, Char.ofNat 97, Char.ofNat 119, Char.ofNat 48, Char.ofNat 50, Char.ofNat 46, Char.ofNat 77, Char.ofNat 101, Char.ofNat 109, Char.ofNat 67, Char.ofNat 104, Char.ofNat 97, Char.ofNat 110, Char.ofNat 103, Char.ofNat 101, Char.ofNat 115, Char.ofNat 79, Char.ofNat 110, Char.ofNat 101, Char.ofNat 67, Char.ofNat 101, Char.ofNat 108, Char.ofNat 108], [Char.ofNat 104, Char.ofNat 97, Char.ofNat 108, Char.ofNat 108, Char.ofNat 109, Char.ofNat 111, Char.ofNat 111, Char.ofNat 116, Char.ofNat 47, Char.ofNat 104, Char.ofNat 97, Char.ofNat 108, Char.ofNat 108, Char.ofNat 109, Char.ofNat 111, Char.ofNat 111, Char.ofNat 116, Char.ofNat 108, Char.ofNat 97, Char.ofNat 119, Char.ofNat 49, Char.ofNat 54, Char.ofNat 46, Char.ofNat 76, Char.ofNat 111, Char.ofNat 99, Char.ofNat 107, Char.ofNat 65, Char.ofNat 108, Char.ofNat 111, Char.ofNat 110, Char.ofNat 101], [Char.ofNat 104, Char.ofNat 97, Char.ofNat 108, Char.ofNat 108, Char.ofNat 109, Char.ofNat 111, Char.ofNat 111, Char.ofNat 116, Char.ofNat 47, Char.ofNat 104, Char.ofNat 97, Char.ofNat 108, Char.ofNat 108, Char.ofNat 109, Char.ofNat 111, Char.ofNat 111, Char.ofNat 116, Char.ofNat 108, Char.ofNat 97, Char.ofNat 119, Char.ofNat 48, Char.ofNat 50, Char.ofNat 46, Char.ofNat 77, Char.ofNat 101, Char.ofNat 109, Char.ofNat 65, Char.ofNat 108, Char.ofNat 108, Char.ofNat 83, Char.ofNat 112, Char.ofNat 108, Char.ofNat 105, Char.ofNat 116, Char.ofNat 115], [Char.ofNat 104, Char.ofNat 97, Char.ofNat 108, Char.ofNat 108, Char.ofNat 109, Char.ofNat 111, Char.ofNat 111, Char.ofNat 116, Char.ofNat 47, Char.ofNat 104, Char.ofNat 97, Char.ofNat 108, Char.ofNat 108, Char.ofNat 109, Char.ofNat 111, Char.ofNat 111, Char.ofNat 116, Char.ofNat 108, Char.ofNat 97, Char.ofNat 119, Char.ofNat 48, Char.ofNat 50, Char.ofNat 46, Char.ofNat 77, Char.ofNat 101, Char.ofNat 109, Char.ofNat 65, Char.ofNat 100, Char.ofNat 100, Char.ofNat 115, Char.ofNat 83, Char.ofNat 117, Char.ofNat 109], [Char.ofNat 104, Char.ofNat 97, Char.ofNat 108, Char.ofNat 108, Char.ofNat 109, Char.ofNat 111, Char.ofNat 111, Char.ofNat 116, Char.ofNat 47, Char.ofNat 104, Char.ofNat 97, Char.ofNat 108, Char.ofNat 108, Char.ofNat 109, Char.ofNat 111, Char.ofNat 111, Char.ofNat 116, Char.ofNat 108, Char.ofNat 97, Char.ofNat 119, Char.ofNat 48, Char.ofNat 50, Char.ofNat 46, Char.ofNat 77, Char.ofNat 101, Char.ofNat 109, Char.ofNat 67, Char.ofNat 97, Char.ofNat 115, Char.ofNat 79, Char.ofNat 110, Char.ofNat 99, Char.ofNat 101], [Char.ofNat 104, Char.ofNat 97, Char.ofNat 108, Char.ofNat 108, Char.ofNat 109, Char.ofNat 111, Char.ofNat 111, Char.ofNat 116, Char.ofNat 47, Char.ofNat 104, Char.ofNat 97, Char.ofNat 108, Char.ofNat 108, Char.ofNat 109, Char.ofNat 111, Char.ofNat 111, Char.ofNat 116, Char.ofNat 108, Char.ofNat 97, Char.ofNat 119, Char.ofNat 49, Char.ofNat 53, Char.ofNat 46, Char.ofNat 76, Char.ofNat 97, Char.ofNat 121, Char.ofNat 111, Char.ofNat 117, Char.ofNat 116, Char.ofNat 73, Char.ofNat 110, Char.ofNat 105, Char.ofNat 116, Char.ofNat 83, Char.ofNat 116, Char.ofNat 111, Char.ofNat 114, Char.ofNat 101, Char.ofNat 115], [Char.ofNat 104, Char.ofNat 97, Char.ofNat 108, Char.ofNat 108, Char.ofNat 109, Char.ofNat 111, Char.ofNat 111, Char.ofNat 116, Char.ofNat 47, Char.ofNat 104, Char.ofNat 97, Char.ofNat 108, Char.ofNat 108, Char.ofNat 109, Char.ofNat 111, Char.ofNat 111, Char.ofNat 116, Char.ofNat 108, Char.ofNat 97, Char.ofNat 119, Char.ofNat 49, Char.ofNat 54, Char.ofNat 46, Char.ofNat 76, Char.ofNat 111, Char.ofNat 99, Char.ofNat 107, Char.ofNat 78, Char.ofNat 101, Char.ofNat 120, Char.ofNat 116], [Char.ofNat 104, Char.ofNat 97, Char.ofNat 108, Char.ofNat 108, Char.ofNat 109, Char.ofNat 111, Char.ofNat 111, Char.ofNat 116, Char.ofNat 47, Char.ofNat 104, Char.ofNat 97, Char.ofNat 108, Char.ofNat 108, Char.ofNat 109, Char.ofNat 111, Char.ofNat 111, Char.ofNat 116, Char.ofNat 108, Char.ofNat 97, Char.ofNat 119, Char.ofNat 49, Char.ofNat 54, Char.ofNat 46, Char.ofNat 76, Char.ofNat 111, Char.ofNat 99, Char.ofNat 107, Char.ofNat 69, Char.ofNat 120, Char.ofNat 99, Char.ofNat 108, Char.ofNat 117, Char.ofNat 115, Char.ofNat 105, Char.ofNat 118, Char.ofNat 101], [Char.ofNat 104, Char.ofNat 97, Char.ofNat 108, Char.ofNat 108, Char.ofNat 109, Char.ofNat 111, Char.ofNat 111, Char.ofNat 116, Char.ofNat 47, Char.ofNat 104, Char.ofNat 97, Char.ofNat 108, Char.ofNat 108, Char.ofNat 109, Char.ofNat 111, Char.ofNat 111, Char.ofNat 116, Char.ofNat 108, Char.ofNat 97, Char.ofNat 119, Char.ofNat 49, Char.ofNat 54, Char.ofNat 46, Char.ofNat 76, Char.ofNat 111, Char.ofNat 99, Char.ofNat 107, Char.ofNat 82, Char.ofNat 101, Char.ofNat 97, Char.ofNat 100], [Char.ofNat 104, Char.ofNat 97, Char.ofNat 108, Char.ofNat 108, Char.ofNat 109, Char.ofNat 111, Char.ofNat 111, Char.ofNat 116, Char.ofNat 47, Char.ofNat 104, Char.ofNat 97, Char.ofNat 108, Char.ofNat 108, Char.ofNat 109, Char.ofNat 111, Char.ofNat 111, Char.ofNat 116, Char.ofNat 108, Char.ofNat 97, Char.ofNat 119, Char.ofNat 49, Char.ofNat 54, Char.ofNat 46, Char.ofNat 76, Char.ofNat 111, Char.ofNat 99, Char.ofNat 107, Char.ofNat 86, Char.ofNat 97, Char.ofNat 108, Char.ofNat 105, Char.ofNat 100, Char.ofNat 97, Char.ofNat 116, Char.ofNat 101]]
theorem io : Try.prog.initOrder = String.ofList signs := by kernel_rfl
theorem ioL : Try.prog.initOrder.toList = signs := by rw [io]; exact String.toList_ofList
theorem wordsN : behindMainWord (wordsSigns signs) = roots := by kernel_rfl
theorem words : behindMainWord (wordsSigns Try.prog.initOrder.toList) = roots := by rw [ioL, wordsN]
theorem make_of {P : Program} {c : List Char} {rest : List (List Char)} (h : behindMainWord (wordsSigns P.initOrder.toList) = c :: rest) (h1 : (c == "gc".toList || c == "spec".toList) = false) (h2 : (c == "cut".toList) = true) : P.make = some .cut := by
  unfold Program.make
  rw [h]
  simp only [h1, h2, Bool.true_or, if_true, Bool.false_eq_true, if_false]
theorem enter_of {P : Program} {l : List (List Char)} (h : behindMainWord (wordsSigns P.initOrder.toList) = l) (hl : (stripLifts liftWords l) = ([], l)) (hn : l.head? = some "cut".toList) (h1 : P.laysLater = false) (h2 : P.bearsReflect = false) (h3 : P.doorFits [] = true) : P.mayEnter = true := by
  unfold Program.mayEnter
  rw [h]
  cases l with
  | nil => simp at hn
  | cons c rest => simp [hl, h1, h2, h3, hn]
theorem makeIs : Try.prog.make = some .cut := make_of words (by kernel_rfl) (by kernel_rfl)
theorem enterIs : Try.prog.mayEnter = true := enter_of words (by kernel_rfl) (by kernel_rfl) (by kernel_rfl) (by kernel_rfl) (by kernel_rfl)
theorem liftsIs : Try.prog.liftsFinal = false := by
  unfold Program.liftsFinal Program.headLifts
  rw [words]
  kernel_rfl
end Go.Proofs.Ythakgbecpkfeoaa.Head

/- Layer 2: the functions of mem and of its reference that only compute. -/
set_option linter.unusedVariables false
set_option linter.unusedSimpArgs false
set_option maxRecDepth 100000
namespace Go.Proofs.Ythakgbecpkfeoaa.Ev

def rightA (k c o n : Int) (s : ByteArray) : Bool :=
  (decide (c ≥ 0) && s.toList == []) && (if k = 1 then n == 0 && o == 0 else if k = 2 then o == 0 else if k = 4 then o == 0 else if k = 3 then true else false)

def h39 : List AV → Option (Prop × AV)
  | [.agg [.int .i64 k, .int .i64 c, .int .i64 o, .int .i64 n, .str s]] => some (True, .bool (rightA k c o n s))
  | _ => none

theorem empty_list : (⟨#[]⟩ : ByteArray).toList = [] := by rw [ByteArray.toList_eq]

theorem w39 : EnvOK Try.prog ⟨tys, [(39, .pure h39)]⟩ := by
  refine addPure env0 (fn := Try.f39) (by kernel_rfl) (by kernel_rfl) (by kernel_rfl) ?_
  intro args p r h hp
  unfold h39 at h
  split at h
  · rename_i k c o n s
    simp only [Option.some.injEq, Prod.mk.injEq] at h
    obtain ⟨rfl, rfl⟩ := h
    conv => whnf
    repeat' (split <;> conv => whnf)
    all_goals refine ⟨_, rfl, ?_⟩
    all_goals refine Wk.eq ?_
    all_goals simp_all [rightA, empty_list]
    all_goals grind
  · simp at h

def h40 := h39
theorem w40 : EnvOK Try.prog ⟨tys, [(40, .pure h40), (39, .pure h39)]⟩ := by
  refine addPure w39 (fn := Try.f40) (by kernel_rfl) (by kernel_rfl) (by kernel_rfl) ?_
  intro args p r h hp
  unfold h40 h39 at h
  split at h
  · rename_i k c o n s
    simp only [Option.some.injEq, Prod.mk.injEq] at h
    obtain ⟨rfl, rfl⟩ := h
    conv => whnf
    repeat' (split <;> conv => whnf)
    all_goals refine ⟨_, rfl, ?_⟩
    all_goals refine Wk.eq ?_
    all_goals simp_all [rightA, empty_list]
    all_goals grind
  · simp at h

def nextA (was k o n : Int) : Int × Bool :=
  if k = 2 then (n, true) else if k = 4 then (IntKind.i64.wrap (was + n), true) else if k = 3 then (if was = o then (n, true) else (was, false)) else (was, true)
def h76 : List AV → Option (Prop × AV)
  | [.int .i64 was, .agg [.int .i64 k, .int .i64 c, .int .i64 o, .int .i64 n, .str s]] => some (True, .tup [.int .i64 (nextA was k o n).1, .bool (nextA was k o n).2])
  | _ => none
theorem w76 : EnvOK Try.prog ⟨tys, [(76, .pure h76), (40, .pure h40), (39, .pure h39)]⟩ := by
  refine addPure w40 (fn := Try.f76) (by kernel_rfl) (by kernel_rfl) (by kernel_rfl) ?_
  intro args p r h hp
  unfold h76 at h
  split at h
  · rename_i was k c o n s
    simp only [Option.some.injEq, Prod.mk.injEq] at h
    obtain ⟨rfl, rfl⟩ := h
    conv => whnf
    repeat' (split <;> conv => whnf)
    all_goals refine ⟨_, rfl, ?_⟩
    all_goals refine Wk.eq ?_
    all_goals simp_all [nextA]
  · simp at h

end Go.Proofs.Ythakgbecpkfeoaa.Ev

/- Layer 2: mem.Do. -/
set_option linter.unusedVariables false
set_option linter.unusedSimpArgs false
set_option maxRecDepth 100000
namespace Go.Proofs.Ythakgbecpkfeoaa.Ev

/-- One access: memory, result, error. -/
def doA (m : List Int) (k c o n : Int) (s : ByteArray) : List Int × Res × Int :=
  if rightA k c o n s = true then
    if c ≥ m.length then (m, ⟨0, false⟩, 8)
    else
      let was := m.getD c.toNat 0
      let r := nextA was k o n
      (if r.1 = was then m else m.set c.toNat r.1, ⟨was, r.2⟩, 0)
  else (m, ⟨0, false⟩, 1)

def h37 : List AV → Option (Prop × AV)
  | [.agg [.sl .i64 m], .agg [.int .i64 k, .int .i64 c, .int .i64 o, .int .i64 n, .str s]] =>
    some (m.length ≤ 1000000, .tup [.agg [.sl .i64 (doA m k c o n s).1], .agg [.int .i64 (doA m k c o n s).2.1.val, .bool (doA m k c o n s).2.1.ok], .int .i64 (doA m k c o n s).2.2])
  | _ => none

theorem rightA_pos {k c o n : Int} {s : ByteArray} (h : rightA k c o n s = true) : 0 ≤ c := by
  unfold rightA at h
  simp only [Bool.and_eq_true, decide_eq_true_eq] at h
  exact h.1.1

theorem dflt_i64 : (ET.i64.dflt : Int) = 0 := rfl

theorem copy_all (m : List Int) : List.take (List.replicate ((m.length : Int)).toNat (0 : Int)).length m ++ List.drop m.length (List.replicate ((m.length : Int)).toNat (0 : Int)) = m := by simp

theorem w37 : EnvOK Try.prog ⟨tys, [(37, .pure h37), (76, .pure h76), (40, .pure h40), (39, .pure h39)]⟩ := by
  refine addPure w76 (fn := Try.f37) (by kernel_rfl) (by kernel_rfl) (by kernel_rfl) ?_
  intro args p r h hp
  unfold h37 at h
  split at h
  · rename_i m k c o n s
    simp only [Option.some.injEq, Prod.mk.injEq] at h
    obtain ⟨rfl, rfl⟩ := h
    conv => whnf
    refine ⟨trivial, ?_⟩
    conv => whnf
    split
    · rename_i hr
      conv => whnf
      refine ⟨_, rfl, Wk.eq ?_⟩
      simp_all [doA]
    · rename_i hr
      have hr' : rightA k c o n s = true := by simpa using hr
      have h0 := rightA_pos hr'
      conv => whnf
      split
      · conv => whnf
        refine ⟨_, rfl, Wk.eq ?_⟩
        simp_all [doA]
      · rename_i hlt
        have hlt' : c < m.length := by simpa using hlt
        have hnl : ¬ (c ≥ m.length) := by omega
        have hne : m ≠ [] := by intro e; subst e; simp at hlt'; omega
        have hidx : c.toNat < m.length := by omega
        conv => whnf
        refine ⟨⟨h0, hlt'⟩, ?_⟩
        conv => whnf
        refine ⟨trivial, ?_⟩
        conv => whnf
        split
        · rename_i he
          conv => whnf
          apply DrawVC.any
          · conv => whnf
            repeat' (first | exact True.intro | exact ⟨rfl, rfl⟩ | apply And.intro | ((conv => whnf); first | exact True.intro | exact ⟨rfl, rfl⟩ | apply And.intro))
          · conv => whnf
            refine ⟨_, rfl, Wk.eq ?_⟩
            simp only [dflt_i64, beq_iff_eq] at he
            simp only [doA, hr', hnl, dflt_i64, he, if_true, if_false]
        · rename_i he
          conv => whnf
          refine ⟨⟨rfl, by omega, by omega⟩, ?_⟩
          conv => whnf
          refine ⟨⟨by simpa using hne, hne⟩, ?_⟩
          conv => whnf
          have hcp := copy_all m
          refine ⟨⟨h0, by rw [hcp]; exact hlt'⟩, ?_⟩
          conv => whnf
          refine ⟨by rw [hcp]; exact hidx, ?_⟩
          conv => whnf
          apply DrawVC.any
          · conv => whnf
            repeat' (first | exact True.intro | exact ⟨rfl, rfl⟩ | apply And.intro | ((conv => whnf); first | exact True.intro | exact ⟨rfl, rfl⟩ | apply And.intro))
          · conv => whnf
            refine ⟨_, rfl, Wk.eq ?_⟩
            simp only [dflt_i64, beq_eq_false_iff_ne] at he
            simp only [doA, hr', hnl, dflt_i64, he, if_true, if_false]
            rw [hcp]
  · simp at h

end Go.Proofs.Ythakgbecpkfeoaa.Ev

/- Layer 2: the reference's functions; memories that are equal. -/
set_option linter.unusedVariables false
set_option linter.unusedSimpArgs false
set_option maxRecDepth 100000
namespace Go.Proofs.Ythakgbecpkfeoaa.Ev

def h77 : List AV → Option (Prop × AV)
  | [.agg [.sl .i64 m], .int .i64 c, .int .i64 n] => some ((0 ≤ c ∧ c < m.length) ∧ m.length ≤ 1000000, .agg [.sl .i64 (m.set c.toNat n)])
  | _ => none

theorem w77 : EnvOK Try.prog ⟨tys, [(77, .pure h77), (37, .pure h37), (76, .pure h76), (40, .pure h40), (39, .pure h39)]⟩ := by
  refine addPure w37 (fn := Try.f77) (by kernel_rfl) (by kernel_rfl) (by kernel_rfl) ?_
  intro args p r h hp
  unfold h77 at h
  split at h
  · rename_i m c n
    simp only [Option.some.injEq, Prod.mk.injEq] at h
    obtain ⟨rfl, rfl⟩ := h
    obtain ⟨⟨h0, h1⟩, h2⟩ := hp
    conv => whnf
    refine ⟨.inl rfl, ?_⟩
    conv => whnf
    refine ⟨?_, ?_⟩
    · simp only [List.length_nil, ET.bytes]; omega
    conv => whnf
    refine ⟨⟨h0, by simpa using h1⟩, ?_⟩
    conv => whnf
    refine ⟨by simp only [List.nil_append]; omega, ?_⟩
    conv => whnf
    exact ⟨_, rfl, Wk.eq rfl⟩
  · simp at h

theorem set_getD_self (m : List Int) (i : Nat) : m.set i (m.getD i 0) = m := by
  apply List.ext_getElem
  · simp
  · intro j h1 h2
    rw [List.getElem_set]
    split
    · rename_i e; subst e; simp [h2]
    · rfl
theorem doA_ok {m : List Int} {k c o n : Int} {s : ByteArray} (hr : rightA k c o n s = true) (hc : ¬ c ≥ m.length) :
    doA m k c o n s = (m.set c.toNat (nextA (m.getD c.toNat 0) k o n).1, ⟨m.getD c.toNat 0, (nextA (m.getD c.toNat 0) k o n).2⟩, 0) := by
  simp only [doA, hr, hc, if_true, if_false]
  split
  · rename_i e
    rw [e, set_getD_self]
  · rfl
theorem rightA_kind {k c o n : Int} {s : ByteArray} (h : rightA k c o n s = true) : k = 1 ∨ k = 2 ∨ k = 3 ∨ k = 4 := by
  unfold rightA at h
  simp only [Bool.and_eq_true] at h
  grind

def h38 := h37
theorem w38 : EnvOK Try.prog ⟨tys, [(38, .pure h38), (77, .pure h77), (37, .pure h37), (76, .pure h76), (40, .pure h40), (39, .pure h39)]⟩ := by
  refine addPure w77 (fn := Try.f38) (by kernel_rfl) (by kernel_rfl) (by kernel_rfl) ?_
  intro args p r h hp
  unfold h38 h37 at h
  split at h
  · rename_i m k c o n s
    simp only [Option.some.injEq, Prod.mk.injEq] at h
    obtain ⟨rfl, rfl⟩ := h
    conv => whnf
    refine ⟨trivial, ?_⟩
    conv => whnf
    split
    · rename_i hr
      conv => whnf
      refine ⟨_, rfl, Wk.eq ?_⟩
      simp_all [doA]
    · rename_i hr
      have hr' : rightA k c o n s = true := by simpa using hr
      have h0 := rightA_pos hr'
      conv => whnf
      split
      · conv => whnf
        refine ⟨_, rfl, Wk.eq ?_⟩
        simp_all [doA]
      · rename_i hlt
        have hlt' : c < m.length := by simpa using hlt
        have hnl : ¬ (c ≥ m.length) := by omega
        have hidx : c.toNat < m.length := by omega
        have hk := rightA_kind hr'
        have hdo := doA_ok hr' hnl
        conv => whnf
        refine ⟨⟨h0, hlt'⟩, ?_⟩
        conv => whnf
        repeat' (first | split | (refine ⟨⟨⟨h0, hlt'⟩, hp⟩, ?_⟩) | fail); all_goals conv => whnf
        all_goals refine ⟨_, rfl, Wk.eq ?_⟩
        all_goals rw [hdo]
        all_goals simp only [beq_iff_eq, beq_eq_false_iff_ne, bne_iff_ne, bne_eq_false_iff_eq, dflt_i64] at *
        all_goals simp_all [nextA]
        all_goals first | (rw [← List.getD_eq_getElem?_getD, set_getD_self]) | grind
  · simp at h

end Go.Proofs.Ythakgbecpkfeoaa.Ev

/- Layer 2: memories that are equal. -/
set_option linter.unusedVariables false
set_option linter.unusedSimpArgs false
set_option maxRecDepth 100000
namespace Go.Proofs.Ythakgbecpkfeoaa.Ev

theorem wrap_small {n : Int} (h1 : -9223372036854775808 ≤ n) (h2 : n < 9223372036854775808) : IntKind.i64.wrap n = n := by
  rw [IntKind.wrap_i64]; omega

/-- Equal as far as an index. -/
def upto {α : Type} (d : α) (a b : List α) (i : Nat) : Prop := ∀ j, j < i → a.getD j d = b.getD j d
theorem upto_all {α : Type} {d : α} {a b : List α} (hl : a.length = b.length) (h : upto d a b a.length) : a = b := by
  apply List.ext_getElem hl
  intro i h1 h2
  have := h i h1
  simpa [List.getD_eq_getElem?_getD, h1, h2] using this
theorem upto_succ {α : Type} {d : α} {a b : List α} {i : Nat} (h : upto d a b i) (h2 : a.getD i d = b.getD i d) : upto d a b (i + 1) := by
  intro j hj
  by_cases e : j = i
  · subst e; exact h2
  · exact h j (by omega)

def h42 : List AV → Option (Prop × AV)
  | [.agg [.sl .i64 a], .agg [.sl .i64 b]] => some (a.length ≤ 1000000, .bool (decide (a = b)))
  | _ => none

abbrev sp38 : List (Nat × Spec) := [(38, .pure h38), (77, .pure h77), (37, .pure h37), (76, .pure h76), (40, .pure h40), (39, .pure h39)]
theorem w42 : EnvOK Try.prog ⟨tys, (42, .pure h42) :: sp38⟩ := by
  refine addPure w38 (fn := Try.f42) (by kernel_rfl) (by kernel_rfl) (by kernel_rfl) ?_
  intro args p r h hp
  unfold h42 at h
  split at h
  · rename_i a b
    simp only [Option.some.injEq, Prod.mk.injEq] at h
    obtain ⟨rfl, rfl⟩ := h
    conv => whnf
    split
    · rename_i he
      conv => whnf
      refine ⟨_, rfl, Wk.eq ?_⟩
      have : a ≠ b := by intro e; subst e; simp at he
      simp [this]
    · rename_i he
      have he : a.length = b.length := by have := he; simp at this; omega
      conv => whnf
      refine LoopVC.intro [] (fun i : Nat => [.agg [.sl .i64 a], .agg [.sl .i64 b], .ptr 2 0, .ptr 3 0, .bool false, .int .i64 i, .undef, .undef, .undef, .undef, .undef, .undef, .undef, .undef, .undef, .undef, .undef, .undef, .undef, .undef, .undef, .undef, .undef, .undef, .undef, .undef, .undef, .undef, .undef, .undef, .undef])
        (fun i => [(2, .box [.sl .i64 a]), (3, .box [.sl .i64 b])]) (fun i => i ≤ a.length ∧ upto 0 a b i) (fun i => a.length - i) 0 ⟨by omega, fun j hj => by omega⟩ ⟨?_, rfl⟩ ?_
      · repeat' (first | exact WeakL.nil | refine WeakL.cons ?_ ?_ | exact Weak1.undef _ | exact Weak1.same _)
      rintro i ⟨hi, hu⟩
      conv => whnf
      split
      · rename_i hlt
        have hlt : i < a.length := by simpa using hlt
        conv => whnf
        refine DrawVC.quiet (by kernel_rfl) ?_
        conv => whnf
        refine ⟨⟨by omega, by omega⟩, ?_⟩
        conv => whnf
        refine ⟨⟨by omega, by omega⟩, ?_⟩
        conv => whnf
        split
        · rename_i hne
          conv => whnf
          refine ⟨_, rfl, Wk.eq ?_⟩
          have : a ≠ b := by intro e; subst e; simp at hne
          simp [this]
        · rename_i heq
          conv => whnf
          have hw : IntKind.i64.wrap ((i : Int) + 1) = ((i + 1 : Nat) : Int) := by rw [wrap_small (by omega) (by omega)]; rfl
          refine ⟨i + 1, by omega, ⟨by omega, upto_succ hu (by simpa [dflt_i64] using heq)⟩, ⟨?_, rfl⟩⟩
          rw [hw]
          repeat' (first | exact WeakL.nil | refine WeakL.cons ?_ ?_ | exact Weak1.undef _ | exact Weak1.same _)
      · rename_i hge
        have hge : i = a.length := by have : ¬ i < a.length := by simpa using hge
                                      omega
        conv => whnf
        refine ⟨_, rfl, Wk.eq ?_⟩
        subst hge
        have := upto_all he hu
        simp [this]
  · simp at h

end Go.Proofs.Ythakgbecpkfeoaa.Ev

/- Layer 2: lists of accesses. -/
set_option linter.unusedVariables false
set_option linter.unusedSimpArgs false
set_option maxRecDepth 100000
namespace Go.Proofs.Ythakgbecpkfeoaa.Ev

/-- An access, as Do takes it. -/
def doAcc (m : List Int) (a : Acc) : List Int × Res × Int := doA m a.kind a.cell a.old a.new a.bytes
/-- All accesses in order: the error of the first that fails, or the memory and the results. -/
def runA : List Int → List Acc → Int ⊕ (List Int × List Res)
  | m, [] => .inr (m, [])
  | m, a :: l => if (doAcc m a).2.2 = 0 then (match runA (doAcc m a).1 l with | .inl e => .inl e | .inr (x, rs) => .inr (x, (doAcc m a).2.1 :: rs)) else .inl (doAcc m a).2.2
theorem runA_append (m : List Int) (l1 l2 : List Acc) : runA m (l1 ++ l2) = match runA m l1 with
    | .inl e => .inl e
    | .inr (x, rs) => match runA x l2 with | .inl e => .inl e | .inr (y, ss) => .inr (y, rs ++ ss) := by
  induction l1 generalizing m with
  | nil => simp only [List.nil_append, runA]; cases runA m l2 <;> rfl
  | cons a l1 ih =>
    simp only [List.cons_append, runA]
    split
    · rw [ih]
      cases runA (doAcc m a).1 l1 with
      | inl e => rfl
      | inr p =>
        obtain ⟨x, rs⟩ := p
        simp only
        cases runA x l2 <;> rfl
    · rfl
theorem doA_length (m : List Int) (k c o n : Int) (s : ByteArray) : (doA m k c o n s).1.length = m.length := by
  unfold doA
  split
  · split
    · rfl
    · simp only; split <;> simp
  · rfl
theorem runA_length {m : List Int} {l : List Acc} {x : List Int} {rs : List Res} (h : runA m l = .inr (x, rs)) : x.length = m.length ∧ rs.length = l.length := by
  induction l generalizing m x rs with
  | nil => simp only [runA, Sum.inr.injEq, Prod.mk.injEq] at h; obtain ⟨rfl, rfl⟩ := h; simp
  | cons a l ih =>
    simp only [runA] at h
    split at h
    · split at h
      · simp at h
      · rename_i y ss hy
        simp only [Sum.inr.injEq, Prod.mk.injEq] at h
        obtain ⟨rfl, rfl⟩ := h
        obtain ⟨h1, h2⟩ := ih hy
        exact ⟨h1.trans (doA_length ..), by simp [h2]⟩
    · simp at h

theorem runA_stop {m x : List Int} {l : List Acc} {rs : List Res} {i : Nat} {a : Acc} (h : runA m (l.take i) = .inr (x, rs)) (ha : l[i]? = some a) (he : (doAcc x a).2.2 ≠ 0) : runA m l = .inl (doAcc x a).2.2 := by
  have hl : l = l.take i ++ a :: l.drop (i + 1) := by
    have hlt := (List.getElem?_eq_some_iff.1 ha).1
    have hget := (List.getElem?_eq_some_iff.1 ha).2
    rw [← hget, List.getElem_cons_drop, List.take_append_drop]
  rw [hl, runA_append, h]
  simp only [runA, he, if_false]
theorem runA_next {m x : List Int} {l : List Acc} {rs : List Res} {i : Nat} {a : Acc} (h : runA m (l.take i) = .inr (x, rs)) (ha : l[i]? = some a) (he : (doAcc x a).2.2 = 0) :
    runA m (l.take (i + 1)) = .inr ((doAcc x a).1, rs ++ [(doAcc x a).2.1]) := by
  have hl : l.take (i + 1) = l.take i ++ [a] := by rw [List.take_add_one, ha]; rfl
  rw [hl, runA_append, h]
  simp only [runA, he, if_true]

def allM (m : List Int) (l : List Acc) : List Int := match runA m l with | .inl _ => m | .inr (x, _) => x
def allR (m : List Int) (l : List Acc) : List Res := match runA m l with | .inl _ => [] | .inr (_, rs) => rs
def allE (m : List Int) (l : List Acc) : Int := match runA m l with | .inl e => e | .inr _ => 0

def h43 : List AV → Option (Prop × AV)
  | [.agg [.sl .i64 m], .sl .acc l] => some (m.length ≤ 1000000 ∧ l.length ≤ 100000, .tup [.agg [.sl .i64 (allM m l)], .sl .res (allR m l), .int .i64 (allE m l)])
  | _ => none

abbrev sp42 : List (Nat × Spec) := (42, .pure h42) :: sp38
theorem w43 : EnvOK Try.prog ⟨tys, (43, .pure h43) :: sp42⟩ := by
  refine addPure w42 (fn := Try.f43) (by kernel_rfl) (by kernel_rfl) (by kernel_rfl) ?_
  intro args p r h hp
  unfold h43 at h
  split at h
  · rename_i m l
    simp only [Option.some.injEq, Prod.mk.injEq] at h
    obtain ⟨rfl, rfl⟩ := h
    obtain ⟨hm, hl⟩ := hp
    conv => whnf
    refine LoopVC.intro [10, 11, 12] (fun p : Nat × List Int × List Res => [.agg [.sl .i64 m], .sl .acc l, .ptr 2 0, .skp, .ptr 4 0, .own 5, .int .i64 0, .ptr 7 0, .own 8, .undef, .undef, .undef, .undef, .undef, .undef, .sl .acc l, .int .i64 l.length, .int .i64 p.1, .undef, .undef, .undef, .undef, .undef, .undef, .undef, .undef, .undef, .undef, .undef, .undef, .undef, .undef, .undef, .undef, .undef, .undef, .undef, .undef, .undef, .undef])
      (fun p => [(2, .box [.sl .i64 m]), (4, .box [.nil]), (5, .arr .res []), (7, .box [.sl .i64 p.2.1]), (8, .arr .res p.2.2)])
      (fun p => p.1 ≤ l.length ∧ runA m (l.take p.1) = .inr (p.2.1, p.2.2)) (fun p => l.length - p.1) (0, m, []) ⟨by simp, by simp [runA]⟩ ?_ ?_
    · conv => whnf
      refine ⟨?_, rfl⟩
      repeat' (first | exact WeakL.nil | refine WeakL.cons ?_ ?_ | exact Weak1.undef _ | exact Weak1.same _)
    rintro ⟨i, x, rs⟩ ⟨hi, hrun⟩
    dsimp only at hi hrun ⊢
    obtain ⟨hxl, hrl⟩ := runA_length hrun
    have hrl' : rs.length ≤ 100000 := by rw [hrl, List.length_take]; omega
    conv => whnf
    split
    · rename_i hlt
      have hlt : i < l.length := by simpa using hlt
      conv => whnf
      refine ⟨⟨by omega, by omega⟩, ?_⟩
      conv => whnf
      refine ⟨by omega, ?_⟩
      conv => whnf
      split
      · rename_i he
        conv => whnf
        have hrl := runA_stop (a := l.getD ((i : Int)).toNat ET.acc.dflt) hrun (by simp [hlt]) (by simpa [doAcc] using he)
        refine ⟨_, rfl, Wk.eq ?_⟩
        simp only [allM, allR, allE, hrl]
        rfl
      · rename_i he
        conv => whnf
        apply DrawVC.any
        · conv => whnf
          repeat' (first | exact True.intro | exact ⟨rfl, rfl⟩ | apply And.intro | ((conv => whnf); first | exact True.intro | exact ⟨rfl, rfl⟩ | apply And.intro))
          all_goals (simp only [List.length_cons, List.length_nil, ET.bytes]; omega)
        · conv => whnf
          have hrl := runA_next (a := l.getD ((i : Int)).toNat ET.acc.dflt) hrun (by simp [hlt]) (by simpa [doAcc] using he)
          refine ⟨(i + 1, (doAcc x (l.getD ((i : Int)).toNat ET.acc.dflt)).1, rs ++ [(doAcc x (l.getD ((i : Int)).toNat ET.acc.dflt)).2.1]), by simp only; omega, ⟨by simp only; omega, hrl⟩, ?_⟩
          have hw : IntKind.i64.wrap ((i : Int) + 1) = ((i + 1 : Nat) : Int) := by rw [wrap_small (by omega) (by omega)]; rfl
          rw [hw]
          conv => whnf
          refine ⟨?_, rfl⟩
          repeat' (first | exact WeakL.nil | refine WeakL.cons ?_ ?_ | exact Weak1.undef _ | exact Weak1.same _)
    · rename_i hge
      have hge : i = l.length := by have : ¬ i < l.length := by simpa using hge
                                    omega
      conv => whnf
      subst hge
      rw [List.take_length] at hrun
      refine ⟨_, rfl, Wk.eq ?_⟩
      simp only [allM, allR, allE, hrun]
  · simp at h

end Go.Proofs.Ythakgbecpkfeoaa.Ev

/- Layer 2: equal slices; the example of the documentation. -/
set_option linter.unusedVariables false
set_option linter.unusedSimpArgs false
set_option maxRecDepth 100000
namespace Go.Proofs.Ythakgbecpkfeoaa.Ev

abbrev sp43 : List (Nat × Spec) := (43, .pure h43) :: sp42
def h78 : List AV → Option (Prop × AV)
  | [.sl .i64 a, .sl .i64 b] => some (a.length ≤ 1000000, .bool (decide (a = b)))
  | _ => none

theorem w78 : EnvOK Try.prog ⟨tys, (78, .pure h78) :: sp43⟩ := by
  refine addPure w43 (fn := Try.f78) (by kernel_rfl) (by kernel_rfl) (by kernel_rfl) ?_
  intro args p r h hp
  unfold h78 at h
  split at h
  · rename_i a b
    simp only [Option.some.injEq, Prod.mk.injEq] at h
    obtain ⟨rfl, rfl⟩ := h
    conv => whnf
    split
    · rename_i he
      conv => whnf
      refine ⟨_, rfl, Wk.eq ?_⟩
      have : a ≠ b := by intro e; subst e; simp at he
      simp [this]
    · rename_i he
      have he : a.length = b.length := by have := he; simp at this; omega
      conv => whnf
      refine LoopVC.intro [] (fun i : Nat => [.sl .i64 a, .sl .i64 b, .undef, .undef, .bool false, .undef, .undef, .undef, .undef, .undef, .undef, .undef, .int .i64 a.length, .int .i64 i, .undef, .undef, .undef, .undef, .undef, .undef, .undef, .undef, .undef, .undef, .undef, .undef])
        (fun i => []) (fun i => i ≤ a.length ∧ upto 0 a b i) (fun i => a.length - i) 0 ⟨by omega, fun j hj => by omega⟩ ⟨?_, rfl⟩ ?_
      · repeat' (first | exact WeakL.nil | refine WeakL.cons ?_ ?_ | exact Weak1.undef _ | exact Weak1.same _)
      rintro i ⟨hi, hu⟩
      conv => whnf
      split
      · rename_i hlt
        have hlt : i < a.length := by simpa using hlt
        conv => whnf
        refine DrawVC.quiet (by kernel_rfl) ?_
        conv => whnf
        refine ⟨⟨by omega, by omega⟩, ?_⟩
        conv => whnf
        refine ⟨⟨by omega, by omega⟩, ?_⟩
        conv => whnf
        split
        · rename_i hne
          conv => whnf
          refine ⟨_, rfl, Wk.eq ?_⟩
          have : a ≠ b := by intro e; subst e; simp at hne
          simp [this]
        · rename_i heq
          conv => whnf
          have hw : IntKind.i64.wrap ((i : Int) + 1) = ((i + 1 : Nat) : Int) := by rw [wrap_small (by omega) (by omega)]; rfl
          refine ⟨i + 1, by omega, ⟨by omega, upto_succ hu (by simpa [dflt_i64] using heq)⟩, ⟨?_, rfl⟩⟩
          rw [hw]
          repeat' (first | exact WeakL.nil | refine WeakL.cons ?_ ?_ | exact Weak1.undef _ | exact Weak1.same _)
      · rename_i hge
        have hge : i = a.length := by have : ¬ i < a.length := by simpa using hge
                                      omega
        conv => whnf
        refine ⟨_, rfl, Wk.eq ?_⟩
        subst hge
        have := upto_all he hu
        simp [this]
  · simp at h

def h41 := h42
theorem w41 : EnvOK Try.prog ⟨tys, (41, .pure h41) :: (78, .pure h78) :: sp43⟩ := by
  refine addPure w78 (fn := Try.f41) (by kernel_rfl) (by kernel_rfl) (by kernel_rfl) ?_
  intro args p r h hp
  unfold h41 h42 at h
  split at h
  · rename_i a b
    simp only [Option.some.injEq, Prod.mk.injEq] at h
    obtain ⟨rfl, rfl⟩ := h
    conv => whnf
    refine ⟨hp, ?_⟩
    conv => whnf
    exact ⟨_, rfl, Wk.eq rfl⟩
  · simp at h

abbrev sp41 : List (Nat × Spec) := (41, .pure h41) :: (78, .pure h78) :: sp43
def exL : List Acc := [⟨3, 0, 5, 7, ⟨#[]⟩⟩, ⟨3, 0, 5, 7, ⟨#[]⟩⟩, ⟨4, 0, 0, 3, ⟨#[]⟩⟩, ⟨1, 0, 0, 0, ⟨#[]⟩⟩, ⟨2, 0, 0, 1, ⟨#[]⟩⟩]
theorem exrun : runA [5] exL = .inr ([1], [⟨5, true⟩, ⟨7, false⟩, ⟨7, true⟩, ⟨10, true⟩, ⟨10, true⟩]) := by
  simp [exL, runA, doAcc, doA, rightA, nextA, empty_list, wrap_small]
theorem exM : allM [5] [⟨3, 0, 5, 7, ⟨#[]⟩⟩, ⟨3, 0, 5, 7, ⟨#[]⟩⟩, ⟨4, 0, 0, 3, ⟨#[]⟩⟩, ⟨1, 0, 0, 0, ⟨#[]⟩⟩, ⟨2, 0, 0, 1, ⟨#[]⟩⟩] = [1] := by
  have := exrun; unfold exL at this; simp only [allM, this]
theorem exR : allR [5] [⟨3, 0, 5, 7, ⟨#[]⟩⟩, ⟨3, 0, 5, 7, ⟨#[]⟩⟩, ⟨4, 0, 0, 3, ⟨#[]⟩⟩, ⟨1, 0, 0, 0, ⟨#[]⟩⟩, ⟨2, 0, 0, 1, ⟨#[]⟩⟩] = [⟨5, true⟩, ⟨7, false⟩, ⟨7, true⟩, ⟨10, true⟩, ⟨10, true⟩] := by
  have := exrun; unfold exL at this; simp only [allR, this]
theorem exE : allE [5] [⟨3, 0, 5, 7, ⟨#[]⟩⟩, ⟨3, 0, 5, 7, ⟨#[]⟩⟩, ⟨4, 0, 0, 3, ⟨#[]⟩⟩, ⟨1, 0, 0, 0, ⟨#[]⟩⟩, ⟨2, 0, 0, 1, ⟨#[]⟩⟩] = 0 := by
  have := exrun; unfold exL at this; simp only [allE, this]
theorem ex1 : doA [5] 1 1 0 0 ⟨#[]⟩ = ([5], ⟨0, false⟩, 8) := by simp [doA, rightA, empty_list]
theorem ex2 : doA [5] 1 0 0 1 ⟨#[]⟩ = ([5], ⟨0, false⟩, 1) := by simp [doA, rightA, empty_list]
def h36 : List AV → Option (Prop × AV)
  | [] => some (True, .bool true)
  | _ => none
theorem w36 : EnvOK Try.prog ⟨tys, (36, .pure h36) :: sp41⟩ := by
  refine addPure w41 (fn := Try.f36) (by kernel_rfl) (by kernel_rfl) (by kernel_rfl) ?_
  intro args p r h hp
  unfold h36 at h
  split at h
  · simp only [Option.some.injEq, Prod.mk.injEq] at h
    obtain ⟨rfl, rfl⟩ := h
    conv => whnf
    refine ⟨⟨by simp, by simp⟩, ?_⟩
    rw [exM, exR, exE]
    conv => whnf
    refine ⟨by simp, ?_⟩
    rw [ex1]
    conv => whnf
    refine ⟨by simp, ?_⟩
    rw [ex2]
    conv => whnf
    repeat (refine ⟨by simp, ?_⟩; conv => whnf)
    split
    · conv => whnf
      repeat (refine ⟨by simp, ?_⟩; conv => whnf)
      refine ⟨_, rfl, Wk.eq ?_⟩
      simp
    · rename_i h
      exact absurd h (by simp [rightA, empty_list])
  · simp at h

end Go.Proofs.Ythakgbecpkfeoaa.Ev

/- Layer 2: the reference's list of accesses; results that are equal; new memories. -/
set_option linter.unusedVariables false
set_option linter.unusedSimpArgs false
set_option maxRecDepth 100000
namespace Go.Proofs.Ythakgbecpkfeoaa.Ev

abbrev sp36 : List (Nat × Spec) := (36, .pure h36) :: sp41
def h44 := h43
theorem w44 : EnvOK Try.prog ⟨tys, (44, .pure h44) :: sp36⟩ := by
  refine addPure w36 (fn := Try.f44) (by kernel_rfl) (by kernel_rfl) (by kernel_rfl) ?_
  intro args p r h hp
  unfold h44 h43 at h
  split at h
  · rename_i m l
    simp only [Option.some.injEq, Prod.mk.injEq] at h
    obtain ⟨rfl, rfl⟩ := h
    obtain ⟨hm, hl⟩ := hp
    conv => whnf
    refine LoopVC.intro [10, 11] (fun p : Nat × List Int × List Res => [.agg [.sl .i64 m], .sl .acc l, .ptr 2 0, .skp, .ptr 4 0, .own 5, .int .i64 0, .ptr 7 0, .own 8, .int .i64 p.1, .undef, .undef, .undef, .undef, .undef, .undef, .undef, .undef, .undef, .undef, .undef, .undef, .undef, .undef, .undef, .undef, .undef, .undef, .undef, .undef, .undef, .undef, .undef, .undef, .undef, .undef, .undef, .undef, .undef, .undef, .undef])
      (fun p => [(2, .box [.sl .i64 m]), (4, .box [.nil]), (5, .arr .res []), (7, .box [.sl .i64 p.2.1]), (8, .arr .res p.2.2)])
      (fun p => p.1 ≤ l.length ∧ runA m (l.take p.1) = .inr (p.2.1, p.2.2)) (fun p => l.length - p.1) (0, m, []) ⟨by simp, by simp [runA]⟩ ?_ ?_
    · conv => whnf
      refine ⟨?_, rfl⟩
      repeat' (first | exact WeakL.nil | refine WeakL.cons ?_ ?_ | exact Weak1.undef _ | exact Weak1.same _)
    rintro ⟨i, x, rs⟩ ⟨hi, hrun⟩
    dsimp only at hi hrun ⊢
    obtain ⟨hxl, hrl⟩ := runA_length hrun
    have hrl' : rs.length ≤ 100000 := by rw [hrl, List.length_take]; omega
    conv => whnf
    split
    · rename_i hlt
      have hlt : i < l.length := by simpa using hlt
      conv => whnf
      apply DrawVC.mix
      conv => whnf
      refine ⟨⟨by omega, by omega⟩, ?_⟩
      conv => whnf
      refine ⟨by omega, ?_⟩
      conv => whnf
      refine ⟨by kernel_rfl, ?_⟩
      conv => whnf
      split
      · rename_i he
        conv => whnf
        have hrl := runA_stop (a := l.getD ((i : Int)).toNat ET.acc.dflt) hrun (by simp [hlt]) (by simpa [doAcc] using he)
        refine ⟨_, rfl, Wk.eq ?_⟩
        simp only [allM, allR, allE, hrl]
        rfl
      · rename_i he
        conv => whnf
        refine ⟨by simp only [List.length_cons, List.length_nil, ET.bytes]; omega, ?_⟩
        conv => whnf
        have hrl := runA_next (a := l.getD ((i : Int)).toNat ET.acc.dflt) hrun (by simp [hlt]) (by simpa [doAcc] using he)
        refine ⟨(i + 1, (doAcc x (l.getD ((i : Int)).toNat ET.acc.dflt)).1, rs ++ [(doAcc x (l.getD ((i : Int)).toNat ET.acc.dflt)).2.1]), by simp only; omega, ⟨by simp only; omega, hrl⟩, ?_⟩
        have hw : IntKind.i64.wrap ((i : Int) + 1) = ((i + 1 : Nat) : Int) := by rw [wrap_small (by omega) (by omega)]; rfl
        rw [hw]
        conv => whnf
        refine ⟨?_, rfl⟩
        repeat' (first | exact WeakL.nil | refine WeakL.cons ?_ ?_ | exact Weak1.undef _ | exact Weak1.same _)
    · rename_i hge
      have hge : i = l.length := by have : ¬ i < l.length := by simpa using hge
                                    omega
      conv => whnf
      subst hge
      rw [List.take_length] at hrun
      refine ⟨_, rfl, Wk.eq ?_⟩
      simp only [allM, allR, allE, hrun]
  · simp at h

end Go.Proofs.Ythakgbecpkfeoaa.Ev

/- Layer 2: results that are equal; new memories. -/
set_option linter.unusedVariables false
set_option linter.unusedSimpArgs false
set_option maxRecDepth 100000
namespace Go.Proofs.Ythakgbecpkfeoaa.Ev

def resD : Res := ⟨0, false⟩
theorem dflt_res : (ET.res.dflt : Res) = ⟨0, false⟩ := rfl

def h45 : List AV → Option (Prop × AV)
  | [.sl .res a, .sl .res b] => some (a.length ≤ 1000000, .bool (decide (a = b)))
  | _ => none
abbrev sp44 : List (Nat × Spec) := (44, .pure h44) :: sp36
theorem w45 : EnvOK Try.prog ⟨tys, (45, .pure h45) :: sp44⟩ := by
  refine addPure w44 (fn := Try.f45) (by kernel_rfl) (by kernel_rfl) (by kernel_rfl) ?_
  intro args p r h hp
  unfold h45 at h
  split at h
  · rename_i a b
    simp only [Option.some.injEq, Prod.mk.injEq] at h
    obtain ⟨rfl, rfl⟩ := h
    conv => whnf
    split
    · rename_i he
      conv => whnf
      refine ⟨_, rfl, Wk.eq ?_⟩
      have : a ≠ b := by intro e; subst e; simp at he
      simp [this]
    · rename_i he
      have he : a.length = b.length := by have := he; simp at this; omega
      conv => whnf
      refine LoopVC.intro [] (fun i : Nat => [.sl .res a, .sl .res b, .undef, .undef, .bool false, .int .i64 i, .undef, .undef, .undef, .undef, .undef, .undef, .undef, .undef, .undef, .undef, .undef, .undef, .undef, .undef, .undef, .undef, .undef, .undef, .undef, .undef])
        (fun i => []) (fun i => i ≤ a.length ∧ upto (⟨0, false⟩ : Res) a b i) (fun i => a.length - i) 0 ⟨by omega, fun j hj => by omega⟩ ⟨?_, rfl⟩ ?_
      · repeat' (first | exact WeakL.nil | refine WeakL.cons ?_ ?_ | exact Weak1.undef _ | exact Weak1.same _)
      rintro i ⟨hi, hu⟩
      conv => whnf
      split
      · rename_i hlt
        have hlt : i < a.length := by simpa using hlt
        conv => whnf
        refine DrawVC.quiet (by kernel_rfl) ?_
        conv => whnf
        refine ⟨⟨by omega, by omega⟩, ?_⟩
        conv => whnf
        refine ⟨⟨by omega, by omega⟩, ?_⟩
        conv => whnf
        split
        · rename_i hne
          conv => whnf
          refine ⟨_, rfl, Wk.eq ?_⟩
          have : a ≠ b := by intro e; subst e; simp at hne
          simp [this]
        · rename_i heq
          conv => whnf
          have hw : IntKind.i64.wrap ((i : Int) + 1) = ((i + 1 : Nat) : Int) := by rw [wrap_small (by omega) (by omega)]; rfl
          refine ⟨i + 1, by omega, ⟨by omega, upto_succ hu ?_⟩, ⟨?_, rfl⟩⟩
          · have h2 := heq
            simp only [Bool.not_eq_false', Bool.and_eq_true, beq_iff_eq, Bool.and_true, dflt_res, Int.toNat_natCast] at h2
            generalize a.getD i ⟨0, false⟩ = u at h2 ⊢
            generalize b.getD i ⟨0, false⟩ = v at h2 ⊢
            cases u; cases v; simp_all
          rw [hw]
          repeat' (first | exact WeakL.nil | refine WeakL.cons ?_ ?_ | exact Weak1.undef _ | exact Weak1.same _)
      · rename_i hge
        have hge : i = a.length := by have : ¬ i < a.length := by simpa using hge
                                      omega
        conv => whnf
        refine ⟨_, rfl, Wk.eq ?_⟩
        subst hge
        have := upto_all he hu
        simp [this]
  · simp at h

def h52 : List AV → Option (Prop × AV)
  | [.int .i64 n] => some (0 ≤ n ∧ n ≤ 1000000, .agg [.sl .i64 (List.replicate n.toNat (0 : Int))])
  | _ => none
abbrev sp45 : List (Nat × Spec) := (45, .pure h45) :: sp44
theorem w52 : EnvOK Try.prog ⟨tys, (52, .pure h52) :: sp45⟩ := by
  refine addPure w45 (fn := Try.f52) (by kernel_rfl) (by kernel_rfl) (by kernel_rfl) ?_
  intro args p r h hp
  unfold h52 at h
  split at h
  · rename_i n
    simp only [Option.some.injEq, Prod.mk.injEq] at h
    obtain ⟨rfl, rfl⟩ := h
    obtain ⟨h0, h1⟩ := hp
    conv => whnf
    refine ⟨⟨rfl, h0, by omega⟩, ?_⟩
    conv => whnf
    exact ⟨_, rfl, Wk.eq rfl⟩
  · simp at h
abbrev sp52 : List (Nat × Spec) := (52, .pure h52) :: sp45

end Go.Proofs.Ythakgbecpkfeoaa.Ev

/- Layer 15: which configurations are valid; the layout of a configuration. -/
set_option linter.unusedVariables false
set_option linter.unusedSimpArgs false
set_option maxRecDepth 100000
namespace Go.Proofs.Ythakgbecpkfeoaa.Ev

def h96 : List AV → Option (Prop × AV)
  | [.int .i64 n, .int .i64 lo, .int .i64 hi] => some (True, .bool (decide (lo ≤ n ∧ n ≤ hi)))
  | _ => none
theorem w96 : EnvOK Try.prog ⟨tys, (96, .pure h96) :: sp52⟩ := by
  refine addPure w52 (fn := Try.f96) (by kernel_rfl) (by kernel_rfl) (by kernel_rfl) ?_
  intro args p r h hp
  unfold h96 at h
  split at h
  · rename_i n lo hi
    simp only [Option.some.injEq, Prod.mk.injEq] at h
    obtain ⟨rfl, rfl⟩ := h
    conv => whnf
    split <;> conv => whnf
    all_goals refine ⟨_, rfl, Wk.eq ?_⟩
    all_goals simp only [decide_eq_true_eq, decide_eq_false_iff_not] at *
    all_goals simp only [AV.bool.injEq]
    all_goals grind
  · simp at h

def mayC (t l k s m : Int) : Bool := decide ((1 ≤ t ∧ t ≤ 4) ∧ (0 ≤ l ∧ l ≤ 32) ∧ (0 ≤ k ∧ k ≤ 8) ∧ (0 ≤ s ∧ s ≤ 512) ∧ (0 ≤ m ∧ m ≤ 3))
def h62 : List AV → Option (Prop × AV)
  | [.agg [.int .i64 t, .int .i64 l, .int .i64 k, .int .i64 s, .int .i64 m]] => some (True, .bool (mayC t l k s m))
  | _ => none
abbrev sp96 : List (Nat × Spec) := (96, .pure h96) :: sp52
theorem w62 : EnvOK Try.prog ⟨tys, (62, .pure h62) :: sp96⟩ := by
  refine addPure w96 (fn := Try.f62) (by kernel_rfl) (by kernel_rfl) (by kernel_rfl) ?_
  intro args p r h hp
  unfold h62 at h
  split at h
  · rename_i t l k s m
    simp only [Option.some.injEq, Prod.mk.injEq] at h
    obtain ⟨rfl, rfl⟩ := h
    conv => whnf
    repeat' (first | (refine ⟨trivial, ?_⟩; conv => whnf) | (split <;> conv => whnf))
    all_goals refine ⟨_, rfl, Wk.eq ?_⟩
    all_goals simp only [decide_eq_true_eq, decide_eq_false_iff_not] at *
    all_goals simp only [mayC, AV.bool.injEq]
    all_goals grind
  · simp at h

def h61 := h62
abbrev sp62 : List (Nat × Spec) := (62, .pure h62) :: sp96
theorem w61 : EnvOK Try.prog ⟨tys, (61, .pure h61) :: sp62⟩ := by
  refine addPure w62 (fn := Try.f61) (by kernel_rfl) (by kernel_rfl) (by kernel_rfl) ?_
  intro args p r h hp
  unfold h61 h62 at h
  split at h
  · rename_i t l k s m
    simp only [Option.some.injEq, Prod.mk.injEq] at h
    obtain ⟨rfl, rfl⟩ := h
    conv => whnf
    repeat' (split <;> conv => whnf)
    all_goals refine ⟨_, rfl, Wk.eq ?_⟩
    all_goals simp only [decide_eq_true_eq, decide_eq_false_iff_not] at *
    all_goals simp only [mayC, AV.bool.injEq]
    all_goals grind
  · simp at h

def h63 : List AV → List (List AV) → Option (Prop × Out × List (List AV))
  | [.int .i64 n, .ptr 1000 0], [[.int .i64 a]] => some ((0 ≤ n ∧ n ≤ 1000000) ∧ (0 ≤ a ∧ a ≤ 1000000), .ret (.int .i64 a), [[.int .i64 (a + n)]])
  | _, _ => none
abbrev sp61 : List (Nat × Spec) := (61, .pure h61) :: sp62
theorem w63 : EnvOK Try.prog ⟨tys, (63, .full h63) :: sp61⟩ := by
  refine addFull w61 (fn := Try.f63) (by kernel_rfl) (by kernel_rfl) (by kernel_rfl) ?_
  intro args bs Q h
  unfold detS h63 at h
  split at h
  · rename_i p out bs' hs
    split at hs
    · rename_i n a
      simp only [Option.some.injEq, Prod.mk.injEq] at hs
      obtain ⟨rfl, rfl, rfl⟩ := hs
      obtain ⟨⟨hn, ha⟩, hQ⟩ := h
      conv => whnf
      have h1 : IntKind.i64.wrap (a + n) = a + n := wrap_small (by omega) (by omega)
      rw [h1]
      have h2 : IntKind.i64.wrap (a + n - n) = a := by rw [wrap_small (by omega) (by omega)]; omega
      rw [h2]
      exact hQ
    · simp at hs
  · exact h.elim

/-- The cells of a layout, or zeros. -/
def ofI (b : Bool) (x : Int) : Int := if b then x else 0
def ofErr (b : Bool) : Int := if b then 0 else 1
def layV (b : Bool) (t l k s m : Int) : List AV :=
  [.int .i64 (ofI b t), .int .i64 (ofI b l), .int .i64 (ofI b k), .int .i64 (ofI b s), .int .i64 (ofI b m), .int .i64 (ofI b 0), .int .i64 (ofI b 1), .int .i64 (ofI b 2), .int .i64 (ofI b 3), .int .i64 (ofI b 4),
    .int .i64 (ofI b (4 + 4 * t)), .int .i64 (ofI b (4 + 4 * t + k)), .int .i64 (ofI b (4 + 4 * t + k + 4 * l))]
def h25 : List AV → Option (Prop × AV)
  | [.agg [.int .i64 t, .int .i64 l, .int .i64 k, .int .i64 s, .int .i64 m]] => some (True, .tup [.agg (layV (mayC t l k s m) t l k s m), .int .i64 (ofErr (mayC t l k s m))])
  | _ => none
theorem mayC_of {t l k s m : Int} (h : mayC t l k s m = true) : (1 ≤ t ∧ t ≤ 4) ∧ (0 ≤ l ∧ l ≤ 32) ∧ (0 ≤ k ∧ k ≤ 8) ∧ (0 ≤ s ∧ s ≤ 512) ∧ (0 ≤ m ∧ m ≤ 3) := by simpa [mayC] using h

abbrev sp63 : List (Nat × Spec) := (63, .full h63) :: sp61
theorem w25 : EnvOK Try.prog ⟨tys, (25, .pure h25) :: sp63⟩ := by
  refine addPure w63 (fn := Try.f25) (by kernel_rfl) (by kernel_rfl) (by kernel_rfl) ?_
  intro args p r h hp
  unfold h25 at h
  split at h
  · rename_i t l k s m
    simp only [Option.some.injEq, Prod.mk.injEq] at h
    obtain ⟨rfl, rfl⟩ := h
    conv => whnf
    refine ⟨trivial, ?_⟩
    cases hb : mayC t l k s m with
    | false =>
      conv => whnf
      exact ⟨_, rfl, Wk.eq rfl⟩
    | true =>
      obtain ⟨ht, hl, hk, hs, hm⟩ := mayC_of hb
      conv => whnf
      apply DrawVC.mix
      conv => whnf
      have hw1 : IntKind.i64.wrap (4 * t) = 4 * t := wrap_small (by omega) (by omega)
      have hw2 : IntKind.i64.wrap (4 * l) = 4 * l := wrap_small (by omega) (by omega)
      iterate 7 (refine ⟨⟨⟨by omega, by omega⟩, by omega, by omega⟩, ?_⟩; conv => whnf)
      refine ⟨by kernel_rfl, ?_⟩
      conv => whnf
      refine ⟨_, rfl, Wk.eq ?_⟩
      simp [layV, ofI, ofErr, hw1, hw2]
  · simp at h

end Go.Proofs.Ythakgbecpkfeoaa.Ev

/- Layer 15: the reference's layout; valid layouts; the configuration of a program. -/
set_option linter.unusedVariables false
set_option linter.unusedSimpArgs false
set_option maxRecDepth 100000
namespace Go.Proofs.Ythakgbecpkfeoaa.Ev

def h21 := h25
abbrev sp25 : List (Nat × Spec) := (25, .pure h25) :: sp63
theorem w21 : EnvOK Try.prog ⟨tys, (21, .pure h21) :: sp25⟩ := by
  refine addPure w25 (fn := Try.f21) (by kernel_rfl) (by kernel_rfl) (by kernel_rfl) ?_
  intro args p r h hp
  unfold h21 h25 at h
  split at h
  · rename_i t l k s m
    simp only [Option.some.injEq, Prod.mk.injEq] at h
    obtain ⟨rfl, rfl⟩ := h
    conv => whnf
    refine ⟨trivial, ?_⟩
    cases hb : mayC t l k s m with
    | false =>
      conv => whnf
      exact ⟨_, rfl, Wk.eq rfl⟩
    | true =>
      obtain ⟨ht, hl, hk, hs, hm⟩ := mayC_of hb
      have hw1 : IntKind.i64.wrap (4 * t) = 4 * t := wrap_small (by omega) (by omega)
      have hw2 : IntKind.i64.wrap (4 * l) = 4 * l := wrap_small (by omega) (by omega)
      have hw3 : IntKind.i64.wrap (4 + 4 * t) = 4 + 4 * t := wrap_small (by omega) (by omega)
      have hw4 : IntKind.i64.wrap (4 + 4 * t + k) = 4 + 4 * t + k := wrap_small (by omega) (by omega)
      have hw5 : IntKind.i64.wrap (4 + 4 * t + k + 4 * l) = 4 + 4 * t + k + 4 * l := wrap_small (by omega) (by omega)
      conv => whnf
      refine ⟨_, rfl, Wk.eq ?_⟩
      simp [layV, ofI, ofErr, hw1, hw2, hw3, hw4, hw5]
  · simp at h

/-- Is a layout its configuration's? -/
def layRight (t l k s m c st lg en th lk lo sz : Int) : Bool :=
  mayC t l k s m && decide (c = 0 ∧ st = 1 ∧ lg = 2 ∧ en = 3 ∧ th = 4 ∧ lk = 4 + 4 * t ∧ lo = 4 + 4 * t + k ∧ sz = 4 + 4 * t + k + 4 * l)
def h22 : List AV → Option (Prop × AV)
  | [.agg [.int .i64 t, .int .i64 l, .int .i64 k, .int .i64 s, .int .i64 m, .int .i64 c, .int .i64 st, .int .i64 lg, .int .i64 en, .int .i64 th, .int .i64 lk, .int .i64 lo, .int .i64 sz]] =>
    some (True, .bool (layRight t l k s m c st lg en th lk lo sz))
  | _ => none
abbrev sp21 : List (Nat × Spec) := (21, .pure h21) :: sp25
theorem w22 : EnvOK Try.prog ⟨tys, (22, .pure h22) :: sp21⟩ := by
  refine addPure w21 (fn := Try.f22) (by kernel_rfl) (by kernel_rfl) (by kernel_rfl) ?_
  intro args p r h hp
  unfold h22 at h
  split at h
  · rename_i t l k s m c st lg en th lk lo sz
    simp only [Option.some.injEq, Prod.mk.injEq] at h
    obtain ⟨rfl, rfl⟩ := h
    conv => whnf
    refine ⟨trivial, ?_⟩
    cases hb : mayC t l k s m with
    | false =>
      conv => whnf
      refine ⟨_, rfl, Wk.eq ?_⟩
      simp [layRight, hb]
    | true =>
      conv => whnf
      refine ⟨_, rfl, Wk.eq ?_⟩
      simp [layRight, hb, ofI]
      grind
  · simp at h

def forV (b : Bool) (t l k s m : Int) : List AV := [.int .i64 (ofI b t), .int .i64 (ofI b l), .int .i64 (ofI b k), .int .i64 (ofI b s), .int .i64 (ofI b m)]
def h23 : List AV → Option (Prop × AV)
  | [.agg [.undef, .sl .i64 ts, .sl .i64 cs, .sl .i64 ls, .sl .bl ops, .sl .bl du, .int .i64 k], .int .i64 s, .int .i64 m] =>
    some (True, .tup [.agg (forV (mayC ts.length ls.length k s m) ts.length ls.length k s m), .int .i64 (ofErr (mayC ts.length ls.length k s m))])
  | [.agg [.nil, .sl .i64 ts, .nil, .sl .i64 ls, .nil, .nil, .int .i64 k], .int .i64 s, .int .i64 m] =>
    some (True, .tup [.agg (forV (mayC ts.length ls.length k s m) ts.length ls.length k s m), .int .i64 (ofErr (mayC ts.length ls.length k s m))])
  | _ => none
abbrev sp22 : List (Nat × Spec) := (22, .pure h22) :: sp21
theorem w23 : EnvOK Try.prog ⟨tys, (23, .pure h23) :: sp22⟩ := by
  refine addPure w22 (fn := Try.f23) (by kernel_rfl) (by kernel_rfl) (by kernel_rfl) ?_
  intro args p r h hp
  unfold h23 at h
  split at h
  · rename_i ts cs ls ops du k s m
    simp only [Option.some.injEq, Prod.mk.injEq] at h
    obtain ⟨rfl, rfl⟩ := h
    conv => whnf
    refine ⟨trivial, ?_⟩
    cases hb : mayC ts.length ls.length k s m <;> conv => whnf
    all_goals exact ⟨_, rfl, Wk.eq rfl⟩
  · rename_i ts ls k s m
    simp only [Option.some.injEq, Prod.mk.injEq] at h
    obtain ⟨rfl, rfl⟩ := h
    conv => whnf
    refine ⟨trivial, ?_⟩
    cases hb : mayC ts.length ls.length k s m <;> conv => whnf
    all_goals exact ⟨_, rfl, Wk.eq rfl⟩
  · simp at h
def h24 := h23
abbrev sp23 : List (Nat × Spec) := (23, .pure h23) :: sp22
theorem w24 : EnvOK Try.prog ⟨tys, (24, .pure h24) :: sp23⟩ := by
  refine addPure w23 (fn := Try.f24) (by kernel_rfl) (by kernel_rfl) (by kernel_rfl) ?_
  intro args p r h hp
  unfold h24 h23 at h
  split at h
  · rename_i ts cs ls ops du k s m
    simp only [Option.some.injEq, Prod.mk.injEq] at h
    obtain ⟨rfl, rfl⟩ := h
    conv => whnf
    refine ⟨trivial, ?_⟩
    cases hb : mayC ts.length ls.length k s m <;> conv => whnf
    all_goals exact ⟨_, rfl, Wk.eq rfl⟩
  · rename_i ts ls k s m
    simp only [Option.some.injEq, Prod.mk.injEq] at h
    obtain ⟨rfl, rfl⟩ := h
    conv => whnf
    refine ⟨trivial, ?_⟩
    cases hb : mayC ts.length ls.length k s m <;> conv => whnf
    all_goals exact ⟨_, rfl, Wk.eq rfl⟩
  · simp at h
abbrev sp24 : List (Nat × Spec) := (24, .pure h24) :: sp23

end Go.Proofs.Ythakgbecpkfeoaa.Ev

/- Layer 15: the cells of the nine kinds. -/
set_option linter.unusedVariables false
set_option linter.unusedSimpArgs false
set_option maxRecDepth 100000
namespace Go.Proofs.Ythakgbecpkfeoaa.Ev

/-- Element n's cell. -/
def cellA (from' many n sz at' : Int) : Int := if 0 ≤ n ∧ n < many then IntKind.i64.wrap (IntKind.i64.wrap (from' + IntKind.i64.wrap (sz * n)) + at') else -1
theorem cellA_lock (f m n : Int) : cellA f m n 1 0 = if 0 ≤ n ∧ n < m then IntKind.i64.wrap (f + n) else -1 := by
  unfold cellA
  split
  · simp only [IntKind.wrap_i64]; omega
  · rfl
def h64 : List AV → Option (Prop × AV)
  | [.int .i64 f, .int .i64 m, .int .i64 n, .sl .i64 [sz, a]] => some (True, .int .i64 (cellA f m n sz a))
  | [.int .i64 f, .int .i64 m, .int .i64 n, .nil] => some (True, .int .i64 (cellA f m n 1 0))
  | _ => none
theorem w64 : EnvOK Try.prog ⟨tys, (64, .pure h64) :: sp24⟩ := by
  refine addPure w24 (fn := Try.f64) (by kernel_rfl) (by kernel_rfl) (by kernel_rfl) ?_
  intro args p r h hp
  unfold h64 at h
  split at h
  · rename_i f m n sz a
    simp only [Option.some.injEq, Prod.mk.injEq] at h
    obtain ⟨rfl, rfl⟩ := h
    conv => whnf
    repeat' (first | (refine DrawVC.quiet (by kernel_rfl) ?_; conv => whnf) | (refine ⟨⟨by simp, by simp⟩, ?_⟩; conv => whnf) | (split <;> conv => whnf))
    all_goals refine ⟨_, rfl, Wk.eq ?_⟩
    all_goals simp only [decide_eq_true_eq, decide_eq_false_iff_not] at *
    all_goals simp [cellA, dflt_i64]
    all_goals grind
  · rename_i f m n
    simp only [Option.some.injEq, Prod.mk.injEq] at h
    obtain ⟨rfl, rfl⟩ := h
    conv => whnf
    repeat' (split <;> conv => whnf)
    all_goals refine ⟨_, rfl, Wk.eq ?_⟩
    all_goals simp only [decide_eq_true_eq, decide_eq_false_iff_not] at *
    all_goals simp [cellA]
    all_goals grind
  · simp at h

abbrev sp64 : List (Nat × Spec) := (64, .pure h64) :: sp24
def h26 : List AV → Option (Prop × AV)
  | [.agg [.int .i64 t, .int .i64 l, .int .i64 k, .int .i64 s, .int .i64 m, .int .i64 c, .int .i64 st, .int .i64 lg, .int .i64 en, .int .i64 th, .int .i64 lk, .int .i64 lo, .int .i64 sz], .int .i64 n] => some (True, .int .i64 (cellA th t n 4 0))
  | _ => none
theorem w26 : EnvOK Try.prog ⟨tys, (26, .pure h26) :: sp64⟩ := by
  refine addPure w64 (fn := Try.f26) (by kernel_rfl) (by kernel_rfl) (by kernel_rfl) ?_
  intro args p r h hp
  unfold h26 at h
  split at h
  · rename_i t l k s m c st lg en th lk lo sz n
    simp only [Option.some.injEq, Prod.mk.injEq] at h
    obtain ⟨rfl, rfl⟩ := h
    conv => whnf
    refine ⟨trivial, ?_⟩
    conv => whnf
    exact ⟨_, rfl, Wk.eq rfl⟩
  · simp at h
abbrev sp26 : List (Nat × Spec) := (26, .pure h26) :: sp64
def h65 : List AV → Option (Prop × AV)
  | [.agg [.int .i64 t, .int .i64 l, .int .i64 k, .int .i64 s, .int .i64 m, .int .i64 c, .int .i64 st, .int .i64 lg, .int .i64 en, .int .i64 th, .int .i64 lk, .int .i64 lo, .int .i64 sz], .int .i64 n] => some (True, .int .i64 (cellA th t n 4 1))
  | _ => none
theorem w65 : EnvOK Try.prog ⟨tys, (65, .pure h65) :: sp26⟩ := by
  refine addPure w26 (fn := Try.f65) (by kernel_rfl) (by kernel_rfl) (by kernel_rfl) ?_
  intro args p r h hp
  unfold h65 at h
  split at h
  · rename_i t l k s m c st lg en th lk lo sz n
    simp only [Option.some.injEq, Prod.mk.injEq] at h
    obtain ⟨rfl, rfl⟩ := h
    conv => whnf
    refine ⟨trivial, ?_⟩
    conv => whnf
    exact ⟨_, rfl, Wk.eq rfl⟩
  · simp at h
abbrev sp65 : List (Nat × Spec) := (65, .pure h65) :: sp26
def h66 : List AV → Option (Prop × AV)
  | [.agg [.int .i64 t, .int .i64 l, .int .i64 k, .int .i64 s, .int .i64 m, .int .i64 c, .int .i64 st, .int .i64 lg, .int .i64 en, .int .i64 th, .int .i64 lk, .int .i64 lo, .int .i64 sz], .int .i64 n] => some (True, .int .i64 (cellA th t n 4 2))
  | _ => none
theorem w66 : EnvOK Try.prog ⟨tys, (66, .pure h66) :: sp65⟩ := by
  refine addPure w65 (fn := Try.f66) (by kernel_rfl) (by kernel_rfl) (by kernel_rfl) ?_
  intro args p r h hp
  unfold h66 at h
  split at h
  · rename_i t l k s m c st lg en th lk lo sz n
    simp only [Option.some.injEq, Prod.mk.injEq] at h
    obtain ⟨rfl, rfl⟩ := h
    conv => whnf
    refine ⟨trivial, ?_⟩
    conv => whnf
    exact ⟨_, rfl, Wk.eq rfl⟩
  · simp at h
abbrev sp66 : List (Nat × Spec) := (66, .pure h66) :: sp65
def h60 : List AV → Option (Prop × AV)
  | [.agg [.int .i64 t, .int .i64 l, .int .i64 k, .int .i64 s, .int .i64 m, .int .i64 c, .int .i64 st, .int .i64 lg, .int .i64 en, .int .i64 th, .int .i64 lk, .int .i64 lo, .int .i64 sz], .int .i64 n] => some (True, .int .i64 (cellA th t n 4 3))
  | _ => none
theorem w60 : EnvOK Try.prog ⟨tys, (60, .pure h60) :: sp66⟩ := by
  refine addPure w66 (fn := Try.f60) (by kernel_rfl) (by kernel_rfl) (by kernel_rfl) ?_
  intro args p r h hp
  unfold h60 at h
  split at h
  · rename_i t l k s m c st lg en th lk lo sz n
    simp only [Option.some.injEq, Prod.mk.injEq] at h
    obtain ⟨rfl, rfl⟩ := h
    conv => whnf
    refine ⟨trivial, ?_⟩
    conv => whnf
    exact ⟨_, rfl, Wk.eq rfl⟩
  · simp at h
abbrev sp60 : List (Nat × Spec) := (60, .pure h60) :: sp66
def h29 : List AV → Option (Prop × AV)
  | [.agg [.int .i64 t, .int .i64 l, .int .i64 k, .int .i64 s, .int .i64 m, .int .i64 c, .int .i64 st, .int .i64 lg, .int .i64 en, .int .i64 th, .int .i64 lk, .int .i64 lo, .int .i64 sz], .int .i64 n] => some (True, .int .i64 (cellA lk k n 1 0))
  | _ => none
theorem w29 : EnvOK Try.prog ⟨tys, (29, .pure h29) :: sp60⟩ := by
  refine addPure w60 (fn := Try.f29) (by kernel_rfl) (by kernel_rfl) (by kernel_rfl) ?_
  intro args p r h hp
  unfold h29 at h
  split at h
  · rename_i t l k s m c st lg en th lk lo sz n
    simp only [Option.some.injEq, Prod.mk.injEq] at h
    obtain ⟨rfl, rfl⟩ := h
    conv => whnf
    refine ⟨trivial, ?_⟩
    conv => whnf
    exact ⟨_, rfl, Wk.eq rfl⟩
  · simp at h
abbrev sp29 : List (Nat × Spec) := (29, .pure h29) :: sp60
def h27 : List AV → Option (Prop × AV)
  | [.agg [.int .i64 t, .int .i64 l, .int .i64 k, .int .i64 s, .int .i64 m, .int .i64 c, .int .i64 st, .int .i64 lg, .int .i64 en, .int .i64 th, .int .i64 lk, .int .i64 lo, .int .i64 sz], .int .i64 n] => some (True, .int .i64 (cellA lo l n 4 0))
  | _ => none
theorem w27 : EnvOK Try.prog ⟨tys, (27, .pure h27) :: sp29⟩ := by
  refine addPure w29 (fn := Try.f27) (by kernel_rfl) (by kernel_rfl) (by kernel_rfl) ?_
  intro args p r h hp
  unfold h27 at h
  split at h
  · rename_i t l k s m c st lg en th lk lo sz n
    simp only [Option.some.injEq, Prod.mk.injEq] at h
    obtain ⟨rfl, rfl⟩ := h
    conv => whnf
    refine ⟨trivial, ?_⟩
    conv => whnf
    exact ⟨_, rfl, Wk.eq rfl⟩
  · simp at h
abbrev sp27 : List (Nat × Spec) := (27, .pure h27) :: sp29
def h50 : List AV → Option (Prop × AV)
  | [.agg [.int .i64 t, .int .i64 l, .int .i64 k, .int .i64 s, .int .i64 m, .int .i64 c, .int .i64 st, .int .i64 lg, .int .i64 en, .int .i64 th, .int .i64 lk, .int .i64 lo, .int .i64 sz], .int .i64 n] => some (True, .int .i64 (cellA lo l n 4 1))
  | _ => none
theorem w50 : EnvOK Try.prog ⟨tys, (50, .pure h50) :: sp27⟩ := by
  refine addPure w27 (fn := Try.f50) (by kernel_rfl) (by kernel_rfl) (by kernel_rfl) ?_
  intro args p r h hp
  unfold h50 at h
  split at h
  · rename_i t l k s m c st lg en th lk lo sz n
    simp only [Option.some.injEq, Prod.mk.injEq] at h
    obtain ⟨rfl, rfl⟩ := h
    conv => whnf
    refine ⟨trivial, ?_⟩
    conv => whnf
    exact ⟨_, rfl, Wk.eq rfl⟩
  · simp at h
abbrev sp50 : List (Nat × Spec) := (50, .pure h50) :: sp27
def h67 : List AV → Option (Prop × AV)
  | [.agg [.int .i64 t, .int .i64 l, .int .i64 k, .int .i64 s, .int .i64 m, .int .i64 c, .int .i64 st, .int .i64 lg, .int .i64 en, .int .i64 th, .int .i64 lk, .int .i64 lo, .int .i64 sz], .int .i64 n] => some (True, .int .i64 (cellA lo l n 4 2))
  | _ => none
theorem w67 : EnvOK Try.prog ⟨tys, (67, .pure h67) :: sp50⟩ := by
  refine addPure w50 (fn := Try.f67) (by kernel_rfl) (by kernel_rfl) (by kernel_rfl) ?_
  intro args p r h hp
  unfold h67 at h
  split at h
  · rename_i t l k s m c st lg en th lk lo sz n
    simp only [Option.some.injEq, Prod.mk.injEq] at h
    obtain ⟨rfl, rfl⟩ := h
    conv => whnf
    refine ⟨trivial, ?_⟩
    conv => whnf
    exact ⟨_, rfl, Wk.eq rfl⟩
  · simp at h
abbrev sp67 : List (Nat × Spec) := (67, .pure h67) :: sp50
def h28 : List AV → Option (Prop × AV)
  | [.agg [.int .i64 t, .int .i64 l, .int .i64 k, .int .i64 s, .int .i64 m, .int .i64 c, .int .i64 st, .int .i64 lg, .int .i64 en, .int .i64 th, .int .i64 lk, .int .i64 lo, .int .i64 sz], .int .i64 n] => some (True, .int .i64 (cellA lo l n 4 3))
  | _ => none
theorem w28 : EnvOK Try.prog ⟨tys, (28, .pure h28) :: sp67⟩ := by
  refine addPure w67 (fn := Try.f28) (by kernel_rfl) (by kernel_rfl) (by kernel_rfl) ?_
  intro args p r h hp
  unfold h28 at h
  split at h
  · rename_i t l k s m c st lg en th lk lo sz n
    simp only [Option.some.injEq, Prod.mk.injEq] at h
    obtain ⟨rfl, rfl⟩ := h
    conv => whnf
    refine ⟨trivial, ?_⟩
    conv => whnf
    exact ⟨_, rfl, Wk.eq rfl⟩
  · simp at h
abbrev sp28 : List (Nat × Spec) := (28, .pure h28) :: sp67
def h79 : List AV → Option (Prop × AV)
  | [.agg [.int .i64 t, .int .i64 l, .int .i64 k, .int .i64 s, .int .i64 m, .int .i64 c, .int .i64 st, .int .i64 lg, .int .i64 en, .int .i64 th, .int .i64 lk, .int .i64 lo, .int .i64 sz], .int .i64 n, .int .i64 i] => some (True, .int .i64 (cellA lo l n 4 i))
  | _ => none
theorem w79 : EnvOK Try.prog ⟨tys, (79, .pure h79) :: sp28⟩ := by
  refine addPure w28 (fn := Try.f79) (by kernel_rfl) (by kernel_rfl) (by kernel_rfl) ?_
  intro args p r h hp
  unfold h79 at h
  split at h
  · rename_i t l k s m c st lg en th lk lo sz n i
    simp only [Option.some.injEq, Prod.mk.injEq] at h
    obtain ⟨rfl, rfl⟩ := h
    conv => whnf
    repeat' (split <;> conv => whnf)
    all_goals refine ⟨_, rfl, Wk.eq ?_⟩
    all_goals simp only [decide_eq_true_eq, decide_eq_false_iff_not] at *
    all_goals simp [cellA]
    all_goals grind
  · simp at h
abbrev sp79 : List (Nat × Spec) := (79, .pure h79) :: sp28
def h97 : List AV → Option (Prop × AV)
  | [.agg [.int .i64 t, .int .i64 l, .int .i64 k, .int .i64 s, .int .i64 m, .int .i64 c, .int .i64 st, .int .i64 lg, .int .i64 en, .int .i64 th, .int .i64 lk, .int .i64 lo, .int .i64 sz], .int .i64 n, .int .i64 i] => some (True, .int .i64 (cellA th t n 4 i))
  | _ => none
theorem w97 : EnvOK Try.prog ⟨tys, (97, .pure h97) :: sp79⟩ := by
  refine addPure w79 (fn := Try.f97) (by kernel_rfl) (by kernel_rfl) (by kernel_rfl) ?_
  intro args p r h hp
  unfold h97 at h
  split at h
  · rename_i t l k s m c st lg en th lk lo sz n i
    simp only [Option.some.injEq, Prod.mk.injEq] at h
    obtain ⟨rfl, rfl⟩ := h
    conv => whnf
    repeat' (split <;> conv => whnf)
    all_goals refine ⟨_, rfl, Wk.eq ?_⟩
    all_goals simp only [decide_eq_true_eq, decide_eq_false_iff_not] at *
    all_goals simp [cellA]
    all_goals grind
  · simp at h
abbrev sp97 : List (Nat × Spec) := (97, .pure h97) :: sp79
def h68 := h26
theorem w68 : EnvOK Try.prog ⟨tys, (68, .pure h68) :: sp97⟩ := by
  refine addPure w97 (fn := Try.f68) (by kernel_rfl) (by kernel_rfl) (by kernel_rfl) ?_
  intro args p r h hp
  unfold h68 h26 at h
  split at h
  · rename_i t l k s m c st lg en th lk lo sz n
    simp only [Option.some.injEq, Prod.mk.injEq] at h
    obtain ⟨rfl, rfl⟩ := h
    conv => whnf
    refine ⟨trivial, ?_⟩
    conv => whnf
    exact ⟨_, rfl, Wk.eq rfl⟩
  · simp at h
abbrev sp68 : List (Nat × Spec) := (68, .pure h68) :: sp97
def h69 := h65
theorem w69 : EnvOK Try.prog ⟨tys, (69, .pure h69) :: sp68⟩ := by
  refine addPure w68 (fn := Try.f69) (by kernel_rfl) (by kernel_rfl) (by kernel_rfl) ?_
  intro args p r h hp
  unfold h69 h65 at h
  split at h
  · rename_i t l k s m c st lg en th lk lo sz n
    simp only [Option.some.injEq, Prod.mk.injEq] at h
    obtain ⟨rfl, rfl⟩ := h
    conv => whnf
    refine ⟨trivial, ?_⟩
    conv => whnf
    exact ⟨_, rfl, Wk.eq rfl⟩
  · simp at h
abbrev sp69 : List (Nat × Spec) := (69, .pure h69) :: sp68
def h70 := h66
theorem w70 : EnvOK Try.prog ⟨tys, (70, .pure h70) :: sp69⟩ := by
  refine addPure w69 (fn := Try.f70) (by kernel_rfl) (by kernel_rfl) (by kernel_rfl) ?_
  intro args p r h hp
  unfold h70 h66 at h
  split at h
  · rename_i t l k s m c st lg en th lk lo sz n
    simp only [Option.some.injEq, Prod.mk.injEq] at h
    obtain ⟨rfl, rfl⟩ := h
    conv => whnf
    refine ⟨trivial, ?_⟩
    conv => whnf
    exact ⟨_, rfl, Wk.eq rfl⟩
  · simp at h
abbrev sp70 : List (Nat × Spec) := (70, .pure h70) :: sp69
def h71 := h60
theorem w71 : EnvOK Try.prog ⟨tys, (71, .pure h71) :: sp70⟩ := by
  refine addPure w70 (fn := Try.f71) (by kernel_rfl) (by kernel_rfl) (by kernel_rfl) ?_
  intro args p r h hp
  unfold h71 h60 at h
  split at h
  · rename_i t l k s m c st lg en th lk lo sz n
    simp only [Option.some.injEq, Prod.mk.injEq] at h
    obtain ⟨rfl, rfl⟩ := h
    conv => whnf
    refine ⟨trivial, ?_⟩
    conv => whnf
    exact ⟨_, rfl, Wk.eq rfl⟩
  · simp at h
abbrev sp71 : List (Nat × Spec) := (71, .pure h71) :: sp70
def h73 := h27
theorem w73 : EnvOK Try.prog ⟨tys, (73, .pure h73) :: sp71⟩ := by
  refine addPure w71 (fn := Try.f73) (by kernel_rfl) (by kernel_rfl) (by kernel_rfl) ?_
  intro args p r h hp
  unfold h73 h27 at h
  split at h
  · rename_i t l k s m c st lg en th lk lo sz n
    simp only [Option.some.injEq, Prod.mk.injEq] at h
    obtain ⟨rfl, rfl⟩ := h
    conv => whnf
    refine ⟨trivial, ?_⟩
    conv => whnf
    exact ⟨_, rfl, Wk.eq rfl⟩
  · simp at h
abbrev sp73 : List (Nat × Spec) := (73, .pure h73) :: sp71
def h53 := h50
theorem w53 : EnvOK Try.prog ⟨tys, (53, .pure h53) :: sp73⟩ := by
  refine addPure w73 (fn := Try.f53) (by kernel_rfl) (by kernel_rfl) (by kernel_rfl) ?_
  intro args p r h hp
  unfold h53 h50 at h
  split at h
  · rename_i t l k s m c st lg en th lk lo sz n
    simp only [Option.some.injEq, Prod.mk.injEq] at h
    obtain ⟨rfl, rfl⟩ := h
    conv => whnf
    refine ⟨trivial, ?_⟩
    conv => whnf
    exact ⟨_, rfl, Wk.eq rfl⟩
  · simp at h
abbrev sp53 : List (Nat × Spec) := (53, .pure h53) :: sp73
def h74 := h67
theorem w74 : EnvOK Try.prog ⟨tys, (74, .pure h74) :: sp53⟩ := by
  refine addPure w53 (fn := Try.f74) (by kernel_rfl) (by kernel_rfl) (by kernel_rfl) ?_
  intro args p r h hp
  unfold h74 h67 at h
  split at h
  · rename_i t l k s m c st lg en th lk lo sz n
    simp only [Option.some.injEq, Prod.mk.injEq] at h
    obtain ⟨rfl, rfl⟩ := h
    conv => whnf
    refine ⟨trivial, ?_⟩
    conv => whnf
    exact ⟨_, rfl, Wk.eq rfl⟩
  · simp at h
abbrev sp74 : List (Nat × Spec) := (74, .pure h74) :: sp53
def h75 := h28
theorem w75 : EnvOK Try.prog ⟨tys, (75, .pure h75) :: sp74⟩ := by
  refine addPure w74 (fn := Try.f75) (by kernel_rfl) (by kernel_rfl) (by kernel_rfl) ?_
  intro args p r h hp
  unfold h75 h28 at h
  split at h
  · rename_i t l k s m c st lg en th lk lo sz n
    simp only [Option.some.injEq, Prod.mk.injEq] at h
    obtain ⟨rfl, rfl⟩ := h
    conv => whnf
    refine ⟨trivial, ?_⟩
    conv => whnf
    exact ⟨_, rfl, Wk.eq rfl⟩
  · simp at h
abbrev sp75 : List (Nat × Spec) := (75, .pure h75) :: sp74
def h72 := h29
theorem w72 : EnvOK Try.prog ⟨tys, (72, .pure h72) :: sp75⟩ := by
  refine addPure w75 (fn := Try.f72) (by kernel_rfl) (by kernel_rfl) (by kernel_rfl) ?_
  intro args p r h hp
  unfold h72 h29 at h
  split at h
  · rename_i t l k s m c st lg en th lk lo sz n
    simp only [Option.some.injEq, Prod.mk.injEq] at h
    obtain ⟨rfl, rfl⟩ := h
    conv => whnf
    repeat' (split <;> conv => whnf)
    all_goals refine ⟨_, rfl, Wk.eq ?_⟩
    all_goals simp only [decide_eq_true_eq, decide_eq_false_iff_not] at *
    all_goals simp [cellA_lock]
    all_goals grind
  · simp at h
abbrev sp72 : List (Nat × Spec) := (72, .pure h72) :: sp75

end Go.Proofs.Ythakgbecpkfeoaa.Ev

/- Layer 15: all cells of an index; lists that are equal; the accesses that initialize. -/
set_option linter.unusedVariables false
set_option linter.unusedSimpArgs false
set_option maxRecDepth 100000
namespace Go.Proofs.Ythakgbecpkfeoaa.Ev

/-- The nine cells of an index. -/
def nine (t l k th lk lo n : Int) : List Int := [cellA th t n 4 0, cellA th t n 4 1, cellA th t n 4 2, cellA th t n 4 3, cellA lk k n 1 0, cellA lo l n 4 0, cellA lo l n 4 1, cellA lo l n 4 2, cellA lo l n 4 3]
def h31 : List AV → Option (Prop × AV)
  | [.agg [.int .i64 t, .int .i64 l, .int .i64 k, .int .i64 s, .int .i64 m, .int .i64 c, .int .i64 st, .int .i64 lg, .int .i64 en, .int .i64 th, .int .i64 lk, .int .i64 lo, .int .i64 sz], .int .i64 n] => some (True, .sl .i64 (nine t l k th lk lo n))
  | _ => none
theorem w31 : EnvOK Try.prog ⟨tys, (31, .pure h31) :: sp72⟩ := by
  refine addPure w72 (fn := Try.f31) (by kernel_rfl) (by kernel_rfl) (by kernel_rfl) ?_
  intro args p r h hp
  unfold h31 at h
  split at h
  · rename_i t l k s m c st lg en th lk lo sz n
    simp only [Option.some.injEq, Prod.mk.injEq] at h
    obtain ⟨rfl, rfl⟩ := h
    conv => whnf
    refine DrawVC.quiet (by kernel_rfl) ?_
    conv => whnf
    iterate 9 (refine ⟨trivial, ?_⟩; conv => whnf)
    exact ⟨_, rfl, Wk.eq rfl⟩
  · simp at h
def h32 := h31
abbrev sp31 : List (Nat × Spec) := (31, .pure h31) :: sp72
theorem w32 : EnvOK Try.prog ⟨tys, (32, .pure h32) :: sp31⟩ := by
  refine addPure w31 (fn := Try.f32) (by kernel_rfl) (by kernel_rfl) (by kernel_rfl) ?_
  intro args p r h hp
  unfold h32 h31 at h
  split at h
  · rename_i t l k s m c st lg en th lk lo sz n
    simp only [Option.some.injEq, Prod.mk.injEq] at h
    obtain ⟨rfl, rfl⟩ := h
    conv => whnf
    refine DrawVC.quiet (by kernel_rfl) ?_
    conv => whnf
    iterate 9 (refine ⟨trivial, ?_⟩; conv => whnf)
    exact ⟨_, rfl, Wk.eq rfl⟩
  · simp at h

abbrev sp32 : List (Nat × Spec) := (32, .pure h32) :: sp31
def h30 : List AV → Option (Prop × AV)
  | [.sl .i64 a, .sl .i64 b] => some (a.length ≤ 1000000, .bool (decide (a = b)))
  | _ => none
theorem w30 : EnvOK Try.prog ⟨tys, (30, .pure h30) :: sp32⟩ := by
  refine addPure w32 (fn := Try.f30) (by kernel_rfl) (by kernel_rfl) (by kernel_rfl) ?_
  intro args p r h hp
  unfold h30 at h
  split at h
  · rename_i a b
    simp only [Option.some.injEq, Prod.mk.injEq] at h
    obtain ⟨rfl, rfl⟩ := h
    conv => whnf
    split
    · rename_i he
      conv => whnf
      refine ⟨_, rfl, Wk.eq ?_⟩
      have : a ≠ b := by intro e; subst e; simp at he
      simp [this]
    · rename_i he
      have he : a.length = b.length := by have := he; simp at this; omega
      conv => whnf
      refine LoopVC.intro [] (fun i : Nat => [.sl .i64 a, .sl .i64 b, .undef, .undef, .bool false, .int .i64 i, .undef, .undef, .undef, .undef, .undef, .undef, .undef, .undef, .undef, .undef, .undef, .undef, .undef, .undef, .undef, .undef, .undef, .undef, .undef, .undef])
        (fun i => []) (fun i => i ≤ a.length ∧ upto 0 a b i) (fun i => a.length - i) 0 ⟨by omega, fun j hj => by omega⟩ ⟨?_, rfl⟩ ?_
      · repeat' (first | exact WeakL.nil | refine WeakL.cons ?_ ?_ | exact Weak1.undef _ | exact Weak1.same _)
      rintro i ⟨hi, hu⟩
      conv => whnf
      split
      · rename_i hlt
        have hlt : i < a.length := by simpa using hlt
        conv => whnf
        refine DrawVC.quiet (by kernel_rfl) ?_
        conv => whnf
        refine ⟨⟨by omega, by omega⟩, ?_⟩
        conv => whnf
        refine ⟨⟨by omega, by omega⟩, ?_⟩
        conv => whnf
        split
        · rename_i hne
          conv => whnf
          refine ⟨_, rfl, Wk.eq ?_⟩
          have : a ≠ b := by intro e; subst e; simp at hne
          simp [this]
        · rename_i heq
          conv => whnf
          have hw : IntKind.i64.wrap ((i : Int) + 1) = ((i + 1 : Nat) : Int) := by rw [wrap_small (by omega) (by omega)]; rfl
          refine ⟨i + 1, by omega, ⟨by omega, upto_succ hu (by simpa [dflt_i64] using heq)⟩, ⟨?_, rfl⟩⟩
          rw [hw]
          repeat' (first | exact WeakL.nil | refine WeakL.cons ?_ ?_ | exact Weak1.undef _ | exact Weak1.same _)
      · rename_i hge
        have hge : i = a.length := by have : ¬ i < a.length := by simpa using hge
                                      omega
        conv => whnf
        refine ⟨_, rfl, Wk.eq ?_⟩
        subst hge
        have := upto_all he hu
        simp [this]
  · simp at h

abbrev sp30 : List (Nat × Spec) := (30, .pure h30) :: sp32
/-- The same list of accesses twice. -/
def h33 : List AV → Option (Prop × AV)
  | [.sl .acc a, .sl .acc b] => some (a = b ∧ a.length ≤ 1000000, .bool true)
  | _ => none
theorem w33 : EnvOK Try.prog ⟨tys, (33, .pure h33) :: sp30⟩ := by
  refine addPure w30 (fn := Try.f33) (by kernel_rfl) (by kernel_rfl) (by kernel_rfl) ?_
  intro args p r h hp
  unfold h33 at h
  split at h
  · rename_i a b
    simp only [Option.some.injEq, Prod.mk.injEq] at h
    obtain ⟨rfl, rfl⟩ := h
    obtain ⟨rfl, hl⟩ := hp
    conv => whnf
    rw [show ((a.length : Int) != (a.length : Int)) = false by simp]
    conv => whnf
    refine LoopVC.intro [] (fun i : Nat => [.sl .acc a, .sl .acc a, .undef, .undef, .bool false, .int .i64 i, .undef, .undef, .undef, .undef, .undef, .undef, .undef, .undef, .undef, .undef, .undef, .undef, .undef, .undef, .undef, .undef, .undef, .undef, .undef, .undef])
      (fun i => []) (fun i => i ≤ a.length) (fun i => a.length - i) 0 (by omega) ⟨?_, rfl⟩ ?_
    · repeat' (first | exact WeakL.nil | refine WeakL.cons ?_ ?_ | exact Weak1.undef _ | exact Weak1.same _)
    rintro i hi
    conv => whnf
    split
    · rename_i hlt
      have hlt : i < a.length := by simpa using hlt
      conv => whnf
      refine DrawVC.quiet (by kernel_rfl) ?_
      conv => whnf
      refine ⟨⟨by omega, by omega⟩, ?_⟩
      conv => whnf
      refine ⟨⟨by omega, by omega⟩, ?_⟩
      conv => whnf
      split
      · rename_i hne
        exfalso
        simp at hne
      · conv => whnf
        have hw : IntKind.i64.wrap ((i : Int) + 1) = ((i + 1 : Nat) : Int) := by rw [wrap_small (by omega) (by omega)]; rfl
        refine ⟨i + 1, by omega, by omega, ⟨?_, rfl⟩⟩
        rw [hw]
        repeat' (first | exact WeakL.nil | refine WeakL.cons ?_ ?_ | exact Weak1.undef _ | exact Weak1.same _)
    · conv => whnf
      exact ⟨_, rfl, Wk.eq rfl⟩
  · simp at h

abbrev sp33 : List (Nat × Spec) := (33, .pure h33) :: sp30
def storeA (c n : Int) : Acc := ⟨2, c, 0, n, ⟨#[]⟩⟩
/-- The accesses that initialize: as far as element i. -/
def initU (st lo l : Int) (first : List Int) (i : Nat) : List Acc := storeA st 1 :: (List.range i).map fun (j : Nat) => storeA (cellA lo l (j : Int) 4 1) (first.getD j 0)
theorem initU_succ (st lo l : Int) (first : List Int) (i : Nat) : initU st lo l first (i + 1) = initU st lo l first i ++ [storeA (cellA lo l (i : Int) 4 1) (first.getD i 0)] := by
  simp [initU, List.range_succ]
theorem initU_length (st lo l : Int) (first : List Int) (i : Nat) : (initU st lo l first i).length = i + 1 := by simp [initU]
def h34 : List AV → Option (Prop × AV)
  | [.agg [.int .i64 t, .int .i64 l, .int .i64 k, .int .i64 s, .int .i64 m, .int .i64 c, .int .i64 st, .int .i64 lg, .int .i64 en, .int .i64 th, .int .i64 lk, .int .i64 lo, .int .i64 sz], .sl .i64 first] => some ((0 ≤ l ∧ l ≤ 1000) ∧ first.length ≤ 1000, .sl .acc (initU st lo l first (min first.length l.toNat)))
  | _ => none
theorem w34 : EnvOK Try.prog ⟨tys, (34, .pure h34) :: sp33⟩ := by
  refine addPure w33 (fn := Try.f34) (by kernel_rfl) (by kernel_rfl) (by kernel_rfl) ?_
  intro args p r h hp
  unfold h34 at h
  split at h
  · rename_i t l k s m c st lg en th lk lo sz first
    simp only [Option.some.injEq, Prod.mk.injEq] at h
    obtain ⟨rfl, rfl⟩ := h
    obtain ⟨hl, hf⟩ := hp
    conv => whnf
    have hmin : (if l < (first.length : Int) then l else (first.length : Int)) = ((min first.length l.toNat : Nat) : Int) := by split <;> omega
    simp only [hmin]
    have hmk : min first.length l.toNat ≤ first.length := Nat.min_le_left _ _
    have hml : ((min first.length l.toNat : Nat) : Int) ≤ l := by omega
    generalize min first.length l.toNat = mk at hmk hml ⊢
    refine ⟨⟨by omega, by omega, by omega⟩, ?_⟩
    have hs1 : List.drop (Int.toNat 0) (List.take ((mk : Int)).toNat first) = first.take mk := rfl
    simp only [hs1]
    have hlen : (first.take mk).length = mk := by rw [List.length_take]; omega
    conv => whnf
    simp only [hlen]
    refine LoopVC.intro [] (fun i : Nat => [.agg [.int .i64 t, .int .i64 l, .int .i64 k, .int .i64 s, .int .i64 m, .int .i64 c, .int .i64 st, .int .i64 lg, .int .i64 en, .int .i64 th, .int .i64 lk, .int .i64 lo, .int .i64 sz], .sl .i64 first, .kp [.int .i64 t, .int .i64 l, .int .i64 k, .int .i64 s, .int .i64 m, .int .i64 c, .int .i64 st, .int .i64 lg, .int .i64 en, .int .i64 th, .int .i64 lk, .int .i64 lo, .int .i64 sz], .skp, .own 4, (match i with | 0 => .lit .acc [storeA st 1] | _ + 1 => .own 5), .undef, .undef, .undef, .undef, .undef, .undef, .undef, .undef, .undef, .undef, .undef, .undef, .undef, .sl .i64 (first.take mk), .int .i64 mk, .int .i64 i, .undef, .undef, .undef, .undef, .undef, .undef, .undef, .undef, .undef, .undef, .undef, .undef, .undef, .undef])
      (fun i => match i with | 0 => [(4, .arr .acc [])] | j + 1 => [(4, .arr .acc []), (5, .arr .acc (initU st lo l first (j + 1)))])
      (fun i => i ≤ mk) (fun i => mk - i) 0 (by omega) ⟨?_, rfl⟩ ?_
    · repeat' (first | exact WeakL.nil | refine WeakL.cons ?_ ?_ | exact Weak1.undef _ | exact Weak1.same _)
    intro i hi
    have hget : ∀ j, j < mk → (first.take mk).getD j 0 = first.getD j 0 := by
      intro j hj
      simp [List.getD_eq_getElem?_getD, List.getElem?_take, hj]
    rcases i with _ | i
    · conv => whnf
      split
      · rename_i hlt
        have hlt : 0 < mk := by simpa using hlt
        conv => whnf
        refine ⟨⟨by omega, by rw [hlen]; omega⟩, ?_⟩
        conv => whnf
        refine ⟨trivial, ?_⟩
        conv => whnf
        refine ⟨.inr (by simp), ?_⟩
        conv => whnf
        refine ⟨by simp only [List.length_cons, List.length_nil, ET.bytes]; omega, ?_⟩
        conv => whnf
        refine ⟨1, by omega, by omega, ?_⟩
        conv => whnf
        refine ⟨?_, ?_⟩
        · repeat' (first | exact WeakL.nil | refine WeakL.cons ?_ ?_ | exact Weak1.undef _ | exact Weak1.same _)
        · have := initU_succ st lo l first 0
          dsimp only
          rw [this]
          have h0 := hget 0 hlt
          simp only [initU, storeA, List.range_zero, List.map_nil, dflt_i64]
          rw [← h0]
          rfl
      · rename_i hge
        have hge : mk = 0 := by simp at hge; omega
        conv => whnf
        refine ⟨_, rfl, Wk.eq ?_⟩
        simp [hge, initU]
    · conv => whnf
      split
      · rename_i hlt
        have hlt : i + 1 < mk := by have := hlt; simp at this; omega
        conv => whnf
        refine ⟨⟨by omega, by rw [hlen]; omega⟩, ?_⟩
        conv => whnf
        refine ⟨trivial, ?_⟩
        conv => whnf
        refine ⟨by simp only [List.length_cons, List.length_nil, ET.bytes, initU_length]; omega, ?_⟩
        conv => whnf
        have hw : IntKind.i64.wrap (((i + 1 : Nat) : Int) + 1) = ((i + 1 + 1 : Nat) : Int) := by rw [wrap_small (by omega) (by omega)]; rfl
        rw [hw]
        refine ⟨i + 1 + 1, by omega, by omega, ?_⟩
        conv => whnf
        refine ⟨?_, ?_⟩
        · repeat' (first | exact WeakL.nil | refine WeakL.cons ?_ ?_ | exact Weak1.undef _ | exact Weak1.same _)
        · have := initU_succ st lo l first (i + 1)
          dsimp only
          rw [this]
          have h0 := hget (i + 1) hlt
          simp only [storeA, dflt_i64]
          rw [← h0]
          rfl
      · rename_i hge
        have hge : i + 1 = mk := by simp at hge; omega
        conv => whnf
        refine ⟨_, rfl, Wk.eq ?_⟩
        simp [← hge]
  · simp at h
abbrev sp34 : List (Nat × Spec) := (34, .pure h34) :: sp33

end Go.Proofs.Ythakgbecpkfeoaa.Ev

/- Layer 15: the example of the documentation. -/
set_option linter.unusedVariables false
set_option linter.unusedSimpArgs false
set_option maxRecDepth 100000
namespace Go.Proofs.Ythakgbecpkfeoaa.Ev

theorem may11 : mayC 1 1 0 0 0 = true := by decide
theorem may00 : mayC 0 0 0 0 0 = false := by decide
theorem may21 : mayC 2 1 0 9 2 = true := by decide
def h20 : List AV → Option (Prop × AV)
  | [] => some (True, .bool true)
  | _ => none
theorem w20 : EnvOK Try.prog ⟨tys, (20, .pure h20) :: sp34⟩ := by
  refine addPure w34 (fn := Try.f20) (by kernel_rfl) (by kernel_rfl) (by kernel_rfl) ?_
  intro args p r h hp
  unfold h20 at h
  split at h
  · simp only [Option.some.injEq, Prod.mk.injEq] at h
    obtain ⟨rfl, rfl⟩ := h
    conv => whnf
    refine ⟨trivial, ?_⟩
    rw [may11]
    conv => whnf
    refine ⟨trivial, ?_⟩
    rw [may00]
    conv => whnf
    refine ⟨trivial, ?_⟩
    conv => whnf
    refine ⟨⟨by decide, by decide⟩, ?_⟩
    conv => whnf
    iterate 5 (refine ⟨trivial, ?_⟩; conv => whnf)
    exact ⟨_, rfl, Wk.eq rfl⟩
  · simp at h
abbrev sp20 : List (Nat × Spec) := (20, .pure h20) :: sp34

end Go.Proofs.Ythakgbecpkfeoaa.Ev

/- Layer 16: lock words. -/
set_option linter.unusedVariables false
set_option linter.unusedSimpArgs false
set_option maxRecDepth 100000
namespace Go.Proofs.Ythakgbecpkfeoaa.Ev

theorem bits_one (w : Int) : bitsV .and .i64 w 1 = w % 2 := by
  have h : (BitVec.ofInt 64 w &&& BitVec.ofInt 64 1).toNat = (w % 2).toNat := by
    rw [BitVec.toNat_and, BitVec.toNat_ofInt, show (BitVec.ofInt 64 1).toNat = 1 from rfl, Nat.and_one_is_mod]
    omega
  show IntKind.i64.wrap ((BitVec.ofInt 64 w &&& BitVec.ofInt 64 1).toNat : Int) = w % 2
  rw [h, wrap_small (by omega) (by omega)]
  omega

def lockedW (w : Int) : Bool := w % 2 == 1
def h102 : List AV → Option (Prop × AV)
  | [.int .i64 w] => some (True, .bool (lockedW w))
  | _ => none
theorem w102 : EnvOK Try.prog ⟨tys, (102, .pure h102) :: sp20⟩ := by
  refine addPure w20 (fn := Try.f102) (by kernel_rfl) (by kernel_rfl) (by kernel_rfl) ?_
  intro args p r h hp
  unfold h102 at h
  split at h
  · rename_i w
    simp only [Option.some.injEq, Prod.mk.injEq] at h
    obtain ⟨rfl, rfl⟩ := h
    conv => whnf
    refine ⟨_, rfl, Wk.eq ?_⟩
    rw [bits_one]
    rfl
  · simp at h
/-- Who holds it, or which version it has. -/
def h103 : List AV → Option (Prop × AV)
  | [.int .i64 w] => some (True, .int .i64 (w / 2))
  | _ => none
abbrev sp102 : List (Nat × Spec) := (102, .pure h102) :: sp20
theorem shr_one (w : Int) : shrV .i64 w 1 = w / 2 := by
  show w.fdiv 2 = w / 2
  rw [Int.fdiv_eq_ediv_of_nonneg _ (by omega)]
theorem w103 : EnvOK Try.prog ⟨tys, (103, .pure h103) :: sp102⟩ := by
  refine addPure w102 (fn := Try.f103) (by kernel_rfl) (by kernel_rfl) (by kernel_rfl) ?_
  intro args p r h hp
  unfold h103 at h
  split at h
  · rename_i w
    simp only [Option.some.injEq, Prod.mk.injEq] at h
    obtain ⟨rfl, rfl⟩ := h
    conv => whnf
    refine ⟨by omega, ?_⟩
    conv => whnf
    refine ⟨_, rfl, Wk.eq ?_⟩
    rw [shr_one]
  · simp at h
def h106 := h103
abbrev sp103 : List (Nat × Spec) := (103, .pure h103) :: sp102
theorem w106 : EnvOK Try.prog ⟨tys, (106, .pure h106) :: sp103⟩ := by
  refine addPure w103 (fn := Try.f106) (by kernel_rfl) (by kernel_rfl) (by kernel_rfl) ?_
  intro args p r h hp
  unfold h106 h103 at h
  split at h
  · rename_i w
    simp only [Option.some.injEq, Prod.mk.injEq] at h
    obtain ⟨rfl, rfl⟩ := h
    conv => whnf
    refine ⟨by omega, ?_⟩
    conv => whnf
    refine ⟨_, rfl, Wk.eq ?_⟩
    rw [shr_one]
  · simp at h
def h105 : List AV → Option (Prop × AV)
  | [.int .i64 m] => some (0 ≤ m ∧ m ≤ 2, .int .i64 (2 * m + 1))
  | _ => none
abbrev sp106 : List (Nat × Spec) := (106, .pure h106) :: sp103
theorem w105 : EnvOK Try.prog ⟨tys, (105, .pure h105) :: sp106⟩ := by
  refine addPure w106 (fn := Try.f105) (by kernel_rfl) (by kernel_rfl) (by kernel_rfl) ?_
  intro args p r h hp
  unfold h105 at h
  split at h
  · rename_i m
    simp only [Option.some.injEq, Prod.mk.injEq] at h
    obtain ⟨rfl, rfl⟩ := h
    have : m = 0 ∨ m = 1 ∨ m = 2 := by omega
    rcases this with rfl | rfl | rfl
    all_goals conv => whnf
    all_goals refine ⟨by omega, ?_⟩
    all_goals conv => whnf
    all_goals exact ⟨_, rfl, Wk.eq rfl⟩
  · simp at h
def h49 : List AV → Option (Prop × AV)
  | [.int .i64 v] => some (True, .int .i64 (IntKind.i64.wrap (2 * v)))
  | _ => none
abbrev sp105 : List (Nat × Spec) := (105, .pure h105) :: sp106
theorem shl_one (v : Int) : shlV .i64 v 1 = IntKind.i64.wrap (2 * v) := by
  show IntKind.i64.wrap (v * 2) = _
  rw [Int.mul_comm]
theorem w49 : EnvOK Try.prog ⟨tys, (49, .pure h49) :: sp105⟩ := by
  refine addPure w105 (fn := Try.f49) (by kernel_rfl) (by kernel_rfl) (by kernel_rfl) ?_
  intro args p r h hp
  unfold h49 at h
  split at h
  · rename_i v
    simp only [Option.some.injEq, Prod.mk.injEq] at h
    obtain ⟨rfl, rfl⟩ := h
    conv => whnf
    refine ⟨by omega, ?_⟩
    conv => whnf
    refine ⟨_, rfl, Wk.eq ?_⟩
    rw [shl_one]
  · simp at h
abbrev sp49 : List (Nat × Spec) := (49, .pure h49) :: sp105

/-! ### The reference's words -/
def h117 : List AV → Option (Prop × AV)
  | [.int .i64 w, .int .i64 2] => some (True, .int .i64 (w % 2))
  | _ => none
theorem w117 : EnvOK Try.prog ⟨tys, (117, .pure h117) :: sp49⟩ := by
  refine addPure w49 (fn := Try.f117) (by kernel_rfl) (by kernel_rfl) (by kernel_rfl) ?_
  intro args p r h hp
  unfold h117 at h
  split at h
  · rename_i w
    simp only [Option.some.injEq, Prod.mk.injEq] at h
    obtain ⟨rfl, rfl⟩ := h
    conv => whnf
    refine ⟨by omega, ?_⟩
    conv => whnf
    have ht : w.tmod 2 = if w % 2 = 0 then 0 else if 0 ≤ w then 1 else -1 := by
      rw [Int.tmod_eq_emod]
      split <;> split <;> (try split) <;> simp_all <;> omega
    split
    · rename_i h1
      have h1 : w.tmod 2 < 0 := by simpa using h1
      conv => whnf
      refine ⟨_, rfl, Wk.eq ?_⟩
      have hw : IntKind.i64.wrap (w.tmod 2 + 2) = w % 2 := by
        have h2 : w.tmod 2 = -1 ∧ w % 2 = 1 := by
          by_cases e1 : w % 2 = 0
          · rw [if_pos e1] at ht; omega
          · by_cases e2 : 0 ≤ w
            · rw [if_neg e1, if_pos e2] at ht; omega
            · rw [if_neg e1, if_neg e2] at ht; omega
        rw [h2.1, h2.2, wrap_small (by omega) (by omega)]
        rfl
      rw [hw]
    · rename_i h1
      have h1 : ¬ w.tmod 2 < 0 := by simpa using h1
      conv => whnf
      refine ⟨_, rfl, Wk.eq ?_⟩
      have : w.tmod 2 = w % 2 := by
        rw [ht] at h1 ⊢
        split <;> (try split) <;> simp_all <;> omega
      rw [this]
  · simp at h
abbrev sp117 : List (Nat × Spec) := (117, .pure h117) :: sp49
def inR (w : Int) : Prop := -9223372036854775808 ≤ w ∧ w < 9223372036854775808
def h118 : List AV → Option (Prop × AV)
  | [.int .i64 w, .int .i64 2] => some (inR w, .int .i64 (w / 2))
  | _ => none
theorem w118 : EnvOK Try.prog ⟨tys, (118, .pure h118) :: sp117⟩ := by
  refine addPure w117 (fn := Try.f118) (by kernel_rfl) (by kernel_rfl) (by kernel_rfl) ?_
  intro args p r h hp
  unfold h118 at h
  split at h
  · rename_i w
    simp only [Option.some.injEq, Prod.mk.injEq] at h
    obtain ⟨rfl, rfl⟩ := h
    unfold inR at hp
    conv => whnf
    refine ⟨trivial, ?_⟩
    conv => whnf
    refine ⟨by omega, ?_⟩
    conv => whnf
    refine ⟨_, rfl, Wk.eq ?_⟩
    have h1 : IntKind.i64.wrap (w - w % 2) = w - w % 2 := wrap_small (by omega) (by omega)
    have h2 : (w - w % 2).tdiv 2 = w / 2 := by
      have : w - w % 2 = 2 * (w / 2) := by omega
      rw [this, Int.mul_tdiv_cancel_left _ (by omega)]
    rw [h1, h2, wrap_small (by omega) (by omega)]
  · simp at h
abbrev sp118 : List (Nat × Spec) := (118, .pure h118) :: sp117
def h109 := h102
theorem w109 : EnvOK Try.prog ⟨tys, (109, .pure h109) :: sp118⟩ := by
  refine addPure w118 (fn := Try.f109) (by kernel_rfl) (by kernel_rfl) (by kernel_rfl) ?_
  intro args p r h hp
  unfold h109 h102 at h
  split at h
  · rename_i w
    simp only [Option.some.injEq, Prod.mk.injEq] at h
    obtain ⟨rfl, rfl⟩ := h
    conv => whnf
    refine ⟨trivial, ?_⟩
    conv => whnf
    exact ⟨_, rfl, Wk.eq rfl⟩
  · simp at h
abbrev sp109 : List (Nat × Spec) := (109, .pure h109) :: sp118
def h110 : List AV → Option (Prop × AV)
  | [.int .i64 w] => some (inR w, .int .i64 (w / 2))
  | _ => none
theorem w110 : EnvOK Try.prog ⟨tys, (110, .pure h110) :: sp109⟩ := by
  refine addPure w109 (fn := Try.f110) (by kernel_rfl) (by kernel_rfl) (by kernel_rfl) ?_
  intro args p r h hp
  unfold h110 at h
  split at h
  · rename_i w
    simp only [Option.some.injEq, Prod.mk.injEq] at h
    obtain ⟨rfl, rfl⟩ := h
    conv => whnf
    refine ⟨hp, ?_⟩
    conv => whnf
    exact ⟨_, rfl, Wk.eq rfl⟩
  · simp at h
def h113 := h110
abbrev sp110 : List (Nat × Spec) := (110, .pure h110) :: sp109
theorem w113 : EnvOK Try.prog ⟨tys, (113, .pure h113) :: sp110⟩ := by
  refine addPure w110 (fn := Try.f113) (by kernel_rfl) (by kernel_rfl) (by kernel_rfl) ?_
  intro args p r h hp
  unfold h113 h110 at h
  split at h
  · rename_i w
    simp only [Option.some.injEq, Prod.mk.injEq] at h
    obtain ⟨rfl, rfl⟩ := h
    conv => whnf
    refine ⟨hp, ?_⟩
    conv => whnf
    exact ⟨_, rfl, Wk.eq rfl⟩
  · simp at h
def h112 := h105
abbrev sp113 : List (Nat × Spec) := (113, .pure h113) :: sp110
theorem w112 : EnvOK Try.prog ⟨tys, (112, .pure h112) :: sp113⟩ := by
  refine addPure w113 (fn := Try.f112) (by kernel_rfl) (by kernel_rfl) (by kernel_rfl) ?_
  intro args p r h hp
  unfold h112 h105 at h
  split at h
  · rename_i m
    simp only [Option.some.injEq, Prod.mk.injEq] at h
    obtain ⟨rfl, rfl⟩ := h
    conv => whnf
    refine ⟨_, rfl, Wk.eq ?_⟩
    rw [wrap_small (n := 2 * m) (by omega) (by omega), wrap_small (by omega) (by omega)]
  · simp at h
def h115 := h49
abbrev sp112 : List (Nat × Spec) := (112, .pure h112) :: sp113
theorem w115 : EnvOK Try.prog ⟨tys, (115, .pure h115) :: sp112⟩ := by
  refine addPure w112 (fn := Try.f115) (by kernel_rfl) (by kernel_rfl) (by kernel_rfl) ?_
  intro args p r h hp
  unfold h115 h49 at h
  split at h
  · rename_i v
    simp only [Option.some.injEq, Prod.mk.injEq] at h
    obtain ⟨rfl, rfl⟩ := h
    conv => whnf
    exact ⟨_, rfl, Wk.eq rfl⟩
  · simp at h
abbrev sp115 : List (Nat × Spec) := (115, .pure h115) :: sp112

end Go.Proofs.Ythakgbecpkfeoaa.Ev

/- Layer 16: the reference's cursor over a log of results. -/
set_option linter.unusedVariables false
set_option linter.unusedSimpArgs false
set_option maxRecDepth 100000
namespace Go.Proofs.Ythakgbecpkfeoaa.Ev

structure CurS where
  log : List Res
  pos : Int
  ask : Acc
  stop : Bool
def accV (a : Acc) : List AV := [.int .i64 a.kind, .int .i64 a.cell, .int .i64 a.old, .int .i64 a.new, .str a.bytes]
def curV (c : CurS) : List AV := [.sl .res c.log, .int .i64 c.pos, .int .i64 c.ask.kind, .int .i64 c.ask.cell, .int .i64 c.ask.old, .int .i64 c.ask.new, .str c.ask.bytes, .bool c.stop]
def r0 : Res := ⟨0, false⟩
/-- One access of the cursor. -/
def doC (c : CurS) (a : Acc) : CurS × Res :=
  if c.stop = true then (c, r0) else if c.pos ≥ c.log.length then (⟨c.log, c.pos, a, true⟩, r0) else (⟨c.log, c.pos + 1, c.ask, false⟩, c.log.getD c.pos.toNat r0)
def okC (c : CurS) : Prop := (0 ≤ c.pos ∧ c.pos ≤ c.log.length) ∧ c.log.length ≤ 1000000
theorem okC.doC {c : CurS} (h : okC c) (a : Acc) : okC (doC c a).1 := by
  unfold Ev.doC
  split
  · exact h
  · split
    · exact h
    · refine ⟨⟨?_, ?_⟩, h.2⟩
      · have := h.1; simp only; omega
      · simp only; omega
theorem doC_log (c : CurS) (a : Acc) : (doC c a).1.log = c.log := by unfold doC; split; rfl; split <;> rfl
theorem inR0 : inR 0 := by unfold inR; omega
theorem doC_in {c : CurS} (h : ∀ r ∈ c.log, inR r.val) (h0 : 0 ≤ c.pos) (a : Acc) : inR (doC c a).2.val := by
  unfold doC
  split
  · exact inR0
  · split
    · exact inR0
    · rename_i h1
      have hlt : c.pos.toNat < c.log.length := by omega
      simp only [List.getD_eq_getElem?_getD, List.getElem?_eq_getElem hlt, Option.getD_some]
      exact h _ (List.getElem_mem hlt)

def h116 : List AV → List (List AV) → Option (Prop × Out × List (List AV))
  | [.ptr 1000 0, .agg [.int .i64 ak, .int .i64 ac, .int .i64 ao, .int .i64 an, .str ab]], [[.sl .res L, .int .i64 at', .int .i64 qk, .int .i64 qc, .int .i64 qo, .int .i64 qn, .str qb, .bool stop]] =>
    some (okC ⟨L, at', ⟨qk, qc, qo, qn, qb⟩, stop⟩, .ret (.agg [.int .i64 (doC ⟨L, at', ⟨qk, qc, qo, qn, qb⟩, stop⟩ ⟨ak, ac, ao, an, ab⟩).2.val, .bool (doC ⟨L, at', ⟨qk, qc, qo, qn, qb⟩, stop⟩ ⟨ak, ac, ao, an, ab⟩).2.ok]), [curV (doC ⟨L, at', ⟨qk, qc, qo, qn, qb⟩, stop⟩ ⟨ak, ac, ao, an, ab⟩).1])
  | _, _ => none
theorem w116 : EnvOK Try.prog ⟨tys, (116, .full h116) :: sp115⟩ := by
  refine addFull w115 (fn := Try.f116) (by kernel_rfl) (by kernel_rfl) (by kernel_rfl) ?_
  intro args bs Q h
  unfold detS h116 at h
  split at h
  · rename_i p out bs' hs
    split at hs
    · rename_i ak ac ao an ab L at' qk qc qo qn qb stop
      simp only [Option.some.injEq, Prod.mk.injEq] at hs
      obtain ⟨rfl, rfl, rfl⟩ := hs
      obtain ⟨⟨⟨h0, h1⟩, h2⟩, hQ⟩ := h
      dsimp only at h0 h1 h2
      conv => whnf
      cases stop with
      | true =>
        conv => whnf
        exact hQ
      | false =>
        conv => whnf
        refine DrawVC.quiet (by kernel_rfl) ?_
        conv => whnf
        split
        · rename_i hge
          have hge : at' ≥ L.length := by simpa using hge
          conv => whnf
          simp only [doC, hge, if_true, Bool.false_eq_true, if_false] at hQ
          exact hQ
        · rename_i hge
          have hge : ¬ at' ≥ L.length := by simpa using hge
          conv => whnf
          apply DrawVC.mix
          conv => whnf
          have hw1 : IntKind.i64.wrap (at' + 1) = at' + 1 := wrap_small (by omega) (by omega)
          have hw2 : IntKind.i64.wrap (IntKind.i64.wrap (at' + 1) - 1) = at' := by rw [hw1, wrap_small (by omega) (by omega)]; omega
          refine ⟨by rw [hw2]; omega, ?_⟩
          conv => whnf
          refine ⟨by kernel_rfl, ?_⟩
          conv => whnf
          simp only [doC, hge, if_false, Bool.false_eq_true] at hQ
          rw [hw2, hw1]
          exact hQ
    · simp at hs
  · exact h.elim
abbrev sp116 : List (Nat × Spec) := (116, .full h116) :: sp115

def h108 : List AV → List (List AV) → Option (Prop × Out × List (List AV))
  | [.ptr 1000 0, .int .i64 cell], [[.sl .res L, .int .i64 at', .int .i64 qk, .int .i64 qc, .int .i64 qo, .int .i64 qn, .str qb, .bool stop]] =>
    some (okC ⟨L, at', ⟨qk, qc, qo, qn, qb⟩, stop⟩, .ret (.int .i64 (doC ⟨L, at', ⟨qk, qc, qo, qn, qb⟩, stop⟩ ⟨1, cell, 0, 0, ⟨#[]⟩⟩).2.val), [curV (doC ⟨L, at', ⟨qk, qc, qo, qn, qb⟩, stop⟩ ⟨1, cell, 0, 0, ⟨#[]⟩⟩).1])
  | _, _ => none
theorem w108 : EnvOK Try.prog ⟨tys, (108, .full h108) :: sp116⟩ := by
  refine addFull w116 (fn := Try.f108) (by kernel_rfl) (by kernel_rfl) (by kernel_rfl) ?_
  intro args bs Q h
  unfold detS h108 at h
  split at h
  · rename_i p out bs' hs
    split at hs
    · rename_i cell L at' qk qc qo qn qb stop
      simp only [Option.some.injEq, Prod.mk.injEq] at hs
      obtain ⟨rfl, rfl, rfl⟩ := hs
      obtain ⟨hok, hQ⟩ := h
      conv => whnf
      refine ⟨hok, ?_⟩
      conv => whnf
      exact hQ
    · simp at hs
  · exact h.elim
abbrev sp108 : List (Nat × Spec) := (108, .full h108) :: sp116

def h111 : List AV → List (List AV) → Option (Prop × Out × List (List AV))
  | [.ptr 1000 0, .int .i64 cell, .int .i64 old, .int .i64 new], [[.sl .res L, .int .i64 at', .int .i64 qk, .int .i64 qc, .int .i64 qo, .int .i64 qn, .str qb, .bool stop]] =>
    some (okC ⟨L, at', ⟨qk, qc, qo, qn, qb⟩, stop⟩, .ret (.bool (doC ⟨L, at', ⟨qk, qc, qo, qn, qb⟩, stop⟩ ⟨3, cell, old, new, ⟨#[]⟩⟩).2.ok), [curV (doC ⟨L, at', ⟨qk, qc, qo, qn, qb⟩, stop⟩ ⟨3, cell, old, new, ⟨#[]⟩⟩).1])
  | _, _ => none
theorem w111 : EnvOK Try.prog ⟨tys, (111, .full h111) :: sp108⟩ := by
  refine addFull w108 (fn := Try.f111) (by kernel_rfl) (by kernel_rfl) (by kernel_rfl) ?_
  intro args bs Q h
  unfold detS h111 at h
  split at h
  · rename_i p out bs' hs
    split at hs
    · rename_i cell old new L at' qk qc qo qn qb stop
      simp only [Option.some.injEq, Prod.mk.injEq] at hs
      obtain ⟨rfl, rfl, rfl⟩ := hs
      obtain ⟨hok, hQ⟩ := h
      conv => whnf
      refine ⟨hok, ?_⟩
      conv => whnf
      exact hQ
    · simp at hs
  · exact h.elim
abbrev sp111 : List (Nat × Spec) := (111, .full h111) :: sp108

def h114 : List AV → List (List AV) → Option (Prop × Out × List (List AV))
  | [.ptr 1000 0, .int .i64 cell, .int .i64 n], [[.sl .res L, .int .i64 at', .int .i64 qk, .int .i64 qc, .int .i64 qo, .int .i64 qn, .str qb, .bool stop]] =>
    some (okC ⟨L, at', ⟨qk, qc, qo, qn, qb⟩, stop⟩, .ret (.tup []), [curV (doC ⟨L, at', ⟨qk, qc, qo, qn, qb⟩, stop⟩ ⟨2, cell, 0, n, ⟨#[]⟩⟩).1])
  | _, _ => none
theorem w114 : EnvOK Try.prog ⟨tys, (114, .full h114) :: sp111⟩ := by
  refine addFull w111 (fn := Try.f114) (by kernel_rfl) (by kernel_rfl) (by kernel_rfl) ?_
  intro args bs Q h
  unfold detS h114 at h
  split at h
  · rename_i p out bs' hs
    split at hs
    · rename_i cell n L at' qk qc qo qn qb stop
      simp only [Option.some.injEq, Prod.mk.injEq] at hs
      obtain ⟨rfl, rfl, rfl⟩ := hs
      obtain ⟨hok, hQ⟩ := h
      conv => whnf
      refine ⟨hok, ?_⟩
      conv => whnf
      exact hQ
    · simp at hs
  · exact h.elim
abbrev sp114 : List (Nat × Spec) := (114, .full h114) :: sp111


def a0 : Acc := ⟨0, 0, 0, 0, ⟨#[]⟩⟩
def toldA (c : CurS) : Acc := if c.stop = true then c.ask else a0
def toldI (c : CurS) (x : Int) : Int := if c.stop = true then 0 else x
def toldB (c : CurS) (x : Bool) : Bool := if c.stop = true then false else x
def h94 : List AV → List (List AV) → Option (Prop × Out × List (List AV))
  | [.ptr 1000 0, .agg [.int .i64 v, .int .i64 w, .int .i64 x, .int .i64 y, .bool is, .bool lost, .int .i64 err]], [[.sl .res L, .int .i64 at', .int .i64 qk, .int .i64 qc, .int .i64 qo, .int .i64 qn, .str qb, .bool stop]] =>
    some (True, .ret (.tup [.agg (accV (toldA ⟨L, at', ⟨qk, qc, qo, qn, qb⟩, stop⟩)), .agg [.int .i64 (toldI ⟨L, at', ⟨qk, qc, qo, qn, qb⟩, stop⟩ v), .int .i64 (toldI ⟨L, at', ⟨qk, qc, qo, qn, qb⟩, stop⟩ w), .int .i64 (toldI ⟨L, at', ⟨qk, qc, qo, qn, qb⟩, stop⟩ x), .int .i64 (toldI ⟨L, at', ⟨qk, qc, qo, qn, qb⟩, stop⟩ y), .bool (toldB ⟨L, at', ⟨qk, qc, qo, qn, qb⟩, stop⟩ is), .bool (toldB ⟨L, at', ⟨qk, qc, qo, qn, qb⟩, stop⟩ lost), .int .i64 (toldI ⟨L, at', ⟨qk, qc, qo, qn, qb⟩, stop⟩ err)], .bool (!stop)]), [curV ⟨L, at', ⟨qk, qc, qo, qn, qb⟩, stop⟩])
  | _, _ => none
theorem w94 : EnvOK Try.prog ⟨tys, (94, .full h94) :: sp114⟩ := by
  refine addFull w114 (fn := Try.f94) (by kernel_rfl) (by kernel_rfl) (by kernel_rfl) ?_
  intro args bs Q h
  unfold detS h94 at h
  split at h
  · rename_i p out bs' hs
    split at hs
    · rename_i v w x y is lost err L at' qk qc qo qn qb stop
      simp only [Option.some.injEq, Prod.mk.injEq] at hs
      obtain ⟨rfl, rfl, rfl⟩ := hs
      obtain ⟨_, hQ⟩ := h
      conv => whnf
      cases stop with
      | true =>
        conv => whnf
        exact hQ
      | false =>
        conv => whnf
        apply DrawVC.mix
        conv => whnf
        refine ⟨by kernel_rfl, ?_⟩
        conv => whnf
        exact hQ
    · simp at hs
  · exact h.elim
abbrev sp94 : List (Nat × Spec) := (94, .full h94) :: sp114

end Go.Proofs.Ythakgbecpkfeoaa.Ev

/- Layer 16: the reference's lock operations. -/
set_option linter.unusedVariables false
set_option linter.unusedSimpArgs false
set_option maxRecDepth 100000
namespace Go.Proofs.Ythakgbecpkfeoaa.Ev

def accL (c : Int) : Acc := ⟨1, c, 0, 0, ⟨#[]⟩⟩
def accS (c n : Int) : Acc := ⟨2, c, 0, n, ⟨#[]⟩⟩
def accC (c x n : Int) : Acc := ⟨3, c, x, n, ⟨#[]⟩⟩
/-- A cursor that is all right, over results that are numbers. -/
def fineC (c : CurS) : Prop := okC c ∧ ∀ r ∈ c.log, inR r.val
theorem fineC.doC {c : CurS} (h : fineC c) (a : Acc) : fineC (doC c a).1 ∧ inR (doC c a).2.val :=
  ⟨⟨h.1.doC a, by rw [doC_log]; exact h.2⟩, doC_in h.2 h.1.1.1 a⟩

def tkX (w : Int) (p : CurS × Res) : CurS × Int × Int × Bool := if p.2.ok = true then (p.1, w / 2, -1, true) else (p.1, 0, -1, false)
def tkW (wd me : Int) (p : CurS × Res) : CurS × Int × Int × Bool :=
  if lockedW p.2.val = true then (p.1, 0, p.2.val / 2, false) else tkX p.2.val (doC p.1 (accC wd p.2.val (2 * me + 1)))
def tkC (c : CurS) (wd me : Int) : CurS × Int × Int × Bool := tkW wd me (doC c (accL wd))
def h90 : List AV → List (List AV) → Option (Prop × Out × List (List AV))
  | [.ptr 1000 0, .agg [.int .i64 t, .int .i64 l, .int .i64 k, .int .i64 s, .int .i64 m, .int .i64 c, .int .i64 st, .int .i64 lg, .int .i64 en, .int .i64 th, .int .i64 lk, .int .i64 lo, .int .i64 sz], .int .i64 me, .int .i64 loc], [[.sl .res L, .int .i64 at', .int .i64 qk, .int .i64 qc, .int .i64 qo, .int .i64 qn, .str qb, .bool stop]] =>
    some (fineC ⟨L, at', ⟨qk, qc, qo, qn, qb⟩, stop⟩ ∧ 0 ≤ me ∧ me ≤ 2, .ret (.tup [.int .i64 (tkC ⟨L, at', ⟨qk, qc, qo, qn, qb⟩, stop⟩ (cellA lo l loc 4 0) me).2.1, .int .i64 (tkC ⟨L, at', ⟨qk, qc, qo, qn, qb⟩, stop⟩ (cellA lo l loc 4 0) me).2.2.1, .bool (tkC ⟨L, at', ⟨qk, qc, qo, qn, qb⟩, stop⟩ (cellA lo l loc 4 0) me).2.2.2]), [curV (tkC ⟨L, at', ⟨qk, qc, qo, qn, qb⟩, stop⟩ (cellA lo l loc 4 0) me).1])
  | _, _ => none
theorem w90 : EnvOK Try.prog ⟨tys, (90, .full h90) :: sp94⟩ := by
  refine addFull w94 (fn := Try.f90) (by kernel_rfl) (by kernel_rfl) (by kernel_rfl) ?_
  intro args bs Q h
  unfold detS h90 at h
  split at h
  · rename_i p out bs' hs
    split at hs
    · rename_i t l k s m c st lg en th lk lo sz me loc L at' qk qc qo qn qb stop
      simp only [Option.some.injEq, Prod.mk.injEq] at hs
      obtain ⟨rfl, rfl, rfl⟩ := hs
      obtain ⟨⟨hok, hme⟩, hQ⟩ := h
      conv => whnf
      refine ⟨trivial, ?_⟩
      conv => whnf
      refine ⟨hok.1, ?_⟩
      conv => whnf
      refine ⟨trivial, ?_⟩
      conv => whnf
      split
      · rename_i hl
        have hl : lockedW (doC ⟨L, at', ⟨qk, qc, qo, qn, qb⟩, stop⟩ (accL (cellA lo l loc 4 0))).2.val = true := hl
        conv => whnf
        refine ⟨(hok.doC _).2, ?_⟩
        conv => whnf
        simp only [tkC, tkW, hl, if_true] at hQ
        exact hQ
      · rename_i hl
        have hl : lockedW (doC ⟨L, at', ⟨qk, qc, qo, qn, qb⟩, stop⟩ (accL (cellA lo l loc 4 0))).2.val = false := hl
        conv => whnf
        refine ⟨trivial, ?_⟩
        conv => whnf
        refine ⟨hme, ?_⟩
        conv => whnf
        refine ⟨(hok.doC _).1.1, ?_⟩
        conv => whnf
        split
        · rename_i h2
          have h2 : (!(doC (doC ⟨L, at', ⟨qk, qc, qo, qn, qb⟩, stop⟩ (accL (cellA lo l loc 4 0))).1 (accC (cellA lo l loc 4 0) (doC ⟨L, at', ⟨qk, qc, qo, qn, qb⟩, stop⟩ (accL (cellA lo l loc 4 0))).2.val (2 * me + 1))).2.ok) = true := h2
          rw [Bool.not_eq_true'] at h2
          conv => whnf
          simp only [tkC, tkW, hl, tkX, h2, Bool.false_eq_true, if_false] at hQ
          exact hQ
        · rename_i h2
          have h2 : (!(doC (doC ⟨L, at', ⟨qk, qc, qo, qn, qb⟩, stop⟩ (accL (cellA lo l loc 4 0))).1 (accC (cellA lo l loc 4 0) (doC ⟨L, at', ⟨qk, qc, qo, qn, qb⟩, stop⟩ (accL (cellA lo l loc 4 0))).2.val (2 * me + 1))).2.ok) = false := h2
          rw [Bool.not_eq_false'] at h2
          conv => whnf
          refine ⟨(hok.doC _).2, ?_⟩
          conv => whnf
          simp only [tkC, tkW, hl, tkX, h2, Bool.false_eq_true, if_false, if_true] at hQ
          exact hQ
    · simp at hs
  · exact h.elim

abbrev sp90 : List (Nat × Spec) := (90, .full h90) :: sp94
def gvC (c : CurS) (wd ver : Int) : CurS := (doC c (accS wd (IntKind.i64.wrap (2 * ver)))).1
def h91 : List AV → List (List AV) → Option (Prop × Out × List (List AV))
  | [.ptr 1000 0, .agg [.int .i64 t, .int .i64 l, .int .i64 k, .int .i64 s, .int .i64 m, .int .i64 c, .int .i64 st, .int .i64 lg, .int .i64 en, .int .i64 th, .int .i64 lk, .int .i64 lo, .int .i64 sz], .int .i64 loc, .int .i64 ver], [[.sl .res L, .int .i64 at', .int .i64 qk, .int .i64 qc, .int .i64 qo, .int .i64 qn, .str qb, .bool stop]] =>
    some (fineC ⟨L, at', ⟨qk, qc, qo, qn, qb⟩, stop⟩, .ret (.tup []), [curV (gvC ⟨L, at', ⟨qk, qc, qo, qn, qb⟩, stop⟩ (cellA lo l loc 4 0) ver)])
  | _, _ => none
theorem w91 : EnvOK Try.prog ⟨tys, (91, .full h91) :: sp90⟩ := by
  refine addFull w90 (fn := Try.f91) (by kernel_rfl) (by kernel_rfl) (by kernel_rfl) ?_
  intro args bs Q h
  unfold detS h91 at h
  split at h
  · rename_i p out bs' hs
    split at hs
    · rename_i t l k s m c st lg en th lk lo sz loc ver L at' qk qc qo qn qb stop
      simp only [Option.some.injEq, Prod.mk.injEq] at hs
      obtain ⟨rfl, rfl, rfl⟩ := hs
      obtain ⟨hok, hQ⟩ := h
      conv => whnf
      refine ⟨trivial, ?_⟩
      conv => whnf
      refine ⟨trivial, ?_⟩
      conv => whnf
      refine ⟨hok.1, ?_⟩
      conv => whnf
      exact hQ
    · simp at hs
  · exact h.elim
abbrev sp91 : List (Nat × Spec) := (91, .full h91) :: sp90

def lkC (c : CurS) (wd ver : Int) : CurS × Int × Bool :=
  if (doC c (accL wd)).2.val == IntKind.i64.wrap (2 * ver) then ((doC c (accL wd)).1, -1, true) else if lockedW (doC c (accL wd)).2.val then ((doC c (accL wd)).1, (doC c (accL wd)).2.val / 2, false) else ((doC c (accL wd)).1, -1, false)
def h92 : List AV → List (List AV) → Option (Prop × Out × List (List AV))
  | [.ptr 1000 0, .agg [.int .i64 t, .int .i64 l, .int .i64 k, .int .i64 s, .int .i64 m, .int .i64 c, .int .i64 st, .int .i64 lg, .int .i64 en, .int .i64 th, .int .i64 lk, .int .i64 lo, .int .i64 sz], .int .i64 loc, .int .i64 ver], [[.sl .res L, .int .i64 at', .int .i64 qk, .int .i64 qc, .int .i64 qo, .int .i64 qn, .str qb, .bool stop]] =>
    some (fineC ⟨L, at', ⟨qk, qc, qo, qn, qb⟩, stop⟩, .ret (.tup [.int .i64 (lkC ⟨L, at', ⟨qk, qc, qo, qn, qb⟩, stop⟩ (cellA lo l loc 4 0) ver).2.1, .bool (lkC ⟨L, at', ⟨qk, qc, qo, qn, qb⟩, stop⟩ (cellA lo l loc 4 0) ver).2.2]), [curV ((lkC ⟨L, at', ⟨qk, qc, qo, qn, qb⟩, stop⟩ (cellA lo l loc 4 0) ver).1)])
  | _, _ => none
theorem w92 : EnvOK Try.prog ⟨tys, (92, .full h92) :: sp91⟩ := by
  refine addFull w91 (fn := Try.f92) (by kernel_rfl) (by kernel_rfl) (by kernel_rfl) ?_
  intro args bs Q h
  unfold detS h92 at h
  split at h
  · rename_i p out bs' hs
    split at hs
    · rename_i t l k s m c st lg en th lk lo sz loc ver L at' qk qc qo qn qb stop
      simp only [Option.some.injEq, Prod.mk.injEq] at hs
      obtain ⟨rfl, rfl, rfl⟩ := hs
      obtain ⟨hok, hQ⟩ := h
      conv => whnf
      refine ⟨trivial, ?_⟩
      conv => whnf
      refine ⟨hok.1, ?_⟩
      conv => whnf
      refine ⟨trivial, ?_⟩
      conv => whnf
      split
      · rename_i he
        have he : ((doC ⟨L, at', ⟨qk, qc, qo, qn, qb⟩, stop⟩ (accL (cellA lo l loc 4 0))).2.val == IntKind.i64.wrap (2 * ver)) = true := he
        conv => whnf
        simp only [lkC, he, if_true] at hQ
        exact hQ
      · rename_i he
        have he : ((doC ⟨L, at', ⟨qk, qc, qo, qn, qb⟩, stop⟩ (accL (cellA lo l loc 4 0))).2.val == IntKind.i64.wrap (2 * ver)) = false := he
        conv => whnf
        refine ⟨trivial, ?_⟩
        conv => whnf
        split
        · rename_i hl
          have hl : lockedW (doC ⟨L, at', ⟨qk, qc, qo, qn, qb⟩, stop⟩ (accL (cellA lo l loc 4 0))).2.val = true := hl
          conv => whnf
          refine ⟨(hok.doC _).2, ?_⟩
          conv => whnf
          simp only [lkC, he, hl, Bool.false_eq_true, if_false, if_true] at hQ
          exact hQ
        · rename_i hl
          have hl : lockedW (doC ⟨L, at', ⟨qk, qc, qo, qn, qb⟩, stop⟩ (accL (cellA lo l loc 4 0))).2.val = false := hl
          conv => whnf
          simp only [lkC, he, hl, Bool.false_eq_true, if_false] at hQ
          exact hQ
    · simp at hs
  · exact h.elim
abbrev sp92 : List (Nat × Spec) := (92, .full h92) :: sp91

def rdD (w : Int) (v : Int) (p : CurS × Res) : CurS × Int × Int × Int × Bool := if (p.2.val != w) = true then (p.1, 0, 0, -1, false) else (p.1, v, w / 2, -1, true)
def rdX (wd vl : Int) (p : CurS × Res) : CurS × Int × Int × Int × Bool :=
  if lockedW p.2.val = true then (p.1, 0, 0, p.2.val / 2, false) else rdD p.2.val (doC p.1 (accL vl)).2.val (doC (doC p.1 (accL vl)).1 (accL wd))
def rdC (c : CurS) (wd vl : Int) : CurS × Int × Int × Int × Bool := rdX wd vl (doC c (accL wd))
def h93 : List AV → List (List AV) → Option (Prop × Out × List (List AV))
  | [.ptr 1000 0, .agg [.int .i64 t, .int .i64 l, .int .i64 k, .int .i64 s, .int .i64 m, .int .i64 c, .int .i64 st, .int .i64 lg, .int .i64 en, .int .i64 th, .int .i64 lk, .int .i64 lo, .int .i64 sz], .int .i64 loc], [[.sl .res L, .int .i64 at', .int .i64 qk, .int .i64 qc, .int .i64 qo, .int .i64 qn, .str qb, .bool stop]] =>
    some (fineC ⟨L, at', ⟨qk, qc, qo, qn, qb⟩, stop⟩, .ret (.tup [.int .i64 (rdC ⟨L, at', ⟨qk, qc, qo, qn, qb⟩, stop⟩ (cellA lo l loc 4 0) (cellA lo l loc 4 1)).2.1, .int .i64 (rdC ⟨L, at', ⟨qk, qc, qo, qn, qb⟩, stop⟩ (cellA lo l loc 4 0) (cellA lo l loc 4 1)).2.2.1, .int .i64 (rdC ⟨L, at', ⟨qk, qc, qo, qn, qb⟩, stop⟩ (cellA lo l loc 4 0) (cellA lo l loc 4 1)).2.2.2.1, .bool (rdC ⟨L, at', ⟨qk, qc, qo, qn, qb⟩, stop⟩ (cellA lo l loc 4 0) (cellA lo l loc 4 1)).2.2.2.2]), [curV ((rdC ⟨L, at', ⟨qk, qc, qo, qn, qb⟩, stop⟩ (cellA lo l loc 4 0) (cellA lo l loc 4 1)).1)])
  | _, _ => none
theorem w93 : EnvOK Try.prog ⟨tys, (93, .full h93) :: sp92⟩ := by
  refine addFull w92 (fn := Try.f93) (by kernel_rfl) (by kernel_rfl) (by kernel_rfl) ?_
  intro args bs Q h
  unfold detS h93 at h
  split at h
  · rename_i p out bs' hs
    split at hs
    · rename_i t l k s m c st lg en th lk lo sz loc L at' qk qc qo qn qb stop
      simp only [Option.some.injEq, Prod.mk.injEq] at hs
      obtain ⟨rfl, rfl, rfl⟩ := hs
      obtain ⟨hok, hQ⟩ := h
      conv => whnf
      refine ⟨trivial, ?_⟩
      conv => whnf
      refine ⟨hok.1, ?_⟩
      conv => whnf
      refine ⟨trivial, ?_⟩
      conv => whnf
      split
      · rename_i hl
        have hl : lockedW (doC ⟨L, at', ⟨qk, qc, qo, qn, qb⟩, stop⟩ (accL (cellA lo l loc 4 0))).2.val = true := hl
        conv => whnf
        refine ⟨(hok.doC _).2, ?_⟩
        conv => whnf
        simp only [rdC, rdX, hl, if_true] at hQ
        exact hQ
      · rename_i hl
        have hl : lockedW (doC ⟨L, at', ⟨qk, qc, qo, qn, qb⟩, stop⟩ (accL (cellA lo l loc 4 0))).2.val = false := hl
        conv => whnf
        refine ⟨trivial, ?_⟩
        conv => whnf
        refine ⟨(hok.doC _).1.1, ?_⟩
        conv => whnf
        refine ⟨trivial, ?_⟩
        conv => whnf
        refine ⟨((hok.doC _).1.doC _).1.1, ?_⟩
        conv => whnf
        split
        · rename_i h2
          have h2 : ((doC (doC (doC ⟨L, at', ⟨qk, qc, qo, qn, qb⟩, stop⟩ (accL (cellA lo l loc 4 0))).1 (accL (cellA lo l loc 4 1))).1 (accL (cellA lo l loc 4 0))).2.val != (doC ⟨L, at', ⟨qk, qc, qo, qn, qb⟩, stop⟩ (accL (cellA lo l loc 4 0))).2.val) = true := h2
          conv => whnf
          simp only [rdC, rdX, rdD, hl, h2, Bool.false_eq_true, if_false, if_true] at hQ
          exact hQ
        · rename_i h2
          have h2 : ((doC (doC (doC ⟨L, at', ⟨qk, qc, qo, qn, qb⟩, stop⟩ (accL (cellA lo l loc 4 0))).1 (accL (cellA lo l loc 4 1))).1 (accL (cellA lo l loc 4 0))).2.val != (doC ⟨L, at', ⟨qk, qc, qo, qn, qb⟩, stop⟩ (accL (cellA lo l loc 4 0))).2.val) = false := h2
          conv => whnf
          refine ⟨(hok.doC _).2, ?_⟩
          conv => whnf
          simp only [rdC, rdX, rdD, hl, h2, Bool.false_eq_true, if_false] at hQ
          exact hQ
    · simp at hs
  · exact h.elim
abbrev sp93 : List (Nat × Spec) := (93, .full h93) :: sp92


end Go.Proofs.Ythakgbecpkfeoaa.Ev
