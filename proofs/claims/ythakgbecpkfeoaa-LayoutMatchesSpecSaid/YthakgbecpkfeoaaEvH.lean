/- Parts of slices, lengths, calls; the operations that change no object, all together. -/
import Derived.Test.YthakgbecpkfeoaaEvG
set_option linter.unusedVariables false
set_option linter.unusedSimpArgs false
namespace Go.Proofs.Ythakgbecpkfeoaa.Ev

section ops
variable {P : Program} {E : Env} {X : XR} {w0 : World} {β : Nat → Option Value} {S : Nat → Prop} {tm : List AV} {hp : Hp} {a : Act} {w : World}
variable {o : Oper} {K : Act → World → Prop} {Q : Exit → Act → World → Prop} {k : AV → Prop}

/-- A slice's content, read where it lies. -/
theorem listF_of (hI : Inv X w0 β S tm hp a w) {v : AV} {u : Value} (hr : RelV β S w v u) {k : (τ : ET) → List τ.T → Prop} (h : listF hp v k) :
    ∃ τ xs, k τ xs ∧ ∃ A c, u = .slice A xs.length c ∧ xs.length ≤ c ∧ xs.length ≤ maxI ∧ Reads (fun b => b < w.heap.size) w A (cellsOf τ xs) ∧ (isOwn v = false → Reads S w A (cellsOf τ xs)) := by
  unfold listF at h
  split at h
  · rename_i τ xs
    obtain ⟨A, c, h1, h2, h3, h4⟩ := hr
    exact ⟨τ, xs, h, A, c, h1, h2, h3, h4.mono (fun b hb => hI.sb b hb) (fun _ _ => rfl), fun _ => h4⟩
  · rename_i τ xs
    obtain ⟨g, h1, h2, h3, h4⟩ := hr
    have hrd : Reads S w (some ⟨g, 0, none⟩) (cellsOf τ xs) := fun _ => ⟨_, rfl, h2, fun j u hj => by
      rw [add_zero']
      simp only [World.cell?, h3, Option.isSome_none, Bool.false_eq_true, if_false]
      simpa using hj⟩
    exact ⟨τ, xs, h, _, _, h1, Nat.le_refl _, h4, hrd.mono (fun b hb => hI.sb b hb) (fun _ _ => rfl), fun _ => hrd⟩
  · rename_i p
    obtain ⟨ao, hao, h⟩ := hget_of h
    split at h
    · rename_i τ xs
      obtain ⟨hb, _⟩ := hr
      obtain ⟨v, h4, h5⟩ := hI.arr p τ xs hao
      rw [hb] at h4
      obtain rfl : u = v := by simpa using h4
      obtain ⟨A, c, h1, h2, h3, h4⟩ := own_sl (β' := β) h5 (S' := fun b => b < w.heap.size) (fun b h => hI.sb b h) (fun b h => blk_lt hI hb h)
      exact ⟨τ, xs, h, A, c, h1, h2, h3, h4, fun hf => by simp [isOwn] at hf⟩
    · exact h.elim
  · exact h.elim

theorem len_run {T : Nat} {e : Nat} (hu : P.underlying T = some (.slice e)) {A : Option Addr} {n c : Nat} {ty : Nat} : (Builtin.len_ #[T] ty #[.slice A n c]).run P w = .ok (.int .i64 n) w := by
  simp [Builtin.len_, run_underlying hu, goInt]

theorem exec_builtin {c : Call} {b : Builtin} (hop : o.op = .call c) (hc : c.callee = .builtin b) {v : Value}
    (h : ∀ cs, (builtin b c.argTypes o.type cs (c.args.map a.eval)).run P w = .ok (.value v) w) : (execOp a.eval o).run P w = .ok (.value v) w := by
  simp [execOp, hop, resolve, hc, invoke, h]

theorem pop_len (hE : EnvOK P E) {c : Call} (hop : o.op = .call c) (hc : c.callee = .builtin .len) (hI : Inv X w0 β S tm hp a w) (hK : Serves X w0 β S tm hp a o k K) (h : pop E o.op tm hp k) : o.wp P a w K Q := by
  rw [hop] at h
  simp only [pop, hc] at h
  split at h
  · rename_i x T hx hT
    have e1 : c.args = #[x] := by simpa using congrArg List.toArray hx
    have e2 : c.argTypes = #[T] := by simpa using congrArg List.toArray hT
    have hxv := hI.eval x
    split at h
    · rename_i hv
      obtain ⟨ti, hti, h⟩ := tiGet_of h
      split at h
      · rename_i τ hτ
        obtain ⟨j, z, h1, _⟩ := tiOf_elem (hE.ty _ _ hti) (τ := τ) (by simpa using hτ)
        rw [hv] at hxv
        simp only [RelV] at hxv
        refine pop_plain hI hK h (u := .int .i64 0) rfl (exec_builtin hop hc fun cs => ?_)
        simp only [builtin, Sem.run_bind, e1, e2, List.map_toArray, List.map_cons, List.map_nil, hxv, len_run h1, Result.andThen_ok, Sem.run_pure]
        rfl
      · exact h.elim
    · rename_i v hne
      obtain ⟨ti, hti, h⟩ := tiGet_of h
      obtain ⟨τ, xs, h, A, c', hu, _⟩ := listF_of hI hxv h
      split at h
      · rename_i hhas
        obtain ⟨j, z, h1, _⟩ := tiOf_elem (hE.ty _ _ hti) (τ := τ) (by simpa using has_of hhas)
        refine pop_plain hI hK h (u := .int .i64 xs.length) rfl (exec_builtin hop hc fun cs => ?_)
        simp only [builtin, Sem.run_bind, e1, e2, List.map_toArray, List.map_cons, List.map_nil, hu, len_run h1, Result.andThen_ok, Sem.run_pure]
      · exact h.elim
  · exact h.elim

theorem pop_minmax {c : Call} {b : Builtin} (hb : b = .min ∨ b = .max) (hop : o.op = .call c) (hc : c.callee = .builtin b) (hI : Inv X w0 β S tm hp a w) (hK : Serves X w0 β S tm hp a o k K) (h : pop E o.op tm hp k) : o.wp P a w K Q := by
  rw [hop] at h
  rcases hb with rfl | rfl
  · simp only [pop, hc] at h
    split at h
    · rename_i x y hx
      have e1 : c.args = #[x, y] := by simpa using congrArg List.toArray hx
      split at h
      · rename_i m n hm hn
        refine pop_plain hI hK h (u := .int .i64 (if n < m then n else m)) rfl (exec_builtin hop hc fun cs => ?_)
        simp [builtin, e1, int_of hI hm, int_of hI hn, Builtin.min_, Builtin.min2]
      · exact h.elim
    · exact h.elim
  · simp only [pop, hc] at h
    split at h
    · rename_i x y hx
      have e1 : c.args = #[x, y] := by simpa using congrArg List.toArray hx
      split at h
      · rename_i m n hm hn
        refine pop_plain hI hK h (u := .int .i64 (if n > m then n else m)) rfl (exec_builtin hop hc fun cs => ?_)
        simp [builtin, e1, int_of hI hm, int_of hI hn, Builtin.max_, Builtin.max2]
      · exact h.elim
    · exact h.elim

theorem cellsOf_take (τ : ET) (xs : List τ.T) (n : Nat) : cellsOf τ (xs.take n) = (cellsOf τ xs).take (n * τ.size) := by
  induction xs generalizing n with
  | nil => simp [cellsOf]
  | cons x xs ih =>
    cases n with
    | zero => simp [cellsOf]
    | succ n =>
      rw [List.take_succ_cons, cellsOf_cons, cellsOf_cons, ih, Nat.succ_mul, Nat.add_comm, List.take_append]
      simp [enc_length]
      exact (List.take_of_length_le (by simp [enc_length])).symm
theorem cellsOf_drop (τ : ET) (xs : List τ.T) (n : Nat) : cellsOf τ (xs.drop n) = (cellsOf τ xs).drop (n * τ.size) := by
  induction xs generalizing n with
  | nil => simp [cellsOf]
  | cons x xs ih =>
    cases n with
    | zero => simp
    | succ n =>
      rw [List.drop_succ_cons, cellsOf_cons, ih, Nat.succ_mul, Nat.add_comm, List.drop_append]
      simp [enc_length]

theorem sl_part {A : Option Addr} {τ : ET} {xs : List τ.T} {c l h : Nat} (hr : Reads S w A (cellsOf τ xs)) (hl : xs.length ≤ maxI) (hc : xs.length ≤ c) (h1 : l ≤ h) (h2 : h ≤ xs.length) :
    RelV β S w (.sl τ ((xs.take h).drop l)) (.slice (if c = l then A else A.map (·.add (l * τ.size))) (h - l) (c - l)) := by
  have hlen : ((xs.take h).drop l).length = h - l := by simp; omega
  refine ⟨_, c - l, by rw [hlen], by rw [hlen]; omega, by rw [hlen]; omega, ?_⟩
  intro hne
  have hpos : l < h := by
    have h3 := cellsOf_length τ ((xs.take h).drop l)
    rw [hlen] at h3
    by_cases h4 : l < h
    · exact h4
    · have : h - l = 0 := by omega
      rw [this] at h3
      exact absurd (List.eq_nil_of_length_eq_zero (by simpa using h3)) hne
  have hx : cellsOf τ xs ≠ [] := by
    intro e
    have h3 := cellsOf_length τ xs
    rw [e] at h3
    have := size_pos τ
    have : 0 < xs.length * τ.size := Nat.mul_pos (by omega) this
    simp at h3
    omega
  obtain ⟨b, rfl, hs, hcell⟩ := hr hx
  rw [if_neg (by omega)]
  refine ⟨b.add (l * τ.size), rfl, by rw [add_block]; exact hs, fun j u hj => ?_⟩
  rw [add_add]
  apply hcell
  rw [cellsOf_drop, cellsOf_take, List.getElem?_drop, List.getElem?_take] at hj
  split at hj
  · exact hj
  · simp at hj

theorem pop_slice (hE : EnvOK P E) {T : Nat} {x : Operand} {lo hi mx : Option Operand} (hop : o.op = .slice T x lo hi mx) (hI : Inv X w0 β S tm hp a w) (hK : Serves X w0 β S tm hp a o k K) (h : pop E o.op tm hp k) : o.wp P a w K Q := by
  rw [hop] at h
  simp only [pop] at h
  obtain ⟨ti, hti, h⟩ := tiGet_of h
  obtain ⟨τ, xs, h, A, c, hu, hc, hmax, _, hrd⟩ := listF_of hI (hI.eval x) h
  split at h
  · exact h.elim
  · exact h.elim
  · have hhas : ti.has τ = true := by assumption
    obtain ⟨j, z, h1, h2, h3, h4, _⟩ := tiOf_elem (hE.ty _ _ hti) (τ := τ) (by simpa using has_of hhas)
    have hel : P.elem T = τ.tid := by simp [Program.elem, h1]
    have h1' : P.underlying T = some (.slice (P.elem T)) := by rw [hel]; exact h1
    have hsz : ∀ w, (sizeOf (P.elem T)).run P w = .ok τ.size w := by intro w; rw [hel]; simp [sizeOf, typeInfo, h2, h4]
    split at h
    · rename_i κl l κh r hl hr
      split at h
      · rename_i hown
        obtain ⟨⟨b0, b1, b2⟩, h⟩ := h
        have hcast : (r.toNat : Int) = r := Int.toNat_of_nonneg (by omega)
        refine pop_plain hI hK h (sl_part (hrd hown) hmax hc (l := l.toNat) (h := r.toNat) (by omega) (by omega)) ?_
        have key : (Instr.slice T (.slice A xs.length c) (lo.map a.eval) (hi.map a.eval) none).run P w = .ok (sliced A l.toNat r.toNat c τ.size) w := by
          cases lo with
          | none =>
            obtain rfl : (0 : Int) = l := by simp only [AV.int.injEq] at hl; exact hl.2
            cases hi with
            | none =>
              have hr' : (xs.length : Int) = r := by simp only [AV.int.injEq] at hr; exact hr.2
              have : r.toNat = xs.length := by omega
              rw [this]
              simp only [Option.map_none, run_slice_all w T A xs.length c h1', hsz, Result.andThen_ok]
              rfl
            | some y =>
              simp only at hr
              simp only [Option.map_none, Option.map_some, int_of hI hr, run_slice_h w T A xs.length c h1' κh r (by omega) (by omega), hsz, Result.andThen_ok]
              rfl
          | some x' =>
            simp only at hl
            cases hi with
            | none =>
              have hr' : (xs.length : Int) = r := by simp only [AV.int.injEq] at hr; exact hr.2
              have : r.toNat = xs.length := by omega
              rw [this]
              simp only [Option.map_none, Option.map_some, int_of hI hl, run_slice_l w T A xs.length c h1' κl l b0 (by omega), hsz, Result.andThen_ok]
            | some y =>
              simp only at hr
              simp only [Option.map_some, int_of hI hl, int_of hI hr, run_slice_lh w T A xs.length c h1' κl κh l r b0 b1 (by omega), hsz, Result.andThen_ok]
        simp only [execOp, hop, hu, Sem.run_bind, run_sliceAt_slice w T _ _ _ _ h1', Option.map_none, key, Result.andThen_ok, Sem.run_pure]
        rfl
      · exact h.elim
    · exact h.elim

theorem pop_callv (hE : EnvOK P E) {c : Call} {f : Operand} (hop : o.op = .call c) (hc : c.callee = .value f) (hI : Inv X w0 β S tm hp a w) (hK : Serves X w0 β S tm hp a o k K) (h : pop E o.op tm hp k) : o.wp P a w K Q := by
  rw [hop] at h
  simp only [pop, hc] at h
  have hf := hI.eval f
  have hargs := hI.evals c.args.toList
  split at h
  · rename_i g hv
    rw [hv] at hf
    simp only [RelV] at hf
    obtain ⟨s, hs, h⟩ := spGet_of h
    split at h
    · rename_i hh
      rw [evs_eq] at h
      obtain ⟨ws, h, hws, hrs⟩ := viewsF_of hI hargs h
      split at h
      · exact h.elim
      · rename_i hcalm
        split at h
        · rename_i p r hpr
          obtain ⟨hp', h⟩ := h
          rw [AV.f_eq] at h
          have hcall := fun hr => call_pure hE hI hs (vs := c.args.toList.map (evalV tm)) hws hrs hcalm hpr hp' hr
          have hent := exec_fn hI hop hc hf (hE.pure g hh hs).2
          split at h
          · exact h.elim
          · exact h.elim
          · rename_i hr hno
            refine wp_enter hent (hcall hr) ?_
            rintro e w' ⟨u, rfl, h1, h2, h3, h4, h5, h6, h7⟩
            refine hK r u w' _ h (hI.grow h1 h2 h3 h4 h5) (fun b hb => ⟨Nat.lt_of_lt_of_le (hI.sb b hb) h4, .inl hb⟩) ?_
            cases hown : anyOwn (c.args.toList.map (evalV tm)) with
            | false => exact h6 hown
            | true =>
              cases hpl : plainV r with
              | true => exact plainV_rel hpl h7
              | false => exact (hno hown hpl).elim
        · exact h.elim
    · exact h.elim
  · rename_i g caps hv
    rw [hv] at hf
    obtain ⟨cs, hf, hcs⟩ := hf
    obtain ⟨s, hs, h⟩ := spGet_of h
    split at h
    · rename_i hh
      rw [evs_eq] at h
      obtain ⟨ws, h, hws, hrs⟩ := viewsF_of hI hargs h
      split at h
      · exact h.elim
      · rename_i hcalm
        have hcc : AV.calms caps = true := by rw [calms_append] at hcalm; simp at hcalm; exact hcalm.2
        have hoc := calm_own hcc
        split at h
        · rename_i p r hpr
          obtain ⟨hp', h⟩ := h
          rw [AV.f_eq] at h
          have hcall := fun hr => call_pure hE hI hs (vs := c.args.toList.map (evalV tm) ++ caps) (ws := ws ++ caps) (by rw [anyOwn_append, hoc, Bool.or_false]; intro hno; exact (hws hno).append hcs)
            (hrs.append (RelVs.mono (fun _ _ x => x) (fun b hb => hI.sb b hb) (fun _ _ => rfl) _ _ hcs)) hcalm hpr hp' hr
          have hent := exec_clo hI hop hc hf (hE.pure g hh hs).2
          split at h
          · exact h.elim
          · exact h.elim
          · rename_i hr hno
            refine wp_enter hent (hcall hr) ?_
            rintro e w' ⟨u, rfl, h1, h2, h3, h4, h5, h6, h7⟩
            refine hK r u w' _ h (hI.grow h1 h2 h3 h4 h5) (fun b hb => ⟨Nat.lt_of_lt_of_le (hI.sb b hb) h4, .inl hb⟩) ?_
            cases hown : anyOwn (c.args.toList.map (evalV tm)) with
            | false => exact h6 (by rw [anyOwn_append, hown, hoc]; rfl)
            | true =>
              cases hpl : plainV r with
              | true => exact plainV_rel hpl h7
              | false => exact (hno hown hpl).elim
        · exact h.elim
    · exact h.elim
  · exact h.elim

/-- What the program must say beside the tables: conversions and values put into an interface are of types that it has. -/
structure MoreOK (P : Program) (o : Oper) : Prop where
  conv : ∀ s d x, o.op = .convert s d x → ∃ D, P.underlying s = some D
  ifc : ∀ T x, o.op = .makeInterface T x → P.concrete T = true

/-- EVERY OPERATION THAT CHANGES NO OBJECT IS TOLD RIGHTLY. -/
theorem pop_wp (hE : EnvOK P E) (hM : MoreOK P o) (hI : Inv X w0 β S tm hp a w) (hK : Serves X w0 β S tm hp a o k K) (h : pop E o.op tm hp k) : o.wp P a w K Q := by
  cases hop : o.op with
  | move x => exact pop_move hop hI hK h
  | assign x => exact pop_assign hop hI hK h
  | pick c x y => exact pop_pick hop hI hK h
  | binOp op T x y T' => exact pop_binOp hE hop hI hK h
  | unOp op T x => exact pop_unOp hop hI hK h
  | convert s d x => exact pop_convert hE (hM.conv s d x hop) hop hI hK h
  | extract x i => exact pop_extract hop hI hK h
  | fieldAddr T x i => exact pop_fieldAddr hE hop hI hK h
  | field T x i => exact pop_field hE hop hI hK h
  | load T x => exact pop_load hE hop hI hK h
  | indexAddr T x i => exact pop_indexAddr hE hop hI hK h
  | nilCheck x => exact pop_nilCheck hop hI hK h
  | build T parts => exact pop_build hE hop hI hK h
  | slice T x lo hi mx => exact pop_slice hE hop hI hK h
  | makeFunc fn first caps => exact pop_makeFunc hop hI hK h
  | makeInterface T x => exact pop_makeInterface (fun v w => run_makeInterface w T v (hM.ifc T x hop)) hop hI hK h
  | buildSlice T n parts => exact pop_buildSlice hE hop hI hK h
  | call c =>
    cases hc : c.callee with
    | builtin b =>
      cases b with
      | len => exact pop_len hE hop hc hI hK h
      | min => exact pop_minmax (.inl rfl) hop hc hI hK h
      | max => exact pop_minmax (.inr rfl) hop hc hI hK h
      | _ => rw [hop] at h; simp only [pop, hc] at h
    | value f => exact pop_callv hE hop hc hI hK h
    | invoke r m => rw [hop] at h; simp only [pop, hc] at h
  | _ => rw [hop] at h; exact h.elim

end ops
end Go.Proofs.Ythakgbecpkfeoaa.Ev
