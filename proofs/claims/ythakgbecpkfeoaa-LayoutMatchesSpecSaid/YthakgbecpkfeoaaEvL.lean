/- Arrays that are lengthened and copied: told rightly. -/
import Derived.Test.YthakgbecpkfeoaaEvK
set_option linter.unusedVariables false
set_option linter.unusedSimpArgs false
namespace Go.Proofs.Ythakgbecpkfeoaa.Ev

section ops
variable {P : Program} {E : Env} {X : XR} {w0 : World} {β : Nat → Option Value} {S : Nat → Prop} {tm : List AV} {hp : Hp} {a : Act} {w : World}
variable {ty : Nat} {o : Oper} {K : Act → World → Prop} {Q : Exit → Act → World → Prop} {k : List AV → Hp → Prop} {kp : AV → List AV → Hp → Prop}

theorem bytes_pos (τ : ET) : 0 < τ.bytes := by cases τ <;> decide

/-- What an append leaves: the new array; nothing else has changed but what the old one alone held. -/
def Longer (S : Nat → Prop) (w : World) (B : Nat) (τ : ET) (zs : List τ.T) (old v' : Value) (w' : World) : Prop :=
  w'.os = w.os ∧ w'.tape = w.tape ∧ w'.output = w.output ∧ w.heap.size ≤ w'.heap.size ∧ (∀ b, b < w.heap.size → ¬ (blk old = some b ∧ ¬ S b ∧ B ≤ b) → w'.heap[b]? = w.heap[b]?) ∧
    OwnR S w' B τ zs v' ∧ (∃ A n c, v' = .slice A n c) ∧ ∀ g, blk v' = some g → ¬ S g → (blk old = some g ∨ w.heap.size ≤ g)

theorem own_slice {B : Nat} {τ : ET} {xs : List τ.T} {v : Value} (h : OwnR S w B τ xs v) : ∃ A c, v = .slice A xs.length c := by
  rcases h with ⟨rfl, rfl | ⟨g, rfl, _⟩⟩ | ⟨g, cap, cur, rfl, _⟩ <;> exact ⟨_, _, rfl⟩

/-- Nothing is appended. -/
theorem append_none {T : Nat} {τ : ET} {j : TypeInfo} (h1 : P.underlying T = some (.slice τ.tid)) (h2 : P.info? τ.tid = some j)
    {A A' : Option Addr} {n c c' : Nat} (hle : n ≤ c) : (Builtin.append_ #[T, T] ty #[.slice A n c, .slice A' 0 c']).run P w = .ok (.slice A n c) w := by
  cases A' with
  | none => exact run_append_nothing w T T ty τ.tid j h1 h2 A n c hle _ (Src.ofNil w h1 c')
  | some ad => exact run_append_nothing w T T ty τ.tid j h1 h2 A n c hle _ (Src.ofSlice w h1 ad 0 c' [] (by simp) (by simp) (by simp))

/-- A new row takes all. -/
theorem append_grown {T : Nat} {τ : ET} {j : TypeInfo} {z : Value} (h1 : P.underlying T = some (.slice τ.tid)) (h2 : P.info? τ.tid = some j) (h3 : j.zero = some z) (h4 : j.size = τ.size) (h5 : j.bytes = τ.bytes) (h6 : z.cells.size = τ.size)
    {g cap : Nat} {xs ys : List τ.T} (hcap : cap < xs.length + ys.length) (hold : ∀ j u, (cellsOf τ xs)[j]? = some u → w.cell? ((⟨g, 0, none⟩ : Addr).add j) = some u) {ad : Addr} {c : Nat} (hnew : ∀ j u, (cellsOf τ ys)[j]? = some u → w.cell? (ad.add j) = some u)
    (hbytes : (xs.length + ys.length) * τ.bytes ≤ 140737488355328) (hSb : ∀ b, S b → b < w.heap.size) {B : Nat} (hB : B ≤ w.heap.size) :
    ∃ v' w', (Builtin.append_ #[T, T] ty #[.slice (some ⟨g, 0, none⟩) xs.length cap, .slice (some ad) ys.length c]).run P w = .ok v' w' ∧ Longer S w B τ (xs ++ ys) (.slice (some ⟨g, 0, none⟩) xs.length cap) v' w' := by
  have hle := Nat.le_mul_of_pos_right (xs.length + ys.length) (bytes_pos τ)
  obtain ⟨v', w', hr, ⟨hl, hv⟩, hgr⟩ := run_append_arg_grows (P := P) w T ty τ.tid j z τ.size τ.bytes h1 h2 h3 h4 h5 h6 (size_pos τ) ⟨g, 0, none⟩ xs.length cap (cellsOf τ xs) (cellsOf_length τ xs) hold ad ys.length c (cellsOf τ ys) (cellsOf_length τ ys) hnew hcap (by simp only [maxLen]; omega) hbytes
  refine ⟨v', w', hr, hgr.os, hgr.tape, hgr.output, hgr.size, fun b hb _ => hgr.block b hb (by simp), ?_⟩
  rcases hv with ⟨_, h0⟩ | ⟨g', cap', cur, rfl, hg1, hg2, hg3, hg4, hg5, hg6⟩
  · omega
  · refine ⟨.inr ⟨g', cap', cur, by simp, Nat.le_trans hB hg1, fun hs => by have := hSb _ hs; omega, hg2, by simpa using hg3, hg4, hg5, by rw [cellsOf_append, List.length_append]; exact hg6⟩, ⟨_, _, _, rfl⟩, ?_⟩
    intro g'' h7 _
    simp only [blk, Option.some.injEq] at h7
    exact .inr (by omega)

theorem append_own {T : Nat} {τ : ET} {j : TypeInfo} {z : Value} (h1 : P.underlying T = some (.slice τ.tid)) (h2 : P.info? τ.tid = some j) (h3 : j.zero = some z) (h4 : j.size = τ.size) (h5 : j.bytes = τ.bytes) (h6 : z.cells.size = τ.size)
    {B : Nat} {xs ys : List τ.T} {v : Value} (hown : OwnR S w B τ xs v) {A : Option Addr} {c : Nat} (hy : Reads (fun b => b < w.heap.size) w A (cellsOf τ ys))
    (hbytes : (xs.length + ys.length) * τ.bytes ≤ 140737488355328) (hSb : ∀ b, S b → b < w.heap.size) (hB : B ≤ w.heap.size) :
    ∃ v' w', (Builtin.append_ #[T, T] ty #[v, .slice A ys.length c]).run P w = .ok v' w' ∧ Longer S w B τ (xs ++ ys) v v' w' := by
  have hle := Nat.le_mul_of_pos_right (xs.length + ys.length) (bytes_pos τ)
  by_cases hn : ys = []
  · subst hn
    obtain ⟨A0, c0, hv⟩ := own_slice hown
    have hc0 : xs.length ≤ c0 := by
      rcases hown with ⟨rfl, _⟩ | ⟨g, cap, cur, hv', _, _, _, hcap, _⟩
      · simp
      · rw [hv] at hv'; simp only [Value.slice.injEq] at hv'; omega
    refine ⟨v, w, ?_, rfl, rfl, rfl, Nat.le_refl _, fun _ _ _ => rfl, by simpa using hown, ⟨_, _, _, hv⟩, fun g h _ => .inl h⟩
    rw [hv]
    exact append_none h1 h2 hc0
  · obtain ⟨ad, rfl, _, hnew⟩ := hy (by
      intro e
      have := congrArg List.length e
      rw [cellsOf_length, List.length_nil] at this
      rcases Nat.mul_eq_zero.1 this with h | h
      · exact hn (List.length_eq_zero_iff.1 h)
      · have := size_pos τ; omega)
    have hpos : 0 < ys.length := List.length_pos_iff.2 hn
    have fin : ∀ (w1 : World), True → w1.ownsRow B τ.tid τ.size v xs.length (cellsOf τ xs) → w1 = w → (∀ g, blk v = some g → ¬ S g ∧ B ≤ g) →
        ∃ v' w', (Builtin.append_ #[T, T] ty #[v, .slice (some ad) ys.length c]).run P w = .ok v' w' ∧ Longer S w B τ (xs ++ ys) v v' w' := by
      rintro w1 _ hrow rfl hvS
      have hob : v.ownBlock = blk v := by
        obtain ⟨A0, c0, hv⟩ := own_slice hown
        subst hv
        cases A0 <;> rfl
      obtain ⟨v', w', hr, ⟨hl, hv⟩, hgr, hnil, hblk⟩ := run_append_own_at (P := P) w1 B T ty τ.tid j z τ.size τ.bytes h1 h2 h3 h4 h5 h6 (size_pos τ) v xs.length (cellsOf τ xs) hrow ad ys.length c (cellsOf τ ys) (cellsOf_length τ ys) hnew (cellsOf_one τ ys) (by simp only [maxLen]; omega) hbytes hB
      refine ⟨v', w', hr, hgr.os, hgr.tape, hgr.output, hgr.size, fun b hb hnb => hgr.block b hb (fun e => hnb ?_), ?_⟩
      · rw [hob] at e
        exact ⟨e.symm, hvS b e.symm⟩
      rcases hv with ⟨_, h0⟩ | ⟨g', cap', cur, rfl, hg1, hg2, hg3, hg4, hg5, hg6⟩
      · omega
      · have hg' : blk v = some g' ∨ g' = w1.heap.size := by
          rcases hblk with h | h
          · left; rw [← hob, ← h]; rfl
          · right; simpa [Value.ownBlock] using h
        refine ⟨.inr ⟨g', cap', cur, by simp, hg1, ?_, hg2, by simpa using hg3, hg4, hg5, by rw [cellsOf_append, List.length_append]; exact hg6⟩, ⟨_, _, _, rfl⟩, ?_⟩
        · rcases hg' with h | h
          · exact (hvS g' h).1
          · intro hs; have := hSb _ hs; omega
        · intro g'' h7 _
          simp only [blk, Option.some.injEq] at h7
          subst h7
          rcases hg' with h | h
          · exact .inl h
          · exact .inr (by omega)
    rcases hown with ⟨rfl, rfl | ⟨g, rfl, hgS, hgh⟩⟩ | ⟨g, cap, cur, rfl, hgB, hgS, hgh, k1, k2, k3, k4⟩
    · exact fin w trivial ⟨by simp [cellsOf], .inl ⟨rfl, rfl⟩⟩ rfl (by simp [blk])
    · exact append_grown h1 h2 h3 h4 h5 h6 (xs := []) (cap := 0) (by simpa using hpos) (by simp [cellsOf]) hnew hbytes hSb hB
    · exact fin w trivial ⟨cellsOf_length τ xs, .inr ⟨g, cap, cur, rfl, hgB, hgh, k1, k2, k3, k4⟩⟩ rfl (by
        intro g' h; simp only [blk, Option.some.injEq] at h; subst h; exact ⟨hgS, hgB⟩)

theorem exec_builtin' {c : Call} {b : Builtin} (hop : o.op = .call c) (hc : c.callee = .builtin b) {v : Value} {w' : World}
    (h : ∀ cs, (builtin b c.argTypes o.type cs (c.args.map a.eval)).run P w = .ok (.value v) w') : (execOp a.eval o).run P w = .ok (.value v) w' := by
  simp [execOp, hop, resolve, hc, invoke, h]

theorem append_fin {c : Call} {x y : Operand} {T d : Nat} (hop : o.op = .call c) (hc : c.callee = .builtin .append) (e1 : c.args = #[x, y]) (e2 : c.argTypes = #[T, T]) (hd : o.dst = some d)
    {tm1 : List AV} {hp1 : Hp} {β1 : Nat → Option Value} (hI : Inv X w0 β1 S tm1 hp1 a w) (hβ : β1 d = none) (hdl : d < 1000) {τ : ET} {zs : List τ.T} {old v' : Value} {w' : World}
    (hfresh : ∀ q u g, β1 q = some u → blk old = some g → ¬ S g → blk u ≠ some g)
    (hr : ∀ ty, ∃ v' w', (Builtin.append_ #[T, T] ty #[a.eval x, a.eval y]).run P w = .ok v' w' ∧ Longer S w w0.heap.size τ zs old v' w') (hK : Goes X w0 k K)
    (h : k (tm1.set d (.own d)) (hput hp1 d (.arr τ zs))) : o.wp P a w K Q := by
  obtain ⟨v', w', hr, l1, l2, l3, l4, l5, l6, l7, l8⟩ := hr o.type
  have hI3 := hI.add hdl (o := d) (x := .arr τ zs) (v := v') (w' := w') (S' := S) hβ (fun b => blk old = some b ∧ ¬ S b ∧ w0.heap.size ≤ b) l1 l2 l3 l4 l5 (fun b hb => ⟨hb.2.1, hb.2.2, fun p u hp => hfresh p u b hp hb.1 hb.2.1⟩) (fun _ h => h)
    (fun b hb => ⟨Nat.lt_of_lt_of_le (hI.sb b hb) l4, .inl hb⟩) l6 (by
      intro q u g h1 h2 h3
      rcases l8 g h2 h3 with h | h
      · exact hfresh q u g h1 h h3
      · intro h4
        have := blk_lt hI h1 h4
        omega)
  exact fin_own hd hI3 l7 hK h (exec_builtin' hop hc fun cs => by
    simp only [builtin, Sem.run_bind, e1, e2, List.map_toArray, List.map_cons, List.map_nil, hr, Result.andThen_ok, Sem.run_pure])

theorem step_append (hE : EnvOK P E) {c : Call} (hop : o.op = .call c) (hc : c.callee = .builtin .append) (hI : Inv X w0 β S tm hp a w) (hK : Goes X w0 k K) (h : step1 E o tm hp kp k) : o.wp P a w K Q := by
  unfold step1 at h
  rw [hop] at h
  simp only [hc] at h
  split at h
  · rename_i x y T T' d hargs htys hd
    have e1 : c.args = #[x, y] := by simpa using congrArg List.toArray hargs
    have e2 : c.argTypes = #[T, T'] := by simpa using congrArg List.toArray htys
    split at h
    · rename_i hTT
      obtain rfl := Nat.eq_of_beq_eq_true hTT
      obtain ⟨ti, hti, h⟩ := tiGet_of h
      split at h
      · rename_i τ hτ
        obtain ⟨j, z, h1, h2, h3, h4, h5, h6⟩ := tiOf_elem (hE.ty _ _ hti) (τ := τ) (by simpa using hτ)
        obtain ⟨τ', ys, h, A, cy, hyv, _, _, hrd, _⟩ := listF_of hI (hI.eval y) h
        obtain ⟨rfl, h⟩ := castF_of h
        have hx := hI.eval x
        split at h
        · rename_i p hv
          rw [hv] at hx
          obtain ⟨hb, hsl⟩ := hx
          obtain ⟨ao, hao, h⟩ := hget_of h
          split at h
          · rename_i τ'' xs
            obtain ⟨rfl, h⟩ := castF_of h
            obtain ⟨hby, h⟩ := h
            obtain ⟨v, hv1, hv2⟩ := hI.arr p _ xs hao
            rw [hb] at hv1
            obtain rfl : a.eval x = v := by simpa using hv1
            obtain ⟨tm1, hp1, h, hI1⟩ := dropObj_of hI h
            obtain ⟨tm2, hp2, h, hI2, hdl⟩ := newObj_of hI1 h
            refine append_fin hop hc e1 e2 hd hI2 (by simp [delβ]) hdl (old := a.eval x) (v' := a.eval x) (w' := w) ?_ (fun ty => ?_) hK h
            · intro q u g h7 h8 h9
              have hq : q ≠ p ∧ β q = some u := by
                unfold delβ at h7
                split at h7
                · simp at h7
                · split at h7
                  · simp at h7
                  · exact ⟨by assumption, h7⟩
              exact hI.apart p q _ u g (fun z => hq.1 z.symm) hb hq.2 h8 h9
            · rw [hyv]
              exact append_own h1 h2 h3 h4 h5 h6 hv2 hrd hby hI.sb hI.size
          · exact h.elim
        · rename_i τ'' xs hv
          rw [hv] at hx
          obtain ⟨g, hxv, hgS, hgh, hmax⟩ := hx
          obtain ⟨rfl, h⟩ := castF_of h
          obtain ⟨hne, hby, h⟩ := h
          simp only at hne hby h
          obtain ⟨tm2, hp2, h, hI2, hdl⟩ := newObj_of hI h
          refine append_fin hop hc e1 e2 hd hI2 (by simp [delβ]) hdl (old := a.eval x) (v' := a.eval x) (w' := w) ?_ (fun ty => ?_) hK h
          · intro q u g' h7 h8 h9
            rw [hxv] at h8
            simp only [blk, Option.some.injEq] at h8
            exact absurd (h8 ▸ hgS) h9
          · rw [hyv, hxv]
            by_cases hxs : xs = []
            · subst hxs
              exact append_own h1 h2 h3 h4 h5 h6 (.inl ⟨rfl, .inr ⟨g, rfl, hgS, by simpa [cellsOf] using hgh⟩⟩) hrd hby hI.sb hI.size
            · have hys : ys ≠ [] := hne.resolve_left hxs
              obtain ⟨ad, rfl, _, hnew⟩ := hrd (by
                intro e
                have := congrArg List.length e
                rw [cellsOf_length, List.length_nil] at this
                rcases Nat.mul_eq_zero.1 this with h | h
                · exact hys (List.length_eq_zero_iff.1 h)
                · have := size_pos τ''; omega)
              have hpos : 0 < ys.length := List.length_pos_iff.2 hys
              exact append_grown h1 h2 h3 h4 h5 h6 (by omega) (fun j u hj => by
                rw [add_zero']
                simp only [World.cell?, hgh, Option.isSome_none, Bool.false_eq_true, if_false]
                simpa using hj) hnew hby hI.sb hI.size
        · exact h.elim
      · exact h.elim
    · exact h.elim
  · exact h.elim

end ops
end Go.Proofs.Ythakgbecpkfeoaa.Ev
