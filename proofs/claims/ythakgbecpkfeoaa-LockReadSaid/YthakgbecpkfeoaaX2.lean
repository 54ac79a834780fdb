/- Parts of the proof, joined. -/
import Derived.Test.YthakgbecpkfeoaaX1
import Derived.Laws.CopyRow
import Derived.Deep.Upon
/- Arrays that are made, moved, lengthened and copied; panics: told rightly. -/
set_option linter.unusedVariables false
set_option linter.unusedSimpArgs false
namespace Go.Proofs.Ythakgbecpkfeoaa.Ev

section ops
variable {P : Program} {E : Env} {X : XR} {w0 : World} {β : Nat → Option Value} {S : Nat → Prop} {tm : List AV} {hp : Hp} {a : Act} {w : World}
variable {o : Oper} {K : Act → World → Prop} {Q : Exit → Act → World → Prop} {k : List AV → Hp → Prop} {kp : AV → List AV → Hp → Prop}

theorem castF_of {τ' τ : ET} {ys : List τ'.T} {k : List τ.T → Prop} (h : castF τ' τ ys k) : ∃ e : τ' = τ, k (e ▸ ys) := by
  cases τ' <;> cases τ <;> first | exact ⟨rfl, h⟩ | exact h.elim

/-- A new row of the array's own. -/
theorem Inv.arrNew (hI : Inv X w0 β S tm hp a w) {d : Nat} (hdl : d < 1000) (hd : β d = none) {τ : ET} {xs : List τ.T} {v : Value} {w' : World} {g : Nat}
    (hv : v = .slice (some ⟨g, 0, none⟩) xs.length (xs.length + 0) ∨ ∃ n c, v = .slice (some ⟨g, 0, none⟩) n c) (hgw : w.heap.size ≤ g)
    (hos : w'.os = w.os) (htape : w'.tape = w.tape) (hout : w'.output = w.output) (hsz : w.heap.size ≤ w'.heap.size)
    (hb : ∀ b, b < w.heap.size → w'.heap[b]? = w.heap[b]?) (hx : OwnR S w' (Mine X w0) τ xs v) : Inv X w0 (updβ β d v) S tm (hput hp d (.arr τ xs)) a w' := by
  refine hI.fresh hdl hd (g := g) ?_ hgw hos htape hout hsz hb hx
  rcases hv with rfl | ⟨n, c, rfl⟩ <;> rfl

theorem fin_own {d : Nat} (hd : o.dst = some d) {β : Nat → Option Value} {hp : Hp} {w' : World} {v : Value} (hI : Inv X w0 (updβ β d v) S tm hp a w') (hv : ∃ A n c, v = .slice A n c) (hK : Goes X w0 k K)
    (h : k (tm.set d (.own d)) hp) (hrun : (execOp a.eval o).run P w = .ok (.value v) w') : o.wp P a w K Q := by
  have hI3 := hI.put (v := .own d) (u := v) ⟨by simp [updβ], hv⟩ (some d)
  exact wp_value hrun (by rw [hd]; exact hK _ _ _ _ _ _ h hI3)

theorem cellsOf_ints (ys : List Int) : cellsOf .i64 ys = ys.map (Value.int .i64) := by induction ys <;> simp_all [cellsOf, ET.enc, CV.v]

theorem madeCells_one (n : Nat) : madeCells (Value.int .i64 0).cells n = (List.replicate n (Value.int .i64 0)).toArray := by
  apply Array.ext
  · simp [madeCells]
  · intro i h1 h2
    simp [madeCells, Value.cells, Nat.mod_one]

theorem step_make (hE : EnvOK P E) {T : Nat} {x y : Operand} (hop : o.op = .makeSlice T x y) (hI : Inv X w0 β S tm hp a w) (hK : Goes X w0 k K) (h : step1 E o tm hp kp k) : o.wp P a w K Q := by
  unfold step1 at h
  rw [hop] at h
  simp only at h
  split at h
  · rename_i d hd
    split at h
    · rename_i n m hn hm
      obtain ⟨ti, hti, h⟩ := tiGet_of h
      split at h
      · rename_i hhas
        obtain ⟨⟨hnm, h0, hmax⟩, hh⟩ := h
        subst hnm
        obtain ⟨tm1, hp1, h, hI1, hdl⟩ := newObj_of hI hh
        obtain ⟨j, z, h1, h2, h3, h4, h5, h6⟩ := tiOf_elem (hE.ty _ _ hti) (τ := .i64) (by simpa using has_of hhas)
        obtain ⟨i, z1, z2, z3, z4⟩ := hE.z3
        obtain rfl : i = j := by have := z1.symm.trans h2; simpa using this
        obtain rfl : Value.int .i64 0 = z := by have := z2.symm.trans h3; simpa using this
        have hr := run_make (P := P) w T 3 i (.int .i64 0) h1 h2 h3 .i64 .i64 n n h0 (Int.le_refl _) (by rw [z4]; omega) (by omega)
        rw [z3, Nat.mul_one, madeCells_one] at hr
        have hI2 := hI1.arrNew hdl (del_self β d) (τ := .i64) (xs := List.replicate n.toNat (0 : Int)) (v := .slice (some ⟨w.heap.size, 0, none⟩) n.toNat n.toNat) (w' := w.alloc (.cells (List.replicate n.toNat (Value.int .i64 0)).toArray 3)) (g := w.heap.size)
          (.inr ⟨_, _, rfl⟩) (Nat.le_refl _) rfl rfl rfl (by simp) (fun b hb => push_old w _ b hb)
          (.inr ⟨w.heap.size, n.toNat, _, by simp, .inl hI.size, fun hs => by have := hI.sb _ hs; omega, alloc_at w _, by simp, by simp only [maxI]; omega, by simp [ET.size], by simp [ET.size, cellsOf_ints]⟩)
        exact fin_own hd hI2 ⟨_, _, _, rfl⟩ hK h (by simp only [execOp, hop, Sem.run_bind, int_of hI hn, int_of hI hm, hr, Result.andThen_ok, Sem.run_pure])
      · exact h.elim
    · exact h.elim
  · exact h.elim

theorem goes_pop (hK : Goes X w0 k K) : Serves X w0 β S tm hp a o (fun v => putD tm o.dst v fun tm => k tm hp) K := by
  intro r u w' S' hk hI' hS hr
  rw [putD_eq] at hk
  exact hK _ _ _ _ _ _ hk (hI'.put hr o.dst)

theorem step_assign {x : Operand} (hop : o.op = .assign x) (hI : Inv X w0 β S tm hp a w) (hK : Goes X w0 k K) (h : step1 E o tm hp kp k) : o.wp P a w K Q := by
  unfold step1 at h
  rw [hop] at h
  simp only at h
  have hx := hI.eval x
  have hrun : (execOp a.eval o).run P w = .ok (.value (a.eval x)) w := by simp [execOp, hop]
  split at h
  · rename_i p hv
    rw [hv] at hx
    obtain ⟨hb, hsl⟩ := hx
    split at h
    · rename_i d hd
      split at h
      · rename_i e
        obtain rfl := Nat.eq_of_beq_eq_true e
        rw [setF_eq] at h
        have hI3 := hI.put (v := .own p) (u := a.eval x) ⟨hb, hsl⟩ (some p)
        exact wp_value hrun (by rw [hd]; exact hK _ _ _ _ _ _ h hI3)
      · rename_i e
        have hne := Nat.ne_of_beq_eq_false e
        split at h
        case h_2 => exact h.elim
        rename_i hdl
        rw [Nat.blt_eq] at hdl
        obtain ⟨tm1, hp1, h, hI1⟩ := dropObj_of hI h
        obtain ⟨ao, hao, h⟩ := hget_of h
        split at h
        · rename_i τ xs
          have hb1 : delβ β d p = some (a.eval x) := by simp [delβ, hne, hb]
          obtain ⟨v, hv1, hv2⟩ := hI1.arr p τ xs hao
          rw [hb1] at hv1
          obtain rfl : a.eval x = v := by simpa using hv1
          obtain ⟨tm2, hp2, h, hI2⟩ := dropObj_of hI1 h
          rw [hputF_eq, setF_eq] at h
          have hI3 := hI2.add hdl (o := d) (x := .arr τ xs) (v := a.eval x) (w' := w) (S' := S) (by simp [delβ]) (fun _ => False) rfl rfl rfl (Nat.le_refl _) (fun _ _ _ => rfl) (fun _ h => h.elim) (fun _ h => h)
            (fun b hb => ⟨hI.sb b hb, .inl hb⟩) hv2 (by
              intro q u g h1 h2 h3
              by_cases hq : q = p
              · subst hq; simp [delβ] at h1
              · have h1' : delβ β d q = some u := by simpa [delβ, hq] using h1
                exact hI1.apart p q _ u g (fun z => hq z.symm) hb1 h1' h2 h3)
          exact fin_own hd hI3 hsl hK h hrun
        · exact h.elim
    · exact h.elim
  · rename_i hv
    rw [hv] at hx
    simp only [RelV] at hx
    split at h
    · rename_i d hd
      obtain ⟨ti, hti, h⟩ := tiGet_of h
      split at h
      · rename_i τ hτ
        obtain ⟨tm1, hp1, h, hI1, hdl⟩ := newObj_of hI h
        have hI3 := hI1.add hdl (o := d) (x := .arr τ []) (v := a.eval x) (w' := w) (S' := S) (by simp [delβ]) (fun _ => False) rfl rfl rfl (Nat.le_refl _) (fun _ _ _ => rfl) (fun _ h => h.elim) (fun _ h => h)
            (fun b hb => ⟨hI.sb b hb, .inl hb⟩) (.inl ⟨rfl, .inl hx⟩) (by intro q u g h1 h2 h3; rw [hx] at h2; simp [blk] at h2)
        exact fin_own hd hI3 ⟨_, _, _, hx⟩ hK h hrun
      · exact h.elim
    · exact h.elim
  · rename_i v hv1 hv2
    rw [AV.f_eq, putD_eq] at h
    exact wp_value hrun (hK _ _ _ _ _ _ h (hI.put hx o.dst))

theorem step_panic {x : Operand} (hop : o.op = .panic x) (hI : Inv X w0 β S tm hp a w) (hKp : Falls X w0 kp Q) (h : step1 E o tm hp kp k) : o.wp P a w K Q := by
  unfold step1 at h
  rw [hop] at h
  simp only at h
  have hx := hI.eval x
  split at h
  · rename_i t v hv
    rw [hv] at hx
    split at h
    · rename_i hc
      obtain ⟨u, hu, hr⟩ := hx
      unfold Oper.wp
      have : (execOp a.eval o).run P w = .halt (.panic (.iface t u)) w := by simp [execOp, hop, hu, Instr.panic, goPanic]
      rw [this]
      exact hKp _ _ _ _ _ _ _ _ h (by simpa [AV.calm] using hc) hI ⟨u, rfl, hr⟩
    · exact h.elim
  · exact h.elim

end ops
end Go.Proofs.Ythakgbecpkfeoaa.Ev

/- Arrays that are lengthened and copied: told rightly. -/
set_option linter.unusedVariables false
set_option linter.unusedSimpArgs false
namespace Go.Proofs.Ythakgbecpkfeoaa.Ev

section ops
variable {P : Program} {E : Env} {X : XR} {w0 : World} {β : Nat → Option Value} {S : Nat → Prop} {tm : List AV} {hp : Hp} {a : Act} {w : World}
variable {ty : Nat} {o : Oper} {K : Act → World → Prop} {Q : Exit → Act → World → Prop} {k : List AV → Hp → Prop} {kp : AV → List AV → Hp → Prop}

theorem bytes_pos (τ : ET) : 0 < τ.bytes := by cases τ <;> decide

/-- What an append leaves: the new array; nothing else has changed but what the old one alone held. -/
def Longer (S : Nat → Prop) (w : World) (B : Nat → Prop) (τ : ET) (zs : List τ.T) (old v' : Value) (w' : World) : Prop :=
  w'.os = w.os ∧ w'.tape = w.tape ∧ w'.output = w.output ∧ w.heap.size ≤ w'.heap.size ∧ (∀ b, b < w.heap.size → ¬ (blk old = some b ∧ ¬ S b ∧ B b) → w'.heap[b]? = w.heap[b]?) ∧
    OwnR S w' B τ zs v' ∧ (∃ A n c, v' = .slice A n c) ∧ ∀ g, blk v' = some g → ¬ S g → (blk old = some g ∨ w.heap.size ≤ g)

theorem own_slice {B : Nat → Prop} {τ : ET} {xs : List τ.T} {v : Value} (h : OwnR S w B τ xs v) : ∃ A c, v = .slice A xs.length c := by
  rcases h with ⟨rfl, rfl | ⟨g, rfl, _⟩⟩ | ⟨g, cap, cur, rfl, _⟩ <;> exact ⟨_, _, rfl⟩

/-- Nothing is appended. -/
theorem append_none {T : Nat} {τ : ET} {j : TypeInfo} (h1 : P.underlying T = some (.slice τ.tid)) (h2 : P.info? τ.tid = some j)
    {A A' : Option Addr} {n c c' : Nat} (hle : n ≤ c) : (Builtin.append_ #[T, T] ty #[.slice A n c, .slice A' 0 c']).run P w = .ok (.slice A n c) w := by
  cases A' with
  | none => exact run_append_nothing w T T ty τ.tid j h1 h2 A n c hle _ (Src.ofNil w h1 c')
  | some ad => exact run_append_nothing w T T ty τ.tid j h1 h2 A n c hle _ (Src.ofSlice w h1 ad 0 c' [] (by simp) (by simp) (by simp))

/-- A new row takes all. -/
theorem append_grown {T : Nat} {τ : ET} {j : TypeInfo} {z : Value} (h1 : P.underlying T = some (.slice τ.tid)) (h2 : P.info? τ.tid = some j) (h3 : j.zero = some z) (h4 : j.size = τ.size) (h5 : j.bytes = τ.bytes) (h6 : z.cells.size = τ.size)
    {g cap : Nat} {xs ys : List τ.T} (hcap : cap < xs.length + ys.length) (hold : ∀ j u, (cellsOf τ xs)[j]? = some u → w.cell? ((⟨g, 0, none⟩ : Addr).add j) = some u) {ad : Addr} {c : Nat} (hnew : ∀ j u, (cellsOf τ ys)[j]? = some u → w.cell? (ad.add j) = some u)
    (hbytes : (xs.length + ys.length) * τ.bytes ≤ 140737488355328) (hSb : ∀ b, S b → b < w.heap.size) {B : Nat → Prop} (hB : ∀ b, w.heap.size ≤ b → B b) :
    ∃ v' w', (Builtin.append_ #[T, T] ty #[.slice (some ⟨g, 0, none⟩) xs.length cap, .slice (some ad) ys.length c]).run P w = .ok v' w' ∧ Longer S w B τ (xs ++ ys) (.slice (some ⟨g, 0, none⟩) xs.length cap) v' w' := by
  have hle := Nat.le_mul_of_pos_right (xs.length + ys.length) (bytes_pos τ)
  obtain ⟨v', w', hr, ⟨hl, hv⟩, hgr⟩ := run_append_arg_grows (P := P) w T ty τ.tid j z τ.size τ.bytes h1 h2 h3 h4 h5 h6 (size_pos τ) ⟨g, 0, none⟩ xs.length cap (cellsOf τ xs) (cellsOf_length τ xs) hold ad ys.length c (cellsOf τ ys) (cellsOf_length τ ys) hnew hcap (by simp only [maxLen]; omega) hbytes
  refine ⟨v', w', hr, hgr.os, hgr.tape, hgr.output, hgr.size, fun b hb _ => hgr.block b hb (by simp), ?_⟩
  rcases hv with ⟨_, h0⟩ | ⟨g', cap', cur, rfl, hg1, hg2, hg3, hg4, hg5, hg6⟩
  · omega
  · refine ⟨.inr ⟨g', cap', cur, by simp, hB _ hg1, fun hs => by have := hSb _ hs; omega, hg2, by simpa using hg3, hg4, hg5, by rw [cellsOf_append, List.length_append]; exact hg6⟩, ⟨_, _, _, rfl⟩, ?_⟩
    intro g'' h7 _
    simp only [blk, Option.some.injEq] at h7
    exact .inr (by omega)

theorem append_own {T : Nat} {τ : ET} {j : TypeInfo} {z : Value} (h1 : P.underlying T = some (.slice τ.tid)) (h2 : P.info? τ.tid = some j) (h3 : j.zero = some z) (h4 : j.size = τ.size) (h5 : j.bytes = τ.bytes) (h6 : z.cells.size = τ.size)
    {B : Nat → Prop} {xs ys : List τ.T} {v : Value} (hown : OwnR S w B τ xs v) {A : Option Addr} {c : Nat} (hy : Reads (fun b => b < w.heap.size) w A (cellsOf τ ys))
    (hbytes : (xs.length + ys.length) * τ.bytes ≤ 140737488355328) (hSb : ∀ b, S b → b < w.heap.size) (hB : ∀ b, w.heap.size ≤ b → B b) :
    ∃ v' w', (Builtin.append_ #[T, T] ty #[v, .slice A ys.length c]).run P w = .ok v' w' ∧ Longer S w B τ (xs ++ ys) v v' w' := by
  have hle := Nat.le_mul_of_pos_right (xs.length + ys.length) (bytes_pos τ)
  by_cases hn : ys = []
  · subst hn
    obtain ⟨A0, c0, hv⟩ := own_slice hown
    have hc0 : xs.length ≤ c0 := by
      rcases hown with ⟨rfl, _⟩ | ⟨g, cap, cur, hv', _, _, _, hcap, _⟩
      · simp
      · rw [hv] at hv'; simp only [Value.slice.injEq] at hv'; omega
    refine ⟨v, w, ?_, rfl, rfl, rfl, Nat.le_refl _, fun _ _ _ => rfl, by simpa using hown, ⟨_, _, _, hv⟩, fun g h _ => .inl h⟩
    rw [hv]
    exact append_none h1 h2 hc0
  · obtain ⟨ad, rfl, _, hnew⟩ := hy (by
      intro e
      have := congrArg List.length e
      rw [cellsOf_length, List.length_nil] at this
      rcases Nat.mul_eq_zero.1 this with h | h
      · exact hn (List.length_eq_zero_iff.1 h)
      · have := size_pos τ; omega)
    have hpos : 0 < ys.length := List.length_pos_iff.2 hn
    have fin : ∀ (w1 : World), True → w1.ownsRow 0 τ.tid τ.size v xs.length (cellsOf τ xs) → w1 = w → (∀ g, blk v = some g → ¬ S g ∧ B g) →
        ∃ v' w', (Builtin.append_ #[T, T] ty #[v, .slice (some ad) ys.length c]).run P w = .ok v' w' ∧ Longer S w B τ (xs ++ ys) v v' w' := by
      rintro w1 _ hrow rfl hvS
      have hob : v.ownBlock = blk v := by
        obtain ⟨A0, c0, hv⟩ := own_slice hown
        subst hv
        cases A0 <;> rfl
      obtain ⟨v', w', hr, ⟨hl, hv⟩, hgr, hnil, hblk⟩ := run_append_own_at (P := P) w1 0 T ty τ.tid j z τ.size τ.bytes h1 h2 h3 h4 h5 h6 (size_pos τ) v xs.length (cellsOf τ xs) hrow ad ys.length c (cellsOf τ ys) (cellsOf_length τ ys) hnew (cellsOf_one τ ys) (by simp only [maxLen]; omega) hbytes (Nat.zero_le _)
      refine ⟨v', w', hr, hgr.os, hgr.tape, hgr.output, hgr.size, fun b hb hnb => hgr.block b hb (fun e => hnb ?_), ?_⟩
      · rw [hob] at e
        exact ⟨e.symm, hvS b e.symm⟩
      rcases hv with ⟨_, h0⟩ | ⟨g', cap', cur, rfl, hg1, hg2, hg3, hg4, hg5, hg6⟩
      · omega
      · have hg' : blk v = some g' ∨ g' = w1.heap.size := by
          rcases hblk with h | h
          · left; rw [← hob, ← h]; rfl
          · right; simpa [Value.ownBlock] using h
        refine ⟨.inr ⟨g', cap', cur, by simp, ?_, ?_, hg2, by simpa using hg3, hg4, hg5, by rw [cellsOf_append, List.length_append]; exact hg6⟩, ⟨_, _, _, rfl⟩, ?_⟩
        · rcases hg' with h | h
          · exact (hvS g' h).2
          · exact hB _ (by omega)
        · rcases hg' with h | h
          · exact (hvS g' h).1
          · intro hs; have := hSb _ hs; omega
        · intro g'' h7 _
          simp only [blk, Option.some.injEq] at h7
          subst h7
          rcases hg' with h | h
          · exact .inl h
          · exact .inr (by omega)
    rcases hown with ⟨rfl, rfl | ⟨g, rfl, hgS, hgh⟩⟩ | ⟨g, cap, cur, rfl, hgB, hgS, hgh, k1, k2, k3, k4⟩
    · exact fin w trivial ⟨by simp [cellsOf], .inl ⟨rfl, rfl⟩⟩ rfl (by simp [blk])
    · exact append_grown h1 h2 h3 h4 h5 h6 (xs := []) (cap := 0) (by simpa using hpos) (by simp [cellsOf]) hnew hbytes hSb hB
    · exact fin w trivial ⟨cellsOf_length τ xs, .inr ⟨g, cap, cur, rfl, Nat.zero_le _, hgh, k1, k2, k3, k4⟩⟩ rfl (by
        intro g' h; simp only [blk, Option.some.injEq] at h; subst h; exact ⟨hgS, hgB⟩)

theorem exec_builtin' {c : Call} {b : Builtin} (hop : o.op = .call c) (hc : c.callee = .builtin b) {v : Value} {w' : World}
    (h : ∀ cs, (builtin b c.argTypes o.type cs (c.args.map a.eval)).run P w = .ok (.value v) w') : (execOp a.eval o).run P w = .ok (.value v) w' := by
  simp [execOp, hop, resolve, hc, invoke, h]

theorem append_fin {c : Call} {x y : Operand} {T d : Nat} (hop : o.op = .call c) (hc : c.callee = .builtin .append) (e1 : c.args = #[x, y]) (e2 : c.argTypes = #[T, T]) (hd : o.dst = some d)
    {tm1 : List AV} {hp1 : Hp} {β1 : Nat → Option Value} (hI : Inv X w0 β1 S tm1 hp1 a w) (hβ : β1 d = none) (hdl : d < 1000) {τ : ET} {zs : List τ.T} {old v' : Value} {w' : World}
    (hfresh : ∀ q u g, β1 q = some u → blk old = some g → ¬ S g → blk u ≠ some g)
    (hr : ∀ ty, ∃ v' w', (Builtin.append_ #[T, T] ty #[a.eval x, a.eval y]).run P w = .ok v' w' ∧ Longer S w (Mine X w0) τ zs old v' w') (hK : Goes X w0 k K)
    (h : k (tm1.set d (.own d)) (hput hp1 d (.arr τ zs))) : o.wp P a w K Q := by
  obtain ⟨v', w', hr, l1, l2, l3, l4, l5, l6, l7, l8⟩ := hr o.type
  have hI3 := hI.add hdl (o := d) (x := .arr τ zs) (v := v') (w' := w') (S' := S) hβ (fun b => blk old = some b ∧ ¬ S b ∧ Mine X w0 b) l1 l2 l3 l4 l5 (fun b hb => ⟨hb.2.1, hb.2.2, fun p u hp => hfresh p u b hp hb.1 hb.2.1⟩) (fun _ h => h)
    (fun b hb => ⟨Nat.lt_of_lt_of_le (hI.sb b hb) l4, .inl hb⟩) l6 (by
      intro q u g h1 h2 h3
      rcases l8 g h2 h3 with h | h
      · exact hfresh q u g h1 h h3
      · intro h4
        have := blk_lt hI h1 h4
        omega)
  exact fin_own hd hI3 l7 hK h (exec_builtin' hop hc fun cs => by
    simp only [builtin, Sem.run_bind, e1, e2, List.map_toArray, List.map_cons, List.map_nil, hr, Result.andThen_ok, Sem.run_pure])

theorem step_append (hE : EnvOK P E) {c : Call} (hop : o.op = .call c) (hc : c.callee = .builtin .append) (hI : Inv X w0 β S tm hp a w) (hK : Goes X w0 k K) (h : step1 E o tm hp kp k) : o.wp P a w K Q := by
  unfold step1 at h
  rw [hop] at h
  simp only [hc] at h
  split at h
  · rename_i x y T T' d hargs htys hd
    have e1 : c.args = #[x, y] := by simpa using congrArg List.toArray hargs
    have e2 : c.argTypes = #[T, T'] := by simpa using congrArg List.toArray htys
    split at h
    · rename_i hTT
      obtain rfl := Nat.eq_of_beq_eq_true hTT
      obtain ⟨ti, hti, h⟩ := tiGet_of h
      split at h
      · rename_i τ hτ
        obtain ⟨j, z, h1, h2, h3, h4, h5, h6⟩ := tiOf_elem (hE.ty _ _ hti) (τ := τ) (by simpa using hτ)
        obtain ⟨τ', ys, h, A, cy, hyv, _, _, hrd, _⟩ := listF_of hI (hI.eval y) h
        obtain ⟨rfl, h⟩ := castF_of h
        have hx := hI.eval x
        split at h
        · rename_i p hv
          rw [hv] at hx
          obtain ⟨hb, hsl⟩ := hx
          obtain ⟨ao, hao, h⟩ := hget_of h
          split at h
          · rename_i τ'' xs
            obtain ⟨rfl, h⟩ := castF_of h
            obtain ⟨hby, h⟩ := h
            obtain ⟨v, hv1, hv2⟩ := hI.arr p _ xs hao
            rw [hb] at hv1
            obtain rfl : a.eval x = v := by simpa using hv1
            obtain ⟨tm1, hp1, h, hI1⟩ := dropObj_of hI h
            obtain ⟨tm2, hp2, h, hI2, hdl⟩ := newObj_of hI1 h
            refine append_fin hop hc e1 e2 hd hI2 (by simp [delβ]) hdl (old := a.eval x) (v' := a.eval x) (w' := w) ?_ (fun ty => ?_) hK h
            · intro q u g h7 h8 h9
              have hq : q ≠ p ∧ β q = some u := by
                unfold delβ at h7
                split at h7
                · simp at h7
                · split at h7
                  · simp at h7
                  · exact ⟨by assumption, h7⟩
              exact hI.apart p q _ u g (fun z => hq.1 z.symm) hb hq.2 h8 h9
            · rw [hyv]
              exact append_own h1 h2 h3 h4 h5 h6 hv2 hrd hby hI.sb (fun b h => .inl (Nat.le_trans hI.size h))
          · exact h.elim
        · rename_i τ'' xs hv
          rw [hv] at hx
          obtain ⟨g, hxv, hgS, hgh, hmax⟩ := hx
          obtain ⟨rfl, h⟩ := castF_of h
          obtain ⟨hne, hby, h⟩ := h
          simp only at hne hby h
          obtain ⟨tm2, hp2, h, hI2, hdl⟩ := newObj_of hI h
          refine append_fin hop hc e1 e2 hd hI2 (by simp [delβ]) hdl (old := a.eval x) (v' := a.eval x) (w' := w) ?_ (fun ty => ?_) hK h
          · intro q u g' h7 h8 h9
            rw [hxv] at h8
            simp only [blk, Option.some.injEq] at h8
            exact absurd (h8 ▸ hgS) h9
          · rw [hyv, hxv]
            by_cases hxs : xs = []
            · subst hxs
              exact append_own h1 h2 h3 h4 h5 h6 (.inl ⟨rfl, .inr ⟨g, rfl, hgS, by simpa [cellsOf] using hgh⟩⟩) hrd hby hI.sb (fun b h => .inl (Nat.le_trans hI.size h))
            · have hys : ys ≠ [] := hne.resolve_left hxs
              obtain ⟨ad, rfl, _, hnew⟩ := hrd (by
                intro e
                have := congrArg List.length e
                rw [cellsOf_length, List.length_nil] at this
                rcases Nat.mul_eq_zero.1 this with h | h
                · exact hys (List.length_eq_zero_iff.1 h)
                · have := size_pos τ''; omega)
              have hpos : 0 < ys.length := List.length_pos_iff.2 hys
              exact append_grown h1 h2 h3 h4 h5 h6 (by omega) (fun j u hj => by
                rw [add_zero']
                simp only [World.cell?, hgh, Option.isSome_none, Bool.false_eq_true, if_false]
                simpa using hj) hnew hby hI.sb (fun b h => .inl (Nat.le_trans hI.size h))
        · exact h.elim
      · exact h.elim
    · exact h.elim
  · exact h.elim

end ops
end Go.Proofs.Ythakgbecpkfeoaa.Ev

/- Copies and calls: told rightly; every operation, all together. -/
set_option linter.unusedVariables false
set_option linter.unusedSimpArgs false
namespace Go.Proofs.Ythakgbecpkfeoaa.Ev

section ops
variable {P : Program} {E : Env} {X : XR} {w0 : World} {β : Nat → Option Value} {S : Nat → Prop} {tm : List AV} {hp : Hp} {a : Act} {w : World}
variable {o : Oper} {K : Act → World → Prop} {Q : Exit → Act → World → Prop} {k : List AV → Hp → Prop} {kp : AV → List AV → Hp → Prop}

theorem nodup_one {h : Hp} (hn : (h.map (·.1)).Nodup) {o : Nat} {x y : AO} (h1 : (o, x) ∈ h) (h2 : (o, y) ∈ h) : x = y := by
  induction h with
  | nil => simp at h1
  | cons p h ih =>
    obtain ⟨q, z⟩ := p
    simp only [List.map_cons, List.nodup_cons] at hn
    simp only [List.mem_cons, Prod.mk.injEq] at h1 h2
    rcases h1 with ⟨rfl, rfl⟩ | h1
    · rcases h2 with ⟨_, rfl⟩ | h2
      · rfl
      · exact absurd (List.mem_map.2 ⟨_, h2, rfl⟩) hn.1
    · rcases h2 with ⟨rfl, _⟩ | h2
      · exact absurd (List.mem_map.2 ⟨_, h1, rfl⟩) hn.1
      · exact ih hn.2 h1 h2

theorem step_copy (hE : EnvOK P E) {c : Call} (hop : o.op = .call c) (hc : c.callee = .builtin .copy) (hI : Inv X w0 β S tm hp a w) (hK : Goes X w0 k K) (h : step1 E o tm hp kp k) : o.wp P a w K Q := by
  unfold step1 at h
  rw [hop] at h
  simp only [hc] at h
  split at h
  · rename_i x y T T' hargs htys
    have e1 : c.args = #[x, y] := by simpa using congrArg List.toArray hargs
    have e2 : c.argTypes = #[T, T'] := by simpa using congrArg List.toArray htys
    obtain ⟨ti, hti, h⟩ := tiGet_of h
    split at h
    · rename_i p hhas hv
      obtain ⟨j, z, h1, h2, h3, h4, h5, h6⟩ := tiOf_elem (hE.ty _ _ hti) (τ := .i64) (by simpa using has_of hhas)
      have hx := hI.eval x
      rw [hv] at hx
      obtain ⟨hb, hsl⟩ := hx
      obtain ⟨ao, hao, h⟩ := hget_of h
      split at h
      · rename_i xs
        obtain ⟨τ', ys, h, A, cy, hyv, _, _, hrd, _⟩ := listF_of hI (hI.eval y) h
        obtain ⟨rfl, h⟩ := castF_of h
        obtain ⟨⟨hx0, hy0⟩, h⟩ := h
        simp only at hy0 h
        rw [hputF_eq, putD_eq] at h
        obtain ⟨v, hv1, hv2⟩ := hI.arr p _ xs hao
        rw [hb] at hv1
        obtain rfl : a.eval x = v := by simpa using hv1
        rcases hv2 with ⟨e, _⟩ | ⟨g, cap, cur, hxv, k1, k2, hh, k3, k4, k5, htake⟩
        · exact absurd e hx0
        · obtain ⟨ad, rfl, _, hnew⟩ := hrd (by rw [cellsOf_ints]; simpa using hy0)
          simp only [ET.size, Nat.mul_one] at k5 htake
          have hcl : (cellsOf .i64 (ys.take xs.length)).length = Nat.min ys.length xs.length := by
            rw [cellsOf_length, List.length_take, ET.size, Nat.mul_one]
            exact Nat.min_comm _ _
          have hmn : Nat.min ys.length xs.length ≤ xs.length := Nat.min_le_right _ _
          have hr := run_copy_row (P := P) w T T' o.type ET.i64.tid g 0 xs.length cap ad ys.length cy cur ET.i64.tid (cellsOf .i64 (ys.take xs.length)) h1 (by rw [h2]; simp [h4, ET.size]) hh hcl
            (fun j v hj => hnew j v (by
              rw [cellsOf_ints] at hj ⊢
              rw [List.map_take, List.getElem?_take] at hj
              split at hj
              · exact hj
              · simp at hj)) (by omega) (cellsOf_one _ _)
          rw [hcl] at hr
          simp only [List.take_zero, List.nil_append, Nat.zero_add] at hr
          have hI2 := hI.write hao hb (g := g) (by rw [hxv]; rfl) k2 k1 (w' := w.setRow g (cellsOf .i64 (ys.take xs.length) ++ cur.toList.drop (Nat.min ys.length xs.length)).toArray) rfl rfl rfl (by simp) (fun b hb => setRow_other _ _ _ _ hb)
            (x := .arr .i64 (ys.take xs.length ++ xs.drop ys.length)) (.inr ⟨g, cap, _, by
                rw [hxv]
                congr 1
                simp only [List.length_append, List.length_take, List.length_drop]
                omega, k1, k2, setRow_heap w g cur _ _ _ hh, by
                simp only [List.length_append, List.length_take, List.length_drop]
                omega, k4, by
                simp only [List.size_toArray, List.length_append, List.length_drop, Array.length_toList, hcl, ET.size, k5]
                omega, by
                have e3 : (ys.take xs.length ++ xs.drop ys.length).length = xs.length := by simp only [List.length_append, List.length_take, List.length_drop]; omega
                rw [e3]
                simp only [ET.size, Nat.mul_one]
                rw [cellsOf_append, List.take_append, List.take_of_length_le (by rw [hcl]; exact hmn), hcl]
                congr 1
                rw [cellsOf_ints xs] at htake
                rw [cellsOf_ints, List.map_drop, ← htake, List.drop_take]
                by_cases hle : ys.length ≤ xs.length
                · rw [show Nat.min ys.length xs.length = ys.length from Nat.min_eq_left hle]
                · rw [show Nat.min ys.length xs.length = xs.length from Nat.min_eq_right (by omega)]
                  rw [Nat.sub_self, show xs.length - ys.length = 0 by omega]
                  simp⟩)
          have hI3 := hI2.put (v := .int .i64 (min ys.length xs.length : Nat)) (u := goInt (Nat.min ys.length xs.length)) rfl o.dst
          refine wp_value (exec_builtin' hop hc fun cs => ?_) (hK _ _ _ _ _ _ h hI3)
          simp only [builtin, Sem.run_bind, e1, e2, List.map_toArray, List.map_cons, List.map_nil, hyv, hxv, hr, Result.andThen_ok, Sem.run_pure]
      · exact h.elim
    · exact h.elim
  · exact h.elim

/-- Arguments, read where they lie; and once their arrays are read alone. -/
theorem viewsF_all (hI : Inv X w0 β S tm hp a w) : ∀ {vs : List AV} {us : List Value} {k : List AV → Prop}, RelVs β S w vs us → viewsF hp vs k →
    ∃ ws, k ws ∧ (anyOwn vs = false → RelVs β S w ws us) ∧ RelVs β (fun b => b < w.heap.size) w ws us ∧
      ∀ (β' : Nat → Option Value) (S' : Nat → Prop), (∀ b, S b → S' b) → (∀ p τ xs u, AV.own p ∈ vs → (p, AO.arr τ xs) ∈ hp → β p = some u → RelV β' S' w (.sl τ xs) u) → AV.calms ws = true → RelVs β' S' w ws us
  | [], us, k, hr, h => ⟨[], h, fun _ => by simpa [RelVs] using hr, by simpa [RelVs] using hr, fun _ _ _ _ _ => by simpa [RelVs] using hr⟩
  | v :: vs, us, k, ⟨u, us', h1, h2, h3⟩, h => by
    simp only [viewsF] at h
    obtain ⟨v', h, hv⟩ := viewF_of hI h2 h
    obtain ⟨ws, hk, hws, hrs, hfr⟩ := viewsF_all hI h3 h
    refine ⟨_, hk, ?_, ?_, ?_⟩
    · intro ha
      simp only [anyOwn] at ha
      rcases hv with ⟨hv1, rfl⟩ | ⟨p, τ, xs, rfl, hv2, rfl⟩
      · rw [hv1] at ha
        exact ⟨u, us', h1, RelV.low _ _ h2, hws ha⟩
      · simp [isOwn] at ha
    · refine ⟨u, us', h1, ?_, hrs⟩
      rcases hv with ⟨hv1, rfl⟩ | ⟨p, τ, xs, rfl, hv2, rfl⟩
      · exact RelV.mono (fun _ _ x => x) (fun b hb => hI.sb b hb) (fun _ _ => rfl) _ _ (RelV.low _ _ h2)
      · obtain ⟨hb, _⟩ := h2
        obtain ⟨v, h4, h5⟩ := hI.arr p τ xs hv2
        rw [hb] at h4
        obtain rfl : u = v := by simpa using h4
        exact own_sl h5 (fun b h => hI.sb b h) (fun b h => blk_lt hI hb h)
    · intro β' S' hS ho hc
      simp only [AV.calms] at hc
      split at hc
      · rename_i hc1
        refine ⟨u, us', h1, ?_, hfr β' S' hS (fun p τ xs u hm => ho p τ xs u (List.mem_cons_of_mem _ hm)) hc⟩
        rcases hv with ⟨hv1, rfl⟩ | ⟨p, τ, xs, rfl, hv2, rfl⟩
        · exact RelV.mono (fun _ _ x => x) hS (fun _ _ => rfl) _ _ (RelV.calm (β' := β') _ _ hc1 (RelV.low _ _ h2))
        · exact ho p τ xs u (List.mem_cons_self ..) hv2 h2.1
      · simp at hc

theorem freezesF_all : ∀ {vs : List AV} {β : Nat → Option Value} {S : Nat → Prop} {tm : List AV} {hp : Hp} {k : List AV → Hp → Prop}, Inv X w0 β S tm hp a w → freezesF vs tm hp k →
    ∃ tm' hp' β' S', k tm' hp' ∧ (∀ b, S b → S' b) ∧ Inv X w0 β' S' tm' hp' a w ∧ ∀ p τ xs u, AV.own p ∈ vs → (p, AO.arr τ xs) ∈ hp → β p = some u → RelV β' S' w (.sl τ xs) u
  | [], β, S, tm, hp, k, hI, h => ⟨tm, hp, β, S, h, fun _ x => x, hI, fun p τ xs u hm => by simp at hm⟩
  | v :: vs, β, S, tm, hp, k, hI, h => by
    simp only [freezesF] at h
    split at h
    · rename_i o
      split at h
      · unfold freezeF at h
        obtain ⟨x, hx, h⟩ := hget_of h
        split at h
        · rename_i σ ys
          rw [hdelF_eq, frzs_eq, frzHp_eq] at h
          obtain ⟨S1, hS1, hsl, hI1⟩ := hI.freeze hx
          obtain ⟨tm2, hp2, β2, S2, h2, hS2, hI2, hall⟩ := freezesF_all hI1 h
          refine ⟨tm2, hp2, β2, S2, h2, fun b hb => hS2 b (hS1 b hb), hI2, ?_⟩
          intro p τ xs u hm hph hβ
          by_cases hpo : p = o
          · subst hpo
            obtain ⟨v1, q1, q2⟩ := hI.arr p τ xs hph
            obtain ⟨v2, q3, q4⟩ := hI.arr p σ ys hx
            have heq : (⟨τ, xs⟩ : (τ : ET) × List τ.T) = ⟨σ, ys⟩ := by
              have := nodup_one hI.nodup hph hx
              simp only [AO.arr.injEq] at this
              obtain ⟨rfl, h⟩ := this
              cases h
              rfl
            simp only [Sigma.mk.injEq] at heq
            obtain ⟨rfl, h⟩ := heq
            cases h
            obtain ⟨A, c, r1, r2, r3, r4⟩ := hsl u hβ
            exact ⟨A, c, r1, r2, r3, r4.mono hS2 (fun _ _ => rfl)⟩
          · have hm' : AV.own p ∈ vs := by
              rcases List.mem_cons.1 hm with h | h
              · simp only [AV.own.injEq] at h; exact absurd h hpo
              · exact h
            exact hall p τ xs u hm' (List.mem_map.2 ⟨(p, .arr τ xs), (hdel_mem hI.nodup).2 ⟨hpo, hph⟩, rfl⟩) (by simp [delβ, hpo, hβ])
        · exact h.elim
      · rename_i hl
        obtain ⟨tm2, hp2, β2, S2, h2, hS2, hI2, hall⟩ := freezesF_all hI h
        refine ⟨tm2, hp2, β2, S2, h2, hS2, hI2, ?_⟩
        intro p τ xs u hm hph hβ
        rcases List.mem_cons.1 hm with h | h
        · simp only [AV.own.injEq] at h
          subst h
          have := (hlive_iff hp p).2 ⟨_, hph⟩
          rw [hl] at this
          simp at this
        · exact hall p τ xs u h hph hβ
    · rename_i hno
      obtain ⟨tm2, hp2, β2, S2, h2, hS2, hI2, hall⟩ := freezesF_all hI h
      refine ⟨tm2, hp2, β2, S2, h2, hS2, hI2, ?_⟩
      intro p τ xs u hm hph hβ
      rcases List.mem_cons.1 hm with h | h
      · exact absurd h.symm (hno p)
      · exact hall p τ xs u h hph hβ

/-- A call of a function that only computes; arrays that come back in its answer are read alone from then on. -/
theorem step_callP (hE : EnvOK P E) {g : Nat} {hh : List AV → Option (Prop × AV)} (hs : (g, Spec.pure hh) ∈ E.sp) {vs caps : List AV} {us cs : List Value} (hI : Inv X w0 β S tm hp a w) (hvs : RelVs β S w vs us) (hcs : RelVs β S w caps cs)
    (hent : (execOp a.eval o).run P w = .ok (.enter g (us ++ cs).toArray) w) (hK : Goes X w0 k K) (h : callP E hh vs caps tm hp o.dst k) : o.wp P a w K Q := by
  unfold callP at h
  obtain ⟨ws, h, hws, hrs, hfr⟩ := viewsF_all hI hvs h
  split at h
  · exact h.elim
  · rename_i hcalm
    have hcw : AV.calms ws = true := by rw [calms_append] at hcalm; simp at hcalm; exact hcalm.1
    have hcc : AV.calms caps = true := by rw [calms_append] at hcalm; simp at hcalm; exact hcalm.2
    have hoc := calm_own hcc
    split at h
    · rename_i p r hpr
      obtain ⟨hp', h⟩ := h
      rw [AV.f_eq] at h
      have hcall := fun hr => call_pure hE hI hs (vs := vs ++ caps) (ws := ws ++ caps) (by rw [anyOwn_append, hoc, Bool.or_false]; intro hno; exact (hws hno).append hcs)
        (hrs.append (RelVs.mono (fun _ _ x => x) (fun b hb => hI.sb b hb) (fun _ _ => rfl) _ _ hcs)) hcalm hpr hp' hr
      split at h
      · exact h.elim
      · rename_i hr hown hpl
        obtain ⟨tm2, hp2, β2, S2, h, hS2, hI2, hall⟩ := freezesF_all hI h
        have hargs : RelVs (fun _ => none) S2 w (ws ++ caps) (us ++ cs) :=
          RelVs.append (hfr (fun _ => none) S2 hS2 (fun p τ xs u h1 h2 h3 => hall p τ xs u h1 h2 h3) hcw) (RelVs.mono (fun _ _ x => x) hS2 (fun _ _ => rfl) _ _ (RelVs.calm _ _ hcc hcs))
        refine wp_enter hent ((hE.pure g hh hs).1 S2 w (ws ++ caps) (us ++ cs) p r hI2.sb hargs hpr hp') ?_
        rintro e w' ⟨u, rfl, hru, h1, h2, h3, h4, h5⟩
        rw [putD_eq] at h
        exact hK _ _ _ _ _ _ h ((hI2.grow h1 h2 h3 h4 h5).put (RelV.calm r u hr hru) o.dst)
      · rename_i hr hno
        refine wp_enter hent (hcall hr) ?_
        rintro e w' ⟨u, rfl, h1, h2, h3, h4, h5, h6, h7⟩
        rw [putD_eq] at h
        have hI2 := hI.grow h1 h2 h3 h4 h5
        refine hK _ _ _ _ _ _ h (hI2.put ?_ o.dst)
        cases hown : anyOwn vs with
        | false => exact h6 (by rw [anyOwn_append, hown, hoc]; rfl)
        | true =>
          cases hpl : plainV r with
          | true => exact plainV_rel hpl h7
          | false => exact (hno hown hpl).elim
    · exact h.elim

end ops
end Go.Proofs.Ythakgbecpkfeoaa.Ev

/- Calls of functions that are handed boxes: told rightly; every operation, all together. -/
set_option linter.unusedVariables false
set_option linter.unusedSimpArgs false
namespace Go.Proofs.Ythakgbecpkfeoaa.Ev

section ren
variable {β β' : Nat → Option Value} {S : Nat → Prop} {w : World} {ids : List Nat}

theorem idxOf_of : ∀ {l : List Nat} {o i : Nat}, idxOf l o i < i + l.length → i ≤ idxOf l o i ∧ l[idxOf l o i - i]? = some o
  | [], o, i, h => by simp [idxOf] at h
  | p :: l, o, i, h => by
    simp only [idxOf] at h ⊢
    cases e : Nat.beq p o with
    | true => obtain rfl := Nat.eq_of_beq_eq_true e; simp
    | false =>
      rw [e] at h
      obtain ⟨h1, h2⟩ := idxOf_of (l := l) (o := o) (i := i + 1) (by simp only [List.length_cons] at h; omega)
      simp only
      refine ⟨by omega, ?_⟩
      rw [show idxOf l o (i + 1) - i = (idxOf l o (i + 1) - (i + 1)) + 1 by omega, List.getElem?_cons_succ]
      exact h2

theorem notIn_of : ∀ {l : List Nat} {n : Nat}, notIn l n = true → n ∉ l
  | [], n, _ => by simp
  | x :: l, n, h => by
    simp only [notIn] at h
    cases e : Nat.beq x n with
    | true => rw [e] at h; simp at h
    | false =>
      rw [e] at h
      have := Nat.ne_of_beq_eq_false e
      have := notIn_of (l := l) h
      simp only [List.mem_cons, not_or]
      exact ⟨fun z => by omega, this⟩
theorem nodupB_of : ∀ {l : List Nat}, nodupB l = true → l.Nodup
  | [], _ => by simp
  | x :: l, h => by
    simp only [nodupB] at h
    cases e : notIn l x with
    | false => rw [e] at h; simp at h
    | true => rw [e] at h; exact List.nodup_cons.2 ⟨notIn_of e, nodupB_of h⟩

mutual
theorem RelV.ren (hβ : ∀ o i v, ids[i]? = some o → β o = some v → β' (1000 + i) = some v) : ∀ (v : AV) (u : Value), v.renok ids = true → RelV β S w v u → RelV β' S w (v.ren ids) u
  | .int .., _, _, h => h
  | .bool .., _, _, h => h
  | .str .., _, _, h => h
  | .ptr o off, _, hc, ⟨g, h1, h2⟩ => by
    simp only [AV.renok, Nat.blt_eq] at hc
    obtain ⟨_, h3⟩ := idxOf_of (l := ids) (o := o) (i := 0) (by omega)
    exact ⟨g, hβ o _ _ (by simpa using h3) h1, h2⟩
  | .ep .., _, _, h => h
  | .oep .., _, hc, _ => by simp [AV.renok, AV.free] at hc
  | .sl .., _, _, h => h
  | .lit .., _, _, h => h
  | .own .., _, hc, _ => by simp [AV.renok, AV.free] at hc
  | .nil, _, _, h => h
  | .fn .., _, _, h => h
  | .mp ks l, _, hc, h => RelV.free (.mp ks l) _ hc h
  | .kp l, _, hc, ⟨a, us, h1, h2, h3, h4⟩ => ⟨a, us, h1, h2, h3, RelVs.ren hβ l us (by simpa [AV.renok] using hc) h4⟩
  | .clo _ l, _, hc, ⟨cs, h1, h2⟩ => ⟨cs, h1, RelVs.ren hβ l cs (by simpa [AV.renok] using hc) h2⟩
  | .agg l, _, hc, h => RelV.free (.agg l) _ hc h
  | .tup l, _, hc, h => RelV.free (.tup l) _ hc h
  | .ifc t x, _, hc, h => RelV.free (.ifc t x) _ hc h
  | .opq .., _, _, h => h
  | .skp, _, _, h => h
  | .undef, _, _, h => h
theorem RelVs.ren (hβ : ∀ o i v, ids[i]? = some o → β o = some v → β' (1000 + i) = some v) : ∀ (l : List AV) (us : List Value), AV.renoks ids l = true → RelVs β S w l us → RelVs β' S w (AV.rens ids l) us
  | [], _, _, h => h
  | v :: l, _, hc, ⟨u, us, h1, h2, h3⟩ => by
    simp only [AV.renoks] at hc
    cases e : v.renok ids with
    | true => rw [e] at hc; exact ⟨u, us, h1, RelV.ren hβ v u e h2, RelVs.ren hβ l us hc h3⟩
    | false => rw [e] at hc; simp at hc
end

theorem rensF_eq (ids : List Nat) (l : List AV) (k : List AV → Prop) : rensF ids l k = k (AV.rens ids l) := by
  induction l generalizing k with
  | nil => rfl
  | cons v l ih => simp [rensF, AV.f_eq, ih, AV.rens]

theorem boxesF_of {hp : Hp} : ∀ {ids : List Nat} {k : List (List AV) → Prop}, boxesF hp ids k → ∃ bs : List (List AV), k bs ∧ bs.length = ids.length ∧ ∀ (i : Nat) (cs : List AV), bs[i]? = some cs → ∃ o, ids[i]? = some o ∧ (o, .box cs) ∈ hp ∧ AV.frees cs = true
  | [], k, h => ⟨[], h, rfl, by simp⟩
  | o :: l, k, h => by
    simp only [boxesF] at h
    obtain ⟨x, hx, h⟩ := hget_of h
    split at h
    · rename_i cs
      split at h
      · rename_i hf
        obtain ⟨bs, h, hl, hall⟩ := boxesF_of h
        refine ⟨_, h, by simp [hl], ?_⟩
        intro i cs' hi
        cases i with
        | zero => simp at hi; subst hi; exact ⟨o, rfl, hx, hf⟩
        | succ i => simpa using hall i cs' (by simpa using hi)
      · exact h.elim
    · exact h.elim

theorem unboxF_of : ∀ {ids : List Nat} {bs : List (List AV)} {hp : Hp} {k : Hp → Prop}, (hp.map (·.1)).Nodup → unboxF ids bs hp k → ∃ hp', k hp' ∧ (hp'.map (·.1)).Nodup ∧ bs.length = ids.length ∧
    (∀ o x, (o, x) ∈ hp' → (∃ (i : Nat) (cs : List AV), ids[i]? = some o ∧ bs[i]? = some cs ∧ x = .box cs ∧ AV.frees cs = true) ∨ (o ∉ ids ∧ (o, x) ∈ hp)) ∧ (∀ o x, (o, x) ∈ hp → ∃ y, (o, y) ∈ hp')
  | [], [], hp, k, hn, h => ⟨hp, h, hn, rfl, fun o x hm => .inr ⟨by simp, hm⟩, fun o x hm => ⟨x, hm⟩⟩
  | [], _ :: _, hp, k, _, h => h.elim
  | _ :: _, [], hp, k, _, h => h.elim
  | o :: l, cs :: bs, hp, k, hn, h => by
    simp only [unboxF] at h
    split at h
    · rename_i hf
      rw [hputF_eq] at h
      obtain ⟨hp', h, h1, h2, h3, h4⟩ := unboxF_of (hput_nodup hn o (.box cs)) h
      refine ⟨hp', h, h1, by simp [h2], ?_, ?_⟩
      · intro p x hm
        rcases h3 p x hm with ⟨i, ds, q1, q2, q3, q4⟩ | ⟨q1, q2⟩
        · exact .inl ⟨i + 1, ds, by simpa using q1, by simpa using q2, q3, q4⟩
        · rcases hput_mem hn q2 with ⟨rfl, rfl⟩ | ⟨q3, q4⟩
          · exact .inl ⟨0, cs, rfl, rfl, rfl, hf⟩
          · exact .inr ⟨by simp [q1, q3], q4⟩
      · intro p x hm
        by_cases hpo : p = o
        · subst hpo; exact h4 p _ (hput_self hp p (.box cs))
        · exact h4 p x (hput_keep hpo hm)
    · exact h.elim
end ren

section ops
variable {P : Program} {E : Env} {X : XR} {w0 : World} {β : Nat → Option Value} {S : Nat → Prop} {tm : List AV} {hp : Hp} {a : Act} {w : World}
variable {o : Oper} {K : Act → World → Prop} {Q : Exit → Act → World → Prop} {k : List AV → Hp → Prop} {kp : AV → List AV → Hp → Prop}

/-- Behind a call that was handed boxes; memory that nobody names may have changed. -/
theorem Inv.backM (hI : Inv X w0 β S tm hp a w) {ids gs : List Nat} {w' : World} {S' : Nat → Prop} {hp' : Hp} (M : Nat → Prop) (hM : ∀ b, M b → ¬ S b ∧ Mine X w0 b ∧ ∀ p u, β p = some u → blk u ≠ some b) (hos : w'.os = w.os) (htape : w'.tape = w.tape) (hout : w'.output = w.output) (hsz : w.heap.size ≤ w'.heap.size)
    (hb : ∀ b, b < w.heap.size → b ∉ gs → ¬ M b → w'.heap[b]? = w.heap[b]?) (hS : ∀ b, S b → S' b) (hS2 : ∀ b, S' b → b < w'.heap.size ∧ (S b ∨ w.heap.size ≤ b ∨ M b))
    (hgs : ∀ g ∈ gs, ∃ o cs, o ∈ ids ∧ (o, AO.box cs) ∈ hp ∧ β o = some (.pointer (some ⟨g, 0, none⟩)))
    (hmem : ∀ o x, (o, x) ∈ hp' → (∃ g T vs cs, x = .box cs ∧ g ∈ gs ∧ β o = some (.pointer (some ⟨g, 0, none⟩)) ∧ w'.heap[g]? = some (Obj.cells vs T (0, 0)) ∧ RelVs β S' w' cs vs.toList) ∨ (o ∉ ids ∧ (o, x) ∈ hp))
    (hlive : ∀ o x, (o, x) ∈ hp → ∃ y, (o, y) ∈ hp') (hnod : (hp'.map (·.1)).Nodup) : Inv X w0 β S' tm hp' a w' := by
  have hgp : ∀ g ∈ gs, (w0.heap.size ≤ g ∨ X g) ∧ ¬ S g ∧ g < w.heap.size := fun g hg => by
    obtain ⟨o, cs, _, h1, h2⟩ := hgs g hg
    obtain ⟨g', T, vs, q1, q2, q3, q4, _⟩ := hI.box o cs h1
    rw [h2] at q1
    obtain rfl : g = g' := by simpa using q1
    exact ⟨q2, q3, heap_lt q4⟩
  have hw : ∀ b, S b → w'.heap[b]? = w.heap[b]? := fun b h => hb b (hI.sb b h) (fun hg => (hgp b hg).2.1 h) (fun hg => (hM b hg).1 h)
  have hm : ∀ (l : List AV) vs, RelVs β S w l vs → RelVs β S' w' l vs := fun l vs => RelVs.mono (fun _ _ x => x) hS hw l vs
  have hn : ∀ p u b, β p = some u → blk u = some b → ¬ S b → ¬ S' b := fun p u b h1 h2 h3 h4 => by
    rcases (hS2 b h4).2 with h | h | h
    · exact h3 h
    · have := blk_lt hI h1 h2; omega
    · exact (hM b h).2.2 p u h1 h2
  have hsep : ∀ p u g, p ∉ ids → β p = some u → blk u = some g → w'.heap[g]? = w.heap[g]? := fun p u g h1 h2 h3 => by
    refine hb g (blk_lt hI h2 h3) (fun hg => ?_) (fun hg => (hM g hg).2.2 p u h2 h3)
    obtain ⟨o, cs, h4, h5, h6⟩ := hgs g hg
    exact hI.apart o p _ u g (fun e => h1 (e ▸ h4)) h6 h2 rfl (hgp g hg).2.1 h3
  refine ⟨hos.trans hI.os, htape.trans hI.tape, hout.trans hI.output, Nat.le_trans hI.size hsz, ?_, hI.ext, fun b h => (hS2 b h).1, ?_, ?_, ?_, hnod, ?_, hm _ _ hI.rel, hI.defs, fun b hb hlt => ?_, hI.keep, hI.far⟩
  · intro b h1 h2
    refine (hb b (Nat.lt_of_lt_of_le h1 hI.size) (fun hg => ?_) (fun hg => ?_)).trans (hI.old b h1 h2)
    · rcases (hgp b hg).1 with h | h
      · omega
      · exact h2 h
    · rcases (hM b hg).2.1 with h | h
      · omega
      · exact h2 h
  · intro p cs hmm
    rcases hmem p _ hmm with ⟨g, T, vs, cs', q1, q2, q3, q4, q5⟩ | ⟨q1, q2⟩
    · simp only [AO.box.injEq] at q1
      subst q1
      exact ⟨g, T, vs, q3, (hgp g q2).1, hn p _ g q3 rfl (hgp g q2).2.1, q4, q5⟩
    · obtain ⟨g, T, vs, h1, h2, h3, h4, h5⟩ := hI.box p cs q2
      exact ⟨g, T, vs, h1, h2, hn p _ g h1 rfl h3, (hsep p _ g q1 h1 rfl).trans h4, hm _ _ h5⟩
  · intro p τ xs hmm
    rcases hmem p _ hmm with ⟨g, T, vs, cs', q1, _⟩ | ⟨q1, q2⟩
    · simp at q1
    · obtain ⟨v, h1, h2⟩ := hI.arr p τ xs q2
      exact ⟨v, h1, h2.mono hS (fun b hv => hn p v b h1 hv) (fun b hv => hsep p v b q1 h1 hv)⟩
  · intro p v h
    obtain ⟨x, hx⟩ := hI.live p v h
    exact hlive p x hx
  · intro p p' v v' g hne h1 h2 h3 h4
    exact hI.apart p p' v v' g hne h1 h2 h3 (fun h5 => h4 (hS g h5))
  · rcases (hS2 b hb).2 with h | h | h
    · exact hI.grew b h hlt
    · have := hI.size; omega
    · exact (hM b h).2.1.elim (fun h => by omega) .inr

theorem Inv.back (hI : Inv X w0 β S tm hp a w) {ids gs : List Nat} {w' : World} {S' : Nat → Prop} {hp' : Hp} (hos : w'.os = w.os) (htape : w'.tape = w.tape) (hout : w'.output = w.output) (hsz : w.heap.size ≤ w'.heap.size)
    (hb : ∀ b, b < w.heap.size → b ∉ gs → w'.heap[b]? = w.heap[b]?) (hS : ∀ b, S b → S' b) (hS2 : ∀ b, S' b → b < w'.heap.size ∧ (S b ∨ w.heap.size ≤ b))
    (hgs : ∀ g ∈ gs, ∃ o cs, o ∈ ids ∧ (o, AO.box cs) ∈ hp ∧ β o = some (.pointer (some ⟨g, 0, none⟩)))
    (hmem : ∀ o x, (o, x) ∈ hp' → (∃ g T vs cs, x = .box cs ∧ g ∈ gs ∧ β o = some (.pointer (some ⟨g, 0, none⟩)) ∧ w'.heap[g]? = some (Obj.cells vs T (0, 0)) ∧ RelVs β S' w' cs vs.toList) ∨ (o ∉ ids ∧ (o, x) ∈ hp))
    (hlive : ∀ o x, (o, x) ∈ hp → ∃ y, (o, y) ∈ hp') (hnod : (hp'.map (·.1)).Nodup) : Inv X w0 β S' tm hp' a w' :=
  hI.backM (ids := ids) (gs := gs) (fun _ => False) (fun _ h => h.elim) hos htape hout hsz (fun b h1 h2 _ => hb b h1 h2) hS (fun b h => ⟨(hS2 b h).1, (hS2 b h).2.elim .inl fun h => .inr (.inl h)⟩) hgs hmem hlive hnod

theorem step_callS (hE : EnvOK P E) {g : Nat} {s : List AV → List (List AV) → Option (Prop × Out × List (List AV))} (hs : (g, Spec.full s) ∈ E.sp) {vs : List AV} {us : List Value} (hI : Inv X w0 β S tm hp a w) (hvs : RelVs β S w vs us)
    (hent : (execOp a.eval o).run P w = .ok (.enter g us.toArray) w) (hK : Goes X w0 k K) (hKp : Falls X w0 kp Q) (h : callS E (detS s) vs tm hp o.dst kp k) : o.wp P a w K Q := by
  unfold callS at h
  obtain ⟨ws, g1, hws, _⟩ := viewsF_of hI hvs h
  obtain ⟨bs, g2, hbl, hbs⟩ := boxesF_of g1
  clear h g1
  rw [rensF_eq] at g2
  split at g2
  · exact g2.elim
  · exact g2.elim
  · rename_i hno hok
    simp only [Bool.and_eq_true] at hok
    obtain ⟨hren, hnd⟩ := hok
    have hnd := nodupB_of hnd
    have hvs := hws hno
    let gs : List Nat := (AV.idss ws []).map fun o => match β o with | some (.pointer (some ad)) => ad.block | _ => 0
    have hg : ∀ (i o : Nat), (AV.idss ws [])[i]? = some o → ∃ (cs : List AV) (g T : Nat) (vs : Array Value), bs[i]? = some cs ∧ (o, .box cs) ∈ hp ∧ AV.frees cs = true ∧ gs[i]? = some g ∧ β o = some (.pointer (some ⟨g, 0, none⟩)) ∧ ¬ S g ∧ w.heap[g]? = some (.cells vs T (0, 0)) ∧ RelVs β S w cs vs.toList := by
      intro i o hi
      have hlt : i < bs.length := by rw [hbl]; exact (List.getElem?_eq_some_iff.1 hi).1
      obtain ⟨o', q1, q2, q3⟩ := hbs i bs[i] (List.getElem?_eq_getElem hlt)
      rw [hi] at q1
      obtain rfl : o = o' := by simpa using q1
      obtain ⟨g, T, vs, q4, q5, q6, q7, q8⟩ := hI.box o _ q2
      exact ⟨_, g, T, vs, List.getElem?_eq_getElem hlt, q2, q3, by simp [gs, hi, q4], q4, q6, q7, q8⟩
    have hglen : gs.length = bs.length := by simp [gs, hbl]
    have hgin : ∀ (i g : Nat), gs[i]? = some g → ∃ o, (AV.idss ws [])[i]? = some o ∧ β o = some (.pointer (some ⟨g, 0, none⟩)) ∧ ¬ S g ∧ g < w.heap.size ∧ ∃ cs, (o, AO.box cs) ∈ hp := by
      intro i g hi
      have hlt : i < (AV.idss ws []).length := by have := (List.getElem?_eq_some_iff.1 hi).1; rw [hglen, hbl] at this; exact this
      obtain ⟨cs, g', T, vs, _, q1, _, q2, q3, q4, q5, _⟩ := hg i _ (List.getElem?_eq_getElem hlt)
      rw [hi] at q2
      obtain rfl : g = g' := by simpa using q2
      exact ⟨_, List.getElem?_eq_getElem hlt, q3, q4, heap_lt q5, cs, q1⟩
    have hgnd : gs.Nodup := by
      rw [List.nodup_iff_pairwise_ne, List.pairwise_iff_getElem]
      intro i j hi hj hij e
      obtain ⟨o, q1, q2, q3, _⟩ := hgin i _ (List.getElem?_eq_getElem hi)
      obtain ⟨o', r1, r2, _⟩ := hgin j _ (List.getElem?_eq_getElem hj)
      have hne : o ≠ o' := by
        intro e'
        subst e'
        have h1 := (List.getElem?_eq_some_iff.1 q1)
        have h2 := (List.getElem?_eq_some_iff.1 r1)
        obtain ⟨a1, a2⟩ := h1
        obtain ⟨b1, b2⟩ := h2
        have := (List.getElem_inj (h₀ := a1) (h₁ := b1) hnd).1 (a2.trans b2.symm)
        omega
      rw [e] at q2 q3
      exact hI.apart o o' _ _ _ hne q2 r2 rfl q3 rfl
    have hext : ∀ o i v, (AV.idss ws [])[i]? = some o → β o = some v → extβ gs (1000 + i) = some v := by
      intro o i v hi hv
      obtain ⟨cs, g', T, vs, _, _, _, q2, q3, _⟩ := hg i o hi
      rw [hv] at q3
      simp only [Option.some.injEq] at q3
      subst q3
      simp [extβ, q2]
    have hcall := (hE.full g s hs).1 S w (AV.rens (AV.idss ws []) ws) us bs gs _ hI.sb hglen hgnd (fun g hg' => by
        obtain ⟨i, hi⟩ := List.getElem?_of_mem hg'
        obtain ⟨o, _, _, q3, q4, _⟩ := hgin i g hi
        exact ⟨q3, q4⟩) (fun i cs hi => by
        obtain ⟨o, q1, _⟩ := hbs i cs hi
        obtain ⟨cs', g', T, vs, r1, _, r3, r4, _, _, r7, r8⟩ := hg i o q1
        rw [hi] at r1
        obtain rfl : cs = cs' := by simpa using r1
        exact ⟨g', T, vs, r4, r7, RelVs.free _ _ r3 r8⟩) (RelVs.ren hext ws us hren hvs) g2
    refine wp_enter hent hcall ?_
    rintro e w' ⟨out, bs', S', hQ, hout, hbl', hbs', l1, l2, l3, l4, l5, l6, l7⟩
    have back : ∀ {kk : Hp → Prop}, unboxF (AV.idss ws []) bs' hp kk → ∃ hp', kk hp' ∧ Inv X w0 β S' tm hp' a w' := by
      intro kk hk
      obtain ⟨hp', hk, u1, u2, u3, u4⟩ := unboxF_of hI.nodup hk
      refine ⟨hp', hk, hI.back (ids := AV.idss ws []) (gs := gs) l1 l2 l3 l4 l5 l6 l7 ?_ ?_ u4 u1⟩
      · intro g' hg'
        obtain ⟨i, hi⟩ := List.getElem?_of_mem hg'
        obtain ⟨o, q1, q2, _, _, cs, q5⟩ := hgin i g' hi
        exact ⟨o, cs, List.mem_of_getElem? q1, q5, q2⟩
      · intro p x hm
        rcases u3 p x hm with ⟨i, cs, q1, q2, q3, q4⟩ | hr
        · obtain ⟨_, g1, _, _, _, _, _, r4, r5, _⟩ := hg i p q1
          obtain ⟨g2, T, vs, s1, s2, s3⟩ := hbs' i cs q2
          rw [r4] at s1
          obtain rfl : g1 = g2 := by simpa using s1
          exact .inl ⟨g1, T, vs, cs, q3, List.mem_of_getElem? r4, r5, s2, RelVs.free _ _ q4 s3⟩
        · exact .inr hr
    cases out with
    | ret r =>
      obtain ⟨u, rfl, hru⟩ := hout
      simp only [AV.f_eq] at hQ
      split at hQ
      · rename_i hc
        obtain ⟨hp', hQ, hI'⟩ := back hQ
        rw [putD_eq] at hQ
        exact hK _ _ _ _ _ _ hQ (hI'.put (RelV.calm r u hc hru) o.dst)
      · exact hQ.elim
    | pan r =>
      obtain ⟨u, rfl, hru⟩ := hout
      simp only [AV.f_eq] at hQ
      split at hQ
      · rename_i hc
        obtain ⟨hp', hQ, hI'⟩ := back hQ
        exact hKp _ _ _ _ _ _ _ _ hQ hc hI' (RelV.calm r u hc hru)
      · exact hQ.elim

theorem getV_rel {β : Nat → Option Value} {S : Nat → Prop} {w : World} : ∀ {cs : List AV} {us : List Value} {n : Nat} {v : AV}, RelVs β S w cs us → getV cs n = v → v ≠ .undef → ∃ u, us[n]? = some u ∧ RelV β S w v u
  | [], us, n, v, h, hg, hne => absurd hg.symm hne
  | c :: cs, _, 0, v, ⟨u, us, rfl, h1, h2⟩, hg, hne => by simp only [getV] at hg; subst hg; exact ⟨u, rfl, h1⟩
  | c :: cs, _, n + 1, v, ⟨u, us, rfl, h1, h2⟩, hg, hne => by
    simp only [getV] at hg
    obtain ⟨u', q1, q2⟩ := getV_rel h2 hg hne
    exact ⟨u', by simpa using q1, q2⟩

/-- All cells but one name no object. -/
theorem RelVs.hole {β β' : Nat → Option Value} {S : Nat → Prop} {w : World} {x : AV} : ∀ {cs : List AV} {us : List Value} {n : Nat}, AV.frees (cs.set n .nil) = true → RelVs β S w cs us → (∀ u, us[n]? = some u → RelV β' S w x u) → RelVs β' S w (cs.set n x) us
  | [], us, n, _, h, _ => by simpa [RelVs] using h
  | c :: cs, _, 0, hf, ⟨u, us, rfl, h1, h2⟩, hx => ⟨u, us, rfl, hx u rfl, RelVs.free _ _ (by simpa [AV.frees, AV.free] using hf) h2⟩
  | c :: cs, _, n + 1, hf, ⟨u, us, rfl, h1, h2⟩, hx => by
    simp only [List.set_cons_succ, AV.frees] at hf
    cases e : c.free with
    | true => rw [e] at hf; exact ⟨u, us, rfl, RelV.free _ _ e h1, RelVs.hole hf h2 (fun u' hu => hx u' (by simpa using hu))⟩
    | false => rw [e] at hf; simp at hf

theorem frees_set : ∀ {cs : List AV} {n : Nat}, AV.frees (cs.set n .nil) = true → (getV cs n).free = true → AV.frees cs = true
  | [], n, h, _ => h
  | c :: cs, 0, h, h2 => by
    simp only [getV] at h2
    simp only [AV.frees, h2]
    simpa [AV.frees, AV.free] using h
  | c :: cs, n + 1, h, h2 => by
    simp only [List.set_cons_succ, AV.frees] at h ⊢
    simp only [getV] at h2
    cases e : c.free with
    | true => rw [e] at h; exact frees_set h h2
    | false => rw [e] at h; simp at h

/-- Behind a call that was handed a table. -/
theorem backT_of (hI : Inv X w0 β S tm hp a w) {ob gb : Nat} (hob : β ob = some (.pointer (some ⟨gb, 0, none⟩))) (ho9 : ob ≠ 999) {M : Nat → Prop} (hM : ∀ b, M b → ¬ S b ∧ Mine X w0 b ∧ ∀ p u, β p = some u → blk u ≠ some b)
    {w' : World} {S' : Nat → Prop} {va' : Value} {T' : Nat} {vs' : Array Value} {cs' : List AV} {ext' : Option (List Int)}
    (k1 : w'.heap[gb]? = some (Obj.cells vs' T' (0, 0))) (k2 : ¬ S' gb) (k3 : RelVs (tabβ gb ext' va') S' w' cs' vs'.toList)
    (k4 : ∀ xs, ext' = some xs → OwnR S' w' (fun b => M b ∨ w.heap.size ≤ b) .i64 xs va')
    (hos : w'.os = w.os) (htape : w'.tape = w.tape) (hout : w'.output = w.output) (hsz : w.heap.size ≤ w'.heap.size)
    (hb : ∀ b, b < w.heap.size → b ≠ gb → ¬ M b → w'.heap[b]? = w.heap[b]?) (hS : ∀ b, S b → S' b) (hS2 : ∀ b, S' b → b < w'.heap.size ∧ (S b ∨ w.heap.size ≤ b ∨ M b))
    (hK : Goes X w0 k K) (h : backT tm hp ob cs' ext' o.dst k) : K (a.put o.dst (.tuple #[])) w' := by
  have hbox : ∀ {β : Nat → Option Value} {S : Nat → Prop} {tm : List AV} {hp : Hp} {w : World}, Inv X w0 β S tm hp a w → β ob = some (.pointer (some ⟨gb, 0, none⟩)) → ∃ cs, (ob, AO.box cs) ∈ hp := by
    intro β S tm hp w hI hob
    obtain ⟨x, hx⟩ := hI.live ob _ hob
    cases x with
    | box cs => exact ⟨cs, hx⟩
    | arr τ xs =>
      obtain ⟨v, h1, h2⟩ := hI.arr ob τ xs hx
      rw [hob] at h1
      obtain rfl : Value.pointer (some ⟨gb, 0, none⟩) = v := by simpa using h1
      rcases h2 with ⟨_, h2 | ⟨g, h2, _⟩⟩ | ⟨g, cap, cur, h2, _⟩ <;> simp at h2
  obtain ⟨cs0, hcs0⟩ := hbox hI hob
  have hbk : ∀ (ds : List AV), RelVs β S' w' ds vs'.toList → Inv X w0 β S' tm (hput hp ob (.box ds)) a w' := by
    intro ds hds
    refine hI.backM (ids := [ob]) (gs := [gb]) M hM hos htape hout hsz (fun b h1 h2 h3 => hb b h1 (by simpa using h2) h3) hS hS2 ?_ ?_ ?_ (hput_nodup hI.nodup ob _)
    · intro g hg
      simp only [List.mem_singleton] at hg
      subst hg
      exact ⟨ob, cs0, by simp, hcs0, hob⟩
    · intro p x hm
      rcases hput_mem hI.nodup hm with ⟨rfl, rfl⟩ | ⟨hne, hm⟩
      · exact .inl ⟨gb, T', vs', ds, rfl, by simp, hob, k1, hds⟩
      · exact .inr ⟨by simpa using hne, hm⟩
    · intro p x hm
      by_cases hp : p = ob
      · subst hp; exact ⟨_, hput_self _ _ _⟩
      · exact ⟨x, hput_keep hp hm⟩
  unfold backT at h
  split at h
  · exact h.elim
  · rename_i hfr
    split at h
    · rename_i hfc
      rw [hputF_eq, putD_eq] at h
      exact hK _ _ _ _ _ _ h ((hbk cs' (RelVs.free _ _ (frees_set hfr hfc) k3)).put (v := .tup []) (u := .tuple #[]) ⟨[], rfl, rfl⟩ o.dst)
    · exact h.elim
  · rename_i xs hfr
    split at h
    · rename_i n hn
      split at h
      · rename_i he
        obtain rfl := Nat.eq_of_beq_eq_true he
        rw [setF_eq, hputF_eq] at h
        have hI2 := hbk (cs'.set 14 .undef) (RelVs.hole hfr k3 (fun _ _ => trivial))
        obtain ⟨tm2, hp2, h, hI3⟩ := dropObj_of hI2 h
        rw [hputF_eq, setF_eq, hputF_eq, putD_eq] at h
        obtain ⟨u14, q1, q2⟩ := getV_rel k3 hn (by simp)
        obtain ⟨q2, A, m, c, q3⟩ := q2
        have hva : va' = u14 := by simpa [tabβ] using q2
        subst hva
        have hown := k4 xs rfl
        have hown' : OwnR S' w' (Mine X w0) .i64 xs va' := by
          rcases hown with h1 | ⟨g, cap, cur, h1, h2, h3⟩
          · exact .inl h1
          · exact .inr ⟨g, cap, cur, h1, h2.elim (fun h => (hM g h).2.1) (fun h => .inl (Nat.le_trans hI.size h)), h3⟩
        have hI4 := hI3.add (o := 999) (x := .arr .i64 xs) (v := va') (w' := w') (S' := S') (by omega) (by simp [delβ]) (fun _ => False) rfl rfl rfl (Nat.le_refl _) (fun _ _ _ => rfl) (fun _ h => h.elim) (fun _ h => h)
          (fun b hb => ⟨hI3.sb b hb, .inl hb⟩) hown' (by
            intro p u g h1 h2 h3 h4
            have h1' : β p = some u := by
              unfold delβ at h1
              split at h1
              · simp at h1
              · exact h1
            rcases hown with ⟨_, h5 | ⟨g', h5, h6, _⟩⟩ | ⟨g', cap, cur, h5, h6, _⟩
            · rw [h5] at h2; simp [blk] at h2
            · rw [h5] at h2; simp only [blk, Option.some.injEq] at h2; subst h2; exact h3 h6
            · rw [h5] at h2
              simp only [blk, Option.some.injEq] at h2
              subst h2
              rcases h6 with h6 | h6
              · exact (hM _ h6).2.2 p u h1' h4
              · have := blk_lt hI h1' h4; omega)
        have hob4 : updβ (delβ β 999) 999 va' ob = some (.pointer (some ⟨gb, 0, none⟩)) := by simp [updβ, delβ, ho9, hob]
        obtain ⟨cs4, hcs4⟩ := hbox hI4 hob4
        obtain ⟨g5, T5, vs5, r1, r2, r3, r4, r5⟩ := hI4.box ob _ hcs4
        rw [hob4] at r1
        obtain rfl : gb = g5 := by simpa using r1
        have hI5 := hI4.write hcs4 hob4 (g := gb) rfl k2 r2 (w' := w') (x := .box (cs'.set 14 (.own 999))) rfl rfl rfl rfl (fun _ _ => rfl)
          ⟨gb, T', vs', rfl, r2, k2, k1, RelVs.hole hfr k3 (fun u hu => by
            rw [q1] at hu
            obtain rfl : va' = u := by simpa using hu
            exact ⟨by simp [updβ], A, m, c, q3⟩)⟩
        exact hK _ _ _ _ _ _ h (hI5.put (v := .tup []) (u := .tuple #[]) ⟨[], rfl, rfl⟩ o.dst)
      · exact h.elim
    · exact h.elim

theorem step_callT (hE : EnvOK P E) {g : Nat} {s : List AV → List AV → Option (List Int) → Option (Prop × List AV × Option (List Int))} (hs : (g, Spec.tab s) ∈ E.sp) {vs : List AV} {us : List Value} (hI : Inv X w0 β S tm hp a w) (hvs : RelVs β S w vs us)
    (hent : (execOp a.eval o).run P w = .ok (.enter g us.toArray) w) (hK : Goes X w0 k K) (h : callT s vs tm hp o.dst k) : o.wp P a w K Q := by
  unfold callT at h
  split at h
  · rename_i ob rest
    obtain ⟨v0, us', rfl, hv0, hrest⟩ := hvs
    obtain ⟨gb, hgb, rfl⟩ := hv0
    obtain ⟨ws, h, hws, _⟩ := viewsF_of hI hrest h
    split at h
    · rename_i hfr hno ho9
      have hrest := hws hno
      have ho9 := Nat.ne_of_beq_eq_false ho9
      obtain ⟨x, hx, h⟩ := hget_of h
      split at h
      · rename_i cs
        split at h
        · rename_i hfs
          obtain ⟨gb', T, vs, q1, q2, q3, q4, q5⟩ := hI.box ob cs hx
          rw [hgb] at q1
          obtain rfl : gb = gb' := by simpa using q1
          have hargs : ∀ ext va, RelVs (tabβ gb ext va) S w (.ptr 1000 0 :: ws) (.pointer (some ⟨gb, 0, none⟩) :: us') := fun ext va => ⟨_, _, rfl, ⟨gb, by simp [tabβ], rfl⟩, RelVs.free _ _ hfr hrest⟩
          split at h
          · rename_i q hq
            obtain ⟨y, hy, h⟩ := hget_of h
            split at h
            · rename_i xs
              split at h
              · rename_i p cs' ext' hh
                obtain ⟨hp', h⟩ := h
                obtain ⟨va, hva, hown⟩ := hI.arr q _ xs hy
                obtain ⟨u14, r1, r2, A, m, c, r3⟩ := getV_rel q5 hq (by simp)
                rw [hva] at r2
                obtain rfl : va = u14 := by simpa using r2
                have hne : q ≠ ob := fun e => by
                  subst e
                  rw [hgb] at hva
                  obtain rfl : Value.pointer (some ⟨gb, 0, none⟩) = va := by simpa using hva
                  simp at r3
                have hcall := (hE.tab g s hs).1 S w (.ptr 1000 0 :: ws) (_ :: us') gb T vs (cs.set 14 (.own 1001)) (some xs) va p cs' ext' hI.sb q3 q4
                  (RelVs.hole hfs q5 (fun u hu => by
                    rw [r1] at hu
                    obtain rfl : va = u := by simpa using hu
                    exact ⟨by simp [tabβ], A, m, c, r3⟩))
                  (fun xs' e => by
                    obtain rfl : xs = xs' := by simpa using e
                    refine ⟨⟨A, m, c, r3⟩, ?_⟩
                    rcases hown with h1 | ⟨g', cap, cur, h1, h2, h3, h4⟩
                    · exact .inl h1
                    · refine .inr ⟨g', cap, cur, h1, ⟨heap_lt h4.1, fun e => ?_⟩, h3, h4⟩
                      subst e
                      exact hI.apart q ob va _ g' hne hva hgb (by rw [h1]; rfl) h3 rfl)
                  (hargs _ _) hh hp'
                refine wp_enter hent hcall ?_
                rintro e w' ⟨S', va', T', vs', rfl, k1, k2, k3, k4, l1, l2, l3, l4, l5, l6, l7⟩
                obtain ⟨tm1, hp1, h, hI1⟩ := dropObj_of hI h
                refine backT_of hI1 (M := Its S (some xs) va) (by simp [delβ, Ne.symm hne, hgb]) ho9 ?_ k1 k2 k3 k4 l1 l2 l3 l4 l5 l6 l7 hK h
                rintro b ⟨_, hb, hbS⟩
                refine ⟨hbS, ?_, ?_⟩
                · rcases hown with ⟨_, h5 | ⟨g', h5, h6, _⟩⟩ | ⟨g', cap, cur, h5, h6, _⟩
                  · rw [h5] at hb; simp [blk] at hb
                  · rw [h5] at hb; simp only [blk, Option.some.injEq] at hb; subst hb; exact absurd h6 hbS
                  · rw [h5] at hb; simp only [blk, Option.some.injEq] at hb; subst hb; exact h6
                · intro p u hp
                  unfold delβ at hp
                  split at hp
                  · simp at hp
                  · rename_i hpq
                    exact hI.apart q p va u b (Ne.symm hpq) hva hp hb hbS
              · exact h.elim
            · exact h.elim
          · split at h
            · rename_i p cs' ext' hfc hh
              obtain ⟨hp', h⟩ := h
              have hcall := (hE.tab g s hs).1 S w (.ptr 1000 0 :: ws) (_ :: us') gb T vs cs none undef p cs' ext' hI.sb q3 q4
                (RelVs.free _ _ (frees_set hfs hfc) q5) (fun xs' e => by simp at e) (hargs _ _) hh hp'
              refine wp_enter hent hcall ?_
              rintro e w' ⟨S', va', T', vs', rfl, k1, k2, k3, k4, l1, l2, l3, l4, l5, l6, l7⟩
              refine backT_of hI (M := Its S none undef) hgb ho9 ?_ k1 k2 k3 k4 l1 l2 l3 l4 l5 l6 l7 hK h
              rintro b ⟨hb, _⟩
              simp at hb
            · exact h.elim
        · exact h.elim
      · exact h.elim
    · exact h.elim
  · exact h.elim

theorem step_callv (hE : EnvOK P E) {c : Call} {f : Operand} (hop : o.op = .call c) (hc : c.callee = .value f) (hI : Inv X w0 β S tm hp a w) (hK : Goes X w0 k K) (hKp : Falls X w0 kp Q) (h : step1 E o tm hp kp k) : o.wp P a w K Q := by
  unfold step1 at h
  rw [hop] at h
  simp only [hc] at h
  have hf := hI.eval f
  have hargs := hI.evals c.args.toList
  split at h
  · rename_i g hv
    rw [hv] at hf
    simp only [RelV] at hf
    rw [evs_eq] at h
    unfold callF at h
    obtain ⟨s, hs, h⟩ := spGet_of h
    split at h
    · rename_i hh
      have hent := exec_fn hI hop hc hf (hE.pure g hh hs).2
      exact step_callP hE hs (cs := []) hI hargs (by simp [RelVs]) (by simpa using hent) hK h
    · rename_i s
      have hent := exec_fn hI hop hc hf (hE.full g s hs).2
      exact step_callS hE hs hI (by simpa using hargs) hent hK hKp (by simpa using h)
    · rename_i s
      have hent := exec_fn hI hop hc hf (hE.tab g s hs).2
      exact step_callT hE hs hI hargs hent hK h
  · rename_i g caps hv
    rw [hv] at hf
    obtain ⟨cs, hf, hcs⟩ := hf
    rw [evs_eq] at h
    unfold callF at h
    obtain ⟨s, hs, h⟩ := spGet_of h
    split at h
    · rename_i hh
      have hent := exec_clo hI hop hc hf (hE.pure g hh hs).2
      exact step_callP hE hs hI hargs hcs hent hK h
    · rename_i s
      have hent := exec_clo hI hop hc hf (hE.full g s hs).2
      exact step_callS hE hs hI (hargs.append hcs) hent hK hKp h
    · rename_i s
      split at h
      · simp only [RelVs] at hcs
        subst hcs
        have hent := exec_clo hI hop hc hf (hE.tab g s hs).2
        exact step_callT hE hs hI hargs (by simpa using hent) hK h
      · exact h.elim
  · exact h.elim

/-- EVERY OPERATION IS TOLD RIGHTLY. -/
theorem step1_wp (hE : EnvOK P E) (hM : MoreOK P o) (hI : Inv X w0 β S tm hp a w) (hK : Goes X w0 k K) (hKp : Falls X w0 kp Q) (h : step1 E o tm hp kp k) : o.wp P a w K Q := by
  have dflt : pop E o.op tm hp (fun v => putD tm o.dst v fun tm => k tm hp) → o.wp P a w K Q := fun h => pop_wp hE hM hI (goes_pop hK) h
  cases hop : o.op with
  | alloc T => exact step_alloc hE hop hI hK h
  | box T x =>
    cases hs : sealT T with
    | false => exact step_box hE hop hs hI hK h
    | true =>
      refine dflt ?_
      unfold step1 at h
      rw [hop] at h ⊢
      simpa only [hs] using h
  | store T x y => exact step_store hE hop hI hK h
  | makeSlice T x y => exact step_make hE hop hI hK h
  | assign x => exact step_assign hop hI hK h
  | panic x => exact step_panic hop hI hKp h
  | call c =>
    cases hc : c.callee with
    | value f => exact step_callv hE hop hc hI hK hKp h
    | builtin b =>
      cases b with
      | append => exact step_append hE hop hc hI hK h
      | copy => exact step_copy hE hop hc hI hK h
      | _ =>
        refine dflt ?_
        unfold step1 at h
        rw [hop] at h ⊢
        simpa only [hc] using h
    | invoke r m =>
      refine dflt ?_
      unfold step1 at h
      rw [hop] at h ⊢
      simpa only [hc] using h
  | _ =>
    refine dflt ?_
    unfold step1 at h
    rw [hop] at h ⊢
    exact h

theorem kept_of {op : Op} {tm : List AV} {k : List AV → Prop} (h : kept op tm k) : ∃ vs, k vs := by
  unfold kept at h
  repeat' split at h
  all_goals first
    | exact ⟨_, h⟩
    | (rw [evs_eq] at h; exact ⟨_, h⟩)

theorem step_wp (hE : EnvOK P E) (hM : MoreOK P o) (hI : Inv X w0 β S tm hp a w) (hK : Goes X w0 k K) (hKp : Falls X w0 kp Q) (h : step E o tm hp kp k) : o.wp P a w K Q := by
  unfold step at h
  obtain ⟨vs, h⟩ := kept_of h
  split at h
  · obtain ⟨tm', hp', β', S', h, _, hI'⟩ := freezesF_of hI h
    exact step1_wp hE hM hI' hK hKp h
  · exact step1_wp hE hM hI hK hKp h

end ops
end Go.Proofs.Ythakgbecpkfeoaa.Ev

/- Regions: in the order of the text, and in every order that the edges allow. -/
set_option linter.unusedVariables false
set_option linter.unusedSimpArgs false
namespace Go.Proofs.Ythakgbecpkfeoaa.Ev

theorem dstOf_eq (l : List Oper) (j : Nat) : dstOf l j = (l[j]?).bind (·.dst) := by
  induction l generalizing j with
  | nil => simp [dstOf]
  | cons o l ih => cases j <;> simp [dstOf, ih]

theorem set_same {tm : List AV} {d : Nat} {v : AV} (h : getV tm d = v) (hv : v ≠ .undef) : tm.set d v = tm ∧ d < tm.length := by
  induction tm generalizing d with
  | nil => simp only [getV] at h; exact absurd h.symm hv
  | cons x l ih =>
    cases d with
    | zero => simp only [getV] at h; subst h; simp
    | succ d => simp only [getV] at h; obtain ⟨h1, h2⟩ := ih h; simp [h1, h2]

section regions
variable {P : Program} {E : Env} {X : XR} {w0 : World} {β : Nat → Option Value} {S : Nat → Prop} {tm : List AV} {hp : Hp} {a : Act} {w : World}
variable {ops : Array Oper} {Q : Exit → Act → World → Prop} {k : List AV → Hp → Prop} {kp : AV → List AV → Hp → Prop}

theorem guardF_of {o : Oper} {yes no : List AV → Prop} (hI : RelVs β S w tm a.tmps.toList) (h : guardF ops.toList o tm yes no) :
    (Region.wanted o (yielded ops a.tmps) = true ∧ yes tm) ∨ (Region.wanted o (yielded ops a.tmps) = false ∧ no tm) := by
  unfold guardF at h
  split at h
  · rename_i hg
    exact .inl ⟨by simp [Region.wanted, hg], h⟩
  · rename_i j want hg
    split at h
    · exact h.elim
    · rename_i d hd
      rw [dstOf_eq, Array.getElem?_toList] at hd
      have look : ∀ v, getV tm d = v → v ≠ .undef → ∃ u, a.tmps[d]? = some u ∧ RelV β S w v u := by
        intro v hv hne
        obtain ⟨_, hlt⟩ := set_same hv hne
        obtain ⟨u, h1, h2⟩ := hI.get d hlt
        rw [← getV_eq, hv] at h2
        exact ⟨u, by rw [← Array.getElem?_toList]; exact h1, h2⟩
      split at h
      · rename_i b hb
        obtain ⟨hset, _⟩ := set_same hb (by simp)
        obtain ⟨u, hu, hr⟩ := look _ hb (by simp)
        simp only [RelV] at hr
        subst hr
        have hy : yielded ops a.tmps j = some b := by simp [yielded, hd, hu]
        cases b with
        | true =>
          simp only [setF_eq, hset] at h
          cases want with
          | true => exact .inl ⟨by simp [Region.wanted, hg, hy], h⟩
          | false => exact .inr ⟨by simp [Region.wanted, hg, hy], h⟩
        | false =>
          simp only [setF_eq, hset] at h
          cases want with
          | true => exact .inr ⟨by simp [Region.wanted, hg, hy], h⟩
          | false => exact .inl ⟨by simp [Region.wanted, hg, hy], h⟩
      · rename_i hb
        obtain ⟨u, hu, hr⟩ := look _ hb (by simp)
        simp only [RelV] at hr
        subst hr
        have hy : yielded ops a.tmps j = none := by simp [yielded, hd, hu, undef]
        exact .inr ⟨by simp [Region.wanted, hg, hy], h⟩
      · exact h.elim

/-- One operation of a region. -/
theorem evOp_wp (hE : EnvOK P E) (hM : ∀ o ∈ ops.toList, MoreOK P o) (hKp : Falls X w0 kp Q) {i : Nat} {o : Oper} (ho : ops[i]? = some o) {K : Act → World → Prop} (hI : Inv X w0 β S tm hp a w) (hK : Goes X w0 k K)
    (h : guardF ops.toList o tm (fun tm => step E o tm hp kp k) (fun tm => putD tm o.dst .skp fun tm => k tm hp)) : wpOp P ops Q i K a w := by
  have hm : MoreOK P o := hM o (List.mem_of_getElem? (by rw [Array.getElem?_toList]; exact ho))
  unfold wpOp
  simp only [ho]
  rcases guardF_of hI.rel h with ⟨hw, h⟩ | ⟨hw, h⟩
  · rw [if_pos hw]
    exact .inl (step_wp hE hm hI hK hKp h)
  · rw [if_neg (by simp [hw])]
    rw [putD_eq] at h
    exact hK _ _ _ _ _ _ h (hI.put (v := .skp) (u := undef) rfl o.dst)

theorem evOps_wp (hE : EnvOK P E) (hM : ∀ o ∈ ops.toList, MoreOK P o) (hKp : Falls X w0 kp Q) (hK : Goes X w0 k (Q .normal)) :
    ∀ (l pre : List Oper), ops.toList = pre ++ l → ∀ {β S tm hp a w}, Inv X w0 β S tm hp a w → evOps E ops.toList l tm hp kp k → wpOps P ops Q (List.range' pre.length l.length) a w
  | [], pre, _, β, S, tm, hp, a, w, hI, h => hK _ _ _ _ _ _ h hI
  | o :: l, pre, he, β, S, tm, hp, a, w, hI, h => by
    have ho : ops[pre.length]? = some o := by rw [← Array.getElem?_toList, he]; simp
    rw [List.length_cons, List.range'_succ, wpOps_cons]
    refine evOp_wp (k := fun tm hp => evOps E ops.toList l tm hp kp k) hE hM hKp ho hI ?_ h
    intro β' S' tm' hp' a' w' h' hI'
    have := evOps_wp hE hM hKp hK l (pre ++ [o]) (by simp [he]) hI' h'
    simpa using this

theorem getB_eq (l : List Bool) (i : Nat) : getB l i = l.getD i false := by
  induction l generalizing i with
  | nil => simp [getB]
  | cons b l ih => cases i <;> simp [getB, ih]
theorem setB_eq (l : List Bool) (i : Nat) : setB l i = l.set i true := by
  induction l generalizing i with
  | nil => simp [setB]
  | cons b l ih => cases i <;> simp [setB, ih]
theorem edgesOk_eq (listed : Array Bool) (l : List Edge) : edgesOk listed.toList l = l.all fun e => !Region.binds .any e || listed.getD e.on false := by
  induction l with
  | nil => rfl
  | cons e l ih =>
    have hg : getB listed.toList e.on = listed.getD e.on false := by
      rw [getB_eq, Array.getD_eq_getD_getElem?, List.getD_eq_getElem?_getD, Array.getElem?_toList]
    simp only [edgesOk, List.all_cons, hg, ih]
    cases Region.binds .any e <;> cases listed.getD e.on false <;> simp

theorem ready_iff {listed : Array Bool} (hs : listed.size = ops.size) (i : Nat) : i ∈ Region.ready .any ops listed ↔ ∃ o, ops[i]? = some o ∧ isReady listed.toList i o = true := by
  unfold Region.ready
  simp only [List.mem_filter, List.mem_range, Bool.and_eq_true, Bool.not_eq_true']
  constructor
  · rintro ⟨h1, h2, h3⟩
    refine ⟨ops[i], by simp [h1], ?_⟩
    simp only [Array.getElem?_eq_getElem h1, Option.map_some, Option.getD_some] at h3
    unfold isReady
    have : getB listed.toList i = false := by
      rw [getB_eq, List.getD_eq_getElem?_getD, Array.getElem?_toList]
      rw [Array.getD_eq_getD_getElem?] at h2
      rw [Array.getElem?_eq_getElem (by omega)] at h2 ⊢
      simpa using h2
    rw [this, edgesOk_eq]
    rw [← Array.all_toList] at h3
    exact h3
  · rintro ⟨o, h1, h2⟩
    have hlt := (Array.getElem?_eq_some_iff.1 h1).1
    unfold isReady at h2
    split at h2
    · simp at h2
    · rename_i hb
      refine ⟨hlt, ?_, ?_⟩
      · rw [getB_eq, List.getD_eq_getElem?_getD, Array.getElem?_toList] at hb
        rw [Array.getD_eq_getD_getElem?]
        rw [Array.getElem?_eq_getElem (by omega)] at hb ⊢
        simpa using hb
      · rw [edgesOk_eq] at h2
        simp only [h1, Option.map_some, Option.getD_some]
        rw [← Array.all_toList]
        exact h2

theorem noneReady_of {listed : List Bool} : ∀ {l : List Oper} {i : Nat}, noneReady listed i l = true ↔ ∀ j o, l[j]? = some o → isReady listed (i + j) o = false
  | [], i => by simp [noneReady]
  | o :: l, i => by
    simp only [noneReady]
    cases e : isReady listed i o with
    | true =>
      simp only [Bool.false_eq_true, false_iff]
      intro h
      have := h 0 o rfl
      simp [e] at this
    | false =>
      simp only
      rw [noneReady_of]
      constructor
      · intro h j o' hj
        cases j with
        | zero => simp at hj; subst hj; exact e
        | succ j => rw [show i + (j + 1) = i + 1 + j by omega]; exact h j o' (by simpa using hj)
      · intro h j o' hj
        rw [show i + 1 + j = i + (j + 1) by omega]
        exact h (j + 1) o' (by simpa using hj)
theorem eachReady_of {listed : List Bool} {f : Nat → Oper → Prop} : ∀ {l : List Oper} {i : Nat}, eachReady listed f i l → ∀ j o, l[j]? = some o → isReady listed (i + j) o = true → f (i + j) o
  | [], i, _ => by simp
  | o :: l, i, h => by
    simp only [eachReady] at h
    intro j o' hj hr
    cases j with
    | zero =>
      simp at hj
      subst hj
      simp only [Nat.add_zero] at hr ⊢
      rw [hr] at h
      exact h.1
    | succ j =>
      have h' : eachReady listed f (i + 1) l := by
        cases e : isReady listed i o with
        | true => rw [e] at h; exact h.2
        | false => rw [e] at h; exact h
      have := eachReady_of h' j o' (by simpa using hj) (by rw [show i + 1 + j = i + (j + 1) by omega]; exact hr)
      rwa [show i + 1 + j = i + (j + 1) by omega] at this

theorem ready_nil {listed : Array Bool} (hs : listed.size = ops.size) : Region.ready .any ops listed = [] ↔ noneReady listed.toList 0 ops.toList = true := by
  rw [noneReady_of]
  constructor
  · intro h j o hj
    cases e : isReady listed.toList (0 + j) o with
    | false => rfl
    | true =>
      have : j ∈ Region.ready .any ops listed := (ready_iff hs j).2 ⟨o, by rw [← Array.getElem?_toList]; exact hj, by simpa using e⟩
      rw [h] at this
      simp at this
  · intro h
    cases e : Region.ready .any ops listed with
    | nil => rfl
    | cons i l =>
      have hi : i ∈ Region.ready .any ops listed := by rw [e]; simp
      obtain ⟨o, h1, h2⟩ := (ready_iff hs i).1 hi
      have := h i o (by rw [Array.getElem?_toList]; exact h1)
      simp [h2] at this

theorem evAny_wp (hE : EnvOK P E) (hM : ∀ o ∈ ops.toList, MoreOK P o) (hKp : Falls X w0 kp Q) (hK : Goes X w0 k (Q .normal)) :
    ∀ (n : Nat) (listed : Array Bool), listed.size = ops.size → ∀ {β S tm hp a w}, Inv X w0 β S tm hp a w → evAny E ops.toList kp k n listed.toList tm hp → wpAny P .any ops Q n listed a w
  | 0, listed, hs, β, S, tm, hp, a, w, hI, h => by
    simp only [evAny] at h
    split at h
    · rename_i hn
      exact ⟨(ready_nil hs).2 hn, hK _ _ _ _ _ _ h hI⟩
    · exact h.elim
  | n + 1, listed, hs, β, S, tm, hp, a, w, hI, h => by
    simp only [evAny] at h
    split at h
    · rename_i hn
      have hn := (ready_nil hs).2 hn
      exact ⟨fun _ => hK _ _ _ _ _ _ h hI, fun i hi => by rw [hn] at hi; simp at hi⟩
    · rename_i hn
      refine ⟨fun h0 => by rw [(ready_nil hs).1 h0] at hn; simp at hn, fun i hi => ?_⟩
      obtain ⟨o, h1, h2⟩ := (ready_iff hs i).1 hi
      have := eachReady_of h i o (by rw [Array.getElem?_toList]; exact h1) (by simpa using h2)
      simp only [Nat.zero_add] at this
      refine evOp_wp (k := fun tm hp => evAny E ops.toList kp k n (setB listed.toList i) tm hp) hE hM hKp h1 hI ?_ this
      intro β' S' tm' hp' a' w' h' hI'
      rw [setB_eq] at h'
      exact evAny_wp hE hM hKp hK n (listed.setIfInBounds i true) (by simp [hs]) hI' (by simpa using h')

end regions
end Go.Proofs.Ythakgbecpkfeoaa.Ev

/- Operations that change nothing give one answer each, whatever the order: each answers once, and looks at its operands alone. -/
set_option linter.unusedVariables false
set_option linter.unusedSimpArgs false
namespace Go.Proofs.Ythakgbecpkfeoaa.Ev

/-- Goes on at one answer. -/
def Lin {α : Type} (F : (α → Prop) → Prop) : Prop := ∀ k, F k → ∃ x, k x ∧ ∀ k', k' x → F k'

section lin
variable {α γ : Type}
theorem Lin.const (v : α) : Lin fun k : α → Prop => k v := fun k h => ⟨v, h, fun _ h => h⟩
theorem Lin.no : Lin fun _ : α → Prop => False := fun _ h => h.elim
theorem Lin.and {p : Prop} {F : (α → Prop) → Prop} (h : Lin F) : Lin fun k => p ∧ F k := fun k ⟨h1, h2⟩ => by
  obtain ⟨x, hx, hk⟩ := h k h2
  exact ⟨x, hx, fun k' hk' => ⟨h1, hk k' hk'⟩⟩
theorem Lin.bind {F : (α → Prop) → Prop} {G : α → (γ → Prop) → Prop} (hF : Lin F) (hG : ∀ x, Lin (G x)) : Lin fun k => F fun x => G x k := fun k h => by
  obtain ⟨x, hx, hk⟩ := hF _ h
  obtain ⟨y, hy, hk2⟩ := hG x _ hx
  exact ⟨y, hy, fun k' hk' => hk _ (hk2 k' hk')⟩
theorem lin_f (v : AV) : Lin fun k => v.f k := by simp only [AV.f_eq]; exact Lin.const v
theorem lin_tiGet (h : List (Nat × TI)) (n : Nat) : Lin fun k => tiGet h n k := by
  induction h with
  | nil => exact Lin.no
  | cons p h ih => obtain ⟨o, x⟩ := p; simp only [tiGet]; cases Nat.beq o n <;> first | exact ih | exact Lin.const x
theorem lin_spGet (h : List (Nat × Spec)) (n : Nat) : Lin fun k => spGet h n k := by
  induction h with
  | nil => exact Lin.no
  | cons p h ih => obtain ⟨o, x⟩ := p; simp only [spGet]; cases Nat.beq o n <;> first | exact ih | exact Lin.const x
theorem lin_hget (h : Hp) (n : Nat) : Lin fun k => hget h n k := by
  induction h with
  | nil => exact Lin.no
  | cons p h ih => obtain ⟨o, x⟩ := p; simp only [hget]; cases Nat.beq o n <;> first | exact ih | exact Lin.const x
theorem lin_nthF (l : List (Nat × Nat × Bool)) (i : Nat) : Lin fun k => nthF l i k := by
  induction l generalizing i with
  | nil => exact Lin.no
  | cons x l ih => cases i <;> first | exact Lin.const x | exact ih _
theorem lin_nthA (l : List AV) (i : Nat) : Lin fun k => nthA l i k := by
  induction l generalizing i with
  | nil => exact Lin.no
  | cons x l ih => cases i <;> first | exact lin_f x | exact ih _
theorem lin_dropF (l : List AV) (i : Nat) : Lin fun k => dropF l i k := by
  induction l generalizing i with
  | nil => cases i <;> first | exact Lin.const [] | exact Lin.no
  | cons x l ih => cases i <;> first | exact Lin.const (x :: l) | exact ih _
theorem lin_takeF (l : List AV) (i : Nat) : Lin fun k => takeF l i k := by
  induction l generalizing i with
  | nil => cases i <;> first | exact Lin.const [] | exact Lin.no
  | cons x l ih =>
    cases i with
    | zero => exact Lin.const []
    | succ i => simp only [takeF]; exact Lin.bind (ih _) fun l' => Lin.const _
theorem lin_dropC (l : List CV) (i : Nat) : Lin fun k => dropC l i k := by
  induction l generalizing i with
  | nil => cases i <;> first | exact Lin.const [] | exact Lin.no
  | cons x l ih => cases i <;> first | exact Lin.const (x :: l) | exact ih _
theorem lin_takeC (l : List CV) (i : Nat) : Lin fun k => takeC l i k := by
  induction l generalizing i with
  | nil => cases i <;> first | exact Lin.const [] | exact Lin.no
  | cons x l ih =>
    cases i with
    | zero => exact Lin.const []
    | succ i => simp only [takeC]; exact Lin.bind (lin_f _) fun v => Lin.bind (ih _) fun l' => Lin.const _
theorem lin_spliceF (l : List AV) (i : Nat) (vs : List AV) : Lin fun k => spliceF l i vs k := by
  induction l generalizing i vs with
  | nil => cases i <;> cases vs <;> first | exact Lin.const [] | exact Lin.no | exact Lin.no | exact Lin.no
  | cons x l ih =>
    cases i with
    | zero =>
      cases vs with
      | nil => exact Lin.const _
      | cons v vs => simp only [spliceF]; exact Lin.bind (ih _ _) fun l' => Lin.const _
    | succ i => simp only [spliceF]; exact Lin.bind (ih _ _) fun l' => Lin.const _
theorem lin_shapeF (b : Bool) (l : List AV) : Lin fun k => shapeF b l k := by
  cases b
  · match l with
    | [] => exact Lin.no
    | [x] => exact lin_f x
    | _ :: _ :: _ => exact Lin.no
  · exact Lin.const _
theorem lin_evs (tm : List AV) (l : List Operand) : Lin fun k => evs tm l k := by
  simp only [evs_eq]
  exact Lin.const _
theorem lin_constsF (l : List Value) : Lin fun k => constsF l k := by
  simp only [constsF_eq]
  exact Lin.const _
theorem lin_cellsF (v : AV) : Lin fun k => cellsF v k := by cases v <;> first | exact Lin.no | exact Lin.const _
theorem lin_viewF (hp : Hp) (v : AV) : Lin fun k => viewF hp v k := by
  cases v <;> simp only [viewF] <;> first
    | exact lin_f _
    | exact Lin.bind (lin_hget _ _) fun x => (by cases x <;> first | exact Lin.no | exact Lin.const _)
theorem lin_viewsF (hp : Hp) (l : List AV) : Lin fun k => viewsF hp l k := by
  induction l with
  | nil => exact Lin.const _
  | cons v l ih => simp only [viewsF]; exact Lin.bind (lin_viewF hp v) fun v' => Lin.bind ih fun l' => Lin.const _
theorem lin_listF {hp : Hp} {v : AV} {G : (τ : ET) → List τ.T → (γ → Prop) → Prop} (hG : ∀ τ xs, Lin (G τ xs)) : Lin fun k => listF hp v fun τ xs => G τ xs k := by
  cases v <;> simp only [listF] <;> first
    | exact Lin.no
    | exact hG _ _
    | exact Lin.bind (lin_hget _ _) fun x => (by cases x <;> first | exact Lin.no | exact hG _ _)
theorem lin_decF (τ : ET) (l : List AV) : Lin fun k => decF τ l k := by
  intro k h
  unfold decF at h
  split at h <;> first | exact h.elim | exact ⟨_, h, fun _ h => h⟩
theorem lin_elemsF (τ : ET) (tm : List AV) (i : Nat) (l : List (Nat × Operand)) : Lin fun k => elemsF τ tm i l k := by
  induction l generalizing i with
  | nil => exact Lin.const _
  | cons p l ih =>
    obtain ⟨j, x⟩ := p
    simp only [elemsF]
    cases Nat.beq i j
    · exact Lin.no
    · exact Lin.bind (lin_cellsF _) fun cs => Lin.bind (lin_decF τ cs) fun e => Lin.bind (ih _) fun es => Lin.const _
theorem lin_fillF (fs : List (Nat × Nat × Bool)) (tm : List AV) (l : List (Nat × Operand)) (cs : List AV) : Lin fun k => fillF fs tm l cs k := by
  induction l generalizing cs with
  | nil => exact Lin.const _
  | cons p l ih =>
    obtain ⟨i, x⟩ := p
    simp only [fillF]
    refine Lin.bind (lin_nthF _ _) fun f => Lin.bind (lin_f _) fun v => Lin.bind (lin_cellsF _) fun vs => ?_
    cases Nat.beq vs.length f.2.1
    · exact Lin.no
    · exact Lin.bind (lin_spliceF _ _ _) fun cs' => ih _
theorem lin_intBin (op : BinOp) (κ : IntKind) (a b : Int) : Lin fun k => intBin op κ a b k := by
  cases op <;> simp only [intBin] <;> first | exact Lin.no | exact Lin.const _ | exact Lin.and (Lin.const _)
theorem lin_eqCs (l m : List AV) : Lin fun k => eqCs l m k := by
  induction l generalizing m with
  | nil => cases m <;> first | exact Lin.const _ | exact Lin.no
  | cons x l ih =>
    cases m with
    | nil => exact Lin.no
    | cons y m =>
      simp only [eqCs]
      cases eqC x y
      · exact Lin.no
      · exact Lin.bind (ih m) fun b => Lin.const _

theorem lin_binF (E : Env) (op : BinOp) (T : Nat) (x y : AV) : Lin fun k => binF E op T x y k := by
  cases x with
  | int κ a =>
    cases y with
    | int κ' b =>
      cases op <;> simp only [binF] <;> first
        | exact Lin.and (Lin.const _)
        | (cases kindEq κ κ' <;> first | exact Lin.no | exact lin_intBin _ _ _ _)
    | _ => exact Lin.no
  | bool a =>
    cases y with
    | bool b =>
      cases op <;> simp only [binF] <;> first
        | exact Lin.no
        | (cases Nat.beq T 4 <;> first | exact Lin.no | exact Lin.const _)
    | _ => exact Lin.no
  | str a =>
    cases y with
    | str b => cases op <;> simp only [binF] <;> first | exact Lin.no | exact Lin.const _
    | _ => exact Lin.no
  | agg l =>
    cases y with
    | agg m =>
      simp only [binF]
      refine Lin.bind (lin_tiGet _ _) fun ti => ?_
      cases fitsK ti.eqk l <;> cases fitsK ti.eqk m <;> cases ti.eqk <;> simp only <;> first
        | exact Lin.no
        | (cases op <;> simp only <;> first | exact Lin.no | exact Lin.bind (lin_eqCs l m) fun b => Lin.const _)
    | _ => exact Lin.no
  | _ => exact Lin.no

theorem lin_callv (E : Env) (tm : List AV) (hp : Hp) (args : List Operand) (caps : List AV) (g : Nat) : Lin fun k => spGet E.sp g fun
    | .pure h => evs tm args fun vs => viewsF hp vs fun ws => match AV.calms (ws ++ caps) with
      | false => False
      | true => match h (ws ++ caps) with
        | some (p, r) => p ∧ r.f fun r => match r.calm, anyOwn vs, plainV r with
          | false, _, _ => False
          | true, true, false => False
          | true, _, _ => k r
        | none => False
    | .full _ => False
    | .tab _ => False := by
  refine Lin.bind (lin_spGet _ _) fun s => ?_
  cases s with
  | full s => exact Lin.no
  | tab s => exact Lin.no
  | pure h =>
    simp only
    refine Lin.bind (lin_evs _ _) fun vs => Lin.bind (lin_viewsF _ _) fun ws => ?_
    cases AV.calms (ws ++ caps)
    · exact Lin.no
    · simp only
      cases h (ws ++ caps) with
      | none => exact Lin.no
      | some pr =>
        obtain ⟨p, r⟩ := pr
        simp only
        refine Lin.and (Lin.bind (lin_f r) fun r => ?_)
        cases r.calm <;> cases anyOwn vs <;> cases plainV r <;> first | exact Lin.no | exact Lin.const _

end lin
end Go.Proofs.Ythakgbecpkfeoaa.Ev

/- Each operation that changes nothing answers once, and looks at its operands alone. -/
set_option linter.unusedVariables false
set_option linter.unusedSimpArgs false
namespace Go.Proofs.Ythakgbecpkfeoaa.Ev

section pops
variable {E : Env} {tm tm' : List AV} {hp : Hp}

theorem lin_pop (op : Op) : Lin fun k => pop E op tm hp k := by
  cases op with
  | move x => exact lin_f _
  | assign x =>
    simp only [pop]
    generalize evalV tm x = v
    cases v <;> simp only <;> first | exact Lin.no | exact lin_f _
  | pick c a b =>
    simp only [pop]
    generalize evalV tm c = v
    cases v with
    | bool t => cases t <;> simp only <;> exact lin_f _
    | _ => exact Lin.no
  | binOp op T x y T' => simp only [pop]; exact Lin.bind (lin_f _) fun vx => Lin.bind (lin_f _) fun vy => lin_binF E op T vx vy
  | unOp op T x =>
    simp only [pop]
    generalize evalV tm x = v
    cases op <;> cases v <;> simp only <;> first | exact Lin.no | exact Lin.const _
  | convert s d x =>
    simp only [pop]
    generalize evalV tm x = v
    cases v with
    | int κ n =>
      refine Lin.bind (lin_tiGet _ _) fun ti => ?_
      cases ti.ik <;> simp only <;> first | exact Lin.no | exact Lin.const _
    | _ => exact Lin.no
  | extract x i =>
    simp only [pop]
    generalize evalV tm x = v
    cases v <;> simp only <;> first | exact Lin.no | exact lin_nthA _ _
  | fieldAddr T x i =>
    simp only [pop]
    generalize evalV tm x = v
    cases v <;> simp only <;> first
      | exact Lin.no
      | exact Lin.bind (lin_tiGet _ _) fun ti => Lin.bind (lin_nthF _ _) fun f => Lin.const _
      | exact Lin.bind (lin_tiGet _ _) fun ti => Lin.bind (lin_nthF _ _) fun f => Lin.bind (lin_dropC _ _) fun cs => Lin.const _
      | exact Lin.bind (lin_tiGet _ _) fun ti => Lin.bind (lin_nthF _ _) fun f => Lin.bind (lin_dropF _ _) fun cs => Lin.const _
  | field T x i =>
    simp only [pop]
    generalize evalV tm x = v
    cases v <;> simp only <;> first
      | exact Lin.no
      | exact Lin.bind (lin_tiGet _ _) fun ti => Lin.bind (lin_nthF _ _) fun f => Lin.bind (lin_dropF _ _) fun l => Lin.bind (lin_takeF _ _) fun l => lin_shapeF _ _
  | load T x =>
    simp only [pop]
    generalize evalV tm x = v
    cases v with
    | ptr o off =>
      refine Lin.bind (lin_tiGet _ _) fun ti => Lin.bind (lin_hget _ _) fun ao => ?_
      cases ao with
      | box cs => exact Lin.bind (lin_dropF _ _) fun l => Lin.bind (lin_takeF _ _) fun l => lin_shapeF _ _
      | arr τ xs => exact Lin.no
    | ep cs => exact Lin.bind (lin_tiGet _ _) fun ti => Lin.bind (lin_takeC _ _) fun l => lin_shapeF _ _
    | kp cs => exact Lin.bind (lin_tiGet _ _) fun ti => Lin.bind (lin_takeF _ _) fun l => lin_shapeF _ _
    | oep o i =>
      simp only
      cases Nat.beq T 3
      · exact Lin.no
      · refine Lin.bind (lin_hget _ _) fun ao => ?_
        cases ao with
        | box cs => exact Lin.no
        | arr τ xs => cases τ <;> simp only <;> first | exact Lin.no | exact Lin.and (Lin.const _)
    | _ => exact Lin.no
  | indexAddr T x i =>
    simp only [pop]
    generalize evalV tm x = v
    generalize evalV tm i = u
    cases u with
    | int κ n =>
      cases v with
      | sl τ xs =>
        refine Lin.bind (lin_tiGet _ _) fun ti => ?_
        cases ti.has τ
        · exact Lin.no
        · exact Lin.and (Lin.const _)
      | lit τ xs =>
        refine Lin.bind (lin_tiGet _ _) fun ti => ?_
        cases ti.has τ
        · exact Lin.no
        · exact Lin.and (Lin.const _)
      | own o =>
        refine Lin.bind (lin_tiGet _ _) fun ti => Lin.bind (lin_hget _ _) fun ao => ?_
        cases ao with
        | box cs => exact Lin.no
        | arr τ xs =>
          cases τ <;> simp only <;> first
            | exact Lin.no
            | (cases ti.has .i64
               · exact Lin.no
               · exact Lin.and (Lin.const _))
      | ptr o off =>
        refine Lin.bind (lin_tiGet _ _) fun ti => ?_
        cases ti.arr with
        | none => exact Lin.no
        | some t => obtain ⟨m, z, b⟩ := t; exact Lin.and (Lin.const _)
      | kp cs =>
        refine Lin.bind (lin_tiGet _ _) fun ti => ?_
        cases ti.arr with
        | none => exact Lin.no
        | some t => obtain ⟨m, z, b⟩ := t; exact Lin.and (Lin.bind (lin_dropF _ _) fun cs => Lin.const _)
      | _ => exact Lin.no
    | _ => exact Lin.no
  | nilCheck x =>
    simp only [pop]
    generalize evalV tm x = v
    cases v <;> simp only <;> first | exact Lin.no | exact Lin.const _
  | build T parts =>
    simp only [pop]
    refine Lin.bind (lin_tiGet _ _) fun ti => ?_
    cases ti.fields with
    | nil =>
      simp only
      cases ti.arr with
      | none => exact Lin.no
      | some t =>
        cases parts.toList with
        | nil => exact Lin.bind (lin_constsF _) fun cs => Lin.const _
        | cons p ps => exact Lin.no
    | cons f fs => exact Lin.bind (lin_constsF _) fun cs => Lin.bind (lin_fillF _ _ _ _) fun cs => Lin.const _
  | slice T x lo hi mx =>
    simp only [pop]
    refine Lin.bind (lin_tiGet _ _) fun ti => lin_listF fun τ xs => ?_
    cases ti.has τ <;> cases mx <;> try exact Lin.no
    simp only
    intro k h
    split at h
    · rename_i _ a _ b hl hr
      split at h
      · rename_i ho
        refine ⟨_, h.2, fun k' hk' => ?_⟩
        simp only [hl, hr, ho]
        exact ⟨h.1, hk'⟩
      · exact h.elim
    · exact h.elim
  | makeFunc fn first caps =>
    simp only [pop]
    cases fn <;> cases first.toList <;> simp only <;> try exact Lin.no
    refine Lin.bind (lin_evs _ _) fun vs => ?_
    cases anyOwn vs
    · exact Lin.const _
    · exact Lin.no
  | makeInterface T x =>
    simp only [pop]
    refine Lin.bind (lin_f _) fun v => ?_
    cases plain1 v
    · exact Lin.no
    · exact Lin.const _
  | lookup T m i ok =>
    simp only [pop]
    generalize evalV tm m = vm
    generalize evalV tm i = vi
    have key : ∀ (n : Int) (ks : List Int) (vs : List AV), Lin fun k : AV → Prop => lookF n ks vs fun
        | some v => k (.tup [v, .bool true])
        | none => k (.tup [.undef, .bool false]) := by
      intro n ks
      induction ks with
      | nil => intro vs; cases vs <;> exact Lin.const _
      | cons x ks ih =>
        intro vs
        cases vs with
        | nil => exact Lin.const _
        | cons v vs =>
          simp only [lookF]
          cases n == x
          · exact ih vs
          · exact Lin.bind (lin_f v) fun v => Lin.const _
    intro k h
    split at h
    · exact key _ _ _ k h
    · exact h.elim
  | box T x =>
    simp only [pop]
    cases sealT T
    · exact Lin.no
    · refine Lin.bind (lin_tiGet _ _) fun ti => Lin.bind (lin_f _) fun v => Lin.bind (lin_cellsF _) fun cs => ?_
      cases Nat.beq cs.length ti.size
      · exact Lin.no
      · exact Lin.const _
  | buildSlice T n parts =>
    simp only [pop]
    refine Lin.bind (lin_tiGet _ _) fun ti => ?_
    cases ti.elem with
    | none => exact Lin.no
    | some τ =>
      simp only
      cases Nat.beq parts.toList.length n && Nat.ble n 100000
      · exact Lin.no
      · exact Lin.bind (lin_elemsF _ _ _ _) fun es => Lin.const _
  | call c =>
    simp only [pop]
    cases c.callee with
    | invoke r m => exact Lin.no
    | value f =>
      simp only
      generalize evalV tm f = v
      cases v with
      | fn g =>
        have := lin_callv E tm hp c.args.toList [] g
        simp only [List.append_nil] at this
        exact this
      | clo g caps => exact lin_callv E tm hp c.args.toList caps g
      | _ => exact Lin.no
    | builtin b =>
      cases b with
      | len =>
        simp only
        rcases c.args.toList with _ | ⟨x, _ | ⟨y, l⟩⟩
        · exact Lin.no
        · rcases c.argTypes.toList with _ | ⟨T, _ | ⟨T', l⟩⟩
          · exact Lin.no
          · simp only
            have key : ∀ v, Lin fun k : AV → Prop => tiGet E.tys T fun ti => listF hp v fun τ xs => match ti.has τ with | true => k (.int .i64 xs.length) | false => False := fun v =>
              Lin.bind (lin_tiGet _ _) fun ti => lin_listF fun τ xs => (by
                cases ti.has τ
                · exact Lin.no
                · exact Lin.const _)
            generalize evalV tm x = v
            cases v with
            | nil =>
              refine Lin.bind (lin_tiGet _ _) fun ti => ?_
              cases ti.elem
              · exact Lin.no
              · exact Lin.const _
            | _ => exact key _
          · exact Lin.no
        · exact Lin.no
      | min =>
        simp only
        rcases c.args.toList with _ | ⟨x, _ | ⟨y, _ | ⟨z, l⟩⟩⟩ <;> simp only <;> try exact Lin.no
        generalize evalV tm x = v
        generalize evalV tm y = u
        intro k h
        split at h
        · exact ⟨_, h, fun _ h => h⟩
        · exact h.elim
      | max =>
        simp only
        rcases c.args.toList with _ | ⟨x, _ | ⟨y, _ | ⟨z, l⟩⟩⟩ <;> simp only <;> try exact Lin.no
        generalize evalV tm x = v
        generalize evalV tm y = u
        intro k h
        split at h
        · exact ⟨_, h, fun _ h => h⟩
        · exact h.elim
      | _ => exact Lin.no
  | _ => exact Lin.no

theorem evs_congr {l : List Operand} (h : ∀ x ∈ l, evalV tm x = evalV tm' x) : evs tm l = evs tm' l := by
  funext k
  rw [evs_eq, evs_eq]
  congr 1
  exact List.map_congr_left h
theorem elemsF_congr {τ : ET} {l : List (Nat × Operand)} (h : ∀ p ∈ l, evalV tm p.2 = evalV tm' p.2) (i : Nat) : elemsF τ tm i l = elemsF τ tm' i l := by
  induction l generalizing i with
  | nil => rfl
  | cons p l ih =>
    obtain ⟨j, x⟩ := p
    funext k
    have h1 := h (j, x) (by simp)
    simp only at h1
    simp only [elemsF, h1, ih (fun p hp => h p (by simp [hp]))]
theorem fillF_congr {fs : List (Nat × Nat × Bool)} {l : List (Nat × Operand)} (h : ∀ p ∈ l, evalV tm p.2 = evalV tm' p.2) (cs : List AV) : fillF fs tm l cs = fillF fs tm' l cs := by
  induction l generalizing cs with
  | nil => rfl
  | cons p l ih =>
    obtain ⟨j, x⟩ := p
    funext k
    have h1 := h (j, x) (by simp)
    simp only at h1
    simp only [fillF, h1, ih (fun p hp => h p (by simp [hp]))]

theorem pop_congr (op : Op) (h : ∀ x ∈ op.operands.toList, evalV tm x = evalV tm' x) (k : AV → Prop) : pop E op tm hp k = pop E op tm' hp k := by
  cases op with
  | move x => simp only [pop, h x (by simp [Op.operands])]
  | box T x => simp only [pop, h x (by simp [Op.operands])]
  | lookup T m i ok => simp only [pop, h m (by simp [Op.operands]), h i (by simp [Op.operands])]
  | assign x => simp only [pop, h x (by simp [Op.operands])]
  | pick c a b => simp only [pop, h a (by simp [Op.operands]), h b (by simp [Op.operands]), h c (by simp [Op.operands])]
  | binOp op T x y T' => simp only [pop, h x (by simp [Op.operands]), h y (by simp [Op.operands])]
  | unOp op T x => simp only [pop, h x (by simp [Op.operands])]
  | convert s d x => simp only [pop, h x (by simp [Op.operands])]
  | extract x i => simp only [pop, h x (by simp [Op.operands])]
  | fieldAddr T x i => simp only [pop, h x (by simp [Op.operands])]
  | field T x i => simp only [pop, h x (by simp [Op.operands])]
  | load T x => simp only [pop, h x (by simp [Op.operands])]
  | indexAddr T x i => simp only [pop, h x (by simp [Op.operands]), h i (by simp [Op.operands])]
  | nilCheck x => simp only [pop, h x (by simp [Op.operands])]
  | build T parts => simp only [pop, fillF_congr (tm := tm) (tm' := tm') (l := parts.toList) (fun p hp => h p.2 (by simp only [Op.operands]; exact List.mem_map.2 ⟨p, hp, rfl⟩))]
  | buildSlice T n parts => simp only [pop, elemsF_congr (tm := tm) (tm' := tm') (l := parts.toList) (fun p hp => h p.2 (by simp only [Op.operands]; exact List.mem_map.2 ⟨p, hp, rfl⟩))]
  | slice T x lo hi mx =>
    have hx := h x (by simp [Op.operands])
    have hlo : ∀ y, lo = some y → evalV tm y = evalV tm' y := fun y hy => h y (by subst hy; simp [Op.operands])
    have hhi : ∀ y, hi = some y → evalV tm y = evalV tm' y := fun y hy => h y (by subst hy; simp [Op.operands])
    cases lo with
    | none =>
      cases hi with
      | none => simp only [pop, hx]
      | some z => simp only [pop, hx, hhi z rfl]
    | some y =>
      cases hi with
      | none => simp only [pop, hx, hlo y rfl]
      | some z => simp only [pop, hx, hlo y rfl, hhi z rfl]
  | makeFunc fn first caps => simp only [pop, evs_congr (tm := tm) (tm' := tm') (l := caps.toList) (fun x hx => h x (by simp [Op.operands] at hx ⊢; exact .inr hx))]
  | makeInterface T x => simp only [pop, h x (by simp [Op.operands])]
  | call c =>
    have ha : ∀ x ∈ c.args.toList, evalV tm x = evalV tm' x := fun x hx => h x (by simp [Op.operands, Call.operands] at hx ⊢; exact .inr hx)
    have hf : ∀ f, c.callee = .value f → evalV tm f = evalV tm' f := fun f hf => h f (by simp [Op.operands, Call.operands, hf])
    have he := evs_congr ha
    cases hc : c.callee with
    | invoke r m => simp only [pop, hc]
    | value f => simp only [pop, hc, hf f hc, he]
    | builtin b =>
      cases b with
      | len =>
        simp only [pop, hc]
        rcases e : c.args.toList with _ | ⟨x, _ | ⟨y, l⟩⟩ <;> try rfl
        rcases c.argTypes.toList with _ | ⟨T, _ | ⟨T', l⟩⟩ <;> try rfl
        simp only
        rw [ha x (by simp [e])]
      | min =>
        simp only [pop, hc]
        rcases e : c.args.toList with _ | ⟨x, _ | ⟨y, _ | ⟨z, l⟩⟩⟩ <;> try rfl
        simp only
        rw [ha x (by simp [e]), ha y (by simp [e])]
      | max =>
        simp only [pop, hc]
        rcases e : c.args.toList with _ | ⟨x, _ | ⟨y, _ | ⟨z, l⟩⟩⟩ <;> try rfl
        simp only
        rw [ha x (by simp [e]), ha y (by simp [e])]
      | _ => simp only [pop, hc]
  | _ => rfl

end pops
end Go.Proofs.Ythakgbecpkfeoaa.Ev

/- Regions of operations that change nothing: the order of the text stands for every order. -/
set_option linter.unusedVariables false
set_option linter.unusedSimpArgs false
namespace Go.Proofs.Ythakgbecpkfeoaa.Ev

section quiet
variable {E : Env} {hp : Hp} {all : List Oper}

/-- What an operation of a region leaves in its slot. -/
def Does (E : Env) (hp : Hp) (all : List Oper) (o : Oper) (tm : List AV) (v : AV) : Prop :=
  guardF all o tm (fun tm' => pop E o.op tm' hp fun x => x = v) (fun _ => v = .skp)

theorem guardF_lin {o : Oper} {tm : List AV} {yes no : List AV → Prop} (h : guardF all o tm yes no) :
    (yes tm ∧ ∀ yes' no' : List AV → Prop, yes' tm → guardF all o tm yes' no') ∨ (no tm ∧ ∀ yes' no' : List AV → Prop, no' tm → guardF all o tm yes' no') := by
  unfold guardF at h
  split at h
  · rename_i hg
    exact .inl ⟨h, fun yes' no' h' => by simp only [guardF, hg]; exact h'⟩
  · rename_i j want hg
    split at h
    · exact h.elim
    · rename_i d hd
      split at h
      · rename_i b hb
        obtain ⟨hset, _⟩ := set_same hb (by simp)
        cases b <;> cases want <;> simp only [setF_eq, hset] at h <;> first
          | exact .inl ⟨h, fun yes' no' h' => by simp only [guardF, hg, hd, hb, setF_eq, hset]; exact h'⟩
          | exact .inr ⟨h, fun yes' no' h' => by simp only [guardF, hg, hd, hb, setF_eq, hset]; exact h'⟩
      · rename_i hb
        exact .inr ⟨h, fun yes' no' h' => by simp only [guardF, hg, hd, hb]; exact h'⟩
      · exact h.elim

theorem evQ_cons {o : Oper} {l : List Oper} {tm : List AV} {k : List AV → Prop} (h : evQ E all hp (o :: l) tm k) : ∃ v, Does E hp all o tm v ∧ evQ E all hp l (putL tm o.dst v) k := by
  rw [evQ_eq] at h
  rcases guardF_lin h with ⟨h1, h2⟩ | ⟨h1, h2⟩
  · obtain ⟨v, hv, hk⟩ := lin_pop o.op _ h1
    rw [putD_eq] at hv
    exact ⟨v, h2 _ _ (hk _ rfl), hv⟩
  · rw [putD_eq] at h1
    exact ⟨.skp, h2 _ _ rfl, h1⟩

/-- The same looks, the same answer. -/
theorem Does.congr {o : Oper} {tm tm' : List AV} {v : AV} (h : Does E hp all o tm v) (hl : ∀ s ∈ looks all o, getV tm s = getV tm' s) : Does E hp all o tm' v := by
  have hops : ∀ x ∈ o.op.operands.toList, evalV tm x = evalV tm' x := by
    intro x hx
    cases x with
    | tmp t =>
      refine hl t (List.mem_append_right _ ?_)
      have : ∀ l : List Operand, Operand.tmp t ∈ l → t ∈ opTmps l := by
        intro l
        induction l with
        | nil => simp
        | cons y l ih =>
          intro hm
          rcases List.mem_cons.1 hm with h1 | h1
          · subst h1; simp [opTmps]
          · have h2 := ih h1
            cases y <;> simp [opTmps, h2]
      exact this _ hx
    | _ => rfl
  unfold Does guardF at *
  split at h
  · rw [pop_congr (tm := tm) (tm' := tm') o.op hops] at h
    exact h
  · rename_i j want hg
    split at h
    · exact h.elim
    · rename_i d hd
      have hd' : getV tm d = getV tm' d := hl d (List.mem_append_left _ (by simp only [hg, hd]; simp))
      rw [hd'] at h
      split at h
      · rename_i b hb
        obtain ⟨hset', _⟩ := set_same hb (by simp)
        obtain ⟨hset, _⟩ := set_same (hd'.trans hb) (by simp)
        have hpc := fun k => pop_congr (E := E) (hp := hp) (tm := tm) (tm' := tm') o.op hops k
        simp only [hb]
        cases b <;> cases want <;> simp only [setF_eq, hset, hset'] at h ⊢ <;> first
          | exact h
          | (rw [hpc] at h; exact h)
      · rename_i hb
        simp only [hb]
        exact h
      · exact h.elim

/-- Slots, when some have been written. -/
structure Agree (all : List Oper) (V : Nat → AV) (tm0 : List AV) (L : Nat → Bool) (tm : List AV) : Prop where
  len : tm.length = tm0.length
  on : ∀ i d, L i = true → dstOf all i = some d → d < tm0.length → tm.getD d .undef = V i
  off : ∀ s, (∀ i, L i = true → dstOf all i ≠ some s) → tm.getD s .undef = tm0.getD s .undef

theorem Agree.step {V : Nat → AV} {tm0 tm : List AV} {L : Nat → Bool} (hd : ∀ i j d, dstOf all i = some d → dstOf all j = some d → i = j) (h : Agree all V tm0 L tm) {i : Nat} (hL : L i = false) :
    Agree all V tm0 (fun j => L j || j == i) (putL tm (dstOf all i) (V i)) := by
  cases e : dstOf all i with
  | none =>
    refine ⟨h.len, fun j d hj hjd hlt => ?_, fun s hs => h.off s fun j hj => hs j (by simp [hj])⟩
    rcases Bool.or_eq_true _ _ ▸ hj with hj | hj
    · exact h.on j d hj hjd hlt
    · simp only [beq_iff_eq] at hj; subst hj; rw [e] at hjd; simp at hjd
  | some d =>
    refine ⟨by simp [putL, h.len], fun j d' hj hjd hlt => ?_, fun s hs => ?_⟩
    · simp only [putL, List.getD_eq_getElem?_getD]
      rcases Bool.or_eq_true _ _ ▸ hj with hj | hj
      · have hne : d ≠ d' := by
          rintro rfl
          have := hd i j d e hjd
          subst this
          rw [hL] at hj
          simp at hj
        rw [List.getElem?_set_ne hne, ← List.getD_eq_getElem?_getD]
        exact h.on j d' hj hjd hlt
      · simp only [beq_iff_eq] at hj
        subst hj
        rw [e] at hjd
        obtain rfl : d = d' := by simpa using hjd
        rw [List.getElem?_set_self (by rw [h.len]; exact hlt)]
        rfl
    · have hne : d ≠ s := by rintro rfl; exact hs i (by simp) e
      simp only [putL, List.getD_eq_getElem?_getD]
      rw [List.getElem?_set_ne hne, ← List.getD_eq_getElem?_getD]
      exact h.off s fun j hj => hs j (by simp [hj])

theorem Agree.ext {V : Nat → AV} {tm0 tm : List AV} {L L' : Nat → Bool} (h : Agree all V tm0 L tm) (he : ∀ i, i < all.length → L i = L' i) : Agree all V tm0 L' tm := by
  have hlt : ∀ i d, dstOf all i = some d → i < all.length := fun i d hi => by
    rw [dstOf_eq] at hi
    cases e : all[i]? with
    | none => rw [e] at hi; simp at hi
    | some o => exact (List.getElem?_eq_some_iff.1 e).1
  refine ⟨h.len, fun i d hi hd hl => h.on i d (by rw [he i (hlt i d hd)]; exact hi) hd hl, fun s hs => h.off s fun i hi hd => hs i (by rw [← he i (hlt i s hd)]; exact hi) hd⟩

/-- All answers, in the order of the text. -/
theorem evQ_all {k : List AV → Prop} : ∀ {l : List Oper} {tm : List AV}, evQ E all hp l tm k → ∃ vs : List AV, vs.length = l.length ∧ ∃ T : Nat → List AV, T 0 = tm ∧ k (T l.length) ∧
    ∀ (j : Nat) (o : Oper), l[j]? = some o → Does E hp all o (T j) (vs.getD j .undef) ∧ T (j + 1) = putL (T j) o.dst (vs.getD j .undef)
  | [], tm, h => ⟨[], rfl, fun _ => tm, rfl, h, by simp⟩
  | o :: l, tm, h => by
    obtain ⟨v, hv, h⟩ := evQ_cons h
    obtain ⟨vs, h1, T, h2, h3, h4⟩ := evQ_all h
    refine ⟨v :: vs, by simp [h1], fun n => match n with | 0 => tm | n + 1 => T n, rfl, h3, ?_⟩
    intro j o' hj
    cases j with
    | zero => simp at hj; subst hj; exact ⟨by simpa using hv, by simpa using h2⟩
    | succ j => simpa using h4 j o' (by simpa using hj)

theorem memN_iff (l : List Nat) (n : Nat) : memN l n = true ↔ n ∈ l := by
  induction l with
  | nil => simp [memN]
  | cons x l ih =>
    simp only [memN]
    cases e : Nat.beq x n with
    | true => obtain rfl := Nat.eq_of_beq_eq_true e; simp
    | false =>
      have := Nat.ne_of_beq_eq_false e
      simp only [ih, List.mem_cons]
      constructor
      · exact .inr
      · rintro (h | h)
        · omega
        · exact h
theorem hasEdge_of {l : List Edge} {j : Nat} (h : hasEdge l j = true) : ∃ e ∈ l, Region.binds .any e = true ∧ e.on = j := by
  induction l with
  | nil => simp [hasEdge] at h
  | cons e l ih =>
    simp only [hasEdge] at h
    split at h
    · rename_i hb
      split at h
      · rename_i hj
        exact ⟨e, by simp, hb, Nat.eq_of_beq_eq_true hj⟩
      · obtain ⟨e', h1, h2⟩ := ih h; exact ⟨e', by simp [h1], h2⟩
    · obtain ⟨e', h1, h2⟩ := ih h; exact ⟨e', by simp [h1], h2⟩
theorem edgesBack_of {i : Nat} {l : List Edge} (h : edgesBack i l = true) : ∀ e ∈ l, Region.binds .any e = true → e.on < i := by
  induction l with
  | nil => simp
  | cons e l ih =>
    simp only [edgesBack] at h
    intro e' he' hb
    rcases List.mem_cons.1 he' with rfl | he'
    · rw [hb] at h
      simp only [Bool.and_eq_true, Nat.blt_eq] at h
      exact h.1
    · split at h
      · simp only [Bool.and_eq_true] at h; exact ih h.2 e' he' hb
      · exact ih h e' he' hb

theorem fitsAll_of {i : Nat} {o : Oper} : ∀ {l : List Oper} {j : Nat}, fitsAll all i o j l = true → ∀ (m : Nat) (p : Oper), l[m]? = some p → ∀ d, p.dst = some d →
    (i = j + m → d ∉ looks all o) ∧ (i ≠ j + m → (d ∈ looks all o → (if j + m < i then hasEdge o.after.toList (j + m) else hasEdge p.after.toList i) = true) ∧ o.dst ≠ some d)
  | [], j, h, m, p, hm, d, hd => by simp at hm
  | q :: l, j, h, m, p, hm, d, hd => by
    simp only [fitsAll] at h
    cases m with
    | zero =>
      simp only [List.getElem?_cons_zero, Option.some.injEq] at hm
      subst hm
      simp only [Nat.add_zero]
      split at h
      · rename_i e
        obtain rfl := Nat.eq_of_beq_eq_true e
        simp only [hd, Bool.and_eq_true, Bool.not_eq_true'] at h
        refine ⟨fun _ hm => ?_, fun hne => absurd rfl hne⟩
        have := (memN_iff _ _).2 hm
        rw [h.1] at this
        simp at this
      · rename_i e
        have hne := Nat.ne_of_beq_eq_false e
        simp only [hd, Bool.and_eq_true, Bool.or_eq_true, Bool.not_eq_true'] at h
        refine ⟨fun he => absurd he hne, fun _ => ⟨fun hm => ?_, ?_⟩⟩
        · have hmm := (memN_iff _ _).2 hm
          rcases h.1.1 with h1 | h1
          · rw [h1] at hmm; simp at hmm
          · split at h1
            · rename_i hb; rw [Nat.blt_eq] at hb; rw [if_pos hb]; exact h1
            · rename_i hb
              have : ¬ j < i := fun hlt => by rw [Nat.blt_eq.mpr hlt] at hb; simp at hb
              rw [if_neg this]; exact h1
        · intro ho
          have h2 := h.1.2
          simp only [ho, Bool.not_eq_true'] at h2
          exact Nat.ne_of_beq_eq_false h2 rfl
    | succ m =>
      have h' : fitsAll all i o (j + 1) l = true := by
        split at h <;> (simp only [Bool.and_eq_true] at h; exact h.2)
      have := fitsAll_of h' m p (by simpa using hm) d hd
      rwa [show j + 1 + m = j + (m + 1) by omega] at this

structure Quiet (all : List Oper) : Prop where
  dst : ∀ (i : Nat) (o : Oper), all[i]? = some o → ∃ d, o.dst = some d
  back : ∀ (i : Nat) (o : Oper), all[i]? = some o → ∀ e ∈ o.after.toList, Region.binds .any e = true → e.on < i
  fits : ∀ (i : Nat) (o : Oper), all[i]? = some o → ∀ (j : Nat) (p : Oper), all[j]? = some p → ∀ d, p.dst = some d →
    (i = j → d ∉ looks all o) ∧ (i ≠ j → (d ∈ looks all o → (if j < i then hasEdge o.after.toList j else hasEdge p.after.toList i) = true) ∧ o.dst ≠ some d)

theorem quietL_of : ∀ {l : List Oper} {i : Nat}, quietL all i l = true → ∀ (m : Nat) (o : Oper), l[m]? = some o → fitsAll all (i + m) o 0 all = true ∧ o.dst.isSome = true ∧ edgesBack (i + m) o.after.toList = true
  | [], i, h, m, o, hm => by simp at hm
  | q :: l, i, h, m, o, hm => by
    simp only [quietL, Bool.and_eq_true] at h
    cases m with
    | zero => simp at hm; subst hm; exact ⟨h.1.1.1, h.1.1.2, h.1.2⟩
    | succ m =>
      have := quietL_of h.2 m o (by simpa using hm)
      rwa [show i + 1 + m = i + (m + 1) by omega] at this

theorem Quiet.of (h : quietL all 0 all = true) : Quiet all := by
  refine ⟨fun i o hi => ?_, fun i o hi => ?_, fun i o hi j p hj d hd => ?_⟩
  · have := (quietL_of h i o hi).2.1
    exact Option.isSome_iff_exists.1 this
  · have := (quietL_of h i o hi).2.2
    simp only [Nat.zero_add] at this
    exact edgesBack_of this
  · have := (quietL_of h i o hi).1
    simp only [Nat.zero_add] at this
    have := fitsAll_of this j p hj d hd
    simpa using this

theorem Quiet.dsts (h : Quiet all) (i j d : Nat) (hi : dstOf all i = some d) (hj : dstOf all j = some d) : i = j := by
  rw [dstOf_eq] at hi hj
  cases ei : all[i]? with
  | none => rw [ei] at hi; simp at hi
  | some o =>
    cases ej : all[j]? with
    | none => rw [ej] at hj; simp at hj
    | some p =>
      rw [ei] at hi
      rw [ej] at hj
      simp only [Option.bind_some] at hi hj
      rcases Nat.decEq i j with hne | he
      · exact absurd hi ((h.fits i o ei j p ej d hj).2 hne).2
      · exact he

end quiet

section main
variable {P : Program} {E : Env} {X : XR} {w0 : World} {β : Nat → Option Value} {S : Nat → Prop} {tm : List AV} {hp : Hp} {a : Act} {w : World}
variable {ops : Array Oper} {Q : Exit → Act → World → Prop} {k : List AV → Hp → Prop}

theorem count_set (l : List Bool) (i : Nat) (h : l[i]? = some false) : (l.set i true).count false + 1 = l.count false := by
  induction l generalizing i with
  | nil => simp at h
  | cons b l ih =>
    cases i with
    | zero => simp at h; subst h; simp
    | succ i =>
      have := ih i (by simpa using h)
      simp only [List.set_cons_succ, List.count_cons]
      omega

theorem all_true {l : List Bool} (h : l.count false = 0) (i : Nat) (hi : i < l.length) : l[i]? = some true := by
  rw [List.getElem?_eq_getElem hi]
  cases e : l[i] with
  | true => rfl
  | false =>
    have : false ∈ l := by rw [← e]; exact List.getElem_mem hi
    have := List.count_pos_iff.2 this
    omega

theorem does_wp (hE : EnvOK P E) (hM : ∀ o ∈ ops.toList, MoreOK P o) {i : Nat} {o : Oper} (ho : ops[i]? = some o) {K : Act → World → Prop} (hI : Inv X w0 β S tm hp a w) {v : AV} (h : Does E hp ops.toList o tm v)
    (hK : ∀ S' a' w', Inv X w0 β S' (putL tm o.dst v) hp a' w' → K a' w') : wpOp P ops Q i K a w := by
  have hm : MoreOK P o := hM o (List.mem_of_getElem? (by rw [Array.getElem?_toList]; exact ho))
  unfold wpOp
  simp only [ho]
  rcases guardF_of hI.rel h with ⟨hw, h⟩ | ⟨hw, h⟩
  · rw [if_pos hw]
    refine .inl (pop_wp hE hm hI (fun r u w' S' hr hI' hS hru => ?_) h)
    subst hr
    exact hK S' _ _ (hI'.put hru o.dst)
  · rw [if_neg (by simp [hw])]
    subst h
    exact hK S _ _ (hI.put (v := .skp) (u := undef) rfl o.dst)

theorem quiet_wp (hE : EnvOK P E) (hM : ∀ o ∈ ops.toList, MoreOK P o) (hq : Quiet ops.toList) {V : Nat → AV} {tm0 : List AV} {T : Nat → List AV} (hT : ∀ i, i ≤ ops.size → Agree ops.toList V tm0 (fun j => decide (j < i)) (T i))
    (hD : ∀ i o, ops[i]? = some o → Does E hp ops.toList o (T i) (V i)) (hK : ∀ S' a' w', Inv X w0 β S' (T ops.size) hp a' w' → Q .normal a' w') :
    ∀ (n : Nat) (listed : Array Bool), listed.size = ops.size → listed.toList.count false = n → (∀ (i : Nat) (o : Oper), listed[i]? = some true → ops[i]? = some o → ∀ e ∈ o.after.toList, Region.binds .any e = true → listed[e.on]? = some true) →
      ∀ (S : Nat → Prop) (tm : List AV) (a : Act) (w : World), Agree ops.toList V tm0 (fun j => listed.getD j false) tm → Inv X w0 β S tm hp a w → wpAny P .any ops Q n listed a w := by
  have fin : ∀ (listed : Array Bool), listed.size = ops.size → listed.toList.count false = 0 → ∀ (S : Nat → Prop) (tm : List AV) (a : Act) (w : World), Agree ops.toList V tm0 (fun j => listed.getD j false) tm → Inv X w0 β S tm hp a w → Q .normal a w := by
    intro listed hs hc S tm a w hA hI
    have hA2 := hT ops.size (Nat.le_refl _)
    have hA1 : Agree ops.toList V tm0 (fun j => decide (j < ops.size)) tm := hA.ext fun i hi => by
      simp only [Array.length_toList] at hi
      have := all_true hc i (by simp [hs, hi])
      rw [Array.getElem?_toList] at this
      simp [Array.getD_eq_getD_getElem?, this, hi]
    have : tm = T ops.size := by
      refine List.ext_getElem (hA1.len.trans hA2.len.symm) fun s h1 h2 => ?_
      have hget : tm.getD s .undef = (T ops.size).getD s .undef := by
        by_cases hex : ∃ i, decide (i < ops.size) = true ∧ dstOf ops.toList i = some s
        · obtain ⟨i, hi, hd⟩ := hex
          rw [hA1.on i s hi hd (by rw [← hA1.len]; exact h1), hA2.on i s hi hd (by rw [← hA1.len]; exact h1)]
        · have hno : ∀ i, decide (i < ops.size) = true → dstOf ops.toList i ≠ some s := fun i h1 h2 => hex ⟨i, h1, h2⟩
          rw [hA1.off s hno, hA2.off s hno]
      simpa [List.getD_eq_getElem?_getD, h1, h2] using hget
    rw [this] at hI
    exact hK S a w hI
  intro n
  induction n with
  | zero =>
    intro listed hs hc hcl S tm a w hA hI
    refine ⟨?_, fin listed hs hc S tm a w hA hI⟩
    cases e : Region.ready .any ops listed with
    | nil => rfl
    | cons i l =>
      obtain ⟨o, h1, h2⟩ := (ready_iff hs i).1 (by rw [e]; simp)
      have hlt := (Array.getElem?_eq_some_iff.1 h1).1
      have := all_true hc i (by simp [hs, hlt])
      unfold isReady at h2
      rw [getB_eq, List.getD_eq_getElem?_getD, this] at h2
      simp at h2
  | succ n ih =>
    intro listed hs hc hcl S tm a w hA hI
    refine ⟨fun hnil => ?_, fun i hi => ?_⟩
    · -- some operation is still to come, and the first such one is ready
      exfalso
      have hsome : ∃ i, i < ops.size ∧ listed[i]? = some false := by
        have : false ∈ listed.toList := List.count_pos_iff.1 (by omega)
        obtain ⟨i, hi, he⟩ := List.mem_iff_getElem.1 this
        simp only [Array.length_toList] at hi
        exact ⟨i, by omega, by rw [← Array.getElem?_toList, List.getElem?_eq_getElem (by simpa using hi), he]⟩
      have key : ∀ m i, i ≤ m → i < ops.size → listed[i]? = some false → False := by
        intro m
        induction m with
        | zero =>
          intro i him hi hf
          obtain rfl : i = 0 := by omega
          have ho : ops[0]? = some ops[0] := by simp [hi]
          have : 0 ∈ Region.ready .any ops listed := (ready_iff hs 0).2 ⟨_, ho, by
            unfold isReady
            rw [getB_eq, List.getD_eq_getElem?_getD, Array.getElem?_toList, hf]
            simp only [Option.getD_some]
            rw [edgesOk_eq, List.all_eq_true]
            intro e he
            cases hb : Region.binds .any e with
            | false => rfl
            | true => exact absurd (hq.back 0 _ (by rw [Array.getElem?_toList]; exact ho) e he hb) (by omega)⟩
          rw [hnil] at this
          simp at this
        | succ m ihm =>
          intro i him hi hf
          by_cases hlt : i ≤ m
          · exact ihm i hlt hi hf
          · have ho : ops[i]? = some ops[i] := by simp [hi]
            have : i ∈ Region.ready .any ops listed := (ready_iff hs i).2 ⟨_, ho, by
              unfold isReady
              rw [getB_eq, List.getD_eq_getElem?_getD, Array.getElem?_toList, hf]
              simp only [Option.getD_some]
              rw [edgesOk_eq, List.all_eq_true]
              intro e he
              cases hb : Region.binds .any e with
              | false => rfl
              | true =>
                have hon := hq.back i _ (by rw [Array.getElem?_toList]; exact ho) e he hb
                rw [Array.getD_eq_getD_getElem?]
                cases hl : listed[e.on]? with
                | none => rw [Array.getElem?_eq_none_iff] at hl; omega
                | some b =>
                  cases b with
                  | true => rfl
                  | false => exact (ihm e.on (by omega) (by omega) hl).elim⟩
            rw [hnil] at this
            simp at this
      obtain ⟨i, hi, hf⟩ := hsome
      exact key i i (Nat.le_refl _) hi hf
    · obtain ⟨o, ho, hr⟩ := (ready_iff hs i).1 hi
      have hlt := (Array.getElem?_eq_some_iff.1 ho).1
      have hol : ops.toList[i]? = some o := by rw [Array.getElem?_toList]; exact ho
      have hil : listed[i]? = some false := by
        unfold isReady at hr
        split at hr
        · simp at hr
        · rename_i hb
          rw [getB_eq, List.getD_eq_getElem?_getD, Array.getElem?_toList] at hb
          rw [Array.getElem?_eq_getElem (by omega)] at hb ⊢
          simpa using hb
      have hre : ∀ e ∈ o.after.toList, Region.binds .any e = true → listed[e.on]? = some true := by
        intro e he hb
        unfold isReady at hr
        split at hr
        · simp at hr
        · rw [edgesOk_eq, List.all_eq_true] at hr
          have := hr e he
          rw [hb] at this
          simp only [Bool.not_true, Bool.false_or] at this
          rw [Array.getD_eq_getD_getElem?] at this
          cases hl : listed[e.on]? with
          | none => rw [hl] at this; simp at this
          | some b => rw [hl] at this; simp at this; rw [this]
      have hLi : (listed.getD i false) = false := by rw [Array.getD_eq_getD_getElem?, hil]; rfl
      have hAt := hT i (by omega)
      have hlook : ∀ s ∈ looks ops.toList o, getV (T i) s = getV tm s := by
        intro s hsl
        rw [getV_eq, getV_eq]
        by_cases hex : ∃ j, dstOf ops.toList j = some s
        · obtain ⟨j, hj⟩ := hex
          have hjd := hj
          rw [dstOf_eq] at hjd
          cases ej : ops.toList[j]? with
          | none => rw [ej] at hjd; simp at hjd
          | some p =>
            rw [ej] at hjd
            simp only [Option.bind_some] at hjd
            have hfit := hq.fits i o hol j p ej s hjd
            have hne : i ≠ j := fun e => hfit.1 e hsl
            have hed := (hfit.2 hne).1 hsl
            by_cases hji : j < i
            · rw [if_pos hji] at hed
              obtain ⟨e, he, hb, hon⟩ := hasEdge_of hed
              have hl := hre e he hb
              rw [hon] at hl
              by_cases hslt : s < tm0.length
              · rw [hAt.on j s (by simpa using hji) hj hslt, hA.on j s (by rw [Array.getD_eq_getD_getElem?, hl]; rfl) hj hslt]
              · have e1 : (T i).getD s .undef = .undef := by rw [List.getD_eq_getElem?_getD, List.getElem?_eq_none (by rw [hAt.len]; omega)]; rfl
                have e2 : tm.getD s .undef = .undef := by rw [List.getD_eq_getElem?_getD, List.getElem?_eq_none (by rw [hA.len]; omega)]; rfl
                rw [e1, e2]
            · rw [if_neg hji] at hed
              obtain ⟨e, he, hb, hon⟩ := hasEdge_of hed
              have hjn : listed.getD j false = false := by
                cases hl : listed[j]? with
                | none => simp [Array.getD_eq_getD_getElem?, hl]
                | some b =>
                  cases b with
                  | false => simp [Array.getD_eq_getD_getElem?, hl]
                  | true =>
                    have := hcl j p hl (by rw [← Array.getElem?_toList]; exact ej) e he hb
                    rw [hon, hil] at this
                    simp at this
              have uniq : ∀ j', dstOf ops.toList j' = some s → j' = j := fun j' h' => hq.dsts j' j s h' hj
              rw [hAt.off s (fun j' h1 h2 => by rw [uniq j' h2] at h1; simp at h1; omega), hA.off s (fun j' h1 h2 => by rw [uniq j' h2, hjn] at h1; simp at h1)]
        · have hno : ∀ j, dstOf ops.toList j ≠ some s := fun j hj => hex ⟨j, hj⟩
          rw [hAt.off s (fun j _ => hno j), hA.off s (fun j _ => hno j)]
      have hdo := (hD i o ho).congr hlook
      refine does_wp hE hM ho hI hdo ?_
      intro S' a' w' hI'
      have hdst : dstOf ops.toList i = o.dst := by rw [dstOf_eq, hol]; rfl
      refine ih (listed.setIfInBounds i true) (by simp [hs]) ?_ ?_ S' _ a' w' ?_ hI'
      · have := count_set listed.toList i (by rw [Array.getElem?_toList]; exact hil)
        simp only [Array.toList_setIfInBounds]
        omega
      · intro j p hj hp e he hb
        rw [Array.getElem?_setIfInBounds] at hj ⊢
        by_cases hij : i = j
        · subst hij
          rw [ho] at hp
          obtain rfl : o = p := by simpa using hp
          have := hre e he hb
          split
          · split
            · rfl
            · rename_i h1 h2; rw [h1] at hil; rw [hil] at this; simp at this
          · exact this
        · rw [if_neg hij] at hj
          have := hcl j p hj hp e he hb
          split
          · split
            · rfl
            · rename_i h1 h2; rw [← h1] at this; rw [hil] at this; simp at this
          · exact this
      · have := hA.step hq.dsts hLi
        rw [hdst] at this
        refine this.ext fun j hj => ?_
        simp only [Array.length_toList] at hj
        by_cases hij : j = i
        · subst hij
          simp [Array.getD_eq_getD_getElem?, Array.getElem?_setIfInBounds, hs, hlt]
        · have hij' : i ≠ j := fun e => hij e.symm
          simp [Array.getD_eq_getD_getElem?, Array.getElem?_setIfInBounds_ne hij', hij]

/-- THE ORDER OF THE TEXT STANDS FOR ALL. -/
theorem evQ_wp (hE : EnvOK P E) (hM : ∀ o ∈ ops.toList, MoreOK P o) (hq : quietL ops.toList 0 ops.toList = true) (hK : Goes X w0 k (Q .normal)) (hI : Inv X w0 β S tm hp a w)
    (h : evQ E ops.toList hp ops.toList tm fun tm => k tm hp) : wpAny P .any ops Q ops.size (Array.replicate ops.size false) a w := by
  have hQ := Quiet.of hq
  obtain ⟨vs, hl, T, hT0, hkT, hall⟩ := evQ_all h
  have hT : ∀ i, i ≤ ops.size → Agree ops.toList (fun j => vs.getD j .undef) tm (fun j => decide (j < i)) (T i) := by
    intro i
    induction i with
    | zero =>
      intro _
      rw [hT0]
      exact ⟨rfl, fun j d hj => by simp at hj, fun s _ => rfl⟩
    | succ i ih =>
      intro hi
      have hA := ih (by omega)
      have ho : ops.toList[i]? = some ops[i] := by rw [Array.getElem?_toList]; simp [show i < ops.size by omega]
      rw [(hall i _ ho).2]
      have hd : dstOf ops.toList i = ops[i].dst := by rw [dstOf_eq, ho]; rfl
      have := hA.step hQ.dsts (i := i) (by simp)
      rw [hd] at this
      refine this.ext fun j _ => ?_
      have hj : (j < i + 1) = (j < i ∨ j = i) := propext (by omega)
      simp only [hj, Bool.decide_or]
      rfl
  refine quiet_wp hE hM hQ hT (fun i o ho => (hall i o (by rw [Array.getElem?_toList]; exact ho)).1) (fun S' a' w' hI' => hK _ _ _ _ _ _ (by simpa using hkT) hI') ops.size _ (by simp) (by simp) ?_ S tm a w ?_ hI
  · intro i o hi
    rw [Array.getElem?_replicate] at hi
    split at hi <;> simp at hi
  · refine ⟨rfl, fun i d hi => ?_, fun s _ => rfl⟩
    simp only [Array.getD_eq_getD_getElem?, Array.getElem?_replicate] at hi
    split at hi <;> simp at hi

end main
end Go.Proofs.Ythakgbecpkfeoaa.Ev

/- What an operation looks at in the heap. -/
set_option linter.unusedVariables false
set_option linter.unusedSimpArgs false
namespace Go.Proofs.Ythakgbecpkfeoaa.Ev

def hlook : Hp → Nat → Option AO
  | [], _ => none
  | (o, x) :: h, n => match Nat.beq o n with
    | true => some x
    | false => hlook h n
theorem hget_look (h : Hp) (n : Nat) (k : AO → Prop) : hget h n k = match hlook h n with | some x => k x | none => False := by
  induction h with
  | nil => rfl
  | cons p h ih =>
    obtain ⟨o, x⟩ := p
    simp only [hget, hlook]
    cases Nat.beq o n <;> simp [ih]
theorem hget_congr {h h' : Hp} {n : Nat} (e : hlook h n = hlook h' n) (k : AO → Prop) : hget h n k = hget h' n k := by rw [hget_look, hget_look, e]

theorem listF_congr {h h' : Hp} {v : AV} (e : ∀ o ∈ v.names, hlook h o = hlook h' o) (k : (τ : ET) → List τ.T → Prop) : listF h v k = listF h' v k := by
  cases v <;> try rfl
  simp only [listF]
  exact hget_congr (e _ (by simp [AV.names])) _
theorem viewF_congr {h h' : Hp} {v : AV} (e : ∀ o ∈ v.names, hlook h o = hlook h' o) (k : AV → Prop) : viewF h v k = viewF h' v k := by
  cases v <;> try rfl
  simp only [viewF]
  exact hget_congr (e _ (by simp [AV.names])) _
theorem viewsF_congr {h h' : Hp} : ∀ {l : List AV} (e : ∀ o ∈ AV.namesL l, hlook h o = hlook h' o) (k : List AV → Prop), viewsF h l k = viewsF h' l k
  | [], _, _ => rfl
  | v :: l, e, k => by
    simp only [viewsF]
    rw [viewF_congr (h' := h') (fun o ho => e o (by simp [AV.namesL, ho]))]
    congr 1
    funext v'
    exact viewsF_congr (fun o ho => e o (by simp [AV.namesL, ho])) _

theorem namesL_map {tm : List AV} {l : List Operand} {o : Nat} (h : o ∈ AV.namesL (l.map (evalV tm))) : ∃ x ∈ l, o ∈ (evalV tm x).names := by
  induction l with
  | nil => simp [AV.namesL] at h
  | cons x l ih =>
    simp only [List.map_cons, AV.namesL, List.mem_append] at h
    rcases h with h | h
    · exact ⟨x, by simp, h⟩
    · obtain ⟨y, h1, h2⟩ := ih h; exact ⟨y, by simp [h1], h2⟩

theorem pop_hcongr {E : Env} {tm : List AV} {hp hp' : Hp} (op : Op) (h : looksHp op = true → ∀ x ∈ op.operands.toList, ∀ o ∈ (evalV tm x).names, hlook hp o = hlook hp' o) (k : AV → Prop) : pop E op tm hp k = pop E op tm hp' k := by
  cases op with
  | load T x =>
    have hx := h rfl x (by simp [Op.operands])
    simp only [pop]
    generalize evalV tm x = v at hx
    cases v with
    | ptr o off =>
      have e := hx o (by simp [AV.names])
      simp only [hget_congr e]
    | oep o i =>
      have e := hx o (by simp [AV.names])
      simp only [hget_congr e]
    | _ => rfl
  | indexAddr T x i =>
    have hx := h rfl x (by simp [Op.operands])
    simp only [pop]
    generalize evalV tm x = v at hx
    generalize evalV tm i = u
    cases u <;> try rfl
    cases v with
    | own o =>
      have e := hx o (by simp [AV.names])
      simp only [hget_congr e]
    | _ => rfl
  | slice T x lo hi mx =>
    have hx := h rfl x (by simp [Op.operands])
    simp only [pop, listF_congr hx]
  | call c =>
    cases hc : c.callee with
    | invoke r m => simp only [pop, hc]
    | value f =>
      have hargs : ∀ o ∈ AV.namesL (c.args.toList.map (evalV tm)), hlook hp o = hlook hp' o := by
        intro o ho
        obtain ⟨x, h1, h2⟩ := namesL_map ho
        exact h rfl x (by simp [Op.operands, Call.operands] at h1 ⊢; exact .inr h1) o h2
      simp only [pop, hc, evs_eq, viewsF_congr hargs]
    | builtin b =>
      cases b with
      | len =>
        simp only [pop, hc]
        rcases e : c.args.toList with _ | ⟨x, _ | ⟨y, l⟩⟩ <;> try rfl
        have hx := h rfl x (by simp [Op.operands, Call.operands, hc, e])
        rcases c.argTypes.toList with _ | ⟨T, _ | ⟨T', l⟩⟩ <;> try rfl
        simp only
        generalize evalV tm x = v at hx
        cases v <;> simp only [listF_congr hx]
      | _ => simp only [pop, hc]
  | _ => rfl

end Go.Proofs.Ythakgbecpkfeoaa.Ev

/- Operations that write objects, told as a value and the objects written: each answers once, looks at its operands and at the objects that these name, and its step does just that. -/
set_option linter.unusedVariables false
set_option linter.unusedSimpArgs false
namespace Go.Proofs.Ythakgbecpkfeoaa.Ev

def hputs : Hp → List (Nat × AO) → Hp
  | h, [] => h
  | h, (o, x) :: l => hputs (hput h o x) l
theorem hputsF_eq (h : Hp) (l : List (Nat × AO)) (k : Hp → Prop) : hputsF h l k = k (hputs h l) := by
  induction l generalizing h with
  | nil => rfl
  | cons p l ih => obtain ⟨o, x⟩ := p; simp only [hputsF, hputF_eq, ih, hputs]
theorem natsF_eq (l : List Nat) (k : List Nat → Prop) : natsF l k = k l := by
  induction l generalizing k with
  | nil => rfl
  | cons x l ih => simp only [natsF, ih]
theorem keysOf_eq (l : List (Nat × AO)) : keysOf l = l.map (·.1) := by
  induction l with
  | nil => rfl
  | cons p l ih => obtain ⟨o, x⟩ := p; simp [keysOf, ih]

def spLook : List (Nat × Spec) → Nat → Option Spec
  | [], _ => none
  | (o, x) :: h, n => match Nat.beq o n with
    | true => some x
    | false => spLook h n
theorem spGet_look (h : List (Nat × Spec)) (n : Nat) (k : Spec → Prop) : spGet h n k = match spLook h n with | some x => k x | none => False := by
  induction h with
  | nil => rfl
  | cons p h ih =>
    obtain ⟨o, x⟩ := p
    simp only [spGet, spLook]
    cases Nat.beq o n <;> simp [ih]

/-! ### One answer -/
/-- Goes on at one pair of answers. -/
def Lin2 (F : (AV → List (Nat × AO) → Prop) → Prop) : Prop := ∀ k, F k → ∃ v ws, k v ws ∧ ∀ k' : AV → List (Nat × AO) → Prop, k' v ws → F k'
theorem Lin2.no : Lin2 fun _ => False := fun _ h => h.elim
theorem Lin2.const (v : AV) (ws : List (Nat × AO)) : Lin2 fun k => k v ws := fun _ h => ⟨v, ws, h, fun _ h => h⟩
theorem Lin2.and {p : Prop} {F : (AV → List (Nat × AO) → Prop) → Prop} (h : Lin2 F) : Lin2 fun k => p ∧ F k := fun k ⟨h1, h2⟩ => by
  obtain ⟨v, ws, hx, hk⟩ := h k h2
  exact ⟨v, ws, hx, fun k' hk' => ⟨h1, hk k' hk'⟩⟩
theorem Lin2.bind {α : Type} {F : (α → Prop) → Prop} {G : α → (AV → List (Nat × AO) → Prop) → Prop} (hF : Lin F) (hG : ∀ x, Lin2 (G x)) : Lin2 fun k => F fun x => G x k := fun k h => by
  obtain ⟨x, hx, hk⟩ := hF _ h
  obtain ⟨v, ws, hy, hk2⟩ := hG x _ hx
  exact ⟨v, ws, hy, fun k' hk' => hk _ (hk2 k' hk')⟩
theorem Lin2.pop {E : Env} {op : Op} {tm : List AV} {hp : Hp} : Lin2 fun k => pop E op tm hp fun v => k v [] := Lin2.bind (lin_pop op) fun v => Lin2.const v []

theorem lin_backF : ∀ (ids : List Nat) (bs : List (List AV)), Lin fun k => backF ids bs k
  | [], [] => Lin.const _
  | [], _ :: _ => Lin.no
  | _ :: _, [] => Lin.no
  | o :: l, cs :: bs => by
    simp only [backF]
    cases AV.frees cs
    · exact Lin.no
    · exact Lin.bind (lin_backF l bs) fun _ => Lin.const _
theorem lin_boxesF (hp : Hp) : ∀ (ids : List Nat), Lin fun k => boxesF hp ids k
  | [] => Lin.const _
  | o :: l => by
    simp only [boxesF]
    refine Lin.bind (lin_hget _ _) fun x => ?_
    cases x with
    | arr τ xs => exact Lin.no
    | box cs =>
      simp only
      cases AV.frees cs
      · exact Lin.no
      · exact Lin.bind (lin_boxesF hp l) fun l' => Lin.const _
theorem lin_rensF (ids : List Nat) (l : List AV) : Lin fun k => rensF ids l k := by simp only [rensF_eq]; exact Lin.const _

theorem lin_effS (g : List AV → List (List AV) → Option (Prop × Out × List (List AV))) (vs : List AV) (hp : Hp) : Lin2 fun k => effS g vs hp k := by
  unfold effS
  refine Lin2.bind (lin_viewsF _ _) fun ws => Lin2.bind (lin_boxesF _ _) fun bs => Lin2.bind (lin_rensF _ _) fun ws' => ?_
  cases anyOwn vs <;> cases AV.renoks (AV.idss ws []) ws && nodupB (AV.idss ws []) <;> simp only <;> try exact Lin2.no
  rcases g ws' bs with _ | ⟨p, out, bs'⟩
  · exact Lin2.no
  · cases out with
    | pan v => exact Lin2.no
    | ret r =>
      simp only
      refine Lin2.and (Lin2.bind (lin_f r) fun r => ?_)
      cases r.calm
      · exact Lin2.no
      · exact Lin2.bind (lin_backF _ _) fun us => Lin2.const _ _
theorem lin_effP (h : List AV → Option (Prop × AV)) (vs caps : List AV) (hp : Hp) : Lin2 fun k => effP h vs caps hp k := by
  unfold effP
  refine Lin2.bind (lin_viewsF _ _) fun ws => ?_
  cases AV.calms (ws ++ caps)
  · exact Lin2.no
  · simp only
    rcases h (ws ++ caps) with _ | ⟨p, r⟩
    · exact Lin2.no
    · simp only
      refine Lin2.and (Lin2.bind (lin_f r) fun r => ?_)
      cases r.calm <;> cases anyOwn vs <;> cases plainV r <;> first | exact Lin2.no | exact Lin2.const _ _
theorem lin_effC (E : Env) (g : Nat) (vs caps : List AV) (hp : Hp) : Lin2 fun k => effC E g vs caps hp k := by
  unfold effC
  refine Lin2.bind (lin_spGet _ _) fun s => ?_
  cases s with
  | pure h => exact lin_effP _ _ _ _
  | full s => exact lin_effS _ _ _
  | tab s => exact Lin2.no
theorem lin_newE (hp : Hp) (d : Option Nat) (x : AO) (v : Nat → AV) : Lin2 fun k => newE hp d x v k := by
  unfold newE
  cases d with
  | none => exact Lin2.no
  | some d =>
    simp only
    cases hlive hp d <;> cases Nat.blt d 1000 <;> first | exact Lin2.no | exact Lin2.const _ _

theorem listF_pick {hp : Hp} {v : AV} {K : (τ : ET) → List τ.T → Prop} (h : listF hp v K) : ∃ τ xs, K τ xs ∧ ∀ K' : (τ : ET) → List τ.T → Prop, K' τ xs → listF hp v K' := by
  cases v with
  | sl τ xs => exact ⟨τ, xs, h, fun _ h => h⟩
  | lit τ xs => exact ⟨τ, xs, h, fun _ h => h⟩
  | own o =>
    obtain ⟨x, h, hx⟩ := lin_hget _ _ _ h
    cases x with
    | box cs => exact h.elim
    | arr τ xs => exact ⟨τ, xs, h, fun K' hk => hx _ hk⟩
  | _ => exact h.elim
theorem castF_pick {τ' τ : ET} {ys : List τ'.T} {K : List τ.T → Prop} (h : castF τ' τ ys K) : ∃ zs, K zs ∧ ∀ K' : List τ.T → Prop, K' zs → castF τ' τ ys K' := by
  cases τ' <;> cases τ <;> first | exact ⟨_, h, fun _ h => h⟩ | exact h.elim

theorem appE_pick {E : Env} {xs : List Operand} {Ts : List Nat} {dst : Option Nat} {tm : List AV} {hp : Hp} {k : AV → List (Nat × AO) → Prop} (h : appE E xs Ts dst tm hp k) :
    ∃ s x T τ ti τ' ys, xs = [s, x] ∧ Ts = [T, T] ∧ ti.elem = some τ ∧ (∀ K : TI → Prop, K ti → tiGet E.tys T K) ∧ (∀ K : (τ : ET) → List τ.T → Prop, K τ' ys → listF hp (evalV tm x) K) ∧
      ∃ ys' : List τ.T, (∀ K : List τ.T → Prop, K ys' → castF τ' τ ys K) ∧ ∃ τ'' zs, evalV tm s = .lit τ'' zs ∧ ∃ zs' : List τ.T, (∀ K : List τ.T → Prop, K zs' → castF τ'' τ zs K) ∧ (zs' = [] ∨ ys' ≠ []) ∧ (zs'.length + ys'.length) * τ.bytes ≤ 140737488355328 ∧
        newE hp dst (.arr τ (zs' ++ ys')) (fun d => .own d) k := by
  unfold appE at h
  split at h
  · rename_i s x T T'
    split at h
    · rename_i hT
      obtain rfl := Nat.eq_of_beq_eq_true hT
      obtain ⟨ti, h, ht⟩ := lin_tiGet _ _ _ h
      split at h
      · rename_i τ hτ
        obtain ⟨τ', ys, h, hl⟩ := listF_pick h
        obtain ⟨ys', h, hc⟩ := castF_pick h
        split at h
        · rename_i τ'' zs hs
          obtain ⟨zs', h, hc2⟩ := castF_pick h
          exact ⟨s, x, T, τ, ti, τ', ys, rfl, rfl, hτ, ht, hl, ys', hc, τ'', zs, hs, zs', hc2, h.1, h.2.1, h.2.2⟩
        · exact h.elim
      · exact h.elim
    · exact h.elim
  · exact h.elim
theorem appE_make {E : Env} {dst : Option Nat} {tm : List AV} {hp : Hp} {k : AV → List (Nat × AO) → Prop} {s x : Operand} {T : Nat} {τ : ET} {ti : TI} {τ' : ET} {ys : List τ'.T} (hτ : ti.elem = some τ) (ht : ∀ K : TI → Prop, K ti → tiGet E.tys T K)
    (hl : ∀ K : (τ : ET) → List τ.T → Prop, K τ' ys → listF hp (evalV tm x) K) {ys' : List τ.T} (hc : ∀ K : List τ.T → Prop, K ys' → castF τ' τ ys K) {τ'' : ET} {zs : List τ''.T} (hs : evalV tm s = .lit τ'' zs) {zs' : List τ.T}
    (hc2 : ∀ K : List τ.T → Prop, K zs' → castF τ'' τ zs K) (h1 : zs' = [] ∨ ys' ≠ []) (h2 : (zs'.length + ys'.length) * τ.bytes ≤ 140737488355328) (h : newE hp dst (.arr τ (zs' ++ ys')) (fun d => .own d) k) : appE E [s, x] [T, T] dst tm hp k := by
  unfold appE
  simp only [Nat.beq_refl]
  refine ht _ ?_
  simp only [hτ]
  refine hl _ (hc _ ?_)
  simp only [hs]
  exact hc2 _ ⟨h1, h2, h⟩
theorem lin_appE (E : Env) (xs : List Operand) (Ts : List Nat) (dst : Option Nat) (tm : List AV) (hp : Hp) : Lin2 fun k => appE E xs Ts dst tm hp k := by
  intro k h
  obtain ⟨s, x, T, τ, ti, τ', ys, rfl, rfl, hτ, ht, hl, ys', hc, τ'', zs, hs, zs', hc2, h1, h2, h⟩ := appE_pick h
  obtain ⟨v, ws, hk, hn⟩ := lin_newE _ _ _ _ _ h
  exact ⟨v, ws, hk, fun k' hk' => appE_make hτ ht hl hc hs hc2 h1 h2 (hn _ hk')⟩

section effs
variable {E : Env} {o : Oper} {tm : List AV} {hp : Hp} {kp : AV → List AV → Hp → Prop}

theorem lin_eff1 : Lin2 fun k => eff1 E o tm hp k := by
  unfold eff1
  cases o.op with
  | alloc T =>
    refine Lin2.bind (lin_tiGet _ _) fun ti => Lin2.bind (lin_constsF _) fun cs => ?_
    cases AV.frees cs
    · exact Lin2.no
    · exact lin_newE _ _ _ _
  | box T x =>
    simp only
    cases sealT T with
    | true => exact Lin2.pop
    | false =>
    refine Lin2.bind (lin_tiGet _ _) fun ti => Lin2.bind (lin_f _) fun v => Lin2.bind (lin_cellsF _) fun cs => ?_
    cases AV.frees cs <;> cases Nat.beq cs.length ti.size <;> first | exact Lin2.no | exact lin_newE _ _ _ _
  | store T a x =>
    simp only
    generalize evalV tm a = va
    cases va with
    | ptr p off =>
      refine Lin2.bind (lin_tiGet _ _) fun ti => Lin2.bind (lin_f _) fun v => Lin2.bind (lin_cellsF _) fun vs => ?_
      cases anyOwn vs <;> cases Nat.beq vs.length ti.size && ones vs <;> simp only <;> try exact Lin2.no
      refine Lin2.bind (lin_hget _ _) fun x => ?_
      cases x with
      | box cs => exact Lin2.bind (lin_spliceF _ _ _) fun cs' => Lin2.const _ _
      | arr τ xs => exact Lin2.no
    | oep p i =>
      simp only
      cases Nat.beq T 3
      · exact Lin2.no
      · simp only
        generalize evalV tm x = vx
        rcases vx with ⟨κ, n⟩ | _ | _ | _ | _ | _ | _ | _ | _ | _ | _ | _ | _ | _ | _ | _ | _ | _ <;> try exact Lin2.no
        cases κ <;> simp only <;> try exact Lin2.no
        refine Lin2.bind (lin_hget _ _) fun x => ?_
        cases x with
        | box cs => exact Lin2.no
        | arr τ xs => cases τ <;> simp only <;> first | exact Lin2.no | exact Lin2.and (Lin2.const _ _)
    | _ => exact Lin2.no
  | makeSlice T l c =>
    simp only
    generalize evalV tm l = vl
    generalize evalV tm c = vc
    rcases vl with ⟨κ, n⟩ | _ | _ | _ | _ | _ | _ | _ | _ | _ | _ | _ | _ | _ | _ | _ | _ | _ <;> try exact Lin2.no
    rcases vc with ⟨κ', m⟩ | _ | _ | _ | _ | _ | _ | _ | _ | _ | _ | _ | _ | _ | _ | _ | _ | _ <;> first
      | (cases κ <;> exact Lin2.no)
      | skip
    cases κ <;> cases κ' <;> simp only <;> try exact Lin2.no
    refine Lin2.bind (lin_tiGet _ _) fun ti => ?_
    cases ti.has .i64
    · exact Lin2.no
    · exact Lin2.and (lin_newE _ _ _ _)
  | assign x =>
    simp only
    generalize evalV tm x = v
    cases v with
    | nil =>
      refine Lin2.bind (lin_tiGet _ _) fun ti => ?_
      cases ti.elem with
      | none => exact Lin2.no
      | some τ => exact lin_newE _ _ _ _
    | own p => exact Lin2.no
    | _ => exact Lin2.bind (lin_f _) fun v => Lin2.const _ _
  | call c =>
    simp only
    cases c.callee with
    | value f =>
      simp only
      generalize evalV tm f = v
      cases v with
      | fn g => exact Lin2.bind (lin_evs _ _) fun vs => lin_effC _ _ _ _ _
      | clo g caps => exact Lin2.bind (lin_evs _ _) fun vs => lin_effC _ _ _ _ _
      | _ => exact Lin2.no
    | builtin b =>
      cases b with
      | append => exact lin_appE _ _ _ _ _ _
      | _ => exact Lin2.pop
    | invoke r m => exact Lin2.pop
  | _ => exact Lin2.pop

theorem kept_eq (op : Op) (tm : List AV) : ∃ vs, ∀ k : List AV → Prop, kept op tm k = k vs := by
  unfold kept
  cases op <;> (repeat' split) <;> first | exact ⟨[], fun k => rfl⟩ | (simp only [evs_eq]; exact ⟨_, fun k => rfl⟩)

theorem lin_eff : Lin2 fun k => eff E o tm hp k := by
  unfold eff
  obtain ⟨vs, e⟩ := kept_eq o.op tm
  simp only [e]
  cases anyOwn vs
  · exact lin_eff1
  · exact Lin2.no

/-! ### The step does just that -/
/-- What an operation's step must come to. -/
def Comes (o : Oper) (tm : List AV) (hp : Hp) (k : AV → List (Nat × AO) → Prop) (tm' : List AV) (hp' : Hp) : Prop := ∃ v ws, k v ws ∧ tm' = putL tm o.dst v ∧ hp' = hputs hp ws

theorem newE_step {x : AO} {v : Nat → AV} {k : AV → List (Nat × AO) → Prop} (h : newE hp o.dst x v k) :
    ∃ e, o.dst = some e ∧ newObj tm hp e x (v e) (Comes o tm hp k) := by
  unfold newE at h
  split at h
  · rename_i e hd
    split at h
    · rename_i hl hb
      refine ⟨e, hd, ?_⟩
      unfold newObj
      rw [hb]
      simp only [dropObj, hl, hputF_eq, setF_eq]
      exact ⟨_, _, h, by rw [hd]; rfl, rfl⟩
    · exact h.elim
  · exact h.elim

theorem backF_of : ∀ {ids : List Nat} {bs : List (List AV)} {k : List (Nat × AO) → Prop}, backF ids bs k → ∃ ws, k ws ∧ ∀ (hp : Hp) (k' : Hp → Prop), k' (hputs hp ws) → unboxF ids bs hp k'
  | [], [], k, h => ⟨[], h, fun hp k' hk => hk⟩
  | [], _ :: _, k, h => h.elim
  | _ :: _, [], k, h => h.elim
  | o :: l, cs :: bs, k, h => by
    simp only [backF] at h
    split at h
    · rename_i hf
      obtain ⟨ws, h1, h2⟩ := backF_of h
      refine ⟨_, h1, fun hp k' hk => ?_⟩
      simp only [unboxF, hf, hputF_eq]
      exact h2 _ _ hk
    · exact h.elim

theorem effS_step {g : List AV → List (List AV) → Option (Prop × Out × List (List AV))} {vs : List AV} {k : AV → List (Nat × AO) → Prop} (h : effS g vs hp k) :
    callS E (detS g) vs tm hp o.dst kp (Comes o tm hp k) := by
  unfold effS at h
  unfold callS
  obtain ⟨ws, h, hv⟩ := lin_viewsF hp vs _ h
  refine hv _ ?_
  obtain ⟨bs, h, hb⟩ := lin_boxesF hp _ _ h
  refine hb _ ?_
  rw [rensF_eq] at h ⊢
  cases e1 : anyOwn vs <;> cases e2 : AV.renoks (AV.idss ws []) ws && nodupB (AV.idss ws []) <;> rw [e1, e2] at h <;> try exact h.elim
  simp only at h ⊢
  unfold detS
  rcases e3 : g (AV.rens (AV.idss ws []) ws) bs with _ | ⟨p, out, bs'⟩ <;> rw [e3] at h
  · exact h.elim
  · cases out with
    | pan v => exact h.elim
    | ret r =>
      refine ⟨h.1, ?_⟩
      have h' := h.2
      rw [AV.f_eq] at h'
      simp only [AV.f_eq]
      cases e4 : r.calm <;> rw [e4] at h'
      · exact h'.elim
      · obtain ⟨us, hk, hu⟩ := backF_of h'
        refine hu _ _ ?_
        rw [putD_eq]
        exact ⟨_, _, hk, rfl, rfl⟩

theorem effP_step {g : List AV → Option (Prop × AV)} {vs caps : List AV} {k : AV → List (Nat × AO) → Prop} (h : effP g vs caps hp k) :
    callP E g vs caps tm hp o.dst (Comes o tm hp k) := by
  unfold effP at h
  unfold callP
  obtain ⟨ws, h, hv⟩ := lin_viewsF hp vs _ h
  refine hv _ ?_
  cases e0 : AV.calms (ws ++ caps) <;> rw [e0] at h
  · exact h.elim
  · simp only at h ⊢
    rcases e4 : g (ws ++ caps) with _ | ⟨p, r⟩ <;> rw [e4] at h
    · exact h.elim
    · refine ⟨h.1, ?_⟩
      have h' := h.2
      rw [AV.f_eq] at h' ⊢
      cases e1 : r.calm <;> cases e2 : anyOwn vs <;> cases e3 : plainV r <;> simp only [e1, e2, e3] at h' ⊢ <;> first
        | exact h'.elim
        | (rw [putD_eq]; exact ⟨_, _, h', rfl, rfl⟩)

theorem effC_step {g : Nat} {vs caps : List AV} {k : AV → List (Nat × AO) → Prop} (h : effC E g vs caps hp k) :
    callF E g vs caps tm hp o.dst kp (Comes o tm hp k) := by
  unfold effC at h
  unfold callF
  rw [spGet_look] at h ⊢
  cases e : spLook E.sp g with
  | none => rw [e] at h; exact h.elim
  | some s =>
    rw [e] at h
    cases s with
    | pure g => exact effP_step h
    | full g => exact effS_step h
    | tab g => exact h.elim

theorem pop_step {k : AV → List (Nat × AO) → Prop} (h : pop E o.op tm hp fun v => k v []) : pop E o.op tm hp fun v => putD tm o.dst v fun tm' => Comes o tm hp k tm' hp := by
  obtain ⟨v, h1, h2⟩ := lin_pop o.op _ h
  refine h2 _ ?_
  rw [putD_eq]
  exact ⟨v, [], h1, rfl, rfl⟩

theorem eff1_step {k : AV → List (Nat × AO) → Prop} (h : eff1 E o tm hp k) : step1 E o tm hp kp (Comes o tm hp k) := by
  unfold eff1 at h
  unfold step1
  cases hop : o.op with
  | alloc T =>
    simp only [hop] at h ⊢
    obtain ⟨ti, h, ht⟩ := lin_tiGet _ _ _ h
    obtain ⟨cs, h, hc⟩ := lin_constsF _ _ h
    split at h
    · rename_i hf
      obtain ⟨e, he, hn⟩ := newE_step (tm := tm) h
      rw [he]
      refine ht _ (hc _ ?_)
      simp only [hf]
      exact hn
    · exact h.elim
  | box T x =>
    simp only [hop] at h ⊢
    cases hs : sealT T with
    | true =>
      rw [hs] at h
      have := pop_step (o := o) (k := k) (by rw [hop]; exact h)
      rw [hop] at this
      exact this
    | false =>
    rw [hs] at h
    simp only at h ⊢
    obtain ⟨ti, h, ht⟩ := lin_tiGet _ _ _ h
    obtain ⟨v, h, hv⟩ := lin_f _ _ h
    obtain ⟨cs, h, hc⟩ := lin_cellsF _ _ h
    split at h
    · rename_i hf hb
      obtain ⟨e, he, hn⟩ := newE_step (tm := tm) h
      rw [he]
      refine ht _ (hv _ (hc _ ?_))
      simp only [hf, hb]
      exact hn
    · exact h.elim
  | store T a x =>
    simp only [hop] at h ⊢
    generalize evalV tm a = va at h
    cases va with
    | ptr p off =>
      obtain ⟨ti, h, ht⟩ := lin_tiGet _ _ _ h
      obtain ⟨v, h, hv⟩ := lin_f _ _ h
      obtain ⟨vs, h, hc⟩ := lin_cellsF _ _ h
      refine ht _ (hv _ (hc _ ?_))
      cases e1 : anyOwn vs <;> cases e2 : (Nat.beq vs.length ti.size && ones vs) <;> rw [e1, e2] at h <;> try exact h.elim
      simp only at h ⊢
      obtain ⟨x, h, hx⟩ := lin_hget _ _ _ h
      refine hx _ ?_
      cases x with
      | arr τ xs => exact h.elim
      | box cs =>
        obtain ⟨cs', h, hs⟩ := lin_spliceF _ _ _ _ h
        refine hs _ ?_
        rw [hputF_eq, putD_eq]
        exact ⟨_, _, h, rfl, rfl⟩
    | oep p i =>
      simp only at h ⊢
      cases e : Nat.beq T 3 with
      | false => rw [e] at h; exact h.elim
      | true =>
        rw [e] at h
        simp only at h ⊢
        generalize evalV tm x = vx at h
        split at h
        · obtain ⟨x, h, hx⟩ := lin_hget _ _ _ h
          refine hx _ ?_
          split at h
          · refine ⟨h.1, ?_⟩
            rw [hputF_eq, putD_eq]
            exact ⟨_, _, h.2, rfl, rfl⟩
          · exact h.elim
        · exact h.elim
    | _ => exact h.elim
  | makeSlice T l c =>
    simp only [hop] at h ⊢
    split at h
    · rename_i h1 h2
      obtain ⟨ti, h, ht⟩ := lin_tiGet _ _ _ h
      split at h
      · rename_i hf
        obtain ⟨e, he, hn⟩ := newE_step (tm := tm) h.2
        rw [he]
        simp only [h1, h2]
        refine ht _ ?_
        simp only [hf]
        exact ⟨h.1, hn⟩
      · exact h.elim
    · exact h.elim
  | assign x =>
    simp only [hop] at h ⊢
    generalize evalV tm x = v at h
    cases v with
    | nil =>
      simp only at h ⊢
      obtain ⟨ti, h, ht⟩ := lin_tiGet _ _ _ h
      split at h
      · rename_i τ hf
        obtain ⟨e, he, hn⟩ := newE_step (tm := tm) h
        rw [he]
        refine ht _ ?_
        simp only [hf]
        exact hn
      · exact h.elim
    | own p => exact h.elim
    | _ =>
      simp only [AV.f_eq, putD_eq] at h ⊢
      exact ⟨_, _, h, rfl, rfl⟩
  | call c =>
    have dflt : (pop E o.op tm hp fun v => k v []) → pop E (.call c) tm hp (fun v => putD tm o.dst v fun tm' => Comes o tm hp k tm' hp) := fun h => by have := pop_step h; rw [hop] at this; exact this
    simp only [hop] at h ⊢
    cases hc : c.callee with
    | value f =>
      simp only [hc] at h ⊢
      generalize evalV tm f = v at h
      cases v with
      | fn g =>
        simp only [evs_eq] at h ⊢
        exact effC_step h
      | clo g caps =>
        simp only [evs_eq] at h ⊢
        exact effC_step h
      | _ => exact h.elim
    | builtin b =>
      simp only [hc] at h ⊢
      cases b with
      | append =>
        simp only at h
        obtain ⟨s, x, T, τ, ti, τ', ys, e1, e2, hτ, ht, hl, ys', hc, τ'', zs, hs, zs', hc2, h1, h2, h⟩ := appE_pick h
        obtain ⟨e, he, hn⟩ := newE_step (tm := tm) h
        simp only [e1, e2, he, Nat.beq_refl]
        refine ht _ ?_
        simp only [hτ]
        refine hl _ (hc _ ?_)
        simp only [hs]
        exact hc2 _ ⟨h1, h2, hn⟩
      | copy => unfold pop at h; simp only [hc] at h
      | _ => exact dflt (by rw [hop]; exact h)
    | invoke r m =>
      simp only [hc] at h ⊢
      exact dflt (by rw [hop]; exact h)
  | panic x => simp only [hop] at h; exact h.elim
  | _ =>
    simp only [hop] at h ⊢
    have := pop_step (o := o) (k := k) (by rw [hop]; exact h)
    rw [hop] at this
    exact this

theorem eff_step {k : AV → List (Nat × AO) → Prop} (h : eff E o tm hp k) : step E o tm hp kp (Comes o tm hp k) := by
  unfold eff at h
  unfold step
  obtain ⟨vs, e⟩ := kept_eq o.op tm
  rw [e] at h ⊢
  cases e1 : anyOwn vs <;> rw [e1] at h
  · exact eff1_step h
  · exact h.elim

end effs
end Go.Proofs.Ythakgbecpkfeoaa.Ev

/- Operations that write objects: the same looks, the same answer. -/
set_option linter.unusedVariables false
set_option linter.unusedSimpArgs false
namespace Go.Proofs.Ythakgbecpkfeoaa.Ev

/-- This value, and these objects written. -/
abbrev Is (v : AV) (ws : List (Nat × AO)) : AV → List (Nat × AO) → Prop := fun x us => x = v ∧ us = ws

/- What the callee sees is named by the arguments. -/
theorem addId_mem {l : List Nat} {p o : Nat} (h : o ∈ addId l p) : o = p ∨ o ∈ l := by
  unfold addId at h
  split at h
  · exact .inr h
  · simp only [List.mem_append, List.mem_singleton] at h
    rcases h with h | h
    · exact .inr h
    · exact .inl h
mutual
theorem ids_mem : ∀ (v : AV) (l : List Nat) {o : Nat}, o ∈ v.ids l → o ∈ v.names ∨ o ∈ l
  | .ptr p _, l, o, h => by
    simp only [AV.ids] at h
    simp only [AV.names, List.mem_singleton]
    exact addId_mem h
  | .mp .., l, o, h => .inr h
  | .kp cs, l, o, h => by
    simp only [AV.ids] at h
    simp only [AV.names]
    exact idss_mem cs l h
  | .clo _ caps, l, o, h => by
    simp only [AV.ids] at h
    simp only [AV.names]
    exact idss_mem caps l h
  | .int .., l, o, h => .inr h
  | .bool .., l, o, h => .inr h
  | .str .., l, o, h => .inr h
  | .ep .., l, o, h => .inr h
  | .oep .., l, o, h => .inr h
  | .sl .., l, o, h => .inr h
  | .lit .., l, o, h => .inr h
  | .own .., l, o, h => .inr h
  | .nil, l, o, h => .inr h
  | .fn .., l, o, h => .inr h
  | .agg .., l, o, h => .inr h
  | .tup .., l, o, h => .inr h
  | .ifc .., l, o, h => .inr h
  | .opq .., l, o, h => .inr h
  | .skp, l, o, h => .inr h
  | .undef, l, o, h => .inr h
theorem idss_mem : ∀ (vs : List AV) (l : List Nat) {o : Nat}, o ∈ AV.idss vs l → o ∈ AV.namesL vs ∨ o ∈ l
  | [], l, o, h => .inr h
  | v :: vs, l, o, h => by
    simp only [AV.idss] at h
    simp only [AV.namesL, List.mem_append]
    rcases idss_mem vs _ h with h | h
    · exact .inl (.inr h)
    · rcases ids_mem v l h with h | h
      · exact .inl (.inl h)
      · exact .inr h
end

theorem low_names (v : AV) : v.low.names = [] ∨ v.low.names = v.names := by cases v <;> simp [AV.low, AV.names]

theorem viewF_names {hp : Hp} {v : AV} {k : AV → Prop} (h : viewF hp v k) : ∃ u, k u ∧ (∀ o ∈ u.names, o ∈ v.names) ∧ ∀ k' : AV → Prop, k' u → viewF hp v k' := by
  cases v with
  | own o =>
    simp only [viewF] at h ⊢
    obtain ⟨x, h, hx⟩ := lin_hget _ _ _ h
    cases x with
    | box cs => exact h.elim
    | arr τ xs => exact ⟨_, h, by simp [AV.names], fun k' hk' => hx _ hk'⟩
  | _ =>
    simp only [viewF, AV.f_eq] at h ⊢
    refine ⟨_, h, fun o ho => ?_, fun k' hk' => hk'⟩
    first
      | exact ho
      | (simp [AV.low, AV.names] at ho)
theorem viewsF_names {hp : Hp} : ∀ {l : List AV} {k : List AV → Prop}, viewsF hp l k → ∃ us, k us ∧ (∀ o ∈ AV.namesL us, o ∈ AV.namesL l) ∧ ∀ k' : List AV → Prop, k' us → viewsF hp l k'
  | [], k, h => ⟨[], h, by simp [AV.namesL], fun _ h => h⟩
  | v :: l, k, h => by
    simp only [viewsF] at h
    obtain ⟨u, h, hn, hu⟩ := viewF_names h
    obtain ⟨us, h, hns, hus⟩ := viewsF_names h
    refine ⟨_, h, fun o ho => ?_, fun k' hk' => ?_⟩
    · simp only [AV.namesL, List.mem_append] at ho ⊢
      rcases ho with ho | ho
      · exact .inl (hn o ho)
      · exact .inr (hns o ho)
    · simp only [viewsF]
      exact hu _ (hus _ hk')

theorem boxesF_congr {hp hp' : Hp} : ∀ {ids : List Nat} (h : ∀ o ∈ ids, hlook hp o = hlook hp' o) (k : List (List AV) → Prop), boxesF hp ids k = boxesF hp' ids k
  | [], _, _ => rfl
  | o :: l, h, k => by
    simp only [boxesF]
    rw [hget_congr (h o (by simp))]
    congr 1
    funext x
    cases x with
    | arr τ xs => rfl
    | box cs =>
      have e : ∀ k, boxesF hp l k = boxesF hp' l k := boxesF_congr (fun o ho => h o (by simp [ho]))
      simp only [e]

theorem effS_congr {hp hp' : Hp} {g : List AV → List (List AV) → Option (Prop × Out × List (List AV))} {vs : List AV} (h : ∀ o ∈ AV.namesL vs, hlook hp o = hlook hp' o) {k : AV → List (Nat × AO) → Prop} (he : effS g vs hp k) : effS g vs hp' k := by
  unfold effS at he ⊢
  rw [viewsF_congr h] at he
  obtain ⟨ws, h1, hn, hv⟩ := viewsF_names he
  refine hv _ ?_
  rw [boxesF_congr (fun o ho => h o ?_)] at h1
  · exact h1
  · rcases idss_mem ws [] ho with h2 | h2
    · exact hn o h2
    · simp at h2
theorem effP_congr {hp hp' : Hp} {g : List AV → Option (Prop × AV)} {vs caps : List AV} (h : ∀ o ∈ AV.namesL vs, hlook hp o = hlook hp' o) {k : AV → List (Nat × AO) → Prop} (he : effP g vs caps hp k) : effP g vs caps hp' k := by
  unfold effP at he ⊢
  rw [viewsF_congr h] at he
  exact he
theorem namesL_append (l m : List AV) : AV.namesL (l ++ m) = AV.namesL l ++ AV.namesL m := by
  induction l with
  | nil => rfl
  | cons v l ih => simp [AV.namesL, ih]
theorem effC_congr {E : Env} {hp hp' : Hp} {g : Nat} {vs caps : List AV} (h : ∀ o ∈ AV.namesL (vs ++ caps), hlook hp o = hlook hp' o) {k : AV → List (Nat × AO) → Prop} (he : effC E g vs caps hp k) : effC E g vs caps hp' k := by
  unfold effC at he ⊢
  obtain ⟨s, he, hs⟩ := lin_spGet _ _ _ he
  refine hs _ ?_
  cases s with
  | pure g => exact effP_congr (fun o ho => h o (by simp [namesL_append, ho])) he
  | full g => exact effS_congr h he
  | tab g => exact he.elim

theorem hlive_look (h : Hp) (n : Nat) : hlive h n = (hlook h n).isSome := by
  induction h with
  | nil => rfl
  | cons p h ih =>
    obtain ⟨o, x⟩ := p
    simp only [hlive, hlook]
    cases Nat.beq o n <;> simp [ih]
theorem newE_congr {hp hp' : Hp} {d : Option Nat} {x : AO} {u : Nat → AV} {v : AV} {ws : List (Nat × AO)} (h : newE hp d x u (Is v ws)) (hw : ∀ n ∈ ws.map (·.1), hlook hp n = hlook hp' n) : newE hp' d x u (Is v ws) := by
  unfold newE at h ⊢
  split at h
  · rename_i d
    split at h
    · rename_i h1 h2
      have : hlook hp d = hlook hp' d := hw d (by rw [← h.2]; simp)
      have h3 : hlive hp' d = false := by rw [hlive_look, ← this, ← hlive_look]; exact h1
      simp only [h3, h2]
      exact h
    · exact h.elim
  · exact h.elim

section congr
variable {E : Env} {o : Oper} {tm tm' : List AV} {hp hp' : Hp} {v : AV} {ws : List (Nat × AO)}

theorem opNames_mem {tm : List AV} {l : List Operand} {n : Nat} : n ∈ opNames tm l ↔ ∃ x ∈ l, n ∈ (evalV tm x).names := by
  induction l with
  | nil => simp [opNames]
  | cons x l ih => simp [opNames, ih]

theorem eff1_congr (ht : ∀ x ∈ o.op.operands.toList, evalV tm x = evalV tm' x) (hr : looksHp o.op = true → ∀ x ∈ o.op.operands.toList, ∀ n ∈ (evalV tm x).names, hlook hp n = hlook hp' n)
    (hw : ∀ n ∈ ws.map (·.1), hlook hp n = hlook hp' n) (h : eff1 E o tm hp (Is v ws)) : eff1 E o tm' hp' (Is v ws) := by
  have dflt : (pop E o.op tm hp fun x => Is v ws x []) → pop E o.op tm' hp' fun x => Is v ws x [] := fun h => by
    rw [pop_hcongr o.op hr, pop_congr o.op ht] at h
    exact h
  unfold eff1 at h ⊢
  cases hop : o.op with
  | alloc T =>
    simp only [hop] at h ⊢
    obtain ⟨ti, h, ht⟩ := lin_tiGet _ _ _ h
    obtain ⟨cs, h, hc⟩ := lin_constsF _ _ h
    refine ht _ (hc _ ?_)
    cases e1 : AV.frees cs <;> rw [e1] at h
    · exact h.elim
    · exact newE_congr h hw
  | box T x =>
    have hx := ht x (by simp [hop, Op.operands])
    simp only [hop] at h ⊢
    cases hs : sealT T with
    | true =>
      rw [hs] at h
      have := dflt (by rw [hop]; exact h)
      rw [hop] at this
      exact this
    | false =>
    rw [hs] at h
    simp only [hx] at h ⊢
    obtain ⟨ti, h, ht⟩ := lin_tiGet _ _ _ h
    obtain ⟨v, h, hv⟩ := lin_f _ _ h
    obtain ⟨cs, h, hc⟩ := lin_cellsF _ _ h
    refine ht _ (hv _ (hc _ ?_))
    cases e1 : AV.frees cs <;> cases e2 : Nat.beq cs.length ti.size <;> rw [e1, e2] at h <;> try exact h.elim
    exact newE_congr h hw
  | store T a x =>
    have ha := ht a (by simp [hop, Op.operands])
    have hx := ht x (by simp [hop, Op.operands])
    have hra := hr (by rw [hop]; rfl) a (by simp [hop, Op.operands])
    rw [ha] at hra
    simp only [hop, hx, ha] at h ⊢
    generalize evalV tm' a = va at h hra
    cases va with
    | ptr p off =>
      have e := hra p (by simp [AV.names])
      simp only [hget_congr e] at h
      exact h
    | oep p i =>
      have e := hra p (by simp [AV.names])
      simp only [hget_congr e] at h
      exact h
    | _ => exact h.elim
  | makeSlice T l c =>
    have hl := ht l (by simp [hop, Op.operands])
    have hc := ht c (by simp [hop, Op.operands])
    simp only [hop, hl, hc] at h ⊢
    split at h
    · rename_i h1 h2
      obtain ⟨ti, h, ht⟩ := lin_tiGet _ _ _ h
      refine ht _ ?_
      cases e1 : ti.has .i64 <;> rw [e1] at h
      · exact h.elim
      · exact ⟨h.1, newE_congr h.2 hw⟩
    · exact h.elim
  | assign x =>
    have hx := ht x (by simp [hop, Op.operands])
    simp only [hop, hx] at h ⊢
    split at h
    · obtain ⟨ti, h, ht⟩ := lin_tiGet _ _ _ h
      refine ht _ ?_
      split at h
      · exact newE_congr h hw
      · exact h.elim
    · exact h.elim
    · exact h
  | call c =>
    have hargs : ∀ x ∈ c.args.toList, evalV tm x = evalV tm' x := fun x hx => ht x (by simp [hop, Op.operands, Call.operands] at hx ⊢; exact .inr hx)
    simp only [hop] at h ⊢
    cases hc : c.callee with
    | value f =>
      have hf := ht f (by simp [hop, Op.operands, Call.operands, hc])
      have hrf := hr (by rw [hop]; rfl) f (by simp [hop, Op.operands, Call.operands, hc])
      rw [hf] at hrf
      have hra : ∀ n ∈ AV.namesL (c.args.toList.map (evalV tm')), hlook hp n = hlook hp' n := by
        intro n hn
        obtain ⟨x, h1, h2⟩ := namesL_map hn
        exact hr (by rw [hop]; rfl) x (by simp [hop, Op.operands, Call.operands] at h1 ⊢; exact .inr h1) n (by rw [hargs x h1]; exact h2)
      have hmap : c.args.toList.map (evalV tm) = c.args.toList.map (evalV tm') := List.map_congr_left hargs
      simp only [hc, hf, evs_eq, hmap] at h ⊢
      revert h hrf
      generalize evalV tm' f = vf
      intro hrf h
      cases vf with
      | fn g => exact effC_congr (fun n hn => hra n (by simpa using hn)) h
      | clo g caps =>
        refine effC_congr (fun n hn => ?_) h
        rw [namesL_append, List.mem_append] at hn
        rcases hn with hn | hn
        · exact hra n hn
        · exact hrf n (by simpa [AV.names] using hn)
      | _ => exact h.elim
    | builtin b =>
      simp only [hc] at h ⊢
      cases b with
      | append =>
        simp only at h ⊢
        obtain ⟨s, x, T, τ, ti, τ', ys, e1, e2, hτ, ht, hl, ys', hc, τ'', zs, hs, zs', hc2, h1, h2, h⟩ := appE_pick h
        rw [e1, e2]
        have hs1 := hargs s (by rw [e1]; simp)
        have hx1 := hargs x (by rw [e1]; simp)
        refine appE_make hτ ht (fun K hK => ?_) hc (hs1 ▸ hs) hc2 h1 h2 (newE_congr h hw)
        rw [← hx1, ← listF_congr (h := hp) (fun n hn => hr (by rw [hop]; rfl) x (by simp [hop, Op.operands, Call.operands, e1]) n hn)]
        exact hl K hK
      | _ => simp only at h ⊢; have := dflt (by rw [hop]; exact h); rw [hop] at this; exact this
    | invoke r m => simp only [hc] at h ⊢; have := dflt (by rw [hop]; exact h); rw [hop] at this; exact this
  | _ =>
    simp only [hop] at h ⊢
    have := dflt (by rw [hop]; exact h)
    rw [hop] at this
    exact this

theorem kept_congr {op : Op} (h : ∀ x ∈ op.operands.toList, evalV tm x = evalV tm' x) (k : List AV → Prop) : kept op tm k = kept op tm' k := by
  cases op with
  | build T parts =>
    simp only [kept]
    rw [evs_congr]
    intro x hx
    refine h x ?_
    simp only [List.mem_map] at hx
    obtain ⟨p, h1, rfl⟩ := hx
    simp only [Op.operands]
    exact List.mem_map.2 ⟨p, h1, rfl⟩
  | box T x => simp only [kept]; rw [evs_congr]; intro y hy; exact h y (by simp at hy; subst hy; simp [Op.operands])
  | store T a x =>
    have e : evs tm [x] k = evs tm' [x] k := by
      rw [evs_congr]
      intro y hy
      exact h y (by simp at hy; subst hy; simp [Op.operands])
    simp only [kept, h a (by simp [Op.operands]), e]
  | makeFunc fn first caps => simp only [kept]; rw [evs_congr]; intro y hy; exact h y (by simp [Op.operands] at hy ⊢; exact .inr hy)
  | slice T x lo hi mx => simp only [kept]; rw [evs_congr]; intro y hy; exact h y (by simp at hy; subst hy; simp [Op.operands])
  | _ => rfl

theorem eff_congr (ht : ∀ x ∈ o.op.operands.toList, evalV tm x = evalV tm' x) (hr : ∀ n ∈ rdOf tm o.op, hlook hp n = hlook hp' n)
    (hw : ∀ n ∈ ws.map (·.1), hlook hp n = hlook hp' n) (h : eff E o tm hp (Is v ws)) : eff E o tm' hp' (Is v ws) := by
  unfold eff at h ⊢
  rw [kept_congr ht] at h
  obtain ⟨vs, e⟩ := kept_eq o.op tm'
  rw [e] at h ⊢
  cases e1 : anyOwn vs <;> rw [e1] at h
  · exact eff1_congr ht (fun hl x hx n hn => hr n (by unfold rdOf; rw [hl]; exact opNames_mem.2 ⟨x, hx, hn⟩)) hw h
  · exact h.elim

theorem opNames_congr {l : List Operand} (ht : ∀ x ∈ l, evalV tm x = evalV tm' x) : opNames tm l = opNames tm' l := by
  induction l with
  | nil => rfl
  | cons x l ih => simp only [opNames, ht x (by simp), ih (fun y hy => ht y (by simp [hy]))]

end congr
end Go.Proofs.Ythakgbecpkfeoaa.Ev

/- Regions of operations that write objects: where all who touch the same thing are bound, the order of the text stands for every order. -/
set_option linter.unusedVariables false
set_option linter.unusedSimpArgs false
namespace Go.Proofs.Ythakgbecpkfeoaa.Ev

/-! ### Lookups -/
theorem hlook_mem {h : Hp} (hn : (h.map (·.1)).Nodup) {n : Nat} {x : AO} : hlook h n = some x ↔ (n, x) ∈ h := by
  induction h with
  | nil => simp [hlook]
  | cons p h ih =>
    obtain ⟨o, y⟩ := p
    simp only [List.map_cons, List.nodup_cons] at hn
    simp only [hlook]
    cases e : Nat.beq o n with
    | true =>
      obtain rfl := Nat.eq_of_beq_eq_true e
      simp only [Option.some.injEq, List.mem_cons, Prod.mk.injEq, true_and]
      constructor
      · intro h; exact .inl h.symm
      · rintro (h | h)
        · exact h.symm
        · exact absurd (List.mem_map.2 ⟨_, h, rfl⟩) hn.1
    | false =>
      have hne := Nat.ne_of_beq_eq_false e
      simp only [ih hn.2, List.mem_cons, Prod.mk.injEq]
      constructor
      · exact .inr
      · rintro (⟨rfl, _⟩ | h)
        · exact absurd rfl hne
        · exact h
theorem hlook_hput (h : Hp) (n : Nat) (x : AO) (m : Nat) : hlook (hput h n x) m = if n = m then some x else hlook h m := by
  induction h with
  | nil =>
    simp only [hput, hlook]
    cases e : Nat.beq n m with
    | true => simp [Nat.eq_of_beq_eq_true e]
    | false => simp [Nat.ne_of_beq_eq_false e]
  | cons p h ih =>
    obtain ⟨o, y⟩ := p
    simp only [hput]
    by_cases e : o = n
    · subst e
      simp only [if_true, hlook]
      cases e2 : Nat.beq o m with
      | true => simp [Nat.eq_of_beq_eq_true e2]
      | false => simp [Nat.ne_of_beq_eq_false e2]
    · simp only [e, if_false, hlook, ih]
      cases e2 : Nat.beq o m with
      | true =>
        have := Nat.eq_of_beq_eq_true e2
        subst this
        have : ¬ n = o := fun h => e h.symm
        simp [this]
      | false => rfl
theorem hlook_hputs (ws : List (Nat × AO)) : ∀ (h h' : Hp) (m : Nat), (m ∉ ws.map (·.1) → hlook (hputs h ws) m = hlook h m) ∧ (m ∈ ws.map (·.1) → hlook (hputs h ws) m = hlook (hputs h' ws) m) := by
  induction ws with
  | nil => intro h h' m; exact ⟨fun _ => rfl, fun hm => by simp at hm⟩
  | cons p ws ih =>
    obtain ⟨o, x⟩ := p
    intro h h' m
    simp only [hputs, List.map_cons, List.mem_cons, not_or]
    refine ⟨fun hm => ?_, fun hm => ?_⟩
    · rw [(ih _ h m).1 hm.2, hlook_hput]
      have : ¬ o = m := fun e => hm.1 e.symm
      simp [this]
    · by_cases hi : m ∈ ws.map (·.1)
      · exact (ih _ _ m).2 hi
      · rw [(ih _ h m).1 hi, (ih _ h m).1 hi, hlook_hput, hlook_hput]
        rcases hm with hm | hm
        · subst hm; simp
        · exact absurd hm hi

/-! ### What an operation does, and when it does the same -/
section mixed
variable {E : Env} {all : List Oper}

def DoesM (E : Env) (all : List Oper) (o : Oper) (tm : List AV) (hp : Hp) (v : AV) (ws : List (Nat × AO)) (f : Ft) : Prop :=
  guardF all o tm (fun tm' => eff E o tm' hp (Is v ws) ∧ f = ⟨rdOf tm' o.op, ws.map (·.1)⟩) (fun _ => v = .skp ∧ ws = [] ∧ f = ⟨[], []⟩)

theorem DoesM.wr {o : Oper} {tm : List AV} {hp : Hp} {v : AV} {ws : List (Nat × AO)} {f : Ft} (h : DoesM E all o tm hp v ws f) : f.wr = ws.map (·.1) := by
  rcases guardF_lin h with ⟨h, _⟩ | ⟨h, _⟩
  · rw [h.2]
  · rw [h.2.2, h.2.1]; rfl

theorem guardF_same {o : Oper} {tm tm' : List AV} (hl : ∀ s ∈ looks all o, getV tm s = getV tm' s) {yes no yes' no' : List AV → Prop} (hy : yes tm → yes' tm') (hn : no tm → no' tm') (h : guardF all o tm yes no) : guardF all o tm' yes' no' := by
  unfold guardF at h ⊢
  split at h
  · rename_i hg
    exact hy h
  · rename_i j want hg
    split at h
    · exact h.elim
    · rename_i d hd
      have hd' : getV tm d = getV tm' d := hl d (List.mem_append_left _ (by simp only [hg, hd]; simp))
      rw [hd'] at h
      split at h
      · rename_i b hb
        obtain ⟨hset', _⟩ := set_same hb (by simp)
        obtain ⟨hset, _⟩ := set_same (hd'.trans hb) (by simp)
        cases b <;> cases want <;> simp only [setF_eq, hset, hset'] at h ⊢ <;> first | exact hy h | exact hn h
      · rename_i hb
        exact hn h
      · exact h.elim

theorem looks_ops {o : Oper} {tm tm' : List AV} (hl : ∀ s ∈ looks all o, getV tm s = getV tm' s) : ∀ x ∈ o.op.operands.toList, evalV tm x = evalV tm' x := by
  intro x hx
  cases x with
  | tmp t =>
    refine hl t (List.mem_append_right _ ?_)
    have : ∀ l : List Operand, Operand.tmp t ∈ l → t ∈ opTmps l := by
      intro l
      induction l with
      | nil => simp
      | cons y l ih =>
        intro hm
        rcases List.mem_cons.1 hm with h1 | h1
        · subst h1; simp [opTmps]
        · have h2 := ih h1
          cases y <;> simp [opTmps, h2]
    exact this _ hx
  | _ => rfl

theorem DoesM.congr {o : Oper} {tm tm' : List AV} {hp hp' : Hp} {v : AV} {ws : List (Nat × AO)} {f : Ft} (h : DoesM E all o tm hp v ws f) (hl : ∀ s ∈ looks all o, getV tm s = getV tm' s)
    (hr : ∀ n ∈ f.rd, hlook hp n = hlook hp' n) (hw : ∀ n ∈ f.wr, hlook hp n = hlook hp' n) : DoesM E all o tm' hp' v ws f := by
  have hops := looks_ops hl
  refine guardF_same hl ?_ ?_ h
  · rintro ⟨h1, rfl⟩
    exact ⟨eff_congr hops hr hw h1, by unfold rdOf; rw [opNames_congr hops]⟩
  · exact fun h => h

theorem evM_cons {o : Oper} {l : List Oper} {tm : List AV} {hp : Hp} {k : List AV → Hp → List Ft → Prop} (h : evM E all (o :: l) tm hp k) :
    ∃ v ws f, DoesM E all o tm hp v ws f ∧ evM E all l (putL tm o.dst v) (hputs hp ws) fun tm hp fs => k tm hp (f :: fs) := by
  rw [evM_eq] at h
  rcases guardF_lin h with ⟨h1, h2⟩ | ⟨h1, h2⟩
  · obtain ⟨v, ws, h3, h4⟩ := lin_eff _ h1
    simp only [natsF_eq, putD_eq, hputsF_eq, keysOf_eq] at h3
    exact ⟨v, ws, _, h2 _ _ ⟨h4 _ ⟨rfl, rfl⟩, rfl⟩, h3⟩
  · rw [putD_eq] at h1
    exact ⟨.skp, [], _, h2 _ _ ⟨rfl, rfl, rfl⟩, h1⟩

abbrev F0 : Ft := ⟨[], []⟩
theorem evM_all : ∀ {l : List Oper} {tm : List AV} {hp : Hp} {k : List AV → Hp → List Ft → Prop}, evM E all l tm hp k → ∃ (vs : List AV) (wss : List (List (Nat × AO))) (fs : List Ft) (T : Nat → List AV) (H : Nat → Hp),
    T 0 = tm ∧ H 0 = hp ∧ k (T l.length) (H l.length) fs ∧ ∀ (j : Nat) (o : Oper), l[j]? = some o →
      DoesM E all o (T j) (H j) (vs.getD j .undef) (wss.getD j []) (fs.getD j F0) ∧ T (j + 1) = putL (T j) o.dst (vs.getD j .undef) ∧ H (j + 1) = hputs (H j) (wss.getD j [])
  | [], tm, hp, k, h => ⟨[], [], [], fun _ => tm, fun _ => hp, rfl, rfl, h, by simp⟩
  | o :: l, tm, hp, k, h => by
    obtain ⟨v, ws, f, hv, h⟩ := evM_cons h
    obtain ⟨vs, wss, fs, T, H, h1, h2, h3, h4⟩ := evM_all h
    refine ⟨v :: vs, ws :: wss, f :: fs, fun n => match n with | 0 => tm | n + 1 => T n, fun n => match n with | 0 => hp | n + 1 => H n, rfl, rfl, h3, ?_⟩
    intro j o' hj
    cases j with
    | zero => simp at hj; subst hj; exact ⟨by simpa using hv, by simpa using h1, by simpa using h2⟩
    | succ j => simpa using h4 j o' (by simpa using hj)

/-! ### Whom the edges lead back to -/
theorem getN_lt {l : List (List Nat)} {n x : Nat} (h : x ∈ getN l n) : n < l.length := by
  induction l generalizing n with
  | nil => simp [getN] at h
  | cons y l ih => cases n <;> simp [getN] at h ⊢; exact ih h
theorem getN_app {l m : List (List Nat)} {n : Nat} (h : n < l.length) : getN (l ++ m) n = getN l n := by
  induction l generalizing n with
  | nil => simp at h
  | cons y l ih => cases n <;> simp [getN] at h ⊢; exact ih h
theorem getN_len {l m : List (List Nat)} {a : List Nat} : getN (l ++ a :: m) l.length = a := by
  induction l with
  | nil => rfl
  | cons y l ih => simpa [getN] using ih
theorem addN_mem {n x : Nat} {l : List Nat} : x ∈ addN n l → x = n ∨ x ∈ l := by
  unfold addN
  split
  · exact .inr
  · simp
theorem addNs_mem {x : Nat} : ∀ {m l : List Nat}, x ∈ addNs m l → x ∈ m ∨ x ∈ l
  | [], l, h => .inr h
  | y :: m, l, h => by
    simp only [addNs] at h
    rcases addNs_mem h with h | h
    · exact .inl (by simp [h])
    · rcases addN_mem h with h | h
      · exact .inl (by simp [h])
      · exact .inr h
theorem ancOf_mem {done : List (List Nat)} {x : Nat} : ∀ {l : List Edge}, x ∈ ancOf done l → ∃ e ∈ l, Region.binds .any e = true ∧ (x = e.on ∨ x ∈ getN done e.on)
  | [], h => by simp [ancOf] at h
  | e :: l, h => by
    simp only [ancOf] at h
    split at h
    · rename_i hb
      rcases addN_mem h with h | h
      · exact ⟨e, by simp, hb, .inl h⟩
      · rcases addNs_mem h with h | h
        · exact ⟨e, by simp, hb, .inr h⟩
        · obtain ⟨e', h1, h2⟩ := ancOf_mem h; exact ⟨e', by simp [h1], h2⟩
    · obtain ⟨e', h1, h2⟩ := ancOf_mem h; exact ⟨e', by simp [h1], h2⟩
theorem ancs_mem : ∀ {l : List Oper} {done : List (List Nat)}, (∃ m, ancs done l = done ++ m) ∧ ∀ (j : Nat) (o : Oper), l[j]? = some o → ∀ x ∈ getN (ancs done l) (done.length + j),
    ∃ e ∈ o.after.toList, Region.binds .any e = true ∧ (x = e.on ∨ x ∈ getN (ancs done l) e.on)
  | [], done => ⟨⟨[], by simp [ancs]⟩, by simp⟩
  | o :: l, done => by
    obtain ⟨⟨m, hm⟩, ih⟩ := ancs_mem (l := l) (done := done ++ [ancOf done o.after.toList])
    simp only [ancs]
    refine ⟨⟨_, by rw [hm, List.append_assoc]⟩, ?_⟩
    intro j o' hj x hx
    cases j with
    | zero =>
      simp only [List.getElem?_cons_zero, Option.some.injEq] at hj
      subst hj
      rw [hm] at hx ⊢
      simp only [Nat.add_zero, List.append_assoc, List.singleton_append] at hx ⊢
      rw [getN_len] at hx
      obtain ⟨e, h1, h2, h3⟩ := ancOf_mem hx
      refine ⟨e, h1, h2, ?_⟩
      rcases h3 with h3 | h3
      · exact .inl h3
      · refine .inr ?_
        rw [getN_app (getN_lt h3)]
        exact h3
    | succ j =>
      refine ih j o' (by simpa using hj) x ?_
      rw [show (done ++ [ancOf done o.after.toList]).length + j = done.length + (j + 1) by simp; omega]
      exact hx

structure Mixed (all : List Oper) (n : Nat) (fs : List Ft) : Prop where
  self : ∀ (i : Nat) (o : Oper), i < n → all[i]? = some o → ∀ d, o.dst = some d → d ∉ looks all o
  back : ∀ (i : Nat) (o : Oper), all[i]? = some o → ∀ e ∈ o.after.toList, Region.binds .any e = true → e.on < i
  dsts : ∀ (i j d : Nat), dstOf all i = some d → dstOf all j = some d → i = j
  conf : ∀ (i : Nat) (o : Oper) (j : Nat) (p : Oper), i < n → all[i]? = some o → all[j]? = some p → j < i →
    (∃ d, p.dst = some d ∧ d ∈ looks all o) ∨ (∃ d, o.dst = some d ∧ d ∈ looks all p) ∨ (∃ n, n ∈ (fs.getD j F0).wr ∧ (n ∈ (fs.getD i F0).rd ∨ n ∈ (fs.getD i F0).wr)) ∨ (∃ n, n ∈ (fs.getD j F0).rd ∧ n ∈ (fs.getD i F0).wr) →
    j ∈ getN (ancs [] all) i
  tail : ∀ (i : Nat), n ≤ i → i < all.length → ∀ j, j < i → j ∈ getN (ancs [] all) i
  size : n ≤ all.length

theorem anyIn_iff {l m : List Nat} {n : Nat} (h1 : n ∈ l) (h2 : n ∈ m) : anyIn l m = true := by
  induction m with
  | nil => simp at h2
  | cons x m ih =>
    simp only [anyIn]
    rcases List.mem_cons.1 h2 with rfl | h2
    · rw [(memN_iff l n).2 h1]
    · rw [ih h2]; split <;> rfl
theorem rowM_of {i : Nat} {o : Oper} {f : Ft} {A : List Nat} : ∀ {l : List Oper} {gs : List Ft} {j : Nat}, rowM all i o f A j l gs = true → ∀ (m : Nat) (p : Oper), l[m]? = some p → j + m < i →
    optNe o.dst p.dst = true ∧ (confM all o p f (gs.getD m F0) = true → j + m ∈ A)
  | [], [], j, h, m, p, hm, hlt => by simp at hm
  | [], _ :: _, j, h, m, p, hm, hlt => by simp at hm
  | _ :: _, [], j, h, m, p, hm, hlt => by simp [rowM] at h
  | q :: l, g :: gs, j, h, m, p, hm, hlt => by
    simp only [rowM, Bool.and_eq_true] at h
    cases m with
    | zero =>
      simp only [List.getElem?_cons_zero, Option.some.injEq] at hm
      subst hm
      simp only [Nat.add_zero] at hlt ⊢
      have hb : Nat.blt j i = true := by rw [Nat.blt_eq]; exact hlt
      rw [hb] at h
      simp only [Bool.and_eq_true, Bool.or_eq_true, Bool.not_eq_true'] at h
      refine ⟨h.1.1, fun hc => ?_⟩
      simp only [List.getD_cons_zero] at hc
      rcases h.1.2 with h2 | h2
      · rw [hc] at h2; simp at h2
      · exact (memN_iff _ _).1 h2
    | succ m =>
      have := rowM_of h.2 m p (by simpa using hm) (by omega)
      rw [show j + 1 + m = j + (m + 1) by omega] at this
      simpa using this
theorem rowsM_of {front : List Oper} {fs : List Ft} {acs : List (List Nat)} : ∀ {l : List Oper} {gs : List Ft} {i : Nat}, rowsM all front fs acs i l gs = true → ∀ (m : Nat) (o : Oper), l[m]? = some o →
    rowM all (i + m) o (gs.getD m F0) (getN acs (i + m)) 0 front fs = true ∧ optIn (looks all o) o.dst = false
  | [], [], i, h, m, o, hm => by simp at hm
  | [], _ :: _, i, h, m, o, hm => by simp at hm
  | _ :: _, [], i, h, m, o, hm => by simp [rowsM] at h
  | q :: l, g :: gs, i, h, m, o, hm => by
    simp only [rowsM, Bool.and_eq_true, Bool.not_eq_true'] at h
    cases m with
    | zero =>
      simp only [List.getElem?_cons_zero, Option.some.injEq] at hm
      subst hm
      exact ⟨h.1.1, h.1.2⟩
    | succ m =>
      have := rowsM_of h.2 m o (by simpa using hm)
      rw [show i + 1 + m = i + (m + 1) by omega] at this
      simpa using this
theorem belowB_of {A : List Nat} : ∀ {n : Nat}, belowB n A = true → ∀ j, j < n → j ∈ A
  | 0, _, j, hj => by omega
  | n + 1, h, j, hj => by
    simp only [belowB] at h
    split at h
    · rename_i hm
      by_cases e : j = n
      · subst e; exact (memN_iff _ _).1 hm
      · exact belowB_of h j (by omega)
    · simp at h
theorem tailB_of {acs : List (List Nat)} {n : Nat} : ∀ {l : List Oper} {i : Nat}, tailB acs n i l = true → ∀ (m : Nat) (o : Oper), l[m]? = some o → (n ≤ i + m → ∀ j, j < i + m → j ∈ getN acs (i + m)) ∧ edgesBack (i + m) o.after.toList = true
  | [], i, h, m, o, hm => by simp at hm
  | q :: l, i, h, m, o, hm => by
    simp only [tailB, Bool.and_eq_true] at h
    cases m with
    | zero =>
      simp only [List.getElem?_cons_zero, Option.some.injEq] at hm
      subst hm
      simp only [Nat.add_zero]
      refine ⟨fun hn j hj => ?_, h.1.2⟩
      have h1 := h.1.1
      have hb : Nat.blt i n = false := by
        cases e : Nat.blt i n with
        | false => rfl
        | true => rw [Nat.blt_eq] at e; omega
      rw [hb] at h1
      exact belowB_of h1 j hj
    | succ m =>
      have := tailB_of h.2 m o (by simpa using hm)
      rw [show i + 1 + m = i + (m + 1) by omega] at this
      exact this
theorem dstsC_of {d : Nat} : ∀ {l : List Oper}, dstsB.dstsC (some d) l = true → ∀ (m : Nat) (o : Oper), l[m]? = some o → o.dst ≠ some d
  | [], h, m, o, hm => by simp at hm
  | q :: l, h, m, o, hm => by
    simp only [dstsB.dstsC, Bool.and_eq_true] at h
    cases m with
    | zero =>
      simp only [List.getElem?_cons_zero, Option.some.injEq] at hm
      subst hm
      intro e
      rw [e] at h
      simp [optNe] at h
    | succ m => exact dstsC_of h.2 m o (by simpa using hm)
theorem dstsB_of : ∀ {l : List Oper}, dstsB all l = true → ∀ (i j d : Nat), dstOf l i = some d → dstOf l j = some d → i = j
  | [], h, i, j, d, hi, hj => by simp [dstOf] at hi
  | q :: l, h, i, j, d, hi, hj => by
    simp only [dstsB, Bool.and_eq_true] at h
    have key : ∀ j, q.dst = some d → dstOf l j = some d → False := by
      intro j hq hj
      rw [hq] at h
      rw [dstOf_eq] at hj
      cases e : l[j]? with
      | none => rw [e] at hj; simp at hj
      | some p => rw [e] at hj; exact dstsC_of h.1 j p e (by simpa using hj)
    cases i with
    | zero =>
      cases j with
      | zero => rfl
      | succ j => exact (key j (by simpa [dstOf] using hi) (by simpa [dstOf] using hj)).elim
    | succ i =>
      cases j with
      | zero => exact (key i (by simpa [dstOf] using hj) (by simpa [dstOf] using hi)).elim
      | succ j => rw [dstsB_of h.2 i j d (by simpa [dstOf] using hi) (by simpa [dstOf] using hj)]

theorem Mixed.of {n : Nat} {fs : List Ft} (h : fitsM all n fs = true) : Mixed all n fs := by
  unfold fitsM at h
  simp only [Bool.and_eq_true] at h
  obtain ⟨⟨⟨hrows, htail⟩, hdsts⟩, hsize⟩ := h
  have hsize := Nat.le_of_ble_eq_true hsize
  have hf : ∀ (i : Nat) (o : Oper), i < n → all[i]? = some o → (all.take n)[i]? = some o := fun i o hi ho => by rw [List.getElem?_take, if_pos hi]; exact ho
  have hr : ∀ (i : Nat) (o : Oper), i < n → all[i]? = some o → rowM all i o (fs.getD i F0) (getN (ancs [] all) i) 0 (all.take n) fs = true ∧ optIn (looks all o) o.dst = false := by
    intro i o hi ho
    have := rowsM_of hrows i o (hf i o hi ho)
    simpa using this
  have ht : ∀ (i : Nat) (o : Oper), all[i]? = some o → (n ≤ i → ∀ j, j < i → j ∈ getN (ancs [] all) i) ∧ edgesBack i o.after.toList = true := by
    intro i o ho
    have := tailB_of htail i o ho
    simpa using this
  refine ⟨fun i o hin hi d hd hm => ?_, fun i o hi => edgesBack_of (ht i o hi).2, dstsB_of hdsts, fun i o j p hin hi hj hlt hc => ?_, fun i hni hil => (ht i all[i] (List.getElem?_eq_getElem hil)).1 hni, hsize⟩
  · have := (hr i o hin hi).2
    rw [hd] at this
    simp only [optIn] at this
    rw [(memN_iff _ _).2 hm] at this
    simp at this
  · have := (rowM_of (hr i o hin hi).1 j p (hf j p (by omega) hj) (by simpa using hlt)).2
    simp only [Nat.zero_add] at this
    refine this ?_
    unfold confM
    simp only [Bool.or_eq_true]
    rcases hc with ⟨d, h1, h2⟩ | ⟨d, h1, h2⟩ | ⟨n, h1, h2 | h2⟩ | ⟨n, h1, h2⟩
    · exact .inl (.inl (.inl (.inl (by rw [h1]; exact (memN_iff _ _).2 h2))))
    · exact .inl (.inl (.inl (.inr (by rw [h1]; exact (memN_iff _ _).2 h2))))
    · exact .inl (.inl (.inr (anyIn_iff h1 h2)))
    · exact .inl (.inr (anyIn_iff h1 h2))
    · exact .inr (anyIn_iff h1 h2)

/-- Whatever is listed, all that its edges lead back to is listed. -/
theorem Mixed.listed {n : Nat} {fs : List Ft} (h : Mixed all n fs) {L : Nat → Prop} (hL : ∀ (i : Nat) (o : Oper), L i → all[i]? = some o → ∀ e ∈ o.after.toList, Region.binds .any e = true → L e.on) :
    ∀ (m i : Nat) (o : Oper), i ≤ m → all[i]? = some o → (∀ e ∈ o.after.toList, Region.binds .any e = true → L e.on) → ∀ j ∈ getN (ancs [] all) i, L j := by
  intro m
  induction m with
  | zero =>
    intro i o him ho hr j hj
    have := (ancs_mem (l := all) (done := [])).2 i o ho j (by simpa using hj)
    obtain ⟨e, h1, h2, h3⟩ := this
    have := h.back i o ho e h1 h2
    omega
  | succ m ih =>
    intro i o him ho hr j hj
    obtain ⟨e, h1, h2, h3⟩ := (ancs_mem (l := all) (done := [])).2 i o ho j (by simpa using hj)
    have hlt := h.back i o ho e h1 h2
    rcases h3 with h3 | h3
    · rw [h3]; exact hr e h1 h2
    · have hon := hr e h1 h2
      cases eo : all[e.on]? with
      | none =>
        have h4 := List.getElem?_eq_none_iff.1 eo
        have h5 := (List.getElem?_eq_some_iff.1 ho).1
        omega
      | some p => exact ih e.on p (by omega) eo (hL e.on p hon eo) j h3

end mixed

theorem Inv.perm {X : XR} {w0 : World} {β : Nat → Option Value} {S : Nat → Prop} {tm : List AV} {hp hp' : Hp} {a : Act} {w : World} (h : Inv X w0 β S tm hp a w) (hn : (hp'.map (·.1)).Nodup) (he : ∀ n, hlook hp n = hlook hp' n) :
    Inv X w0 β S tm hp' a w := by
  have hm : ∀ n x, (n, x) ∈ hp' ↔ (n, x) ∈ hp := fun n x => by rw [← hlook_mem hn, ← he, hlook_mem h.nodup]
  exact { h with
    box := fun o cs ho => h.box o cs ((hm _ _).1 ho)
    arr := fun o τ xs ho => h.arr o τ xs ((hm _ _).1 ho)
    live := fun o v hv => by obtain ⟨x, hx⟩ := h.live o v hv; exact ⟨x, (hm _ _).2 hx⟩
    nodup := hn }
theorem hputs_nodup {h : Hp} (hn : (h.map (·.1)).Nodup) (ws : List (Nat × AO)) : ((hputs h ws).map (·.1)).Nodup := by
  induction ws generalizing h with
  | nil => exact hn
  | cons p ws ih => obtain ⟨o, x⟩ := p; exact ih (hput_nodup hn o x)

section main
variable {P : Program} {E : Env} {X : XR} {w0 : World} {β : Nat → Option Value} {S : Nat → Prop} {tm : List AV} {hp : Hp} {a : Act} {w : World}
variable {ops : Array Oper} {Q : Exit → Act → World → Prop} {k : List AV → Hp → Prop}

theorem doesM_wp (hE : EnvOK P E) (hM : ∀ o ∈ ops.toList, MoreOK P o) {i : Nat} {o : Oper} (ho : ops[i]? = some o) {K : Act → World → Prop} (hI : Inv X w0 β S tm hp a w) {v : AV} {ws : List (Nat × AO)} {f : Ft} (h : DoesM E ops.toList o tm hp v ws f)
    (hK : ∀ β' S' a' w', Inv X w0 β' S' (putL tm o.dst v) (hputs hp ws) a' w' → K a' w') : wpOp P ops Q i K a w := by
  have hm : MoreOK P o := hM o (List.mem_of_getElem? (by rw [Array.getElem?_toList]; exact ho))
  unfold wpOp
  simp only [ho]
  rcases guardF_of hI.rel h with ⟨hw, h⟩ | ⟨hw, h⟩
  · rw [if_pos hw]
    refine .inl (step_wp (kp := fun _ _ _ => False) hE hm hI ?_ (fun _ _ _ _ _ _ _ _ h => h.elim) (eff_step h.1))
    rintro β' S' tm' hp' a' w' ⟨v', ws', ⟨rfl, rfl⟩, rfl, rfl⟩ hI'
    exact hK _ _ _ _ hI'
  · rw [if_neg (by simp [hw])]
    obtain ⟨rfl, rfl, _⟩ := h
    exact hK β S _ _ (hI.put (v := .skp) (u := undef) rfl o.dst)

/-- Objects, when some operations have been performed: each is as the text has it somewhere between its writers. -/
def Objs (n : Nat) (fs : List Ft) (H : Nat → Hp) (L : Nat → Bool) (hp : Hp) : Prop :=
  ∀ x, ∃ m, m ≤ n ∧ (∀ j, j < n → x ∈ (fs.getD j F0).wr → (L j = true ↔ j < m)) ∧ hlook hp x = hlook (H m) x

theorem steady {n : Nat} {fs : List Ft} {H : Nat → Hp} {wss : List (List (Nat × AO))} (hH : ∀ j, j < n → H (j + 1) = hputs (H j) (wss.getD j [])) (hw : ∀ j, j < n → (fs.getD j F0).wr = (wss.getD j []).map (·.1)) {x : Nat} {m : Nat} :
    ∀ (d : Nat), m + d ≤ n → (∀ j, m ≤ j → j < m + d → x ∉ (fs.getD j F0).wr) → hlook (H (m + d)) x = hlook (H m) x := by
  intro d
  induction d with
  | zero => intro _ _; rfl
  | succ d ih =>
    intro h1 h2
    rw [← ih (by omega) (fun j h3 h4 => h2 j h3 (by omega))]
    rw [show m + (d + 1) = (m + d) + 1 by omega, hH (m + d) (by omega)]
    refine (hlook_hputs _ (H (m + d)) (H (m + d)) x).1 ?_
    rw [← hw (m + d) (by omega)]
    exact h2 (m + d) (by omega) (by omega)

theorem mixed_wp (hE : EnvOK P E) (hM : ∀ o ∈ ops.toList, MoreOK P o) {fs : List Ft} {nf : Nat} (hq : Mixed ops.toList nf fs) {vs : List AV} {wss : List (List (Nat × AO))} {tm0 : List AV} {T : Nat → List AV} {H : Nat → Hp}
    (hT : ∀ i, i ≤ nf → Agree ops.toList (fun j => vs.getD j .undef) tm0 (fun j => decide (j < i)) (T i)) (hH : ∀ j, j < nf → H (j + 1) = hputs (H j) (wss.getD j [])) (hHn : ((H nf).map (·.1)).Nodup)
    (hD : ∀ i o, i < nf → ops[i]? = some o → DoesM E ops.toList o (T i) (H i) (vs.getD i .undef) (wss.getD i []) (fs.getD i F0)) (hK : ∀ (listed : Array Bool) β' S' a' w', listed.size = ops.size → (∀ j, j < ops.size → listed[j]? = some (decide (j < nf))) → Inv X w0 β' S' (T nf) (H nf) a' w' → wpAny P .any ops Q (ops.size - nf) listed a' w') :
    ∀ (n : Nat) (listed : Array Bool), listed.size = ops.size → listed.toList.count false = n → (∀ (i : Nat) (o : Oper), listed[i]? = some true → ops[i]? = some o → ∀ e ∈ o.after.toList, Region.binds .any e = true → listed[e.on]? = some true) → (∀ i, nf ≤ i → listed[i]? ≠ some true) →
      ∀ (β : Nat → Option Value) (S : Nat → Prop) (tm : List AV) (hp : Hp) (a : Act) (w : World), Agree ops.toList (fun j => vs.getD j .undef) tm0 (fun j => listed.getD j false) tm → Objs nf fs H (fun j => listed.getD j false) hp → Inv X w0 β S tm hp a w → wpAny P .any ops Q n listed a w := by
  have hnf : nf ≤ ops.size := by have := hq.size; simpa using this
  have hw : ∀ j, j < nf → (fs.getD j F0).wr = (wss.getD j []).map (·.1) := fun j hj => (hD j ops[j] hj (by simp [show j < ops.size by omega])).wr
  have cnt : ∀ (l : List Bool) (k : Nat), k ≤ l.length → (∀ j, j < l.length → l[j]? = some (decide (j < k))) → l.count false = l.length - k := by
    intro l
    induction l with
    | nil => intro k _ _; simp
    | cons b l ih =>
      intro k hk h
      have h0 := h 0 (by simp)
      simp only [List.getElem?_cons_zero, Option.some.injEq] at h0
      cases k with
      | zero =>
        have := ih 0 (by omega) (fun j hj => by have := h (j + 1) (by simpa using hj); simpa using this)
        simp only [Nat.lt_irrefl, decide_false] at h0
        subst h0
        simp [this]
      | succ k =>
        have := ih k (by simpa using hk) (fun j hj => by have := h (j + 1) (by simpa using hj); simpa using this)
        simp only [Nat.zero_lt_succ, decide_true] at h0
        subst h0
        simp [this]
  have fin : ∀ (n : Nat) (listed : Array Bool), listed.size = ops.size → listed.toList.count false = n → (∀ i, nf ≤ i → listed[i]? ≠ some true) → (∀ i, i < nf → listed[i]? = some true) → ∀ (β : Nat → Option Value) (S : Nat → Prop) (tm : List AV) (hp : Hp) (a : Act) (w : World), Agree ops.toList (fun j => vs.getD j .undef) tm0 (fun j => listed.getD j false) tm → Objs nf fs H (fun j => listed.getD j false) hp → Inv X w0 β S tm hp a w → wpAny P .any ops Q n listed a w := by
    intro n listed hs hc hback hfront β S tm hp a w hA hO hI
    have hA2 := hT nf (Nat.le_refl _)
    have hex : ∀ j, j < ops.size → listed[j]? = some (decide (j < nf)) := by
      intro j hj
      by_cases hjn : j < nf
      · rw [hfront j hjn]; simp [hjn]
      · have := hback j (by omega)
        rw [Array.getElem?_eq_getElem (by omega)] at this ⊢
        simp only [ne_eq, Option.some.injEq, Bool.not_eq_true] at this
        rw [this]
        simp [hjn]
    have hn : n = ops.size - nf := by
      have := cnt listed.toList nf (by simp [hs, hnf]) (fun j hj => by rw [Array.getElem?_toList]; exact hex j (by simpa [hs] using hj))
      rw [hc] at this
      simpa [hs] using this
    have hget : ∀ i, i < ops.size → listed.getD i false = decide (i < nf) := fun i hi => by
      simp [Array.getD_eq_getD_getElem?, hex i hi]
    have hA1 : Agree ops.toList (fun j => vs.getD j .undef) tm0 (fun j => decide (j < nf)) tm := hA.ext fun i hi => by
      simp only [Array.length_toList] at hi
      exact hget i hi
    have : tm = T nf := by
      refine List.ext_getElem (hA1.len.trans hA2.len.symm) fun s h1 h2 => ?_
      have hget : tm.getD s .undef = (T nf).getD s .undef := by
        by_cases hex : ∃ i, decide (i < nf) = true ∧ dstOf ops.toList i = some s
        · obtain ⟨i, hi, hd⟩ := hex
          rw [hA1.on i s hi hd (by rw [← hA1.len]; exact h1), hA2.on i s hi hd (by rw [← hA1.len]; exact h1)]
        · have hno : ∀ i, decide (i < nf) = true → dstOf ops.toList i ≠ some s := fun i h1 h2 => hex ⟨i, h1, h2⟩
          rw [hA1.off s hno, hA2.off s hno]
      simpa [List.getD_eq_getElem?_getD, h1, h2] using hget
    rw [this] at hI
    subst hn
    refine hK listed β S a w hs hex (hI.perm hHn fun x => ?_)
    obtain ⟨m, h1, h2, h3⟩ := hO x
    rw [h3]
    have := steady hH hw (x := x) (m := m) (nf - m) (by omega) (fun j h4 h5 h6 => by
      have := (h2 j (by omega) h6).1 (by show listed.getD j false = true; rw [hget j (by omega)]; simp; omega)
      omega)
    rw [show m + (nf - m) = nf by omega] at this
    exact this.symm
  intro n
  induction n with
  | zero =>
    intro listed hs hc hcl hback β S tm hp a w hA hO hI
    refine fin 0 listed hs hc hback (fun i hi => ?_) β S tm hp a w hA hO hI
    have := all_true hc i (by simp [hs]; omega)
    rwa [Array.getElem?_toList] at this
  | succ n ih =>
    intro listed hs hc hcl hback β S tm hp a w hA hO hI
    by_cases hfront : ∀ i, i < nf → listed[i]? = some true
    · exact fin (n + 1) listed hs hc hback hfront β S tm hp a w hA hO hI
    have hsome : ∃ i, i < nf ∧ listed[i]? = some false := by
      refine Classical.byContradiction fun hno => hfront fun i hi => ?_
      rw [Array.getElem?_eq_getElem (by omega)]
      cases e : listed[i]'(by omega) with
      | true => rfl
      | false => exact (hno ⟨i, hi, by rw [Array.getElem?_eq_getElem (by omega), e]⟩).elim
    refine ⟨fun hnil => ?_, fun i hi => ?_⟩
    · -- some operation of the front is still to come, and the first such one is ready
      exfalso
      have key : ∀ m i, i ≤ m → i < ops.size → listed[i]? = some false → False := by
        intro m
        induction m with
        | zero =>
          intro i him hi hf
          obtain rfl : i = 0 := by omega
          have ho : ops[0]? = some ops[0] := by simp [hi]
          have : 0 ∈ Region.ready .any ops listed := (ready_iff hs 0).2 ⟨_, ho, by
            unfold isReady
            rw [getB_eq, List.getD_eq_getElem?_getD, Array.getElem?_toList, hf]
            simp only [Option.getD_some]
            rw [edgesOk_eq, List.all_eq_true]
            intro e he
            cases hb : Region.binds .any e with
            | false => rfl
            | true => exact absurd (hq.back 0 _ (by rw [Array.getElem?_toList]; exact ho) e he hb) (by omega)⟩
          rw [hnil] at this
          simp at this
        | succ m ihm =>
          intro i him hi hf
          by_cases hlt : i ≤ m
          · exact ihm i hlt hi hf
          · have ho : ops[i]? = some ops[i] := by simp [hi]
            have : i ∈ Region.ready .any ops listed := (ready_iff hs i).2 ⟨_, ho, by
              unfold isReady
              rw [getB_eq, List.getD_eq_getElem?_getD, Array.getElem?_toList, hf]
              simp only [Option.getD_some]
              rw [edgesOk_eq, List.all_eq_true]
              intro e he
              cases hb : Region.binds .any e with
              | false => rfl
              | true =>
                have hon := hq.back i _ (by rw [Array.getElem?_toList]; exact ho) e he hb
                rw [Array.getD_eq_getD_getElem?]
                cases hl : listed[e.on]? with
                | none => rw [Array.getElem?_eq_none_iff] at hl; omega
                | some b =>
                  cases b with
                  | true => rfl
                  | false => exact (ihm e.on (by omega) (by omega) hl).elim⟩
            rw [hnil] at this
            simp at this
      obtain ⟨i, hi, hf⟩ := hsome
      exact key i i (Nat.le_refl _) (by omega) hf
    · obtain ⟨o, ho, hr⟩ := (ready_iff hs i).1 hi
      have hlts := (Array.getElem?_eq_some_iff.1 ho).1
      have hol : ops.toList[i]? = some o := by rw [Array.getElem?_toList]; exact ho
      have hil : listed[i]? = some false := by
        unfold isReady at hr
        split at hr
        · simp at hr
        · rename_i hb
          rw [getB_eq, List.getD_eq_getElem?_getD, Array.getElem?_toList] at hb
          rw [Array.getElem?_eq_getElem (by omega)] at hb ⊢
          simpa using hb
      have hre : ∀ e ∈ o.after.toList, Region.binds .any e = true → listed[e.on]? = some true := by
        intro e he hb
        unfold isReady at hr
        split at hr
        · simp at hr
        · rw [edgesOk_eq, List.all_eq_true] at hr
          have := hr e he
          rw [hb] at this
          simp only [Bool.not_true, Bool.false_or] at this
          rw [Array.getD_eq_getD_getElem?] at this
          cases hl : listed[e.on]? with
          | none => rw [hl] at this; simp at this
          | some b => rw [hl] at this; simp at this; rw [this]
      have hclL : ∀ (j : Nat) (p : Oper), (fun j => listed[j]? = some true) j → ops.toList[j]? = some p → ∀ e ∈ p.after.toList, Region.binds .any e = true → (fun j => listed[j]? = some true) e.on := by
        intro j p hj hp' e he hb
        exact hcl j p hj (by rw [← Array.getElem?_toList]; exact hp') e he hb
      have hlt : i < nf := by
        refine Classical.byContradiction fun hge => ?_
        obtain ⟨j, hj, hf⟩ := hsome
        have : listed[j]? = some true := hq.listed hclL i i o (Nat.le_refl _) hol hre j (hq.tail i (by omega) (by simpa using hlts) j (by omega))
        rw [hf] at this
        simp at this
      -- what is bound before operation i is listed; what operation i is bound before is not
      have pre : ∀ j, j ∈ getN (ancs [] ops.toList) i → listed.getD j false = true := by
        intro j hj
        have : listed[j]? = some true := hq.listed hclL i i o (Nat.le_refl _) hol hre j hj
        simp [Array.getD_eq_getD_getElem?, this]
      have post : ∀ j p, ops.toList[j]? = some p → i ∈ getN (ancs [] ops.toList) j → listed.getD j false = false := by
        intro j p hj hm
        cases hl : listed[j]? with
        | none => simp [Array.getD_eq_getD_getElem?, hl]
        | some b =>
          cases b with
          | false => simp [Array.getD_eq_getD_getElem?, hl]
          | true =>
            have : listed[i]? = some true := hq.listed hclL j j p (Nat.le_refl _) hj (hclL j p hl hj) i hm
            rw [hil] at this
            simp at this
      have hLi : (listed.getD i false) = false := by rw [Array.getD_eq_getD_getElem?, hil]; rfl
      have hAt := hT i (by omega)
      have hlooks : ∀ s ∈ looks ops.toList o, getV (T i) s = getV tm s := by
        intro s hsl
        rw [getV_eq, getV_eq]
        by_cases hex : ∃ j, dstOf ops.toList j = some s
        · obtain ⟨j, hj⟩ := hex
          have hjd := hj
          rw [dstOf_eq] at hjd
          cases ej : ops.toList[j]? with
          | none => rw [ej] at hjd; simp at hjd
          | some p =>
            rw [ej] at hjd
            simp only [Option.bind_some] at hjd
            rcases Nat.lt_trichotomy j i with hji | hji | hji
            · have hl := pre j (hq.conf i o j p hlt hol ej hji (.inl ⟨s, hjd, hsl⟩))
              by_cases hslt : s < tm0.length
              · rw [hAt.on j s (by simpa using hji) hj hslt, hA.on j s hl hj hslt]
              · have e1 : (T i).getD s .undef = .undef := by rw [List.getD_eq_getElem?_getD, List.getElem?_eq_none (by rw [hAt.len]; omega)]; rfl
                have e2 : tm.getD s .undef = .undef := by rw [List.getD_eq_getElem?_getD, List.getElem?_eq_none (by rw [hA.len]; omega)]; rfl
                rw [e1, e2]
            · subst hji
              rw [hol] at ej
              obtain rfl : o = p := by simpa using ej
              exact absurd hsl (hq.self j o hlt hol s hjd)
            · have hjn : listed.getD j false = false := by
                by_cases hjf : j < nf
                · exact post j p ej (hq.conf j p i o hjf ej hol hji (.inr (.inl ⟨s, hjd, hsl⟩)))
                · have := hback j (by omega)
                  cases hl : listed[j]? with
                  | none => simp [Array.getD_eq_getD_getElem?, hl]
                  | some b => cases b with
                    | false => simp [Array.getD_eq_getD_getElem?, hl]
                    | true => exact absurd hl this
              have uniq : ∀ j', dstOf ops.toList j' = some s → j' = j := fun j' h' => hq.dsts j' j s h' hj
              rw [hAt.off s (fun j' h1 h2 => by rw [uniq j' h2] at h1; simp at h1; omega), hA.off s (fun j' h1 h2 => by rw [uniq j' h2, hjn] at h1; simp at h1)]
        · have hno : ∀ j, dstOf ops.toList j ≠ some s := fun j hj => hex ⟨j, hj⟩
          rw [hAt.off s (fun j _ => hno j), hA.off s (fun j _ => hno j)]
      -- the writers of what operation i touches: those before it are listed, those behind it are not
      have touch : ∀ x, x ∈ (fs.getD i F0).rd ∨ x ∈ (fs.getD i F0).wr → ∀ j, j < nf → x ∈ (fs.getD j F0).wr → (listed.getD j false = true ↔ j < i) := by
        intro x hx j hj hxj
        have ej : ops.toList[j]? = some (ops[j]'(by omega)) := by rw [Array.getElem?_toList]; simp [show j < ops.size by omega]
        rcases Nat.lt_trichotomy j i with hji | hji | hji
        · have := pre j (hq.conf i o j _ hlt hol ej hji (.inr (.inr (.inl ⟨x, hxj, hx⟩))))
          simp [this, hji]
        · subst hji; simp [hLi]
        · have : listed.getD j false = false := by
            refine post j _ ej (hq.conf j _ i o hj ej hol hji ?_)
            rcases hx with hx | hx
            · exact .inr (.inr (.inr ⟨x, hx, hxj⟩))
            · exact .inr (.inr (.inl ⟨x, hx, .inr hxj⟩))
          simp [this]; omega
      have hobj : ∀ x, x ∈ (fs.getD i F0).rd ∨ x ∈ (fs.getD i F0).wr → hlook (H i) x = hlook hp x := by
        intro x hx
        obtain ⟨m, h1, h2, h3⟩ := hO x
        rw [h3]
        have ht := touch x hx
        rcases Nat.le_total m i with hmi | him
        · have := steady hH hw (x := x) (m := m) (i - m) (by omega) (fun j h4 h5 h6 => by
            have h7 := (ht j (by omega) h6).2 (by omega)
            have h8 := (h2 j (by omega) h6).1 h7
            omega)
          rw [show m + (i - m) = i by omega] at this
          exact this
        · have := steady hH hw (x := x) (m := i) (m - i) (by omega) (fun j h4 h5 h6 => by
            have h7 := (h2 j (by omega) h6).2 (by omega)
            have h8 := (ht j (by omega) h6).1 h7
            omega)
          rw [show i + (m - i) = m by omega] at this
          exact this.symm
      have hdo := (hD i o hlt ho).congr hlooks (fun x hx => hobj x (.inl hx)) (fun x hx => hobj x (.inr hx))
      refine doesM_wp hE hM ho hI hdo ?_
      intro β' S' a' w' hI'
      have hdst : dstOf ops.toList i = o.dst := by rw [dstOf_eq, hol]; rfl
      have hnew : ∀ j, j < ops.size → (listed.setIfInBounds i true).getD j false = (listed.getD j false || j == i) := by
        intro j hj
        by_cases hij : j = i
        · subst hij
          simp [Array.getD_eq_getD_getElem?, Array.getElem?_setIfInBounds, hs, hlts]
        · have hij' : i ≠ j := fun e => hij e.symm
          simp [Array.getD_eq_getD_getElem?, Array.getElem?_setIfInBounds_ne hij', hij]
      refine ih (listed.setIfInBounds i true) (by simp [hs]) ?_ ?_ ?_ β' S' _ _ a' w' ?_ ?_ hI'
      · have := count_set listed.toList i (by rw [Array.getElem?_toList]; exact hil)
        simp only [Array.toList_setIfInBounds]
        omega
      · intro j p hj hp e he hb
        rw [Array.getElem?_setIfInBounds] at hj ⊢
        by_cases hij : i = j
        · subst hij
          rw [ho] at hp
          obtain rfl : o = p := by simpa using hp
          have := hre e he hb
          split
          · split
            · rfl
            · rename_i h1 h2; rw [h1] at hil; rw [hil] at this; simp at this
          · exact this
        · rw [if_neg hij] at hj
          have := hcl j p hj hp e he hb
          split
          · split
            · rfl
            · rename_i h1 h2; rw [← h1] at this; rw [hil] at this; simp at this
          · exact this
      · intro j hj hj'
        rw [Array.getElem?_setIfInBounds_ne (by omega)] at hj'
        exact hback j hj hj'
      · have := hA.step hq.dsts hLi
        rw [hdst] at this
        refine this.ext fun j hj => ?_
        simp only [Array.length_toList] at hj
        exact (hnew j hj).symm
      · intro x
        by_cases hx : x ∈ (fs.getD i F0).wr
        · refine ⟨i + 1, by omega, fun j hj hxj => ?_, ?_⟩
          · show (listed.setIfInBounds i true).getD j false = true ↔ _
            rw [hnew j (by omega)]
            have := touch x (.inr hx) j hj hxj
            by_cases hij : j = i
            · subst hij; simp
            · simp only [Bool.or_eq_true, this, beq_iff_eq, hij, or_false]; omega
          · rw [hH i hlt]
            exact (hlook_hputs _ hp (H i) x).2 (by rw [← hw i hlt]; exact hx)
        · obtain ⟨m, h1, h2, h3⟩ := hO x
          refine ⟨m, h1, fun j hj hxj => ?_, ?_⟩
          · show (listed.setIfInBounds i true).getD j false = true ↔ _
            rw [hnew j (by omega)]
            have hij : j ≠ i := by rintro rfl; exact hx hxj
            simp only [Bool.or_eq_true, beq_iff_eq, hij, or_false]
            exact h2 j hj hxj
          · rw [(hlook_hputs _ hp hp x).1 (by rw [← hw i hlt]; exact hx)]
            exact h3

/-- One by one from number n on. -/
theorem tail_wp {kp : AV → List AV → Hp → Prop} (hE : EnvOK P E) (hM : ∀ o ∈ ops.toList, MoreOK P o) (hKp : Falls X w0 kp Q) (hK : Goes X w0 k (Q .normal)) {nf : Nat} {fs : List Ft} (hq : Mixed ops.toList nf fs) :
    ∀ (d m : Nat), m + d = ops.size → nf ≤ m → ∀ (listed : Array Bool) (β : Nat → Option Value) (S : Nat → Prop) (tm : List AV) (hp : Hp) (a : Act) (w : World), listed.size = ops.size → (∀ j, j < ops.size → listed[j]? = some (decide (j < m))) → Inv X w0 β S tm hp a w →
      evOps E ops.toList (ops.toList.drop m) tm hp kp k → wpAny P .any ops Q d listed a w := by
  have rdy : ∀ (m : Nat), nf ≤ m → ∀ (listed : Array Bool), listed.size = ops.size → (∀ j, j < ops.size → listed[j]? = some (decide (j < m))) → ∀ i, i ∈ Region.ready .any ops listed ↔ i = m ∧ m < ops.size := by
    intro m hm listed hs hl i
    rw [ready_iff hs]
    constructor
    · rintro ⟨o, ho, hr⟩
      have hlt := (Array.getElem?_eq_some_iff.1 ho).1
      have hol : ops.toList[i]? = some o := by rw [Array.getElem?_toList]; exact ho
      unfold isReady at hr
      split at hr
      · simp at hr
      · rename_i hb
        rw [getB_eq, List.getD_eq_getElem?_getD, Array.getElem?_toList, hl i hlt] at hb
        simp only [Option.getD_some, decide_eq_false_iff_not] at hb
        have hcl : ∀ (i : Nat) (o : Oper), (fun j => listed[j]? = some true) i → ops.toList[i]? = some o → ∀ e ∈ o.after.toList, Region.binds .any e = true → (fun j => listed[j]? = some true) e.on := by
          intro i o hi hoi e he hbe
          have hib := hq.back i o hoi e he hbe
          have h1 : i < ops.size := by have := (List.getElem?_eq_some_iff.1 hoi).1; simpa using this
          have hi : listed[i]? = some true := hi
          show listed[e.on]? = some true
          rw [hl i h1] at hi
          simp only [Option.some.injEq, decide_eq_true_eq] at hi
          rw [hl e.on (by omega)]
          simp; omega
        have hre : ∀ e ∈ o.after.toList, Region.binds .any e = true → (fun j => listed[j]? = some true) e.on := by
          intro e he hbe
          rw [edgesOk_eq, List.all_eq_true] at hr
          have := hr e he
          rw [hbe] at this
          simp only [Bool.not_true, Bool.false_or] at this
          rw [Array.getD_eq_getD_getElem?] at this
          show listed[e.on]? = some true
          cases hl2 : listed[e.on]? with
          | none => rw [hl2] at this; simp at this
          | some b => rw [hl2] at this; simp at this; rw [this]
        refine ⟨Classical.byContradiction fun hne => ?_, by omega⟩
        have : listed[m]? = some true := hq.listed hcl i i o (Nat.le_refl _) hol hre m (hq.tail i (by omega) (by simpa using hlt) m (by omega))
        rw [hl m (by omega)] at this
        simp at this
    · rintro ⟨rfl, hlt⟩
      have ho : ops[i]? = some ops[i] := by simp [hlt]
      refine ⟨_, ho, ?_⟩
      unfold isReady
      rw [getB_eq, List.getD_eq_getElem?_getD, Array.getElem?_toList, hl i hlt]
      simp only [Option.getD_some, Nat.lt_irrefl, decide_false]
      rw [edgesOk_eq, List.all_eq_true]
      intro e he
      cases hb : Region.binds .any e with
      | false => rfl
      | true =>
        have hon := hq.back i _ (by rw [Array.getElem?_toList]; exact ho) e he hb
        rw [Array.getD_eq_getD_getElem?, hl e.on (by omega)]
        simp [hon]
  intro d
  induction d with
  | zero =>
    intro m hmd hm listed β S tm hp a w hs hl hI h
    refine ⟨?_, ?_⟩
    · cases e : Region.ready .any ops listed with
      | nil => rfl
      | cons i l =>
        have := (rdy m hm listed hs hl i).1 (by rw [e]; simp)
        omega
    · rw [List.drop_of_length_le (by simp; omega)] at h
      exact hK _ _ _ _ _ _ h hI
  | succ d ih =>
    intro m hmd hm listed β S tm hp a w hs hl hI h
    refine ⟨fun hnil => ?_, fun i hi => ?_⟩
    · have := (rdy m hm listed hs hl m).2 ⟨rfl, by omega⟩
      rw [hnil] at this
      simp at this
    · obtain ⟨rfl, hlt⟩ := (rdy m hm listed hs hl i).1 hi
      have ho : ops[i]? = some ops[i] := by simp [hlt]
      rw [show ops.toList.drop i = ops[i] :: ops.toList.drop (i + 1) by rw [← Array.getElem_toList (h := hlt)]; exact List.drop_eq_getElem_cons (by simpa using hlt)] at h
      refine evOp_wp (k := fun tm hp => evOps E ops.toList (ops.toList.drop (i + 1)) tm hp kp k) hE hM hKp ho hI ?_ h
      intro β' S' tm' hp' a' w' h' hI'
      refine ih (i + 1) (by omega) (by omega) _ β' S' tm' hp' a' w' (by simp [hs]) (fun j hj => ?_) hI' h'
      rw [Array.getElem?_setIfInBounds]
      split
      · rename_i e; subst e; simp [hs, hlt]
      · rename_i e
        rw [hl j hj]
        simp only [Option.some.injEq, decide_eq_decide]
        omega

/-- THE ORDER OF THE TEXT STANDS FOR ALL, where operations write objects too. -/
theorem evM_wp {kp : AV → List AV → Hp → Prop} (hE : EnvOK P E) (hM : ∀ o ∈ ops.toList, MoreOK P o) (hKp : Falls X w0 kp Q) (hK : Goes X w0 k (Q .normal)) (hI : Inv X w0 β S tm hp a w) {nf : Nat}
    (h : evM E ops.toList (ops.toList.take nf) tm hp fun tm hp fs => fitsM ops.toList nf fs = true ∧ evOps E ops.toList (ops.toList.drop nf) tm hp kp k) : wpAny P .any ops Q ops.size (Array.replicate ops.size false) a w := by
  obtain ⟨vs, wss, fs, T, H, hT0, hH0, ⟨hfit, hkT⟩, hall⟩ := evM_all h
  have hQ := Mixed.of hfit
  have hnf : nf ≤ ops.size := by have := hQ.size; simpa using this
  have hlen : (ops.toList.take nf).length = nf := by rw [List.length_take]; simp; omega
  rw [hlen] at hkT
  have hoi : ∀ i, (hi : i < nf) → ops.toList[i]? = some (ops[i]'(by omega)) := fun i hi => by rw [Array.getElem?_toList]; simp [show i < ops.size by omega]
  have hoj : ∀ i, (hi : i < nf) → (ops.toList.take nf)[i]? = some (ops[i]'(by omega)) := fun i hi => by rw [List.getElem?_take, if_pos hi]; exact hoi i hi
  have hT : ∀ i, i ≤ nf → Agree ops.toList (fun j => vs.getD j .undef) tm (fun j => decide (j < i)) (T i) := by
    intro i
    induction i with
    | zero =>
      intro _
      rw [hT0]
      exact ⟨rfl, fun j d hj => by simp at hj, fun s _ => rfl⟩
    | succ i ih =>
      intro hi
      have hA := ih (by omega)
      have ho := hoi i (by omega)
      rw [(hall i _ (hoj i (by omega))).2.1]
      have hd : dstOf ops.toList i = (ops[i]'(by omega)).dst := by rw [dstOf_eq, ho]; rfl
      have := hA.step hQ.dsts (i := i) (by simp)
      rw [hd] at this
      refine this.ext fun j _ => ?_
      have hj : (j < i + 1) = (j < i ∨ j = i) := propext (by omega)
      simp only [hj, Bool.decide_or]
      rfl
  have hHn : ∀ i, i ≤ nf → ((H i).map (·.1)).Nodup := by
    intro i
    induction i with
    | zero => intro _; rw [hH0]; exact hI.nodup
    | succ i ih => intro hi; rw [(hall i _ (hoj i (by omega))).2.2]; exact hputs_nodup (ih (by omega)) _
  refine mixed_wp hE hM hQ hT (fun j hj => (hall j _ (hoj j hj)).2.2) (hHn nf (Nat.le_refl _)) (fun i o hi ho => (hall i o (by rw [List.getElem?_take, if_pos hi, Array.getElem?_toList]; exact ho)).1)
    (fun listed β' S' a' w' hs hl hI' => tail_wp hE hM hKp hK hQ _ nf (by omega) (Nat.le_refl _) listed β' S' _ _ a' w' hs hl hI' hkT) ops.size _ (by simp) (by simp) ?_ ?_ β S tm hp a w ?_ ?_ hI
  · intro i o hi
    rw [Array.getElem?_replicate] at hi
    split at hi <;> simp at hi
  · intro i _ hi
    rw [Array.getElem?_replicate] at hi
    split at hi <;> simp at hi
  · refine ⟨rfl, fun i d hi => ?_, fun s _ => rfl⟩
    simp only [Array.getD_eq_getD_getElem?, Array.getElem?_replicate] at hi
    split at hi <;> simp at hi
  · intro x
    refine ⟨0, Nat.zero_le _, fun j hj _ => ?_, by rw [hH0]⟩
    simp only [Array.getD_eq_getD_getElem?, Array.getElem?_replicate, show j < ops.size by omega]
    simp

end main
end Go.Proofs.Ythakgbecpkfeoaa.Ev

/- A map written out: the region that makes it. -/
set_option linter.unusedVariables false
set_option linter.unusedSimpArgs false
namespace Go.Proofs.Ythakgbecpkfeoaa.Ev

theorem memI_of {l : List Int} {n : Int} (h : memI l n = false) : n ∉ l := by
  induction l with
  | nil => simp
  | cons x l ih =>
    simp only [memI] at h
    cases e : (n == x) with
    | true => rw [e] at h; simp at h
    | false =>
      rw [e] at h
      simp only [List.mem_cons, not_or]
      exact ⟨by simpa using e, ih h⟩

section lit
variable {P : Program} {E : Env} {X : XR} {w0 : World} {β : Nat → Option Value} {S : Nat → Prop} {hp : Hp} {w : World}
variable {ops : Array Oper} {Q : Exit → Act → World → Prop}

theorem known_lt {tm : List AV} {d : Nat} (h : known (getV tm d) = true) : d < tm.length := by
  refine (set_same rfl ?_).2
  intro e
  rw [e] at h
  simp [known] at h

theorem wpOp_plain {i : Nat} {o : Oper} (ho : ops[i]? = some o) (hg : o.guard = none) {K : Act → World → Prop} {a : Act} {w : World} (h : o.wp P a w K Q) : wpOp P ops Q i K a w := by
  unfold wpOp
  simp only [ho]
  rw [if_pos (by simp [Region.wanted, hg])]
  exact .inl h

theorem eval_put_same {a : Act} {d : Nat} {v : Value} (h : d < a.tmps.size) : (a.put (some d) v).eval (.tmp d) = v := by
  simp [Act.eval, Act.put, Array.getD_eq_getD_getElem?, h]
theorem eval_put_ne {a : Act} {d t : Nat} {v : Value} (h : d ≠ t) : (a.put (some d) v).eval (.tmp t) = a.eval (.tmp t) := by
  simp [Act.eval, Act.put, Array.getD_eq_getD_getElem?, Array.getElem?_setIfInBounds_ne h]
theorem size_of {tm : List AV} {a : Act} (hI : Inv X w0 β S tm hp a w) : tm.length = a.tmps.size := by have := hI.rel.length; simpa using this

/-- The rest of the region, when the map has been made and holds some entries. -/
theorem tail_lit {T d0 : Nat} (hT : (∃ T m i x, ∃ o ∈ ops.toList, o.op = .insert T m i x) → True) (hM : ∀ o ∈ ops.toList, MoreOK P o) {tm0 : List AV} :
    ∀ (n : Nat) (l pre : List Oper), l.length ≤ n → ops.toList = pre ++ l → ∀ {r : List (Nat × Nat × List Operand × Int)} {e f : Nat}, mlTail T d0 l = some (r, e, f) →
      ∀ {tm : List AV} {ks : List Int} {vs : List AV} {a : Act} {es : Array MapEntry} {c : Nat} {k : List AV → Prop}, Inv X w0 β S tm hp a w → a.eval (.tmp d0) = .map (some w.heap.size) → KeysI ks es.toList → RelVs β S w vs (es.toList.map (·.val)) →
        (∀ S' tm' a' w', k tm' → Inv X w0 β S' tm' hp a' w' → Q .normal a' w') →
        (mlF r tm ks vs fun tm ks vs => match known (getV tm e) with | true => setF tm e .undef fun tm => setF tm f (.mp ks vs) k | false => False) →
        wpOps P ops Q (List.range' pre.length l.length) a (w.alloc (.map es c)) := by
  intro n
  induction n with
  | zero =>
    intro l pre hl he r e f hm
    have : l = [] := List.length_eq_zero_iff.1 (by omega)
    subst this
    simp [mlTail] at hm
  | succ n ih =>
    intro l pre hln he r e f hm tm ks vs a es c k hI hd0 hk hr hK h
    rcases l with _ | ⟨o1, _ | ⟨o2, l⟩⟩
    · simp [mlTail] at hm
    · simp [mlTail] at hm
    · have ho1 : ops[pre.length]? = some o1 := by rw [← Array.getElem?_toList, he]; simp
      have ho2 : ops[pre.length + 1]? = some o2 := by rw [← Array.getElem?_toList, he]; simp
      rw [show (o1 :: o2 :: l).length = l.length + 1 + 1 by simp, List.range'_succ, List.range'_succ, wpOps_cons]
      simp only [mlTail] at hm
      split at hm
      · rename_i a1 e1 b1 f1 hop1 hdst1 hg1 hop2 hdst2 hg2
        split at hm
        · rename_i h1 h2
          simp only [Option.some.injEq, Prod.mk.injEq] at hm
          obtain ⟨rfl, rfl, rfl⟩ := hm
          have h1 := Nat.eq_of_beq_eq_true h1
          have h2 := Nat.eq_of_beq_eq_true h2
          subst h1
          subst h2
          simp only [mlF] at h
          split at h
          · rename_i hke
            rw [setF_eq, setF_eq] at h
            have hlt := known_lt hke
            rw [size_of hI] at hlt
            refine wpOp_plain ho1 hg1 (wp_value (u := .map (some w.heap.size)) (w' := w.alloc (.map es c)) (by simp [execOp, hop1, hd0]) ?_)
            rw [hdst1, wpOps_cons]
            refine wpOp_plain ho2 hg2 (wp_value (u := .map (some w.heap.size)) (w' := w.alloc (.map es c)) (by simp only [execOp, hop2, eval_put_same hlt]; rfl) ?_)
            rw [hdst2]
            have hI2 := (hI.put (v := .undef) (u := .map (some w.heap.size)) (by simp [RelV]) (some b1))
            have hI3 := hI2.alloc_new (.map es c)
            have hI4 := hI3.put (v := .mp ks vs) (u := .map (some w.heap.size)) ⟨w.heap.size, es, c, rfl, ⟨by simp, .inr (Nat.le_refl _)⟩, alloc_at w _, hk,
              RelVs.mono (fun _ _ x => x) (fun b hb => ⟨by simp; have := hI.sb b hb; omega, .inl hb⟩) (fun b hb => Go.RowKit.Below.heap_alloc w _ b (hI.sb b hb)) _ _ hr⟩ (some f1)
            exact hK _ _ _ _ h hI4
          · exact h.elim
        · simp at hm
      · rename_i g first caps d T' m kn x hop1 hdst1 hg1 hop2 hdst2 hg2
        split at hm
        · rename_i r' e' f' h1 h2 h3 h4 h5 h6
          simp only [Option.some.injEq, Prod.mk.injEq] at hm
          obtain ⟨rfl, rfl, rfl⟩ := hm
          have h1 := Nat.eq_of_beq_eq_true h1
          have h2 := Nat.eq_of_beq_eq_true h2
          have h3 := Nat.eq_of_beq_eq_true h3
          have h4 := Nat.ne_of_beq_eq_false h4
          subst h1
          subst h2
          subst h3
          simp only [mlF, evs_eq] at h
          split at h
          · rename_i hown hmem hkn
            rw [setF_eq] at h
            have hlt := known_lt hkn
            rw [size_of hI] at hlt
            have hcaps := hI.evals caps.toList
            have hfirst : first = #[] := by apply Array.ext'; simpa using h5
            have hclo : RelV β S w (.clo g (caps.toList.map (evalV tm))) (.func (.func g) #[] (caps.map a.eval)) := ⟨caps.toList.map a.eval, by congr 1; apply Array.ext'; simp, hcaps⟩
            have hI2 := hI.put hclo (some x)
            refine wpOp_plain ho1 hg1 (wp_value (u := .func (.func g) #[] (caps.map a.eval)) (w' := w.alloc (.map es c)) (by simp [execOp, hop1, hfirst, Instr.makeFunc]) ?_)
            rw [hdst1, wpOps_cons]
            obtain ⟨kt, et, j, z, q1, q2, q3, q4⟩ := (hM o2 (List.mem_of_getElem? (by rw [Array.getElem?_toList]; exact ho2))).ins _ _ _ _ hop2
            have hins := run_insert (w := w) (es := es) (c := c) (n := kn) (v := .func (.func g) #[] (caps.map a.eval)) q1 q2 hk (memI_of hmem)
            refine wpOp_plain ho2 hg2 (wp_skips (w' := w.alloc (.map (es.push { key := .int .i64 kn, val := .func (.func g) #[] (caps.map a.eval), born := c }) (c + 1))) ?_ ?_)
            · simp only [execOp, hop2, eval_put_same hlt, eval_put_ne h4, hd0]
              simp only [Act.eval, Sem.run_bind, hins]
              rfl
            · rw [hdst2]
              have hr2 : RelVs β S w (vs ++ [AV.clo g (caps.toList.map (evalV tm))]) ((es.push { key := .int .i64 kn, val := .func (.func g) #[] (caps.map a.eval), born := c }).toList.map (·.val)) := by
                have h1 : RelVs β S w [AV.clo g (caps.toList.map (evalV tm))] [Value.func (.func g) #[] (caps.map a.eval)] := ⟨_, _, rfl, hclo, rfl⟩
                simpa using hr.append h1
              have hk2 : KeysI (ks ++ [kn]) (es.push { key := .int .i64 kn, val := .func (.func g) #[] (caps.map a.eval), born := c }).toList := by simp [KeysI] at hk ⊢; exact hk
              have := ih l (pre ++ [o1, o2]) (by simp at hln; omega) (by simp [he]) h6 (a := a.put (some x) (.func (.func g) #[] (caps.map a.eval))) (c := c + 1) hI2 (by rw [eval_put_ne h4]; exact hd0) hk2 hr2 hK h
              rw [show pre.length + 1 + 1 = (pre ++ [o1, o2]).length by simp]
              exact this
          · exact h.elim
        · simp at hm
      · simp at hm

theorem lit_wp (hM : ∀ o ∈ ops.toList, MoreOK P o) {d0 : Nat} {r : List (Nat × Nat × List Operand × Int)} {e f : Nat} (hm : mapLit ops.toList = some (d0, r, e, f)) {tm : List AV} {a : Act} {k : List AV → Prop} (hI : Inv X w0 β S tm hp a w)
    (hK : ∀ S' tm' a' w', k tm' → Inv X w0 β S' tm' hp a' w' → Q .normal a' w') (h : mapF d0 r e f tm k) : wpOps P ops Q (List.range' 0 ops.size) a w := by
  unfold mapLit at hm
  split at hm
  · simp at hm
  · rename_i o l hops
    split at hm
    · rename_i T d hop hdst hg
      split at hm
      · rename_i r' e' f' htail
        simp only [Option.some.injEq, Prod.mk.injEq] at hm
        obtain ⟨rfl, rfl, rfl, rfl⟩ := hm
        unfold mapF at h
        split at h
        · rename_i hkn
          rw [setF_eq] at h
          have hlt := known_lt hkn
          rw [size_of hI] at hlt
          have ho : ops[0]? = some o := by rw [← Array.getElem?_toList, hops]; rfl
          have hsize : ops.size = l.length + 1 := by rw [← Array.length_toList, hops]; simp
          rw [hsize, List.range'_succ, wpOps_cons]
          refine wpOp_plain ho hg (wp_value (u := .map (some w.heap.size)) (w' := w.alloc (.map #[] 0)) (by simp [execOp, hop, Instr.makeMap]) ?_)
          rw [hdst]
          exact tail_lit (tm0 := tm) (fun _ => trivial) hM l.length l [o] (Nat.le_refl _) hops htail (hI.put (v := .undef) (by simp [RelV]) (some d)) (eval_put_same hlt) (es := #[]) (ks := []) (vs := []) (by simp [KeysI]) (by simp [RelVs]) hK h
        · exact h.elim
      · simp at hm
    · simp at hm

end lit
end Go.Proofs.Ythakgbecpkfeoaa.Ev
