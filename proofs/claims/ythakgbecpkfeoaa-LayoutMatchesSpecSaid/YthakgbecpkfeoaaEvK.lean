/- Arrays that are made, moved, lengthened and copied; panics: told rightly. -/
import Derived.Test.YthakgbecpkfeoaaEvJ
import Derived.Laws.CopyRow
import Derived.Deep.Upon
set_option linter.unusedVariables false
set_option linter.unusedSimpArgs false
namespace Go.Proofs.Ythakgbecpkfeoaa.Ev

section ops
variable {P : Program} {E : Env} {X : XR} {w0 : World} {β : Nat → Option Value} {S : Nat → Prop} {tm : List AV} {hp : Hp} {a : Act} {w : World}
variable {o : Oper} {K : Act → World → Prop} {Q : Exit → Act → World → Prop} {k : List AV → Hp → Prop} {kp : AV → List AV → Hp → Prop}

theorem castF_of {τ' τ : ET} {ys : List τ'.T} {k : List τ.T → Prop} (h : castF τ' τ ys k) : ∃ e : τ' = τ, k (e ▸ ys) := by
  cases τ' <;> cases τ <;> first | exact ⟨rfl, h⟩ | exact h.elim

/-- A new row of the array's own. -/
theorem Inv.arrNew (hI : Inv X w0 β S tm hp a w) {d : Nat} (hdl : d < 1000) (hd : β d = none) {τ : ET} {xs : List τ.T} {v : Value} {w' : World} {g : Nat}
    (hv : v = .slice (some ⟨g, 0, none⟩) xs.length (xs.length + 0) ∨ ∃ n c, v = .slice (some ⟨g, 0, none⟩) n c) (hgw : w.heap.size ≤ g)
    (hos : w'.os = w.os) (htape : w'.tape = w.tape) (hout : w'.output = w.output) (hsz : w.heap.size ≤ w'.heap.size)
    (hb : ∀ b, b < w.heap.size → w'.heap[b]? = w.heap[b]?) (hx : OwnR S w' w0.heap.size τ xs v) : Inv X w0 (updβ β d v) S tm (hput hp d (.arr τ xs)) a w' := by
  refine hI.fresh hdl hd (g := g) ?_ hgw hos htape hout hsz hb hx
  rcases hv with rfl | ⟨n, c, rfl⟩ <;> rfl

theorem fin_own {d : Nat} (hd : o.dst = some d) {β : Nat → Option Value} {hp : Hp} {w' : World} {v : Value} (hI : Inv X w0 (updβ β d v) S tm hp a w') (hv : ∃ A n c, v = .slice A n c) (hK : Goes X w0 k K)
    (h : k (tm.set d (.own d)) hp) (hrun : (execOp a.eval o).run P w = .ok (.value v) w') : o.wp P a w K Q := by
  have hI3 := hI.put (v := .own d) (u := v) ⟨by simp [updβ], hv⟩ (some d)
  exact wp_value hrun (by rw [hd]; exact hK _ _ _ _ _ _ h hI3)

theorem cellsOf_ints (ys : List Int) : cellsOf .i64 ys = ys.map (Value.int .i64) := by induction ys <;> simp_all [cellsOf, ET.enc, CV.v]

theorem madeCells_one (n : Nat) : madeCells (Value.int .i64 0).cells n = (List.replicate n (Value.int .i64 0)).toArray := by
  apply Array.ext
  · simp [madeCells]
  · intro i h1 h2
    simp [madeCells, Value.cells, Nat.mod_one]

theorem step_make (hE : EnvOK P E) {T : Nat} {x y : Operand} (hop : o.op = .makeSlice T x y) (hI : Inv X w0 β S tm hp a w) (hK : Goes X w0 k K) (h : step1 E o tm hp kp k) : o.wp P a w K Q := by
  unfold step1 at h
  rw [hop] at h
  simp only at h
  split at h
  · rename_i d hd
    split at h
    · rename_i n m hn hm
      obtain ⟨ti, hti, h⟩ := tiGet_of h
      split at h
      · rename_i hhas
        obtain ⟨⟨hnm, h0, hmax⟩, hh⟩ := h
        subst hnm
        obtain ⟨tm1, hp1, h, hI1, hdl⟩ := newObj_of hI hh
        obtain ⟨j, z, h1, h2, h3, h4, h5, h6⟩ := tiOf_elem (hE.ty _ _ hti) (τ := .i64) (by simpa using has_of hhas)
        obtain ⟨i, z1, z2, z3, z4⟩ := hE.z3
        obtain rfl : i = j := by have := z1.symm.trans h2; simpa using this
        obtain rfl : Value.int .i64 0 = z := by have := z2.symm.trans h3; simpa using this
        have hr := run_make (P := P) w T 3 i (.int .i64 0) h1 h2 h3 .i64 .i64 n n h0 (Int.le_refl _) (by rw [z4]; omega) (by omega)
        rw [z3, Nat.mul_one, madeCells_one] at hr
        have hI2 := hI1.arrNew hdl (del_self β d) (τ := .i64) (xs := List.replicate n.toNat (0 : Int)) (v := .slice (some ⟨w.heap.size, 0, none⟩) n.toNat n.toNat) (w' := w.alloc (.cells (List.replicate n.toNat (Value.int .i64 0)).toArray 3)) (g := w.heap.size)
          (.inr ⟨_, _, rfl⟩) (Nat.le_refl _) rfl rfl rfl (by simp) (fun b hb => push_old w _ b hb)
          (.inr ⟨w.heap.size, n.toNat, _, by simp, hI.size, fun hs => by have := hI.sb _ hs; omega, alloc_at w _, by simp, by simp only [maxI]; omega, by simp [ET.size], by simp [ET.size, cellsOf_ints]⟩)
        exact fin_own hd hI2 ⟨_, _, _, rfl⟩ hK h (by simp only [execOp, hop, Sem.run_bind, int_of hI hn, int_of hI hm, hr, Result.andThen_ok, Sem.run_pure])
      · exact h.elim
    · exact h.elim
  · exact h.elim

theorem goes_pop (hK : Goes X w0 k K) : Serves X w0 β S tm hp a o (fun v => putD tm o.dst v fun tm => k tm hp) K := by
  intro r u w' S' hk hI' hS hr
  rw [putD_eq] at hk
  exact hK _ _ _ _ _ _ hk (hI'.put hr o.dst)

theorem step_assign {x : Operand} (hop : o.op = .assign x) (hI : Inv X w0 β S tm hp a w) (hK : Goes X w0 k K) (h : step1 E o tm hp kp k) : o.wp P a w K Q := by
  unfold step1 at h
  rw [hop] at h
  simp only at h
  have hx := hI.eval x
  have hrun : (execOp a.eval o).run P w = .ok (.value (a.eval x)) w := by simp [execOp, hop]
  split at h
  · rename_i p hv
    rw [hv] at hx
    obtain ⟨hb, hsl⟩ := hx
    split at h
    · rename_i d hd
      split at h
      · rename_i e
        obtain rfl := Nat.eq_of_beq_eq_true e
        rw [setF_eq] at h
        have hI3 := hI.put (v := .own p) (u := a.eval x) ⟨hb, hsl⟩ (some p)
        exact wp_value hrun (by rw [hd]; exact hK _ _ _ _ _ _ h hI3)
      · rename_i e
        have hne := Nat.ne_of_beq_eq_false e
        split at h
        case h_2 => exact h.elim
        rename_i hdl
        rw [Nat.blt_eq] at hdl
        obtain ⟨tm1, hp1, h, hI1⟩ := dropObj_of hI h
        obtain ⟨ao, hao, h⟩ := hget_of h
        split at h
        · rename_i τ xs
          have hb1 : delβ β d p = some (a.eval x) := by simp [delβ, hne, hb]
          obtain ⟨v, hv1, hv2⟩ := hI1.arr p τ xs hao
          rw [hb1] at hv1
          obtain rfl : a.eval x = v := by simpa using hv1
          obtain ⟨tm2, hp2, h, hI2⟩ := dropObj_of hI1 h
          rw [hputF_eq, setF_eq] at h
          have hI3 := hI2.add hdl (o := d) (x := .arr τ xs) (v := a.eval x) (w' := w) (S' := S) (by simp [delβ]) (fun _ => False) rfl rfl rfl (Nat.le_refl _) (fun _ _ _ => rfl) (fun _ h => h.elim) (fun _ h => h)
            (fun b hb => ⟨hI.sb b hb, .inl hb⟩) hv2 (by
              intro q u g h1 h2 h3
              by_cases hq : q = p
              · subst hq; simp [delβ] at h1
              · have h1' : delβ β d q = some u := by simpa [delβ, hq] using h1
                exact hI1.apart p q _ u g (fun z => hq z.symm) hb1 h1' h2 h3)
          exact fin_own hd hI3 hsl hK h hrun
        · exact h.elim
    · exact h.elim
  · rename_i hv
    rw [hv] at hx
    simp only [RelV] at hx
    split at h
    · rename_i d hd
      obtain ⟨ti, hti, h⟩ := tiGet_of h
      split at h
      · rename_i τ hτ
        obtain ⟨tm1, hp1, h, hI1, hdl⟩ := newObj_of hI h
        have hI3 := hI1.add hdl (o := d) (x := .arr τ []) (v := a.eval x) (w' := w) (S' := S) (by simp [delβ]) (fun _ => False) rfl rfl rfl (Nat.le_refl _) (fun _ _ _ => rfl) (fun _ h => h.elim) (fun _ h => h)
            (fun b hb => ⟨hI.sb b hb, .inl hb⟩) (.inl ⟨rfl, .inl hx⟩) (by intro q u g h1 h2 h3; rw [hx] at h2; simp [blk] at h2)
        exact fin_own hd hI3 ⟨_, _, _, hx⟩ hK h hrun
      · exact h.elim
    · exact h.elim
  · rename_i v hv1 hv2
    rw [AV.f_eq, putD_eq] at h
    exact wp_value hrun (hK _ _ _ _ _ _ h (hI.put hx o.dst))

theorem step_panic {x : Operand} (hop : o.op = .panic x) (hI : Inv X w0 β S tm hp a w) (hKp : Falls X w0 kp Q) (h : step1 E o tm hp kp k) : o.wp P a w K Q := by
  unfold step1 at h
  rw [hop] at h
  simp only at h
  have hx := hI.eval x
  split at h
  · rename_i t v hv
    rw [hv] at hx
    split at h
    · rename_i hc
      obtain ⟨u, hu, hr⟩ := hx
      unfold Oper.wp
      have : (execOp a.eval o).run P w = .halt (.panic (.iface t u)) w := by simp [execOp, hop, hu, Instr.panic, goPanic]
      rw [this]
      exact hKp _ _ _ _ _ _ _ _ h (by simpa [AV.calm] using hc) hI ⟨u, rfl, hr⟩
    · exact h.elim
  · exact h.elim

end ops
end Go.Proofs.Ythakgbecpkfeoaa.Ev
