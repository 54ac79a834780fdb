/- The operations that make or change objects are told rightly. -/
import Derived.Test.YthakgbecpkfeoaaEvI
set_option linter.unusedVariables false
set_option linter.unusedSimpArgs false
namespace Go.Proofs.Ythakgbecpkfeoaa.Ev

section free
variable {β β' : Nat → Option Value} {S S' : Nat → Prop} {w w' : World}
mutual
theorem RelV.free : ∀ (v : AV) (u : Value), v.free = true → RelV β S w v u → RelV β' S w v u
  | .int .., _, _, h => h
  | .bool .., _, _, h => h
  | .str .., _, _, h => h
  | .ptr .., _, hc, _ => by simp [AV.free] at hc
  | .ep .., _, _, h => h
  | .oep .., _, hc, _ => by simp [AV.free] at hc
  | .sl .., _, _, h => h
  | .lit .., _, _, h => h
  | .own .., _, hc, _ => by simp [AV.free] at hc
  | .nil, _, _, h => h
  | .fn .., _, _, h => h
  | .clo _ l, _, hc, ⟨cs, h1, h2⟩ => ⟨cs, h1, RelVs.free l cs (by simpa [AV.free] using hc) h2⟩
  | .agg l, _, hc, ⟨cs, h1, h2⟩ => ⟨cs, h1, RelVs.free l cs (by simpa [AV.free] using hc) h2⟩
  | .tup l, _, hc, ⟨cs, h1, h2⟩ => ⟨cs, h1, RelVs.free l cs (by simpa [AV.free] using hc) h2⟩
  | .ifc _ x, _, hc, ⟨u, h1, h2⟩ => ⟨u, h1, RelV.free x u (by simpa [AV.free] using hc) h2⟩
  | .opq .., _, _, h => h
  | .skp, _, _, h => h
  | .undef, _, _, h => h
theorem RelVs.free : ∀ (l : List AV) (us : List Value), AV.frees l = true → RelVs β S w l us → RelVs β' S w l us
  | [], _, _, h => h
  | v :: l, _, hc, ⟨u, us, h1, h2, h3⟩ => by
    simp only [AV.frees] at hc
    cases e : v.free with
    | true => rw [e] at hc; exact ⟨u, us, h1, RelV.free v u e h2, RelVs.free l us hc h3⟩
    | false => rw [e] at hc; simp at hc
end
end free

section ops
variable {P : Program} {E : Env} {X : XR} {w0 : World} {β : Nat → Option Value} {S : Nat → Prop} {tm : List AV} {hp : Hp} {a : Act} {w : World}
variable {o : Oper} {K : Act → World → Prop} {Q : Exit → Act → World → Prop} {k : List AV → Hp → Prop} {kp : AV → List AV → Hp → Prop}

/-- What an operation's end must serve. -/
def Goes (X : XR) (w0 : World) (k : List AV → Hp → Prop) (K : Act → World → Prop) : Prop :=
  ∀ β S tm hp a w, k tm hp → Inv X w0 β S tm hp a w → K a w
/-- What a panic must serve. -/
def Falls (X : XR) (w0 : World) (kp : AV → List AV → Hp → Prop) (Q : Exit → Act → World → Prop) : Prop :=
  ∀ β S tm hp a w v u, kp v tm hp → v.calm = true → Inv X w0 β S tm hp a w → RelV β S w v u → Q (.panic [{ v := u, recovered := false }]) a w

theorem wp_skips {w' : World} (h : (execOp a.eval o).run P w = .ok .skip w') (hk : K (a.put o.dst undef) w') : o.wp P a w K Q := by
  unfold Oper.wp
  rw [h]
  exact hk

theorem del_self (β : Nat → Option Value) (d : Nat) : delβ β d d = none := by simp [delβ]

theorem newObj_of (hI : Inv X w0 β S tm hp a w) {d : Nat} {x : AO} {v : AV} {k : List AV → Hp → Prop} (h : newObj tm hp d x v k) :
    ∃ tm1 hp1, k (tm1.set d v) (hput hp1 d x) ∧ Inv X w0 (delβ β d) S tm1 hp1 a w ∧ d < 1000 := by
  unfold newObj at h
  split at h
  · rename_i hlt
    obtain ⟨tm1, hp1, h, hI1⟩ := dropObj_of hI h
    rw [hputF_eq, setF_eq] at h
    exact ⟨tm1, hp1, h, hI1, by rw [Nat.blt_eq] at hlt; exact hlt⟩
  · exact h.elim

/-- A new block that holds a new object. -/
theorem Inv.fresh (hI : Inv X w0 β S tm hp a w) {d : Nat} (hdl : d < 1000) (hd : β d = none) {x : AO} {v : Value} {w' : World} {g : Nat} (hg : blk v = some g) (hgw : w.heap.size ≤ g)
    (hos : w'.os = w.os) (htape : w'.tape = w.tape) (hout : w'.output = w.output) (hsz : w.heap.size ≤ w'.heap.size)
    (hb : ∀ b, b < w.heap.size → w'.heap[b]? = w.heap[b]?) (hx : ObjR X w0.heap.size β S w' v x) : Inv X w0 (updβ β d v) S tm (hput hp d x) a w' := by
  refine hI.add hdl hd (fun _ => False) hos htape hout hsz (fun b h _ => hb b h) (fun b h => h.elim) (fun _ h => h) (fun b h => ⟨Nat.lt_of_lt_of_le (hI.sb b h) hsz, .inl h⟩) hx ?_
  intro p u g' h1 h2 h3 h4
  rw [hg] at h2
  simp only [Option.some.injEq] at h2
  subst h2
  have := blk_lt hI h1 h4
  omega

theorem push_at (w : World) (b : Obj) : ({ w with heap := w.heap.push b } : World).heap[w.heap.size]? = some b := by simp
theorem push_old (w : World) (ob : Obj) (b : Nat) (h : b < w.heap.size) : ({ w with heap := w.heap.push ob } : World).heap[b]? = w.heap[b]? := by
  simp only [Array.getElem?_push]
  rw [if_neg (by omega)]

theorem new_box (hI : Inv X w0 β S tm hp a w) {d : Nat} (hd : o.dst = some d) {T : Nat} {cs : List AV} {vs : Array Value} (hr : RelVs β S w cs vs.toList) (hfree : AV.frees cs = true)
    (hrun : (execOp a.eval o).run P w = .ok (.value (.pointer (some ⟨w.heap.size, 0, none⟩))) { w with heap := w.heap.push (.cells vs T) })
    (h : newObj tm hp d (.box cs) (.ptr d 0) k) (hK : Goes X w0 k K) : o.wp P a w K Q := by
  obtain ⟨tm1, hp1, h, hI1, hdl⟩ := newObj_of hI h
  have hS : ∀ b, S b → ({ w with heap := w.heap.push (.cells vs T) } : World).heap[b]? = w.heap[b]? := fun b hb => push_old w _ b (hI.sb b hb)
  have hI2 := hI1.fresh hdl (del_self β d) (x := .box cs) (v := .pointer (some ⟨w.heap.size, 0, none⟩)) (w' := { w with heap := w.heap.push (.cells vs T) }) (g := w.heap.size) rfl (Nat.le_refl _) rfl rfl rfl (by simp) (fun b hb => push_old w _ b hb)
    ⟨w.heap.size, T, vs, rfl, .inl hI.size, fun hs => by have := hI.sb _ hs; omega, push_at w _, RelVs.mono (fun _ _ x => x) (fun _ x => x) hS _ _ (RelVs.free _ _ hfree hr)⟩
  have hI3 := hI2.put (v := .ptr d 0) (u := .pointer (some ⟨w.heap.size, 0, none⟩)) ⟨w.heap.size, by simp [updβ], rfl⟩ (some d)
  exact wp_value hrun (by rw [hd]; exact hK _ _ _ _ _ _ h hI3)

theorem step_alloc (hE : EnvOK P E) {T : Nat} (hop : o.op = .alloc T) (hI : Inv X w0 β S tm hp a w) (hK : Goes X w0 k K) (h : step1 E o tm hp kp k) : o.wp P a w K Q := by
  unfold step1 at h
  rw [hop] at h
  simp only at h
  split at h
  · rename_i d hd
    obtain ⟨ti, hti, h⟩ := tiGet_of h
    rw [constsF_eq] at h
    split at h
    · rename_i hfree
      obtain ⟨i, z, dd, h1, h2, h3, h4, h5, h6⟩ := tiOf_info (hE.ty _ _ hti)
      simp only at h5
      refine new_box (T := T) (vs := z.cells) hI hd (by rw [h5]; exact RelVs.consts _) hfree ?_ h hK
      simp [execOp, hop, Instr.alloc, zeroValue, typeInfo, h1, h2, newVar, newRow]
    · exact h.elim
  · exact h.elim

theorem step_box (hE : EnvOK P E) {T : Nat} {x : Operand} (hop : o.op = .box T x) (hI : Inv X w0 β S tm hp a w) (hK : Goes X w0 k K) (h : step1 E o tm hp kp k) : o.wp P a w K Q := by
  unfold step1 at h
  rw [hop] at h
  simp only at h
  split at h
  · rename_i d hd
    obtain ⟨ti, hti, h⟩ := tiGet_of h
    rw [AV.f_eq] at h
    obtain ⟨cs, h, hcs⟩ := cellsF_of (hI.eval x) h
    split at h
    · rename_i hfree hlen
      refine new_box (T := T) (vs := (a.eval x).cells) hI hd hcs hfree ?_ h hK
      simp [execOp, hop, Instr.box, newVar, newRow]
    · exact h.elim
  · exact h.elim

theorem ones_of : ∀ {l : List AV} {us : List Value}, ones l = true → RelVs β S w l us → ∀ u ∈ us, u.oneCell' = true
  | [], _, _, h, u, hu => by simp only [RelVs] at h; subst h; simp at hu
  | v :: l, _, ho, ⟨u', us, rfl, h1, h2⟩, u, hu => by
    simp only [ones] at ho
    cases e : oneC v with
    | false => rw [e] at ho; simp at ho
    | true =>
      rw [e] at ho
      rcases List.mem_cons.1 hu with rfl | hu
      · cases v with
        | int κ n => simp only [RelV] at h1; subst h1; rfl
        | bool b => simp only [RelV] at h1; subst h1; rfl
        | str b => simp only [RelV] at h1; subst h1; rfl
        | ptr p off => obtain ⟨g, _, rfl⟩ := h1; rfl
        | ep cs => obtain ⟨g, rfl, _⟩ := h1; rfl
        | oep p i => obtain ⟨g, n, c, _, rfl⟩ := h1; rfl
        | sl τ xs => obtain ⟨A, c, rfl, _⟩ := h1; rfl
        | lit τ xs => obtain ⟨g, rfl, _⟩ := h1; rfl
        | own p => obtain ⟨_, A, n, c, rfl⟩ := h1; rfl
        | nil => simp only [RelV] at h1; subst h1; rfl
        | fn f => simp only [RelV] at h1; subst h1; rfl
        | clo f caps => obtain ⟨cs, rfl, _⟩ := h1; rfl
        | ifc t x => obtain ⟨u', rfl, _⟩ := h1; rfl
        | agg l => simp [oneC] at e
        | tup l => simp [oneC] at e
        | opq x => simp [oneC] at e
        | skp => simp [oneC] at e
        | undef => simp [oneC] at e
      · exact ones_of ho h2 u hu

theorem store_run {T n : Nat} {i : TypeInfo} (hi : P.info? T = some i) (hn : i.size = n) {g off T' : Nat} {cur : Array Value} (hg : w.heap[g]? = some (.cells cur T' (0, 0))) {v : Value} (hv : v.cells.size = n) (hroom : off + n ≤ cur.size)
    (h1 : ∀ u ∈ v.cells.toList, u.oneCell' = true) : (Instr.storeAt T (.pointer (some ⟨g, off, none⟩)) v).run P w = .ok () (w.setRow g (cur.toList.take off ++ v.cells.toList ++ cur.toList.drop (off + n)).toArray) := by
  have := run_storeCells_at (P := P) g off T' v.cells.toList 0 cur w hg (by simp [hv]; omega) h1
  simp only [Nat.add_zero, Array.length_toList, hv] at this
  simp only [Instr.storeAt, Instr.sureAddr, Sem.run_bind, Sem.run_pure, Result.andThen_ok, storeVar, sizeOf, typeInfo, run_program, hi, hn, hv, ne_eq, not_true, if_false]
  simpa using this

theorem step_store (hE : EnvOK P E) {T : Nat} {x y : Operand} (hop : o.op = .store T x y) (hI : Inv X w0 β S tm hp a w) (hK : Goes X w0 k K) (h : step1 E o tm hp kp k) : o.wp P a w K Q := by
  unfold step1 at h
  rw [hop] at h
  simp only at h
  have hx := hI.eval x
  split at h
  · rename_i p off hv
    rw [hv] at hx
    obtain ⟨g, hg, hxv⟩ := hx
    obtain ⟨ti, hti, h⟩ := tiGet_of h
    rw [AV.f_eq] at h
    obtain ⟨vs, h, hvs⟩ := cellsF_of (hI.eval y) h
    split at h
    · rename_i hno hlen
      simp only [Bool.and_eq_true] at hlen
      obtain ⟨hlen, hones⟩ := hlen
      have hlen := Nat.eq_of_beq_eq_true hlen
      obtain ⟨ao, hao, h⟩ := hget_of h
      split at h
      · rename_i cs
        obtain ⟨hsp, h⟩ := spliceF_of h
        rw [hputF_eq, putD_eq] at h
        obtain ⟨i, z, dd, h1, h2, h3, h4, h5, h6⟩ := tiOf_info (hE.ty _ _ hti)
        simp only at h4
        obtain ⟨g', T', cur, k1, k2, k3, k4, k5⟩ := hI.box p cs hao
        rw [hg] at k1
        obtain rfl : g = g' := by simpa using k1
        have hl2 := hvs.length
        have hl3 := k5.length
        simp only [Array.length_toList] at hl2 hl3
        have hrun := store_run h1 (n := ti.size) h4 (off := off) k4 (v := a.eval y) (by omega) (by omega) (ones_of hones hvs)
        have hsplice := k5.splice hvs off
        simp only [Array.length_toList] at hsplice
        rw [show (a.eval y).cells.size = ti.size by omega] at hsplice
        have hI2 := hI.write hao hg (g := g) rfl k3 k2 (w' := w.setRow g (cur.toList.take off ++ (a.eval y).cells.toList ++ cur.toList.drop (off + ti.size)).toArray) rfl rfl rfl (by simp) (fun b hb => setRow_other _ _ _ _ hb)
          (x := .box (cs.take off ++ vs ++ cs.drop (off + vs.length)))
          ⟨g, T', _, rfl, k2, k3, setRow_heap w g cur _ T' _ k4, RelVs.mono (fun _ _ x => x) (fun _ x => x) (fun b hb => setRow_other w g b _ (fun e => k3 (by rw [← e]; exact hb))) _ _ (by simpa using hsplice)⟩
        refine wp_skips (w' := w.setRow g (cur.toList.take off ++ (a.eval y).cells.toList ++ cur.toList.drop (off + ti.size)).toArray) (by simp only [execOp, hop, Sem.run_bind, hxv, hrun, Result.andThen_ok, Sem.run_pure]) ?_
        exact hK _ _ _ _ _ _ h (hI2.put (v := .skp) (u := undef) rfl o.dst)
      · exact h.elim
    · exact h.elim
  · rename_i p i hv
    rw [hv] at hx
    obtain ⟨g, n, c, hg, hxv⟩ := hx
    split at h
    · rename_i e
      obtain rfl := Nat.eq_of_beq_eq_true e
      split at h
      · rename_i m hm
        obtain ⟨ao, hao, h⟩ := hget_of h
        split at h
        · rename_i xs
          obtain ⟨hi, h⟩ := h
          rw [hputF_eq, putD_eq] at h
          obtain ⟨v, hv1, hv2⟩ := hI.arr p _ _ hao
          rw [hg] at hv1
          obtain rfl : Value.slice (some ⟨g, 0, none⟩) n c = v := by simpa using hv1
          rcases hv2 with ⟨rfl, _⟩ | ⟨g', cap, cur, he, k1, k2, hh, k3, k4, k5, htake⟩
          · simp at hi
          · simp only [Value.slice.injEq, Option.some.injEq, Addr.mk.injEq, and_true] at he
            obtain ⟨rfl, rfl, rfl⟩ := he
            obtain ⟨ii, z1, z2, z3, z4⟩ := hE.z3
            simp only [ET.size, Nat.mul_one] at k5 htake
            have hrun := store_run (w := w) z1 (n := 1) z3 (off := i) hh (v := .int .i64 m) rfl (by omega) (by intro u hu; simp [Value.cells] at hu; subst hu; rfl)
            have hcur : (cur.toList.take i ++ (Value.int .i64 m).cells.toList ++ cur.toList.drop (i + 1)).toArray = cur.setIfInBounds i (.int .i64 m) := by
              apply Array.ext'
              simp only [Value.cells, Array.toList_setIfInBounds, List.set_eq_take_append_cons_drop, Array.length_toList]
              rw [if_pos (by omega)]
              simp
            rw [hcur] at hrun
            have hI2 := hI.write hao hg (g := g) rfl k2 (.inl k1) (w' := w.setRow g (cur.setIfInBounds i (.int .i64 m))) rfl rfl rfl (by simp) (fun b hb => setRow_other _ _ _ _ hb)
              (x := .arr .i64 (xs.set i m)) (.inr ⟨g, c, cur.setIfInBounds i (.int .i64 m), by simp, k1, k2, setRow_heap w g cur _ _ _ hh, by simpa using k3, k4, by simp [ET.size, k5], by
                have h1 : cellsOf .i64 (xs.set i m) = (cellsOf .i64 xs).set i (.int .i64 m) := by
                  have : ∀ ys : List Int, cellsOf .i64 ys = ys.map (Value.int .i64) := fun ys => by induction ys <;> simp_all [cellsOf, ET.enc, CV.v]
                  rw [this, this, List.map_set]
                rw [h1, ← htake]
                simp only [ET.size, Nat.mul_one, List.length_set, Array.toList_setIfInBounds]
                rw [List.take_set]⟩)
            refine wp_skips (w' := w.setRow g (cur.setIfInBounds i (.int .i64 m))) (by simp only [execOp, hop, Sem.run_bind, hxv, int_of hI hm, hrun, Result.andThen_ok, Sem.run_pure]) ?_
            exact hK _ _ _ _ _ _ h (hI2.put (v := .skp) (u := undef) rfl o.dst)
        · exact h.elim
      · exact h.elim
    · exact h.elim
  · exact h.elim

end ops
end Go.Proofs.Ythakgbecpkfeoaa.Ev
