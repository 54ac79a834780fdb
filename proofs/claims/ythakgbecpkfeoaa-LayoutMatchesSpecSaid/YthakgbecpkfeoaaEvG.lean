/- Structs and slices written out; parts of slices; the operations that change no object, all together. -/
import Derived.Test.YthakgbecpkfeoaaEvF
import Derived.Laws.CopyRow
import Derived.Laws.Build
set_option linter.unusedVariables false
set_option linter.unusedSimpArgs false
namespace Go.Proofs.Ythakgbecpkfeoaa.Ev

theorem fold_cells : ∀ (vs : List Value) (off j : Nat) (cells : Array Value), off + j + vs.length ≤ cells.size →
    ((vs.zipIdx j).foldl (fun cs p => cs.setIfInBounds (off + p.2) p.1) cells).toList = cells.toList.take (off + j) ++ vs ++ cells.toList.drop (off + j + vs.length)
  | [], off, j, cells, _ => by simp
  | v :: vs, off, j, cells, h => by
    simp only [List.length_cons] at h
    simp only [List.zipIdx_cons, List.foldl_cons]
    rw [fold_cells vs off (j + 1) _ (by simp; omega)]
    have := list_seg_step cells.toList (off + j) v vs (by simp; omega)
    simp only [Array.toList_setIfInBounds]
    rw [show off + (j + 1) = off + j + 1 by omega]
    rw [this]
    simp

theorem fold_arr (c : Array Value) (off : Nat) (cells : Array Value) (h : off + c.size ≤ cells.size) :
    (c.zipIdx.foldl (fun cs p => cs.setIfInBounds (off + p.2) p.1) cells).toList = cells.toList.take off ++ c.toList ++ cells.toList.drop (off + c.size) := by
  have := fold_cells c.toList off 0 cells (by simpa using h)
  rw [← Array.foldl_toList]
  simpa using this

section ops
variable {P : Program} {E : Env} {X : XR} {w0 : World} {β : Nat → Option Value} {S : Nat → Prop} {tm : List AV} {hp : Hp} {a : Act} {w : World}
variable {o : Oper} {K : Act → World → Prop} {Q : Exit → Act → World → Prop} {k : AV → Prop}

theorem cellsF_of {v : AV} {u : Value} (hr : RelV β S w v u) {k : List AV → Prop} (h : cellsF v k) : ∃ l, k l ∧ RelVs β S w l u.cells.toList := by
  cases v with
  | agg l => obtain ⟨vs, rfl, h2⟩ := hr; exact ⟨l, h, by simpa [Value.cells] using h2⟩
  | tup l => exact h.elim
  | undef => exact h.elim
  | opq x => exact h.elim
  | int κ n => simp only [RelV] at hr; subst hr; exact ⟨_, h, _, _, rfl, rfl, rfl⟩
  | bool b => simp only [RelV] at hr; subst hr; exact ⟨_, h, _, _, rfl, rfl, rfl⟩
  | str b => simp only [RelV] at hr; subst hr; exact ⟨_, h, _, _, rfl, rfl, rfl⟩
  | ptr p off => obtain ⟨g, h1, rfl⟩ := hr; exact ⟨_, h, _, _, rfl, ⟨g, h1, rfl⟩, rfl⟩
  | ep cs => obtain ⟨g, rfl, h2⟩ := hr; exact ⟨_, h, _, _, rfl, ⟨g, rfl, h2⟩, rfl⟩
  | oep p i => obtain ⟨g, n, c, h1, rfl⟩ := hr; exact ⟨_, h, _, _, rfl, ⟨g, n, c, h1, rfl⟩, rfl⟩
  | sl τ xs => obtain ⟨A, c, rfl, h2⟩ := hr; exact ⟨_, h, _, _, rfl, ⟨A, c, rfl, h2⟩, rfl⟩
  | lit τ xs => obtain ⟨g, rfl, h2⟩ := hr; exact ⟨_, h, _, _, rfl, ⟨g, rfl, h2⟩, rfl⟩
  | own p => obtain ⟨h1, A, n, c, rfl⟩ := hr; exact ⟨_, h, _, _, rfl, ⟨h1, A, n, c, rfl⟩, rfl⟩
  | nil => simp only [RelV] at hr; subst hr; exact ⟨_, h, _, _, rfl, rfl, rfl⟩
  | fn f => simp only [RelV] at hr; subst hr; exact ⟨_, h, _, _, rfl, rfl, rfl⟩
  | clo f caps => obtain ⟨cs, rfl, h2⟩ := hr; exact ⟨_, h, _, _, rfl, ⟨cs, rfl, h2⟩, rfl⟩
  | ifc t x => obtain ⟨u', rfl, h2⟩ := hr; exact ⟨_, h, _, _, rfl, ⟨u', rfl, h2⟩, rfl⟩
  | skp => simp only [RelV] at hr; subst hr; exact ⟨_, h, _, _, rfl, rfl, rfl⟩

theorem RelVs.splice {cs vs : List AV} {us zs : List Value} (h : RelVs β S w cs zs) (h2 : RelVs β S w vs us) (off : Nat) :
    RelVs β S w (cs.take off ++ vs ++ cs.drop (off + vs.length)) (zs.take off ++ us ++ zs.drop (off + us.length)) := by
  rw [h2.length]
  exact ((h.take off).append h2).append (h.drop _)

theorem fill_of (hI : Inv X w0 β S tm hp a w) {fs : List (Nat × Nat × Bool)} {pl : Nat → Option (Nat × Nat)} (hpl : ∀ i f, fs[i]? = some f → pl i = some (f.1, f.2.1)) :
    ∀ (l : List (Nat × Operand)) (cs : List AV) (zs : Array Value) (k : List AV → Prop), RelVs β S w cs zs.toList → fillF fs tm l cs k →
      ∃ cs' zs', k cs' ∧ Instr.fill pl zs (l.map fun p => (p.1, a.eval p.2)) = some zs' ∧ RelVs β S w cs' zs'.toList
  | [], cs, zs, k, hr, h => ⟨cs, zs, h, rfl, hr⟩
  | (i, x) :: l, cs, zs, k, hr, h => by
    simp only [fillF, AV.f_eq] at h
    obtain ⟨f, hf, h⟩ := nthF_of h
    obtain ⟨vs, h, hvs⟩ := cellsF_of (hI.eval x) h
    cases e : Nat.beq vs.length f.2.1 with
    | false => rw [e] at h; exact h.elim
    | true =>
      rw [e] at h
      have hlen := Nat.eq_of_beq_eq_true e
      obtain ⟨hsp, h⟩ := spliceF_of h
      have hl2 := hvs.length
      have hl3 := hr.length
      simp only [Array.length_toList] at hl2 hl3
      have hfold := fold_arr (a.eval x).cells f.1 zs (by omega)
      have hr' := hr.splice hvs f.1
      simp only [Array.length_toList] at hr'
      rw [← hfold] at hr'
      obtain ⟨cs', zs', h1, h2, h3⟩ := fill_of hI hpl l _ _ k hr' h
      refine ⟨cs', zs', h1, ?_, h3⟩
      simp only [List.map_cons, Instr.fill, hpl i f hf]
      have c1 : ¬ ((a.eval x).cells.size ≠ f.2.1 || decide (f.1 + (a.eval x).cells.size > zs.size)) = true := by
        simp only [ne_eq, Bool.or_eq_true, decide_eq_true_eq]
        omega
      rw [if_neg c1]
      exact h2

theorem places_run : ∀ (fs : List Field), (∀ f ∈ fs, ∃ j, P.info? f.type = some j) →
    ((fs.mapM fun f => (do pure (f.offset, ← sizeOf f.type) : Sem (Nat × Nat)))).run P w = .ok (fs.map fun f => (f.offset, sizeP P f.type)) w
  | [], _ => by simp
  | f :: fs, h => by
    obtain ⟨j, hj⟩ := h f (by simp)
    have ih := places_run fs (fun g hg => h g (by simp [hg]))
    simp only [List.mapM_cons, Sem.run_bind, sizeOf, typeInfo, run_program, Result.andThen_ok, hj, Sem.run_pure, sizeP, Option.map_some, Option.getD_some, List.map_cons] at ih ⊢
    rw [ih]
    rfl

theorem pop_build (hE : EnvOK P E) {T : Nat} {parts : Array (Nat × Operand)} (hop : o.op = .build T parts) (hI : Inv X w0 β S tm hp a w) (hK : Serves X w0 β S tm hp a o k K) (h : pop E o.op tm hp k) : o.wp P a w K Q := by
  rw [hop] at h
  simp only [pop] at h
  obtain ⟨ti, hti, h⟩ := tiGet_of h
  have ht := hE.ty _ _ hti
  obtain ⟨i, z, d, h1, h2, h3, h4, h5, h6⟩ := tiOf_info ht
  split at h
  · exact h.elim
  · rename_i f fs hfs
    rw [constsF_eq] at h
    obtain ⟨gs, g1, g2, g3⟩ := tiOf_struct ht (by simp [hfs])
    simp only at g2 h5
    have hpl : ∀ (i : Nat) (f' : Nat × Nat × Bool), (f :: fs)[i]? = some f' → (fun i : Nat => (gs.map fun g : Field => (g.offset, sizeP P g.type))[i]?) i = some (f'.1, f'.2.1) := by
      intro i f' hf'
      rw [← hfs, ← g2, List.getElem?_map] at hf'
      obtain ⟨g, hg, rfl⟩ := Option.map_eq_some_iff.1 hf'
      simp only [Array.getElem?_map]
      rw [← Array.getElem?_toList, hg]
      rfl
    have hz : RelVs β S w (ti.zero.map constV) z.cells.toList := by rw [h5]; exact RelVs.consts _
    obtain ⟨cs', zs', k1, k2, k3⟩ := fill_of hI hpl parts.toList _ z.cells _ hz h
    refine pop_plain (u := .agg zs'.toList.toArray) hI hK k1 ⟨zs'.toList, rfl, k3⟩ ?_
    have hm : (gs.mapM fun f => (do pure (f.offset, ← sizeOf f.type) : Sem (Nat × Nat))).run P w = .ok (gs.map fun f => (f.offset, sizeP P f.type)) w := by
      have := places_run (P := P) (w := w) gs.toList g3
      obtain ⟨gl⟩ := gs
      rw [List.mapM_toArray]
      simp only [Sem.run_map] at this ⊢
      rw [this]
      simp
    have hparts : (parts.map fun (i, x) => (i, a.eval x)).toList = parts.toList.map fun p => (p.1, a.eval p.2) := by simp
    simp only [execOp, hop, Sem.run_bind, Instr.build, zeroValue, typeInfo, run_program, Result.andThen_ok, h1, Sem.run_pure, h2, run_underlying g1, hm]
    rw [hparts, k2]
    simp

theorem decF_of {τ : ET} {cs : List AV} {us : List Value} (hr : RelVs β S w cs us) {k : τ.T → Prop} (h : decF τ cs k) : ∃ e, k e ∧ us = (τ.enc e).map CV.v := by
  unfold decF at h
  split at h
  · obtain ⟨u, us, rfl, h1, h2⟩ := hr; simp only [RelV] at h1; simp only [RelVs] at h2; subst h1 h2; exact ⟨_, h, rfl⟩
  · obtain ⟨u, us, rfl, h1, h2⟩ := hr; simp only [RelV] at h1; simp only [RelVs] at h2; subst h1 h2; exact ⟨_, h, rfl⟩
  · obtain ⟨u, us, rfl, h1, h2⟩ := hr; simp only [RelV] at h1; simp only [RelVs] at h2; subst h1 h2; exact ⟨_, h, rfl⟩
  · obtain ⟨u1, us, rfl, h1, u2, us, rfl, h2, u3, us, rfl, h3, u4, us, rfl, h4, u5, us, rfl, h5, h6⟩ := hr
    simp only [RelV] at h1 h2 h3 h4 h5; simp only [RelVs] at h6; subst h1 h2 h3 h4 h5 h6; exact ⟨_, h, rfl⟩
  · obtain ⟨u1, us, rfl, h1, u2, us, rfl, h2, h6⟩ := hr
    simp only [RelV] at h1 h2; simp only [RelVs] at h6; subst h1 h2 h6; exact ⟨_, h, rfl⟩
  · exact h.elim

theorem elems_of (hI : Inv X w0 β S tm hp a w) {τ : ET} : ∀ (l : List (Nat × Operand)) (i : Nat) (cells : Array Value) (k : List τ.T → Prop),
    cells.size = (i + l.length) * τ.size → elemsF τ tm i l k →
      ∃ es cells', k es ∧ es.length = l.length ∧ Instr.fill (fun i => some (i * τ.size, τ.size)) cells (l.map fun p => (p.1, a.eval p.2)) = some cells' ∧
        cells'.toList = cells.toList.take (i * τ.size) ++ cellsOf τ es
  | [], i, cells, k, hs, h => ⟨[], cells, h, rfl, rfl, by
      have : cells.toList.take (i * τ.size) = cells.toList := List.take_of_length_le (by simp [hs])
      simp [cellsOf, this]⟩
  | (j, x) :: l, i, cells, k, hs, h => by
    simp only [elemsF] at h
    cases e : Nat.beq i j with
    | false => rw [e] at h; exact h.elim
    | true =>
      rw [e] at h
      obtain rfl := Nat.eq_of_beq_eq_true e
      obtain ⟨cs, h, hcs⟩ := cellsF_of (hI.eval x) h
      obtain ⟨el, h, hel⟩ := decF_of hcs h
      have hsz : (a.eval x).cells.size = τ.size := by
        have := congrArg List.length hel
        simpa [enc_length] using this
      have hroom : i * τ.size + (a.eval x).cells.size ≤ cells.size := by
        rw [hsz, hs, List.length_cons, ← Nat.succ_mul]
        exact Nat.mul_le_mul_right _ (by omega)
      have hfold := fold_arr (a.eval x).cells (i * τ.size) cells hroom
      have hsize : ((a.eval x).cells.zipIdx.foldl (fun cs p => cs.setIfInBounds (i * τ.size + p.2) p.1) cells).size = (i + 1 + l.length) * τ.size := by
        have h1 := congrArg List.length hfold
        simp only [Array.length_toList, List.length_append, List.length_take, List.length_drop] at h1
        rw [h1, hs] at *
        simp only [List.length_cons] at *
        rw [show i + 1 + l.length = i + (l.length + 1) by omega]
        omega
      obtain ⟨es, cells', h1, h2, h3, h4⟩ := elems_of hI l (i + 1) _ _ hsize h
      refine ⟨el :: es, cells', h1, by simp [h2], ?_, ?_⟩
      · simp only [List.map_cons, Instr.fill]
        have c1 : ¬ ((a.eval x).cells.size ≠ τ.size || decide (i * τ.size + (a.eval x).cells.size > cells.size)) = true := by
          simp only [ne_eq, Bool.or_eq_true, decide_eq_true_eq]
          omega
        rw [if_neg c1]
        exact h3
      · rw [h4, hfold, cellsOf_cons, ← hel]
        have hl : (cells.toList.take (i * τ.size) ++ (a.eval x).cells.toList).length = (i + 1) * τ.size := by
          rw [List.length_append, List.length_take, Array.length_toList, Array.length_toList, Nat.succ_mul]
          omega
        rw [List.take_append_of_le_length (by omega), List.take_of_length_le (by omega)]
        simp

theorem cells_range (zero : Array Value) (n : Nat) : ((Array.range n).map (zero[· % zero.size]!)).size = n := by simp

theorem Inv.alloc_new (hI : Inv X w0 β S tm hp a w) (ob : Obj) : Inv X w0 β (after S w (w.alloc ob)) tm hp a (w.alloc ob) :=
  hI.grow rfl rfl rfl (by simp) (fun b hb => Go.RowKit.Below.heap_alloc w ob b hb)

theorem alloc_at (w : World) (ob : Obj) : (w.alloc ob).heap[w.heap.size]? = some ob := by
  show (w.heap.push ob)[w.heap.size]? = _
  simp

theorem pop_buildSlice (hE : EnvOK P E) {T n : Nat} {parts : Array (Nat × Operand)} (hop : o.op = .buildSlice T n parts) (hI : Inv X w0 β S tm hp a w) (hK : Serves X w0 β S tm hp a o k K) (h : pop E o.op tm hp k) : o.wp P a w K Q := by
  rw [hop] at h
  simp only [pop] at h
  obtain ⟨ti, hti, h⟩ := tiGet_of h
  split at h
  · rename_i τ hτ
    split at h
    · rename_i hn
      simp only [Bool.and_eq_true] at hn
      obtain ⟨hn1, hn2⟩ := hn
      have hn1 := Nat.eq_of_beq_eq_true hn1
      have hn2 := Nat.le_of_ble_eq_true hn2
      obtain ⟨j, z, h1, h2, h3, h4, h5, h6⟩ := tiOf_elem (hE.ty _ _ hti) (τ := τ) (by simpa using hτ)
      let cells : Array Value := (Array.range (n * τ.size)).map (z.cells[· % z.cells.size]!)
      obtain ⟨es, cells', k1, k2, k3, k4⟩ := elems_of (τ := τ) hI parts.toList 0 cells _ (by simp only [cells, cells_range]; rw [hn1, Nat.zero_add]) h
      have hce : cells' = (cellsOf τ es).toArray := by
        apply Array.ext'
        rw [k4]
        simp
      have hlim : ¬ n * τ.size > 2 ^ 24 := by
        have : τ.size ≤ 5 := by cases τ <;> decide
        have : n * τ.size ≤ 100000 * 5 := Nat.mul_le_mul hn2 this
        omega
      have hp1 : (parts.map fun x => (x.1, a.eval x.2)).toList = parts.toList.map fun p => (p.1, a.eval p.2) := by simp
      rw [← hp1] at k3
      have hrun : (execOp a.eval o).run P w = .ok (.value (.slice (some ⟨w.heap.size, 0, none⟩) n n)) (w.alloc (.cells cells' τ.tid)) := by
        simp only [execOp, hop, Sem.run_bind, Instr.buildSlice, run_underlying h1, Result.andThen_ok, sizeOf, typeInfo, run_program, h2, Sem.run_pure, h4, Sem.run_ite, if_neg hlim]
        split
        · rename_i h0
          have e0 : cells = (Array.range (n * τ.size)).map ((#[] : Array Value)[· % (#[] : Array Value).size]!) := by simp [cells, h0]
          rw [e0] at k3
          simp only [Sem.run_pure, Result.andThen_ok, k3]
          rfl
        · simp only [cells] at k3
          simp only [zeroValue, typeInfo, Sem.run_bind, run_program, Result.andThen_ok, h2, Sem.run_pure, h3, k3]
          rfl
      refine wp_value hrun (hK _ _ _ _ k1 (hI.alloc_new _) (fun b hb => ⟨by simp; have := hI.sb b hb; omega, .inl hb⟩) ?_)
      have hlen : es.length = n := by rw [k2, hn1]
      refine ⟨w.heap.size, by rw [hlen], ⟨by simp, .inr (Nat.le_refl _)⟩, by rw [alloc_at, hce], ?_⟩
      rw [hlen]
      exact Nat.le_trans hn2 (by decide)
    · exact h.elim
  · exact h.elim

end ops
end Go.Proofs.Ythakgbecpkfeoaa.Ev
