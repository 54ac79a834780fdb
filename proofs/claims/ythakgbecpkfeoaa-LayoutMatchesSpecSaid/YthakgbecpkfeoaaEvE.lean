/- The operations that change no object are told rightly: one lemma an operation. -/
import Derived.Test.YthakgbecpkfeoaaEvD
set_option linter.unusedVariables false
set_option linter.unusedSimpArgs false
namespace Go.Proofs.Ythakgbecpkfeoaa.Ev

theorem wp_value {P : Program} {o : Oper} {a : Act} {w w' : World} {K : Act → World → Prop} {Q : Exit → Act → World → Prop} {u : Value}
    (h : (execOp a.eval o).run P w = .ok (.value u) w') (hk : K (a.put o.dst u) w') : o.wp P a w K Q := by
  unfold Oper.wp
  rw [h]
  exact hk

section pops
variable {P : Program} {E : Env} {X : XR} {w0 : World} {β : Nat → Option Value} {S : Nat → Prop} {tm : List AV} {hp : Hp} {a : Act} {w : World}
variable {o : Oper} {K : Act → World → Prop} {Q : Exit → Act → World → Prop} {k : AV → Prop}

/-- What an operation's answer must serve. -/
def Serves (X : XR) (w0 : World) (β : Nat → Option Value) (S : Nat → Prop) (tm : List AV) (hp : Hp) (a : Act) (o : Oper) (k : AV → Prop) (K : Act → World → Prop) : Prop :=
  ∀ r u w' S', k r → Inv X w0 β S' tm hp a w' → (∀ b, S b → S' b) → RelV β S' w' r u → K (a.put o.dst u) w'

theorem pop_plain (hI : Inv X w0 β S tm hp a w) (hK : Serves X w0 β S tm hp a o k K) {r : AV} {u : Value} (hk : k r) (hr : RelV β S w r u)
    (h : (execOp a.eval o).run P w = .ok (.value u) w) : o.wp P a w K Q :=
  wp_value h (hK r u w S hk hI (fun _ x => x) hr)

theorem int_of {κ : IntKind} {n : Int} {x : Operand} (hI : Inv X w0 β S tm hp a w) (h : evalV tm x = .int κ n) : a.eval x = .int κ n := by
  have := hI.eval x; rw [h] at this; exact this
theorem bool_of {b : Bool} {x : Operand} (hI : Inv X w0 β S tm hp a w) (h : evalV tm x = .bool b) : a.eval x = .bool b := by
  have := hI.eval x; rw [h] at this; exact this
theorem str_of {s : ByteArray} {x : Operand} (hI : Inv X w0 β S tm hp a w) (h : evalV tm x = .str s) : a.eval x = .string s := by
  have := hI.eval x; rw [h] at this; exact this

theorem pop_move {x : Operand} (hop : o.op = .move x) (hI : Inv X w0 β S tm hp a w) (hK : Serves X w0 β S tm hp a o k K) (h : pop E o.op tm hp k) : o.wp P a w K Q := by
  rw [hop, pop, AV.f_eq] at h
  exact pop_plain hI hK h (hI.eval x) (by simp [execOp, hop])

theorem pop_assign {x : Operand} (hop : o.op = .assign x) (hI : Inv X w0 β S tm hp a w) (hK : Serves X w0 β S tm hp a o k K) (h : pop E o.op tm hp k) : o.wp P a w K Q := by
  rw [hop] at h
  have h' : k (evalV tm x) := by
    simp only [pop] at h
    split at h
    · exact h.elim
    · exact h.elim
    · rwa [AV.f_eq] at h
  exact pop_plain hI hK h' (hI.eval x) (by simp [execOp, hop])

theorem pop_pick {c x y : Operand} (hop : o.op = .pick c x y) (hI : Inv X w0 β S tm hp a w) (hK : Serves X w0 β S tm hp a o k K) (h : pop E o.op tm hp k) : o.wp P a w K Q := by
  rw [hop] at h
  simp only [pop] at h
  split at h
  · rename_i t ht
    have hc := bool_of hI ht
    cases t with
    | true =>
      simp only [AV.f_eq] at h
      exact pop_plain hI hK h (hI.eval x) (by simp [execOp, hop, hc, asBool])
    | false =>
      simp only [AV.f_eq] at h
      exact pop_plain hI hK h (hI.eval y) (by simp [execOp, hop, hc, asBool])
  · exact h.elim

/-- Cells of plain values. -/
theorem fitsK_cvs : ∀ {ks : List CK} {l : List AV}, fitsK ks l = true → ∃ cs : List CV, l = cs.map CV.av ∧ CKms ks cs = true
  | [], [], _ => ⟨[], rfl, rfl⟩
  | [], _ :: _, h => by simp [fitsK] at h
  | k :: ks, [], h => by cases k <;> simp [fitsK] at h
  | k :: ks, v :: l, h => by
    cases k with
    | int κ =>
      cases v with
      | int κ' n =>
        simp only [fitsK] at h
        cases e : kindEq κ κ' with
        | true =>
          rw [e] at h
          obtain ⟨cs, h1, h2⟩ := fitsK_cvs h
          exact ⟨.int κ' n :: cs, by simp [h1, CV.av], by simp [CKms, CKm, e, h2]⟩
        | false => rw [e] at h; simp at h
      | _ => simp [fitsK] at h
    | bool =>
      cases v with
      | bool b =>
        obtain ⟨cs, h1, h2⟩ := fitsK_cvs (ks := ks) (l := l) (by simpa [fitsK] using h)
        exact ⟨.bool b :: cs, by simp [h1, CV.av], by simp [CKms, CKm, h2]⟩
      | _ => simp [fitsK] at h
    | str =>
      cases v with
      | str b =>
        obtain ⟨cs, h1, h2⟩ := fitsK_cvs (ks := ks) (l := l) (by simpa [fitsK] using h)
        exact ⟨.str b :: cs, by simp [h1, CV.av], by simp [CKms, CKm, h2]⟩
      | _ => simp [fitsK] at h

theorem RelVs.cvs_inv {cs : List CV} {vs : List Value} (h : RelVs β S w (cs.map CV.av) vs) : vs = cs.map CV.v := by
  induction cs generalizing vs with
  | nil => simpa [RelVs] using h
  | cons c cs ih =>
    obtain ⟨v, us, rfl, h1, h2⟩ := h
    rw [ih h2]
    cases c <;> simp only [CV.av, RelV] at h1 <;> subst h1 <;> rfl

theorem eqCs_of : ∀ {ks : List CK} {cs ds : List CV} {k : Bool → Prop}, CKms ks cs = true → CKms ks ds = true → eqCs (cs.map CV.av) (ds.map CV.av) k → k (eqCVs cs ds)
  | [], [], [], _, _, _, h => h
  | [], _ :: _, _, _, h, _, _ => by simp [CKms] at h
  | [], [], _ :: _, _, _, h, _ => by simp [CKms] at h
  | _ :: _, [], _, _, h, _, _ => by simp [CKms] at h
  | _ :: _, _ :: _, [], _, _, h, _ => by simp [CKms] at h
  | q :: ks, c :: cs, d :: ds, k, h1, h2, h => by
    simp only [CKms, Bool.and_eq_true] at h1 h2
    cases c <;> cases d <;> cases q <;> simp only [CKm, Bool.false_eq_true, false_and] at h1 h2 <;>
      (simp only [List.map_cons, CV.av, eqCs, eqC] at h
       have := eqCs_of h1.2 h2.2 h
       simpa [eqCVs, eqCV] using this)

theorem eqGuard_agg {op : BinOp} {T : Nat} {x y : Operand} {vs us : Array Value} (hg : P.eqGuardType P.depth T = false) :
    (eqGuard op T x y (.agg vs) (.agg us)).run P w = .ok () w := by
  unfold eqGuard
  cases op <;> simp [hg]

theorem binF_run (hE : EnvOK P E) {op : BinOp} {T : Nat} {x y : Operand} {vx vy : AV} {ux uy : Value} (hx : RelV β S w vx ux) (hy : RelV β S w vy uy) {k : AV → Prop} (h : binF E op T vx vy k) :
    ∃ r u, k r ∧ RelV β S w r u ∧ (eqGuard op T x y ux uy).run P w = .ok () w ∧ (binOp op T ux uy).run P w = .ok u w := by
  unfold binF at h
  split at h
  · rename_i κ m κ' n
    simp only [RelV] at hx hy
    subst hx hy
    have hg : (eqGuard op T x y (.int κ m) (.int κ' n)).run P w = .ok () w := by unfold eqGuard; cases op <;> simp
    split at h
    · refine ⟨_, _, h.2, rfl, hg, ?_⟩
      have : ¬ n < 0 := by omega
      simp [binOp, Op.shift, this, shlV]
    · refine ⟨_, _, h.2, rfl, hg, ?_⟩
      have : ¬ n < 0 := by omega
      simp [binOp, Op.shift, this, shrV]
    · rename_i hn1 hn2
      split at h
      · rename_i he
        obtain rfl := kindEq_of he
        unfold intBin at h
        split at h
        case h_4 => exact ⟨_, _, h.2, rfl, hg, by simp [binOp, Op.intDiv, h.1]⟩
        case h_5 => exact ⟨_, _, h.2, rfl, hg, by simp [binOp, Op.intDiv, h.1]⟩
        case h_6 => exact ⟨_, _, h, rfl, hg, by simp [binOp, Op.intBits, bitsV]⟩
        case h_7 => exact ⟨_, _, h, rfl, hg, by simp [binOp, Op.intBits, bitsV]⟩
        case h_14 => exact h.elim
        all_goals exact ⟨_, _, h, rfl, hg, by simp [binOp, Op.intArith, Op.intCmp]⟩
      · exact h.elim
  · rename_i m n
    simp only [RelV] at hx hy
    subst hx hy
    have hg : (eqGuard op T x y (.bool m) (.bool n)).run P w = .ok () w := by unfold eqGuard; cases op <;> simp
    split at h
    · rename_i e
      obtain rfl := Nat.eq_of_beq_eq_true e
      exact ⟨_, _, h, rfl, hg, by simp [binOp, Op.equal, Op.maxDepth, run_equalIn_bool' w 9999 4 m n hE.u4]⟩
    · rename_i e
      obtain rfl := Nat.eq_of_beq_eq_true e
      exact ⟨_, _, h, rfl, hg, by simp [binOp, Op.equal, Op.maxDepth, run_equalIn_bool' w 9999 4 m n hE.u4]⟩
    · exact h.elim
  · rename_i m n
    simp only [RelV] at hx hy
    subst hx hy
    have hg : (eqGuard op T x y (.string m) (.string n)).run P w = .ok () w := by unfold eqGuard; cases op <;> simp
    split at h
    · exact ⟨_, _, h, rfl, hg, by simp [binOp, Op.stringOp]⟩
    · exact ⟨_, _, h, rfl, hg, by simp [binOp, Op.stringOp]⟩
    · exact h.elim
  · rename_i l m
    obtain ⟨ti, hti, h⟩ := tiGet_of h
    split at h
    · rename_i hl hm ks
      obtain ⟨cs, rfl, hcs⟩ := fitsK_cvs hl
      obtain ⟨ds, rfl, hds⟩ := fitsK_cvs hm
      obtain ⟨vs, rfl, hvs⟩ := hx
      obtain ⟨us, rfl, hus⟩ := hy
      obtain rfl := RelVs.cvs_inv hvs
      obtain rfl := RelVs.cvs_inv hus
      obtain ⟨h1, h2⟩ := hE.eq T ti hti (by simp [ks]) cs ds w hcs hds
      split at h
      · have h' := eqCs_of hcs hds h
        exact ⟨_, _, h', rfl, eqGuard_agg h2, by simp [binOp, h1]⟩
      · have h' := eqCs_of hcs hds h
        exact ⟨_, _, h', rfl, eqGuard_agg h2, by simp [binOp, h1]⟩
      · exact h.elim
    · exact h.elim
  · exact h.elim

theorem pop_binOp (hE : EnvOK P E) {op : BinOp} {T : Nat} {x y : Operand} {T' : Nat} (hop : o.op = .binOp op T x y T') (hI : Inv X w0 β S tm hp a w) (hK : Serves X w0 β S tm hp a o k K) (h : pop E o.op tm hp k) : o.wp P a w K Q := by
  rw [hop] at h
  simp only [pop, AV.f_eq] at h
  obtain ⟨r, u, hk, hr, h1, h2⟩ := binF_run hE (x := x) (y := y) (hI.eval x) (hI.eval y) h
  exact pop_plain hI hK hk hr (by simp [execOp, hop, h1, h2])

theorem pop_unOp {op : UnOp} {T : Nat} {x : Operand} (hop : o.op = .unOp op T x) (hI : Inv X w0 β S tm hp a w) (hK : Serves X w0 β S tm hp a o k K) (h : pop E o.op tm hp k) : o.wp P a w K Q := by
  rw [hop] at h
  simp only [pop] at h
  split at h
  · rename_i b hb
    exact pop_plain hI hK h rfl (by simp [execOp, hop, bool_of hI hb, Op.unary])
  · rename_i κ n hn
    exact pop_plain hI hK h rfl (by simp [execOp, hop, int_of hI hn, Op.unary, Op.intArith])
  · exact h.elim

theorem pop_convert (hE : EnvOK P E) {s d : Nat} {x : Operand} (hs : ∃ D, P.underlying s = some D) (hop : o.op = .convert s d x) (hI : Inv X w0 β S tm hp a w) (hK : Serves X w0 β S tm hp a o k K) (h : pop E o.op tm hp k) : o.wp P a w K Q := by
  rw [hop] at h
  simp only [pop] at h
  split at h
  · rename_i κ n hn
    obtain ⟨ti, hti, h⟩ := tiGet_of h
    split at h
    · rename_i κ' hκ
      have hu := tiOf_ik (hE.ty _ _ hti) (κ := κ') (by simpa using hκ)
      obtain ⟨D, hD⟩ := hs
      exact pop_plain hI hK h rfl (by simp [execOp, hop, int_of hI hn, convert, run_underlying hD, run_underlying hu, Conv.intToInt])
    · exact h.elim
  · exact h.elim

theorem pop_extract {x : Operand} {i : Nat} (hop : o.op = .extract x i) (hI : Inv X w0 β S tm hp a w) (hK : Serves X w0 β S tm hp a o k K) (h : pop E o.op tm hp k) : o.wp P a w K Q := by
  rw [hop] at h
  simp only [pop] at h
  split at h
  · rename_i l hl
    obtain ⟨hi, h⟩ := nthA_of h
    have hx := hI.eval x
    rw [hl] at hx
    obtain ⟨vs, hv, hr⟩ := hx
    obtain ⟨u, h1, h2⟩ := hr.get i hi
    exact pop_plain hI hK h h2 (by simp [execOp, hop, hv, Instr.extract, h1])
  · exact h.elim

/-- A box's cells, in memory. -/
theorem box_cells (hI : Inv X w0 β S tm hp a w) {p : Nat} {cs : List AV} (hm : (p, .box cs) ∈ hp) {g : Nat} (hg : β p = some (.pointer (some ⟨g, 0, none⟩))) :
    ∃ T vs, w.heap[g]? = some (.cells vs T (0, 0)) ∧ RelVs β S w cs vs.toList := by
  obtain ⟨g', T, vs, h1, _, _, h4, h5⟩ := hI.box p cs hm
  rw [hg] at h1
  simp only [Option.some.injEq, Value.pointer.injEq, Addr.mk.injEq, and_true] at h1
  subst h1
  exact ⟨T, vs, h4, h5⟩

theorem load_run {T : Nat} {ti : TI} (ht : tiOf P T = some ti) {b : Addr} {vs : List Value} (hl : vs.length = ti.size) (hc : ∀ j v, vs[j]? = some v → w.cell? (b.add j) = some v) {l : List AV} (hr : RelVs β S w l vs)
    {k : AV → Prop} (h : shapeF ti.agg l k) : ∃ r u, k r ∧ RelV β S w r u ∧ (Instr.loadAt T (.pointer (some b))).run P w = .ok u w := by
  obtain ⟨i, z, d, h1, h2, h3, h4, h5, h6⟩ := tiOf_info ht
  have hsz : (loadCells b ti.size).run P w = .ok vs.toArray w := by rw [← hl]; exact run_loadCells_list w b vs hc
  have hagg : (isAgg T).run P w = .ok ti.agg w := by
    unfold isAgg
    simp only [Sem.run_bind, run_underlying h3, Result.andThen_ok]
    rw [← h6]
    cases d <;> rfl
  unfold shapeF at h
  split at h
  · rename_i hb
    refine ⟨.agg l, .agg vs.toArray, h, ⟨vs, rfl, hr⟩, ?_⟩
    simp [Instr.loadAt, Instr.sureAddr, loadVar, hagg, hb, sizeOf, typeInfo, h1, h4, hsz]
  · rename_i hb
    split at h
    · rename_i x
      obtain ⟨v, us, rfl, hx, hn⟩ := hr
      simp only [RelVs] at hn
      subst hn
      rw [AV.f_eq] at h
      have h0 := hc 0 v rfl
      have e : b.add 0 = b := by simp [Addr.add]
      rw [e] at h0
      exact ⟨x, v, h, hx, by simp [Instr.loadAt, Instr.sureAddr, loadVar, hagg, hb, h0]⟩
    · exact h.elim

theorem cells_at {g off n : Nat} {T : Nat} {vs : Array Value} (hg : w.heap[g]? = some (.cells vs T (0, 0))) (j : Nat) (v : Value) (h : ((vs.toList.drop off).take n)[j]? = some v) :
    w.cell? ((⟨g, off, none⟩ : Addr).add j) = some v := by
  rw [add_off]
  simp only [World.cell?, hg, Option.isSome_none, Bool.false_eq_true, if_false]
  rw [List.getElem?_take] at h
  split at h
  · rw [List.getElem?_drop] at h
    rw [← Array.getElem?_toList]
    exact h
  · simp at h

theorem pop_load (hE : EnvOK P E) {T : Nat} {x : Operand} (hop : o.op = .load T x) (hI : Inv X w0 β S tm hp a w) (hK : Serves X w0 β S tm hp a o k K) (h : pop E o.op tm hp k) : o.wp P a w K Q := by
  rw [hop] at h
  simp only [pop] at h
  have hx := hI.eval x
  split at h
  · rename_i p off hv
    rw [hv] at hx
    obtain ⟨g, hg, hxv⟩ := hx
    obtain ⟨ti, hti, h⟩ := tiGet_of h
    obtain ⟨ao, hao, h⟩ := hget_of h
    split at h
    · rename_i cs
      obtain ⟨T', vs, hh, hr⟩ := box_cells hI hao hg
      obtain ⟨hd1, h⟩ := dropF_of h
      obtain ⟨hd2, h⟩ := takeF_of h
      have hr' := (hr.drop off).take ti.size
      have hl : ((vs.toList.drop off).take ti.size).length = ti.size := by rw [← hr'.length]; simp at hd2 ⊢; omega
      obtain ⟨r, u, hk, hru, hrun⟩ := load_run (hE.ty _ _ hti) (b := ⟨g, off, none⟩) hl (fun j v hj => cells_at hh j v hj) hr' h
      exact pop_plain hI hK hk hru (by simp [execOp, hop, hxv, hrun])
    · exact h.elim
  · rename_i cs hv
    rw [hv] at hx
    obtain ⟨b, hb, _, hc⟩ := hx
    obtain ⟨ti, hti, h⟩ := tiGet_of h
    obtain ⟨hl, h⟩ := takeC_of h
    obtain ⟨r, u, hk, hru, hrun⟩ := load_run (hE.ty _ _ hti) (b := b) (vs := (cs.take ti.size).map CV.v) (by simp; omega) (fun j v hj => by
      rw [List.getElem?_map] at hj
      obtain ⟨c, hc1, rfl⟩ := Option.map_eq_some_iff.1 hj
      rw [List.getElem?_take] at hc1
      split at hc1
      · exact hc j c hc1
      · simp at hc1) (RelVs.cvs (β := β) (S := S) (w := w) (cs.take ti.size)) h
    exact pop_plain hI hK hk hru (by simp [execOp, hop, hb, hrun])
  · rename_i p i hv
    rw [hv] at hx
    obtain ⟨g, n, c, hg, hxv⟩ := hx
    split at h
    · rename_i e
      obtain rfl := Nat.eq_of_beq_eq_true e
      obtain ⟨ao, hao, h⟩ := hget_of h
      split at h
      · rename_i xs
        obtain ⟨hi, h⟩ := h
        obtain ⟨v, hv1, hv2⟩ := hI.arr p _ _ hao
        rw [hg] at hv1
        obtain rfl : Value.slice (some ⟨g, 0, none⟩) n c = v := by simpa using hv1
        rcases hv2 with ⟨rfl, _⟩ | ⟨g', cap, cur, he, _, _, hh, _, _, _, htake⟩
        · simp at hi
        · simp only [Value.slice.injEq, Option.some.injEq, Addr.mk.injEq, and_true] at he
          obtain ⟨rfl, rfl, rfl⟩ := he
          have hcell : w.cell? ⟨g, i, none⟩ = some (.int .i64 (xs.getD i (0 : Int))) := by
            have h1 := cellsOf_at .i64 xs i 0 (.int .i64 (xs.getD i (0 : Int))) hi rfl
            rw [← htake] at h1
            simp only [ET.size, Nat.mul_one, Nat.add_zero] at h1
            rw [List.getElem?_take] at h1
            split at h1
            · simp only [World.cell?, hh, Option.isSome_none, Bool.false_eq_true, if_false]
              rw [← Array.getElem?_toList]
              exact h1
            · rename_i hni; exact absurd hi hni
          have hagg : (isAgg 3).run P w = .ok false w := by
            unfold isAgg
            simp only [Sem.run_bind, run_underlying hE.u3, Result.andThen_ok]
            rfl
          exact pop_plain hI hK h rfl (by simp [execOp, hop, hxv, Instr.loadAt, Instr.sureAddr, loadVar, hagg, hcell])
      · exact h.elim
    · exact h.elim
  · exact h.elim

theorem field_run {T : Nat} {ti : TI} (ht : tiOf P T = some ti) {i : Nat} {f : Nat × Nat × Bool} (hf : ti.fields[i]? = some f) (b : Addr) :
    (Instr.fieldAt T (.pointer (some b)) i).run P w = .ok (.pointer (some (b.add f.1))) w := by
  obtain ⟨fs, g, h1, _, h2, h3, ⟨j, h4, h5⟩, h6, _⟩ := tiOf_field ht hf
  have : ¬ f.2.1 = 0 := by omega
  simp [Instr.fieldAt, run_underlying h1, h2, Instr.sureAddr, fieldPlace, sizeOf, typeInfo, h4, h5, this, h3]

theorem pop_fieldAddr (hE : EnvOK P E) {T i : Nat} {x : Operand} (hop : o.op = .fieldAddr T x i) (hI : Inv X w0 β S tm hp a w) (hK : Serves X w0 β S tm hp a o k K) (h : pop E o.op tm hp k) : o.wp P a w K Q := by
  rw [hop] at h
  simp only [pop] at h
  have hx := hI.eval x
  split at h
  · rename_i p off hv
    rw [hv] at hx
    obtain ⟨g, hg, hxv⟩ := hx
    obtain ⟨ti, hti, h⟩ := tiGet_of h
    obtain ⟨f, hf, h⟩ := nthF_of h
    have := field_run (w := w) (hE.ty _ _ hti) (i := i) (f := f) (by simpa using hf) ⟨g, off, none⟩
    rw [add_off] at this
    exact pop_plain hI hK h ⟨g, hg, rfl⟩ (by simp [execOp, hop, hxv, this])
  · rename_i cs hv
    rw [hv] at hx
    obtain ⟨b, hb, hs, hc⟩ := hx
    obtain ⟨ti, hti, h⟩ := tiGet_of h
    obtain ⟨f, hf, h⟩ := nthF_of h
    obtain ⟨hd, h⟩ := dropC_of h
    have := field_run (w := w) (hE.ty _ _ hti) (i := i) (f := f) (by simpa using hf) b
    refine pop_plain hI hK h ⟨b.add f.1, rfl, by rw [add_block]; exact hs, fun j c hj => ?_⟩ (by simp [execOp, hop, hb, this])
    rw [add_add]
    exact hc _ _ (by rw [List.getElem?_drop] at hj; exact hj)
  · exact h.elim

theorem part_run {T : Nat} {d : TypeDesc} {n : Nat} (hu : P.underlying T = some d) {j : TypeInfo} (hj : P.info? T = some j) (hn : j.size = n) {vs : List Value} {off : Nat} {l : List AV} (hlen : off + n ≤ vs.length) (hr : RelVs β S w l ((vs.drop off).take n))
    {k : AV → Prop} (h : shapeF (aggD d) l k) : ∃ r u, k r ∧ RelV β S w r u ∧ (part T vs.toArray off).run P w = .ok u w := by
  have hagg : (isAgg T).run P w = .ok (aggD d) w := by
    unfold isAgg
    simp only [Sem.run_bind, run_underlying hu, Result.andThen_ok]
    cases d <;> rfl
  unfold shapeF at h
  split at h
  · rename_i hb
    refine ⟨.agg l, .agg ((vs.drop off).take n).toArray, h, ⟨_, rfl, hr⟩, ?_⟩
    simp only [part, Sem.run_bind, hagg, hb, Result.andThen_ok, if_true, sizeOf, typeInfo, run_program, hj, Sem.run_pure, hn]
    congr 2
    simp [List.extract_eq_take_drop]
  · rename_i hb
    split at h
    · rename_i x
      obtain ⟨v, us, he, hx, hn'⟩ := hr
      rw [AV.f_eq] at h
      have h0 : vs[off]? = some v := by
        have : ((vs.drop off).take n)[0]? = some v := by rw [he]; rfl
        rw [List.getElem?_take] at this
        split at this
        · rw [List.getElem?_drop] at this; simpa using this
        · simp at this
      exact ⟨x, v, h, hx, by simp [part, hagg, hb, h0]⟩
    · exact h.elim

theorem pop_field (hE : EnvOK P E) {T i : Nat} {x : Operand} (hop : o.op = .field T x i) (hI : Inv X w0 β S tm hp a w) (hK : Serves X w0 β S tm hp a o k K) (h : pop E o.op tm hp k) : o.wp P a w K Q := by
  rw [hop] at h
  simp only [pop] at h
  have hx := hI.eval x
  split at h
  · rename_i l hl
    rw [hl] at hx
    obtain ⟨vs, hv, hr⟩ := hx
    obtain ⟨ti, hti, h⟩ := tiGet_of h
    obtain ⟨f, hf, h⟩ := nthF_of h
    obtain ⟨fs, g, h1, _, h2, h3, ⟨j, h4, h5⟩, h6, d, h7, h8⟩ := tiOf_field (hE.ty _ _ hti) (i := i) (f := f) (by simpa using hf)
    obtain ⟨hd1, h⟩ := dropF_of h
    obtain ⟨hd2, h⟩ := takeF_of h
    rw [← h8] at h
    have hl2 := hr.length
    obtain ⟨r, u, hk, hru, hrun⟩ := part_run h7 h4 h5 (vs := vs) (off := f.1) (by simp at hd2; omega) ((hr.drop f.1).take f.2.1) h
    exact pop_plain hI hK hk hru (by simp [execOp, hop, hv, Instr.field, run_underlying h1, h2, asAgg, h3, hrun])
  · exact h.elim

theorem pop_nilCheck {x : Operand} (hop : o.op = .nilCheck x) (hI : Inv X w0 β S tm hp a w) (hK : Serves X w0 β S tm hp a o k K) (h : pop E o.op tm hp k) : o.wp P a w K Q := by
  rw [hop] at h
  simp only [pop] at h
  have hx := hI.eval x
  split at h
  · rename_i hv
    rw [hv] at hx
    obtain ⟨g, h1, h2⟩ := hx
    exact pop_plain hI hK h ⟨g, h1, h2⟩ (by simp [execOp, hop, h2])
  · rename_i hv
    rw [hv] at hx
    obtain ⟨g, h1, h2⟩ := hx
    exact pop_plain hI hK h ⟨g, h1, h2⟩ (by simp [execOp, hop, h1])
  · rename_i hv
    rw [hv] at hx
    exact pop_plain hI hK h hx (by simp only [RelV] at hx; simp [execOp, hop, hx])
  · rename_i hv
    rw [hv] at hx
    obtain ⟨cs, h1, h2⟩ := hx
    exact pop_plain hI hK h ⟨cs, h1, h2⟩ (by simp [execOp, hop, h1])
  · exact h.elim

theorem index_run (hE : EnvOK P E) {T : Nat} {ti : TI} (hti : (T, ti) ∈ E.tys) {τ : ET} (he : ti.elem = some τ) {b : Addr} {len cap : Nat} {κ : IntKind} {n : Int} (h0 : 0 ≤ n) (h1 : n < len) :
    (Instr.indexAt T (.slice (some b) len cap) (.int κ n)).run P w = .ok (.pointer (some (b.add (n.toNat * τ.size)))) w := by
  obtain ⟨j, z, h2, h3, h4, h5, h6, h7⟩ := tiOf_elem (hE.ty _ _ hti) (τ := τ) (by simpa using he)
  simp [Instr.indexAt, asIntOf, run_underlying h2, h0, h1, sizeOf, typeInfo, h3, h5]

theorem pop_indexAddr (hE : EnvOK P E) {T : Nat} {x i : Operand} (hop : o.op = .indexAddr T x i) (hI : Inv X w0 β S tm hp a w) (hK : Serves X w0 β S tm hp a o k K) (h : pop E o.op tm hp k) : o.wp P a w K Q := by
  rw [hop] at h
  simp only [pop] at h
  have hx := hI.eval x
  split at h
  · rename_i κ n hn
    have hi := int_of hI hn
    split at h
    · rename_i τ xs hv
      rw [hv] at hx
      obtain ⟨A, c, hxv, hc, _, hr⟩ := hx
      obtain ⟨ti, hti, h⟩ := tiGet_of h
      split at h
      · rename_i he
        obtain ⟨⟨h0, h1⟩, h⟩ := h
        have hlt : n.toNat < xs.length := by omega
        have hne : cellsOf τ xs ≠ [] := by
          intro e
          have := cellsOf_length τ xs
          rw [e] at this
          have hs := size_pos τ
          have : 0 < xs.length * τ.size := Nat.mul_pos (by omega) hs
          simp at *
          omega
        obtain ⟨b, rfl, hs, hcell⟩ := hr hne
        refine pop_plain hI hK h ⟨b.add (n.toNat * τ.size), rfl, by rw [add_block]; exact hs, fun j c hj => ?_⟩ (by simp [execOp, hop, hi, hxv, index_run hE hti (has_of he) h0 h1])
        rw [add_add]
        exact hcell _ _ (cellsOf_at τ xs n.toNat j c hlt hj)
      · exact h.elim
    · rename_i τ xs hv
      rw [hv] at hx
      obtain ⟨g, hxv, hs, hh, _⟩ := hx
      obtain ⟨ti, hti, h⟩ := tiGet_of h
      split at h
      · rename_i he
        obtain ⟨⟨h0, h1⟩, h⟩ := h
        have hlt : n.toNat < xs.length := by omega
        refine pop_plain hI hK h ⟨(⟨g, 0, none⟩ : Addr).add (n.toNat * τ.size), rfl, by rw [add_block]; exact hs, fun j c hj => ?_⟩ (by simp [execOp, hop, hi, hxv, index_run hE hti (has_of he) h0 h1])
        rw [add_add, add_zero']
        have := cellsOf_at τ xs n.toNat j c hlt hj
        simp only [World.cell?, hh, Option.isSome_none, Bool.false_eq_true, if_false]
        simpa using this
      · exact h.elim
    · rename_i p hv
      rw [hv] at hx
      obtain ⟨hb, A, len, c, hxv⟩ := hx
      obtain ⟨ti, hti, h⟩ := tiGet_of h
      obtain ⟨ao, hao, h⟩ := hget_of h
      split at h
      · rename_i xs
        split at h
        · rename_i he
          obtain ⟨⟨h0, h1⟩, h⟩ := h
          obtain ⟨v, hv1, hv2⟩ := hI.arr p _ _ hao
          rw [hb] at hv1
          obtain rfl : a.eval x = v := by simpa using hv1
          rcases hv2 with ⟨rfl, _⟩ | ⟨g', cap, cur, hsl, _, _, hh, _, _, _, htake⟩
          · simp at h1; omega
          · rw [hsl] at hb
            refine pop_plain hI hK h ⟨g', _, _, hb, rfl⟩ ?_
            have := index_run (w := w) hE hti (has_of he) (b := ⟨g', 0, none⟩) (len := xs.length) (cap := cap) (κ := κ) h0 h1
            rw [add_zero'] at this
            simp [execOp, hop, hi, hsl, this, ET.size]
        · exact h.elim
      · exact h.elim
    · rename_i p off hv
      rw [hv] at hx
      obtain ⟨g, hg, hxv⟩ := hx
      obtain ⟨ti, hti, h⟩ := tiGet_of h
      split at h
      · rename_i m z b harr
        obtain ⟨⟨h0, h1⟩, h⟩ := h
        obtain ⟨e, j, h2, h3, h4⟩ := tiOf_arr (hE.ty _ _ hti) (n := m) (z := z) (b := b) (by simpa using harr)
        refine pop_plain hI hK h ⟨g, hg, rfl⟩ ?_
        have e2 : (⟨g, off, none⟩ : Addr).add (n.toNat * z) = ⟨g, off + n.toNat * z, none⟩ := add_off _ _ _
        simp [execOp, hop, hi, hxv, Instr.indexAt, asIntOf, run_underlying h2, h0, h1, Instr.sureAddr, sizeOf, typeInfo, h3, h4, e2]
      · exact h.elim
    · exact h.elim
  · exact h.elim

theorem pop_makeInterface {T : Nat} {x : Operand} (hmk : ∀ v w, (Instr.makeInterface T v).run P w = .ok (.iface T v) w) (hop : o.op = .makeInterface T x) (hI : Inv X w0 β S tm hp a w) (hK : Serves X w0 β S tm hp a o k K) (h : pop E o.op tm hp k) : o.wp P a w K Q := by
  rw [hop] at h
  simp only [pop, AV.f_eq] at h
  split at h
  · exact pop_plain hI hK h ⟨_, rfl, hI.eval x⟩ (by simp [execOp, hop, hmk])
  · exact h.elim

theorem pop_makeFunc {fn : Fn} {first caps : Array Operand} (hop : o.op = .makeFunc fn first caps) (hI : Inv X w0 β S tm hp a w) (hK : Serves X w0 β S tm hp a o k K) (h : pop E o.op tm hp k) : o.wp P a w K Q := by
  rw [hop] at h
  simp only [pop] at h
  split at h
  · rename_i g hfirst
    rw [evs_eq] at h
    split at h
    · refine pop_plain hI hK h ⟨_, rfl, hI.evals caps.toList⟩ ?_
      have e : first = #[] := by simpa using hfirst
      have e2 : Array.map a.eval caps = (List.map a.eval caps.toList).toArray := by rw [← Array.toList_map]
      simp [execOp, hop, Instr.makeFunc, e, e2]
    · exact h.elim
  · exact h.elim

mutual
theorem RelV.low {β : Nat → Option Value} {S : Nat → Prop} {w : World} : ∀ (v : AV) (u : Value), RelV β S w v u → RelV β S w v.low u
  | .int .., _, h => h
  | .bool .., _, h => h
  | .str .., _, h => h
  | .ptr .., _, h => h
  | .ep .., _, h => h
  | .oep .., _, h => h
  | .sl .., _, h => h
  | .lit τ xs, _, ⟨g, h1, h2, h3, h4⟩ => ⟨some ⟨g, 0, none⟩, xs.length, h1, Nat.le_refl _, h4, fun _ => ⟨_, rfl, h2, fun j u hj => by
      rw [add_zero']
      simp only [World.cell?, h3, Option.isSome_none, Bool.false_eq_true, if_false]
      simpa using hj⟩⟩
  | .own .., _, h => h
  | .nil, _, h => h
  | .fn .., _, h => h
  | .clo .., _, h => h
  | .agg l, _, ⟨cs, h1, h2⟩ => ⟨cs, h1, RelVs.low l cs h2⟩
  | .tup l, _, ⟨cs, h1, h2⟩ => ⟨cs, h1, RelVs.low l cs h2⟩
  | .ifc .., _, h => h
  | .opq .., _, h => h
  | .skp, _, h => h
  | .undef, _, h => h
theorem RelVs.low {β : Nat → Option Value} {S : Nat → Prop} {w : World} : ∀ (l : List AV) (us : List Value), RelVs β S w l us → RelVs β S w (AV.lows l) us
  | [], _, h => h
  | v :: l, _, ⟨u, us, h1, h2, h3⟩ => ⟨u, us, h1, RelV.low v u h2, RelVs.low l us h3⟩
end

theorem viewF_of (hI : Inv X w0 β S tm hp a w) {v : AV} {u : Value} (hr : RelV β S w v u) {k : AV → Prop} (h : viewF hp v k) :
    ∃ v', k v' ∧ ((isOwn v = false ∧ v' = v.low) ∨ ∃ p τ xs, v = .own p ∧ (p, .arr τ xs) ∈ hp ∧ v' = .sl τ xs) := by
  cases v with
  | own p =>
    obtain ⟨ao, hao, h⟩ := hget_of h
    split at h
    · rename_i τ xs
      exact ⟨_, h, .inr ⟨p, τ, xs, rfl, hao, rfl⟩⟩
    · exact h.elim
  | _ => simp only [viewF, AV.f_eq] at h; exact ⟨_, h, .inl ⟨rfl, rfl⟩⟩

/-- An owned array reads as its list, while its block may be looked at. -/
theorem own_sl {B : Nat} {τ : ET} {xs : List τ.T} {v : Value} (h : OwnR S w B τ xs v) {S' : Nat → Prop} (hS : ∀ b, S b → S' b) (hb : ∀ b, blk v = some b → S' b) {β' : Nat → Option Value} :
    RelV β' S' w (.sl τ xs) v := by
  rcases h with ⟨rfl, rfl | ⟨g, rfl, _, _⟩⟩ | ⟨g, cap, cur, rfl, _, _, hh, h1, h2, h3, h4⟩
  · exact ⟨none, 0, rfl, by simp, by simp, fun hne => absurd rfl hne⟩
  · exact ⟨some ⟨g, 0, none⟩, 0, rfl, by simp, by simp, fun hne => absurd rfl hne⟩
  · refine ⟨some ⟨g, 0, none⟩, cap, rfl, h1, Nat.le_trans h1 h2, fun _ => ⟨_, rfl, hb g rfl, fun j u hj => ?_⟩⟩
    rw [add_zero']
    rw [← h4, List.getElem?_take] at hj
    split at hj
    · simp only [World.cell?, hh, Option.isSome_none, Bool.false_eq_true, if_false]
      rw [← Array.getElem?_toList]
      exact hj
    · simp at hj

end pops
end Go.Proofs.Ythakgbecpkfeoaa.Ev
