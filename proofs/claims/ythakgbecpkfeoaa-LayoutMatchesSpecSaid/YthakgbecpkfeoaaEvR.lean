/- Regions of operations that change nothing: the order of the text stands for every order. -/
import Derived.Test.YthakgbecpkfeoaaEvQ
set_option linter.unusedVariables false
set_option linter.unusedSimpArgs false
namespace Go.Proofs.Ythakgbecpkfeoaa.Ev

section quiet
variable {E : Env} {hp : Hp} {all : List Oper}

/-- What an operation of a region leaves in its slot. -/
def Does (E : Env) (hp : Hp) (all : List Oper) (o : Oper) (tm : List AV) (v : AV) : Prop :=
  guardF all o tm (fun tm' => pop E o.op tm' hp fun x => x = v) (fun _ => v = .skp)

theorem guardF_lin {o : Oper} {tm : List AV} {yes no : List AV → Prop} (h : guardF all o tm yes no) :
    (yes tm ∧ ∀ yes' no' : List AV → Prop, yes' tm → guardF all o tm yes' no') ∨ (no tm ∧ ∀ yes' no' : List AV → Prop, no' tm → guardF all o tm yes' no') := by
  unfold guardF at h
  split at h
  · rename_i hg
    exact .inl ⟨h, fun yes' no' h' => by simp only [guardF, hg]; exact h'⟩
  · rename_i j want hg
    split at h
    · exact h.elim
    · rename_i d hd
      split at h
      · rename_i b hb
        obtain ⟨hset, _⟩ := set_same hb (by simp)
        cases b <;> cases want <;> simp only [setF_eq, hset] at h <;> first
          | exact .inl ⟨h, fun yes' no' h' => by simp only [guardF, hg, hd, hb, setF_eq, hset]; exact h'⟩
          | exact .inr ⟨h, fun yes' no' h' => by simp only [guardF, hg, hd, hb, setF_eq, hset]; exact h'⟩
      · rename_i hb
        exact .inr ⟨h, fun yes' no' h' => by simp only [guardF, hg, hd, hb]; exact h'⟩
      · exact h.elim

theorem evQ_cons {o : Oper} {l : List Oper} {tm : List AV} {k : List AV → Prop} (h : evQ E all hp (o :: l) tm k) : ∃ v, Does E hp all o tm v ∧ evQ E all hp l (putL tm o.dst v) k := by
  simp only [evQ] at h
  rcases guardF_lin h with ⟨h1, h2⟩ | ⟨h1, h2⟩
  · obtain ⟨v, hv, hk⟩ := lin_pop o.op _ h1
    rw [putD_eq] at hv
    exact ⟨v, h2 _ _ (hk _ rfl), hv⟩
  · rw [putD_eq] at h1
    exact ⟨.skp, h2 _ _ rfl, h1⟩

/-- The same looks, the same answer. -/
theorem Does.congr {o : Oper} {tm tm' : List AV} {v : AV} (h : Does E hp all o tm v) (hl : ∀ s ∈ looks all o, getV tm s = getV tm' s) : Does E hp all o tm' v := by
  have hops : ∀ x ∈ o.op.operands.toList, evalV tm x = evalV tm' x := by
    intro x hx
    cases x with
    | tmp t =>
      refine hl t (List.mem_append_right _ ?_)
      have : ∀ l : List Operand, Operand.tmp t ∈ l → t ∈ opTmps l := by
        intro l
        induction l with
        | nil => simp
        | cons y l ih =>
          intro hm
          rcases List.mem_cons.1 hm with h1 | h1
          · subst h1; simp [opTmps]
          · have h2 := ih h1
            cases y <;> simp [opTmps, h2]
      exact this _ hx
    | _ => rfl
  unfold Does guardF at *
  split at h
  · rw [pop_congr (tm := tm) (tm' := tm') o.op hops] at h
    exact h
  · rename_i j want hg
    split at h
    · exact h.elim
    · rename_i d hd
      have hd' : getV tm d = getV tm' d := hl d (List.mem_append_left _ (by simp only [hg, hd]; simp))
      rw [hd'] at h
      split at h
      · rename_i b hb
        obtain ⟨hset', _⟩ := set_same hb (by simp)
        obtain ⟨hset, _⟩ := set_same (hd'.trans hb) (by simp)
        have hpc := fun k => pop_congr (E := E) (hp := hp) (tm := tm) (tm' := tm') o.op hops k
        simp only [hb]
        cases b <;> cases want <;> simp only [setF_eq, hset, hset'] at h ⊢ <;> first
          | exact h
          | (rw [hpc] at h; exact h)
      · rename_i hb
        simp only [hb]
        exact h
      · exact h.elim

/-- Slots, when some have been written. -/
structure Agree (all : List Oper) (V : Nat → AV) (tm0 : List AV) (L : Nat → Bool) (tm : List AV) : Prop where
  len : tm.length = tm0.length
  on : ∀ i d, L i = true → dstOf all i = some d → d < tm0.length → tm.getD d .undef = V i
  off : ∀ s, (∀ i, L i = true → dstOf all i ≠ some s) → tm.getD s .undef = tm0.getD s .undef

theorem Agree.step {V : Nat → AV} {tm0 tm : List AV} {L : Nat → Bool} (hd : ∀ i j d, dstOf all i = some d → dstOf all j = some d → i = j) (h : Agree all V tm0 L tm) {i : Nat} (hL : L i = false) :
    Agree all V tm0 (fun j => L j || j == i) (putL tm (dstOf all i) (V i)) := by
  cases e : dstOf all i with
  | none =>
    refine ⟨h.len, fun j d hj hjd hlt => ?_, fun s hs => h.off s fun j hj => hs j (by simp [hj])⟩
    rcases Bool.or_eq_true _ _ ▸ hj with hj | hj
    · exact h.on j d hj hjd hlt
    · simp only [beq_iff_eq] at hj; subst hj; rw [e] at hjd; simp at hjd
  | some d =>
    refine ⟨by simp [putL, h.len], fun j d' hj hjd hlt => ?_, fun s hs => ?_⟩
    · simp only [putL, List.getD_eq_getElem?_getD]
      rcases Bool.or_eq_true _ _ ▸ hj with hj | hj
      · have hne : d ≠ d' := by
          rintro rfl
          have := hd i j d e hjd
          subst this
          rw [hL] at hj
          simp at hj
        rw [List.getElem?_set_ne hne, ← List.getD_eq_getElem?_getD]
        exact h.on j d' hj hjd hlt
      · simp only [beq_iff_eq] at hj
        subst hj
        rw [e] at hjd
        obtain rfl : d = d' := by simpa using hjd
        rw [List.getElem?_set_self (by rw [h.len]; exact hlt)]
        rfl
    · have hne : d ≠ s := by rintro rfl; exact hs i (by simp) e
      simp only [putL, List.getD_eq_getElem?_getD]
      rw [List.getElem?_set_ne hne, ← List.getD_eq_getElem?_getD]
      exact h.off s fun j hj => hs j (by simp [hj])

theorem Agree.ext {V : Nat → AV} {tm0 tm : List AV} {L L' : Nat → Bool} (h : Agree all V tm0 L tm) (he : ∀ i, i < all.length → L i = L' i) : Agree all V tm0 L' tm := by
  have hlt : ∀ i d, dstOf all i = some d → i < all.length := fun i d hi => by
    rw [dstOf_eq] at hi
    cases e : all[i]? with
    | none => rw [e] at hi; simp at hi
    | some o => exact (List.getElem?_eq_some_iff.1 e).1
  refine ⟨h.len, fun i d hi hd hl => h.on i d (by rw [he i (hlt i d hd)]; exact hi) hd hl, fun s hs => h.off s fun i hi hd => hs i (by rw [← he i (hlt i s hd)]; exact hi) hd⟩

/-- All answers, in the order of the text. -/
theorem evQ_all {k : List AV → Prop} : ∀ {l : List Oper} {tm : List AV}, evQ E all hp l tm k → ∃ vs : List AV, vs.length = l.length ∧ ∃ T : Nat → List AV, T 0 = tm ∧ k (T l.length) ∧
    ∀ (j : Nat) (o : Oper), l[j]? = some o → Does E hp all o (T j) (vs.getD j .undef) ∧ T (j + 1) = putL (T j) o.dst (vs.getD j .undef)
  | [], tm, h => ⟨[], rfl, fun _ => tm, rfl, h, by simp⟩
  | o :: l, tm, h => by
    obtain ⟨v, hv, h⟩ := evQ_cons h
    obtain ⟨vs, h1, T, h2, h3, h4⟩ := evQ_all h
    refine ⟨v :: vs, by simp [h1], fun n => match n with | 0 => tm | n + 1 => T n, rfl, h3, ?_⟩
    intro j o' hj
    cases j with
    | zero => simp at hj; subst hj; exact ⟨by simpa using hv, by simpa using h2⟩
    | succ j => simpa using h4 j o' (by simpa using hj)

theorem memN_iff (l : List Nat) (n : Nat) : memN l n = true ↔ n ∈ l := by
  induction l with
  | nil => simp [memN]
  | cons x l ih =>
    simp only [memN]
    cases e : Nat.beq x n with
    | true => obtain rfl := Nat.eq_of_beq_eq_true e; simp
    | false =>
      have := Nat.ne_of_beq_eq_false e
      simp only [ih, List.mem_cons]
      constructor
      · exact .inr
      · rintro (h | h)
        · omega
        · exact h
theorem hasEdge_of {l : List Edge} {j : Nat} (h : hasEdge l j = true) : ∃ e ∈ l, Region.binds .any e = true ∧ e.on = j := by
  induction l with
  | nil => simp [hasEdge] at h
  | cons e l ih =>
    simp only [hasEdge] at h
    split at h
    · rename_i hb
      split at h
      · rename_i hj
        exact ⟨e, by simp, hb, Nat.eq_of_beq_eq_true hj⟩
      · obtain ⟨e', h1, h2⟩ := ih h; exact ⟨e', by simp [h1], h2⟩
    · obtain ⟨e', h1, h2⟩ := ih h; exact ⟨e', by simp [h1], h2⟩
theorem edgesBack_of {i : Nat} {l : List Edge} (h : edgesBack i l = true) : ∀ e ∈ l, Region.binds .any e = true → e.on < i := by
  induction l with
  | nil => simp
  | cons e l ih =>
    simp only [edgesBack] at h
    intro e' he' hb
    rcases List.mem_cons.1 he' with rfl | he'
    · rw [hb] at h
      simp only [Bool.and_eq_true, Nat.blt_eq] at h
      exact h.1
    · split at h
      · simp only [Bool.and_eq_true] at h; exact ih h.2 e' he' hb
      · exact ih h e' he' hb

theorem fitsAll_of {i : Nat} {o : Oper} : ∀ {l : List Oper} {j : Nat}, fitsAll all i o j l = true → ∀ (m : Nat) (p : Oper), l[m]? = some p → ∀ d, p.dst = some d →
    (i = j + m → d ∉ looks all o) ∧ (i ≠ j + m → (d ∈ looks all o → (if j + m < i then hasEdge o.after.toList (j + m) else hasEdge p.after.toList i) = true) ∧ o.dst ≠ some d)
  | [], j, h, m, p, hm, d, hd => by simp at hm
  | q :: l, j, h, m, p, hm, d, hd => by
    simp only [fitsAll] at h
    cases m with
    | zero =>
      simp only [List.getElem?_cons_zero, Option.some.injEq] at hm
      subst hm
      simp only [Nat.add_zero]
      split at h
      · rename_i e
        obtain rfl := Nat.eq_of_beq_eq_true e
        simp only [hd, Bool.and_eq_true, Bool.not_eq_true'] at h
        refine ⟨fun _ hm => ?_, fun hne => absurd rfl hne⟩
        have := (memN_iff _ _).2 hm
        rw [h.1] at this
        simp at this
      · rename_i e
        have hne := Nat.ne_of_beq_eq_false e
        simp only [hd, Bool.and_eq_true, Bool.or_eq_true, Bool.not_eq_true'] at h
        refine ⟨fun he => absurd he hne, fun _ => ⟨fun hm => ?_, ?_⟩⟩
        · have hmm := (memN_iff _ _).2 hm
          rcases h.1.1 with h1 | h1
          · rw [h1] at hmm; simp at hmm
          · split at h1
            · rename_i hb; rw [Nat.blt_eq] at hb; rw [if_pos hb]; exact h1
            · rename_i hb
              have : ¬ j < i := fun hlt => by rw [Nat.blt_eq.mpr hlt] at hb; simp at hb
              rw [if_neg this]; exact h1
        · intro ho
          have h2 := h.1.2
          simp only [ho, Bool.not_eq_true'] at h2
          exact Nat.ne_of_beq_eq_false h2 rfl
    | succ m =>
      have h' : fitsAll all i o (j + 1) l = true := by
        split at h <;> (simp only [Bool.and_eq_true] at h; exact h.2)
      have := fitsAll_of h' m p (by simpa using hm) d hd
      rwa [show j + 1 + m = j + (m + 1) by omega] at this

structure Quiet (all : List Oper) : Prop where
  dst : ∀ (i : Nat) (o : Oper), all[i]? = some o → ∃ d, o.dst = some d
  back : ∀ (i : Nat) (o : Oper), all[i]? = some o → ∀ e ∈ o.after.toList, Region.binds .any e = true → e.on < i
  fits : ∀ (i : Nat) (o : Oper), all[i]? = some o → ∀ (j : Nat) (p : Oper), all[j]? = some p → ∀ d, p.dst = some d →
    (i = j → d ∉ looks all o) ∧ (i ≠ j → (d ∈ looks all o → (if j < i then hasEdge o.after.toList j else hasEdge p.after.toList i) = true) ∧ o.dst ≠ some d)

theorem quietL_of : ∀ {l : List Oper} {i : Nat}, quietL all i l = true → ∀ (m : Nat) (o : Oper), l[m]? = some o → fitsAll all (i + m) o 0 all = true ∧ o.dst.isSome = true ∧ edgesBack (i + m) o.after.toList = true
  | [], i, h, m, o, hm => by simp at hm
  | q :: l, i, h, m, o, hm => by
    simp only [quietL, Bool.and_eq_true] at h
    cases m with
    | zero => simp at hm; subst hm; exact ⟨h.1.1.1, h.1.1.2, h.1.2⟩
    | succ m =>
      have := quietL_of h.2 m o (by simpa using hm)
      rwa [show i + 1 + m = i + (m + 1) by omega] at this

theorem Quiet.of (h : quietL all 0 all = true) : Quiet all := by
  refine ⟨fun i o hi => ?_, fun i o hi => ?_, fun i o hi j p hj d hd => ?_⟩
  · have := (quietL_of h i o hi).2.1
    exact Option.isSome_iff_exists.1 this
  · have := (quietL_of h i o hi).2.2
    simp only [Nat.zero_add] at this
    exact edgesBack_of this
  · have := (quietL_of h i o hi).1
    simp only [Nat.zero_add] at this
    have := fitsAll_of this j p hj d hd
    simpa using this

theorem Quiet.dsts (h : Quiet all) (i j d : Nat) (hi : dstOf all i = some d) (hj : dstOf all j = some d) : i = j := by
  rw [dstOf_eq] at hi hj
  cases ei : all[i]? with
  | none => rw [ei] at hi; simp at hi
  | some o =>
    cases ej : all[j]? with
    | none => rw [ej] at hj; simp at hj
    | some p =>
      rw [ei] at hi
      rw [ej] at hj
      simp only [Option.bind_some] at hi hj
      rcases Nat.decEq i j with hne | he
      · exact absurd hi ((h.fits i o ei j p ej d hj).2 hne).2
      · exact he

end quiet

section main
variable {P : Program} {E : Env} {X : XR} {w0 : World} {β : Nat → Option Value} {S : Nat → Prop} {tm : List AV} {hp : Hp} {a : Act} {w : World}
variable {ops : Array Oper} {Q : Exit → Act → World → Prop} {k : List AV → Hp → Prop}

theorem count_set (l : List Bool) (i : Nat) (h : l[i]? = some false) : (l.set i true).count false + 1 = l.count false := by
  induction l generalizing i with
  | nil => simp at h
  | cons b l ih =>
    cases i with
    | zero => simp at h; subst h; simp
    | succ i =>
      have := ih i (by simpa using h)
      simp only [List.set_cons_succ, List.count_cons]
      omega

theorem all_true {l : List Bool} (h : l.count false = 0) (i : Nat) (hi : i < l.length) : l[i]? = some true := by
  rw [List.getElem?_eq_getElem hi]
  cases e : l[i] with
  | true => rfl
  | false =>
    have : false ∈ l := by rw [← e]; exact List.getElem_mem hi
    have := List.count_pos_iff.2 this
    omega

theorem does_wp (hE : EnvOK P E) (hM : ∀ o ∈ ops.toList, MoreOK P o) {i : Nat} {o : Oper} (ho : ops[i]? = some o) {K : Act → World → Prop} (hI : Inv X w0 β S tm hp a w) {v : AV} (h : Does E hp ops.toList o tm v)
    (hK : ∀ S' a' w', Inv X w0 β S' (putL tm o.dst v) hp a' w' → K a' w') : wpOp P ops Q i K a w := by
  have hm : MoreOK P o := hM o (List.mem_of_getElem? (by rw [Array.getElem?_toList]; exact ho))
  unfold wpOp
  simp only [ho]
  rcases guardF_of hI.rel h with ⟨hw, h⟩ | ⟨hw, h⟩
  · rw [if_pos hw]
    refine .inl (pop_wp hE hm hI (fun r u w' S' hr hI' hS hru => ?_) h)
    subst hr
    exact hK S' _ _ (hI'.put hru o.dst)
  · rw [if_neg (by simp [hw])]
    subst h
    exact hK S _ _ (hI.put (v := .skp) (u := undef) rfl o.dst)

theorem quiet_wp (hE : EnvOK P E) (hM : ∀ o ∈ ops.toList, MoreOK P o) (hq : Quiet ops.toList) {V : Nat → AV} {tm0 : List AV} {T : Nat → List AV} (hT : ∀ i, i ≤ ops.size → Agree ops.toList V tm0 (fun j => decide (j < i)) (T i))
    (hD : ∀ i o, ops[i]? = some o → Does E hp ops.toList o (T i) (V i)) (hK : ∀ S' a' w', Inv X w0 β S' (T ops.size) hp a' w' → Q .normal a' w') :
    ∀ (n : Nat) (listed : Array Bool), listed.size = ops.size → listed.toList.count false = n → (∀ (i : Nat) (o : Oper), listed[i]? = some true → ops[i]? = some o → ∀ e ∈ o.after.toList, Region.binds .any e = true → listed[e.on]? = some true) →
      ∀ (S : Nat → Prop) (tm : List AV) (a : Act) (w : World), Agree ops.toList V tm0 (fun j => listed.getD j false) tm → Inv X w0 β S tm hp a w → wpAny P .any ops Q n listed a w := by
  have fin : ∀ (listed : Array Bool), listed.size = ops.size → listed.toList.count false = 0 → ∀ (S : Nat → Prop) (tm : List AV) (a : Act) (w : World), Agree ops.toList V tm0 (fun j => listed.getD j false) tm → Inv X w0 β S tm hp a w → Q .normal a w := by
    intro listed hs hc S tm a w hA hI
    have hA2 := hT ops.size (Nat.le_refl _)
    have hA1 : Agree ops.toList V tm0 (fun j => decide (j < ops.size)) tm := hA.ext fun i hi => by
      simp only [Array.length_toList] at hi
      have := all_true hc i (by simp [hs, hi])
      rw [Array.getElem?_toList] at this
      simp [Array.getD_eq_getD_getElem?, this, hi]
    have : tm = T ops.size := by
      refine List.ext_getElem (hA1.len.trans hA2.len.symm) fun s h1 h2 => ?_
      have hget : tm.getD s .undef = (T ops.size).getD s .undef := by
        by_cases hex : ∃ i, decide (i < ops.size) = true ∧ dstOf ops.toList i = some s
        · obtain ⟨i, hi, hd⟩ := hex
          rw [hA1.on i s hi hd (by rw [← hA1.len]; exact h1), hA2.on i s hi hd (by rw [← hA1.len]; exact h1)]
        · have hno : ∀ i, decide (i < ops.size) = true → dstOf ops.toList i ≠ some s := fun i h1 h2 => hex ⟨i, h1, h2⟩
          rw [hA1.off s hno, hA2.off s hno]
      simpa [List.getD_eq_getElem?_getD, h1, h2] using hget
    rw [this] at hI
    exact hK S a w hI
  intro n
  induction n with
  | zero =>
    intro listed hs hc hcl S tm a w hA hI
    refine ⟨?_, fin listed hs hc S tm a w hA hI⟩
    cases e : Region.ready .any ops listed with
    | nil => rfl
    | cons i l =>
      obtain ⟨o, h1, h2⟩ := (ready_iff hs i).1 (by rw [e]; simp)
      have hlt := (Array.getElem?_eq_some_iff.1 h1).1
      have := all_true hc i (by simp [hs, hlt])
      unfold isReady at h2
      rw [getB_eq, List.getD_eq_getElem?_getD, this] at h2
      simp at h2
  | succ n ih =>
    intro listed hs hc hcl S tm a w hA hI
    refine ⟨fun hnil => ?_, fun i hi => ?_⟩
    · -- some operation is still to come, and the first such one is ready
      exfalso
      have hsome : ∃ i, i < ops.size ∧ listed[i]? = some false := by
        have : false ∈ listed.toList := List.count_pos_iff.1 (by omega)
        obtain ⟨i, hi, he⟩ := List.mem_iff_getElem.1 this
        simp only [Array.length_toList] at hi
        exact ⟨i, by omega, by rw [← Array.getElem?_toList, List.getElem?_eq_getElem (by simpa using hi), he]⟩
      have key : ∀ m i, i ≤ m → i < ops.size → listed[i]? = some false → False := by
        intro m
        induction m with
        | zero =>
          intro i him hi hf
          obtain rfl : i = 0 := by omega
          have ho : ops[0]? = some ops[0] := by simp [hi]
          have : 0 ∈ Region.ready .any ops listed := (ready_iff hs 0).2 ⟨_, ho, by
            unfold isReady
            rw [getB_eq, List.getD_eq_getElem?_getD, Array.getElem?_toList, hf]
            simp only [Option.getD_some]
            rw [edgesOk_eq, List.all_eq_true]
            intro e he
            cases hb : Region.binds .any e with
            | false => rfl
            | true => exact absurd (hq.back 0 _ (by rw [Array.getElem?_toList]; exact ho) e he hb) (by omega)⟩
          rw [hnil] at this
          simp at this
        | succ m ihm =>
          intro i him hi hf
          by_cases hlt : i ≤ m
          · exact ihm i hlt hi hf
          · have ho : ops[i]? = some ops[i] := by simp [hi]
            have : i ∈ Region.ready .any ops listed := (ready_iff hs i).2 ⟨_, ho, by
              unfold isReady
              rw [getB_eq, List.getD_eq_getElem?_getD, Array.getElem?_toList, hf]
              simp only [Option.getD_some]
              rw [edgesOk_eq, List.all_eq_true]
              intro e he
              cases hb : Region.binds .any e with
              | false => rfl
              | true =>
                have hon := hq.back i _ (by rw [Array.getElem?_toList]; exact ho) e he hb
                rw [Array.getD_eq_getD_getElem?]
                cases hl : listed[e.on]? with
                | none => rw [Array.getElem?_eq_none_iff] at hl; omega
                | some b =>
                  cases b with
                  | true => rfl
                  | false => exact (ihm e.on (by omega) (by omega) hl).elim⟩
            rw [hnil] at this
            simp at this
      obtain ⟨i, hi, hf⟩ := hsome
      exact key i i (Nat.le_refl _) hi hf
    · obtain ⟨o, ho, hr⟩ := (ready_iff hs i).1 hi
      have hlt := (Array.getElem?_eq_some_iff.1 ho).1
      have hol : ops.toList[i]? = some o := by rw [Array.getElem?_toList]; exact ho
      have hil : listed[i]? = some false := by
        unfold isReady at hr
        split at hr
        · simp at hr
        · rename_i hb
          rw [getB_eq, List.getD_eq_getElem?_getD, Array.getElem?_toList] at hb
          rw [Array.getElem?_eq_getElem (by omega)] at hb ⊢
          simpa using hb
      have hre : ∀ e ∈ o.after.toList, Region.binds .any e = true → listed[e.on]? = some true := by
        intro e he hb
        unfold isReady at hr
        split at hr
        · simp at hr
        · rw [edgesOk_eq, List.all_eq_true] at hr
          have := hr e he
          rw [hb] at this
          simp only [Bool.not_true, Bool.false_or] at this
          rw [Array.getD_eq_getD_getElem?] at this
          cases hl : listed[e.on]? with
          | none => rw [hl] at this; simp at this
          | some b => rw [hl] at this; simp at this; rw [this]
      have hLi : (listed.getD i false) = false := by rw [Array.getD_eq_getD_getElem?, hil]; rfl
      have hAt := hT i (by omega)
      have hlook : ∀ s ∈ looks ops.toList o, getV (T i) s = getV tm s := by
        intro s hsl
        rw [getV_eq, getV_eq]
        by_cases hex : ∃ j, dstOf ops.toList j = some s
        · obtain ⟨j, hj⟩ := hex
          have hjd := hj
          rw [dstOf_eq] at hjd
          cases ej : ops.toList[j]? with
          | none => rw [ej] at hjd; simp at hjd
          | some p =>
            rw [ej] at hjd
            simp only [Option.bind_some] at hjd
            have hfit := hq.fits i o hol j p ej s hjd
            have hne : i ≠ j := fun e => hfit.1 e hsl
            have hed := (hfit.2 hne).1 hsl
            by_cases hji : j < i
            · rw [if_pos hji] at hed
              obtain ⟨e, he, hb, hon⟩ := hasEdge_of hed
              have hl := hre e he hb
              rw [hon] at hl
              by_cases hslt : s < tm0.length
              · rw [hAt.on j s (by simpa using hji) hj hslt, hA.on j s (by rw [Array.getD_eq_getD_getElem?, hl]; rfl) hj hslt]
              · have e1 : (T i).getD s .undef = .undef := by rw [List.getD_eq_getElem?_getD, List.getElem?_eq_none (by rw [hAt.len]; omega)]; rfl
                have e2 : tm.getD s .undef = .undef := by rw [List.getD_eq_getElem?_getD, List.getElem?_eq_none (by rw [hA.len]; omega)]; rfl
                rw [e1, e2]
            · rw [if_neg hji] at hed
              obtain ⟨e, he, hb, hon⟩ := hasEdge_of hed
              have hjn : listed.getD j false = false := by
                cases hl : listed[j]? with
                | none => simp [Array.getD_eq_getD_getElem?, hl]
                | some b =>
                  cases b with
                  | false => simp [Array.getD_eq_getD_getElem?, hl]
                  | true =>
                    have := hcl j p hl (by rw [← Array.getElem?_toList]; exact ej) e he hb
                    rw [hon, hil] at this
                    simp at this
              have uniq : ∀ j', dstOf ops.toList j' = some s → j' = j := fun j' h' => hq.dsts j' j s h' hj
              rw [hAt.off s (fun j' h1 h2 => by rw [uniq j' h2] at h1; simp at h1; omega), hA.off s (fun j' h1 h2 => by rw [uniq j' h2, hjn] at h1; simp at h1)]
        · have hno : ∀ j, dstOf ops.toList j ≠ some s := fun j hj => hex ⟨j, hj⟩
          rw [hAt.off s (fun j _ => hno j), hA.off s (fun j _ => hno j)]
      have hdo := (hD i o ho).congr hlook
      refine does_wp hE hM ho hI hdo ?_
      intro S' a' w' hI'
      have hdst : dstOf ops.toList i = o.dst := by rw [dstOf_eq, hol]; rfl
      refine ih (listed.setIfInBounds i true) (by simp [hs]) ?_ ?_ S' _ a' w' ?_ hI'
      · have := count_set listed.toList i (by rw [Array.getElem?_toList]; exact hil)
        simp only [Array.toList_setIfInBounds]
        omega
      · intro j p hj hp e he hb
        rw [Array.getElem?_setIfInBounds] at hj ⊢
        by_cases hij : i = j
        · subst hij
          rw [ho] at hp
          obtain rfl : o = p := by simpa using hp
          have := hre e he hb
          split
          · split
            · rfl
            · rename_i h1 h2; rw [h1] at hil; rw [hil] at this; simp at this
          · exact this
        · rw [if_neg hij] at hj
          have := hcl j p hj hp e he hb
          split
          · split
            · rfl
            · rename_i h1 h2; rw [← h1] at this; rw [hil] at this; simp at this
          · exact this
      · have := hA.step hq.dsts hLi
        rw [hdst] at this
        refine this.ext fun j hj => ?_
        simp only [Array.length_toList] at hj
        by_cases hij : j = i
        · subst hij
          simp [Array.getD_eq_getD_getElem?, Array.getElem?_setIfInBounds, hs, hlt]
        · have hij' : i ≠ j := fun e => hij e.symm
          simp [Array.getD_eq_getD_getElem?, Array.getElem?_setIfInBounds_ne hij', hij]

/-- THE ORDER OF THE TEXT STANDS FOR ALL. -/
theorem evQ_wp (hE : EnvOK P E) (hM : ∀ o ∈ ops.toList, MoreOK P o) (hq : quietL ops.toList 0 ops.toList = true) (hK : Goes X w0 k (Q .normal)) (hI : Inv X w0 β S tm hp a w)
    (h : evQ E ops.toList hp ops.toList tm fun tm => k tm hp) : wpAny P .any ops Q ops.size (Array.replicate ops.size false) a w := by
  have hQ := Quiet.of hq
  obtain ⟨vs, hl, T, hT0, hkT, hall⟩ := evQ_all h
  have hT : ∀ i, i ≤ ops.size → Agree ops.toList (fun j => vs.getD j .undef) tm (fun j => decide (j < i)) (T i) := by
    intro i
    induction i with
    | zero =>
      intro _
      rw [hT0]
      exact ⟨rfl, fun j d hj => by simp at hj, fun s _ => rfl⟩
    | succ i ih =>
      intro hi
      have hA := ih (by omega)
      have ho : ops.toList[i]? = some ops[i] := by rw [Array.getElem?_toList]; simp [show i < ops.size by omega]
      rw [(hall i _ ho).2]
      have hd : dstOf ops.toList i = ops[i].dst := by rw [dstOf_eq, ho]; rfl
      have := hA.step hQ.dsts (i := i) (by simp)
      rw [hd] at this
      refine this.ext fun j _ => ?_
      have hj : (j < i + 1) = (j < i ∨ j = i) := propext (by omega)
      simp only [hj, Bool.decide_or]
      rfl
  refine quiet_wp hE hM hQ hT (fun i o ho => (hall i o (by rw [Array.getElem?_toList]; exact ho)).1) (fun S' a' w' hI' => hK _ _ _ _ _ _ (by simpa using hkT) hI') ops.size _ (by simp) (by simp) ?_ S tm a w ?_ hI
  · intro i o hi
    rw [Array.getElem?_replicate] at hi
    split at hi <;> simp at hi
  · refine ⟨rfl, fun i d hi => ?_, fun s _ => rfl⟩
    simp only [Array.getD_eq_getD_getElem?, Array.getElem?_replicate] at hi
    split at hi <;> simp at hi

end main
end Go.Proofs.Ythakgbecpkfeoaa.Ev
