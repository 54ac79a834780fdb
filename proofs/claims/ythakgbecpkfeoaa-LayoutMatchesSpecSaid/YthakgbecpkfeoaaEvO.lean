/- Regions: in the order of the text, and in every order that the edges allow. -/
import Derived.Test.YthakgbecpkfeoaaEvN
set_option linter.unusedVariables false
set_option linter.unusedSimpArgs false
namespace Go.Proofs.Ythakgbecpkfeoaa.Ev

theorem dstOf_eq (l : List Oper) (j : Nat) : dstOf l j = (l[j]?).bind (·.dst) := by
  induction l generalizing j with
  | nil => simp [dstOf]
  | cons o l ih => cases j <;> simp [dstOf, ih]

theorem set_same {tm : List AV} {d : Nat} {v : AV} (h : getV tm d = v) (hv : v ≠ .undef) : tm.set d v = tm ∧ d < tm.length := by
  induction tm generalizing d with
  | nil => simp only [getV] at h; exact absurd h.symm hv
  | cons x l ih =>
    cases d with
    | zero => simp only [getV] at h; subst h; simp
    | succ d => simp only [getV] at h; obtain ⟨h1, h2⟩ := ih h; simp [h1, h2]

section regions
variable {P : Program} {E : Env} {X : XR} {w0 : World} {β : Nat → Option Value} {S : Nat → Prop} {tm : List AV} {hp : Hp} {a : Act} {w : World}
variable {ops : Array Oper} {Q : Exit → Act → World → Prop} {k : List AV → Hp → Prop} {kp : AV → List AV → Hp → Prop}

theorem guardF_of {o : Oper} {yes no : List AV → Prop} (hI : RelVs β S w tm a.tmps.toList) (h : guardF ops.toList o tm yes no) :
    (Region.wanted o (yielded ops a.tmps) = true ∧ yes tm) ∨ (Region.wanted o (yielded ops a.tmps) = false ∧ no tm) := by
  unfold guardF at h
  split at h
  · rename_i hg
    exact .inl ⟨by simp [Region.wanted, hg], h⟩
  · rename_i j want hg
    split at h
    · exact h.elim
    · rename_i d hd
      rw [dstOf_eq, Array.getElem?_toList] at hd
      have look : ∀ v, getV tm d = v → v ≠ .undef → ∃ u, a.tmps[d]? = some u ∧ RelV β S w v u := by
        intro v hv hne
        obtain ⟨_, hlt⟩ := set_same hv hne
        obtain ⟨u, h1, h2⟩ := hI.get d hlt
        rw [← getV_eq, hv] at h2
        exact ⟨u, by rw [← Array.getElem?_toList]; exact h1, h2⟩
      split at h
      · rename_i b hb
        obtain ⟨hset, _⟩ := set_same hb (by simp)
        obtain ⟨u, hu, hr⟩ := look _ hb (by simp)
        simp only [RelV] at hr
        subst hr
        have hy : yielded ops a.tmps j = some b := by simp [yielded, hd, hu]
        cases b with
        | true =>
          simp only [setF_eq, hset] at h
          cases want with
          | true => exact .inl ⟨by simp [Region.wanted, hg, hy], h⟩
          | false => exact .inr ⟨by simp [Region.wanted, hg, hy], h⟩
        | false =>
          simp only [setF_eq, hset] at h
          cases want with
          | true => exact .inr ⟨by simp [Region.wanted, hg, hy], h⟩
          | false => exact .inl ⟨by simp [Region.wanted, hg, hy], h⟩
      · rename_i hb
        obtain ⟨u, hu, hr⟩ := look _ hb (by simp)
        simp only [RelV] at hr
        subst hr
        have hy : yielded ops a.tmps j = none := by simp [yielded, hd, hu, undef]
        exact .inr ⟨by simp [Region.wanted, hg, hy], h⟩
      · exact h.elim

/-- One operation of a region. -/
theorem evOp_wp (hE : EnvOK P E) (hM : ∀ o ∈ ops.toList, MoreOK P o) (hKp : Falls X w0 kp Q) {i : Nat} {o : Oper} (ho : ops[i]? = some o) {K : Act → World → Prop} (hI : Inv X w0 β S tm hp a w) (hK : Goes X w0 k K)
    (h : guardF ops.toList o tm (fun tm => step E o tm hp kp k) (fun tm => putD tm o.dst .skp fun tm => k tm hp)) : wpOp P ops Q i K a w := by
  have hm : MoreOK P o := hM o (List.mem_of_getElem? (by rw [Array.getElem?_toList]; exact ho))
  unfold wpOp
  simp only [ho]
  rcases guardF_of hI.rel h with ⟨hw, h⟩ | ⟨hw, h⟩
  · rw [if_pos hw]
    exact .inl (step_wp hE hm hI hK hKp h)
  · rw [if_neg (by simp [hw])]
    rw [putD_eq] at h
    exact hK _ _ _ _ _ _ h (hI.put (v := .skp) (u := undef) rfl o.dst)

theorem evOps_wp (hE : EnvOK P E) (hM : ∀ o ∈ ops.toList, MoreOK P o) (hKp : Falls X w0 kp Q) (hK : Goes X w0 k (Q .normal)) :
    ∀ (l pre : List Oper), ops.toList = pre ++ l → ∀ {β S tm hp a w}, Inv X w0 β S tm hp a w → evOps E ops.toList l tm hp kp k → wpOps P ops Q (List.range' pre.length l.length) a w
  | [], pre, _, β, S, tm, hp, a, w, hI, h => hK _ _ _ _ _ _ h hI
  | o :: l, pre, he, β, S, tm, hp, a, w, hI, h => by
    have ho : ops[pre.length]? = some o := by rw [← Array.getElem?_toList, he]; simp
    rw [List.length_cons, List.range'_succ, wpOps_cons]
    refine evOp_wp (k := fun tm hp => evOps E ops.toList l tm hp kp k) hE hM hKp ho hI ?_ h
    intro β' S' tm' hp' a' w' h' hI'
    have := evOps_wp hE hM hKp hK l (pre ++ [o]) (by simp [he]) hI' h'
    simpa using this

theorem getB_eq (l : List Bool) (i : Nat) : getB l i = l.getD i false := by
  induction l generalizing i with
  | nil => simp [getB]
  | cons b l ih => cases i <;> simp [getB, ih]
theorem setB_eq (l : List Bool) (i : Nat) : setB l i = l.set i true := by
  induction l generalizing i with
  | nil => simp [setB]
  | cons b l ih => cases i <;> simp [setB, ih]
theorem edgesOk_eq (listed : Array Bool) (l : List Edge) : edgesOk listed.toList l = l.all fun e => !Region.binds .any e || listed.getD e.on false := by
  induction l with
  | nil => rfl
  | cons e l ih =>
    have hg : getB listed.toList e.on = listed.getD e.on false := by
      rw [getB_eq, Array.getD_eq_getD_getElem?, List.getD_eq_getElem?_getD, Array.getElem?_toList]
    simp only [edgesOk, List.all_cons, hg, ih]
    cases Region.binds .any e <;> cases listed.getD e.on false <;> simp

theorem ready_iff {listed : Array Bool} (hs : listed.size = ops.size) (i : Nat) : i ∈ Region.ready .any ops listed ↔ ∃ o, ops[i]? = some o ∧ isReady listed.toList i o = true := by
  unfold Region.ready
  simp only [List.mem_filter, List.mem_range, Bool.and_eq_true, Bool.not_eq_true']
  constructor
  · rintro ⟨h1, h2, h3⟩
    refine ⟨ops[i], by simp [h1], ?_⟩
    simp only [Array.getElem?_eq_getElem h1, Option.map_some, Option.getD_some] at h3
    unfold isReady
    have : getB listed.toList i = false := by
      rw [getB_eq, List.getD_eq_getElem?_getD, Array.getElem?_toList]
      rw [Array.getD_eq_getD_getElem?] at h2
      rw [Array.getElem?_eq_getElem (by omega)] at h2 ⊢
      simpa using h2
    rw [this, edgesOk_eq]
    rw [← Array.all_toList] at h3
    exact h3
  · rintro ⟨o, h1, h2⟩
    have hlt := (Array.getElem?_eq_some_iff.1 h1).1
    unfold isReady at h2
    split at h2
    · simp at h2
    · rename_i hb
      refine ⟨hlt, ?_, ?_⟩
      · rw [getB_eq, List.getD_eq_getElem?_getD, Array.getElem?_toList] at hb
        rw [Array.getD_eq_getD_getElem?]
        rw [Array.getElem?_eq_getElem (by omega)] at hb ⊢
        simpa using hb
      · rw [edgesOk_eq] at h2
        simp only [h1, Option.map_some, Option.getD_some]
        rw [← Array.all_toList]
        exact h2

theorem noneReady_of {listed : List Bool} : ∀ {l : List Oper} {i : Nat}, noneReady listed i l = true ↔ ∀ j o, l[j]? = some o → isReady listed (i + j) o = false
  | [], i => by simp [noneReady]
  | o :: l, i => by
    simp only [noneReady]
    cases e : isReady listed i o with
    | true =>
      simp only [Bool.false_eq_true, false_iff]
      intro h
      have := h 0 o rfl
      simp [e] at this
    | false =>
      simp only
      rw [noneReady_of]
      constructor
      · intro h j o' hj
        cases j with
        | zero => simp at hj; subst hj; exact e
        | succ j => rw [show i + (j + 1) = i + 1 + j by omega]; exact h j o' (by simpa using hj)
      · intro h j o' hj
        rw [show i + 1 + j = i + (j + 1) by omega]
        exact h (j + 1) o' (by simpa using hj)
theorem eachReady_of {listed : List Bool} {f : Nat → Oper → Prop} : ∀ {l : List Oper} {i : Nat}, eachReady listed f i l → ∀ j o, l[j]? = some o → isReady listed (i + j) o = true → f (i + j) o
  | [], i, _ => by simp
  | o :: l, i, h => by
    simp only [eachReady] at h
    intro j o' hj hr
    cases j with
    | zero =>
      simp at hj
      subst hj
      simp only [Nat.add_zero] at hr ⊢
      rw [hr] at h
      exact h.1
    | succ j =>
      have h' : eachReady listed f (i + 1) l := by
        cases e : isReady listed i o with
        | true => rw [e] at h; exact h.2
        | false => rw [e] at h; exact h
      have := eachReady_of h' j o' (by simpa using hj) (by rw [show i + 1 + j = i + (j + 1) by omega]; exact hr)
      rwa [show i + 1 + j = i + (j + 1) by omega] at this

theorem ready_nil {listed : Array Bool} (hs : listed.size = ops.size) : Region.ready .any ops listed = [] ↔ noneReady listed.toList 0 ops.toList = true := by
  rw [noneReady_of]
  constructor
  · intro h j o hj
    cases e : isReady listed.toList (0 + j) o with
    | false => rfl
    | true =>
      have : j ∈ Region.ready .any ops listed := (ready_iff hs j).2 ⟨o, by rw [← Array.getElem?_toList]; exact hj, by simpa using e⟩
      rw [h] at this
      simp at this
  · intro h
    cases e : Region.ready .any ops listed with
    | nil => rfl
    | cons i l =>
      have hi : i ∈ Region.ready .any ops listed := by rw [e]; simp
      obtain ⟨o, h1, h2⟩ := (ready_iff hs i).1 hi
      have := h i o (by rw [Array.getElem?_toList]; exact h1)
      simp [h2] at this

theorem evAny_wp (hE : EnvOK P E) (hM : ∀ o ∈ ops.toList, MoreOK P o) (hKp : Falls X w0 kp Q) (hK : Goes X w0 k (Q .normal)) :
    ∀ (n : Nat) (listed : Array Bool), listed.size = ops.size → ∀ {β S tm hp a w}, Inv X w0 β S tm hp a w → evAny E ops.toList kp k n listed.toList tm hp → wpAny P .any ops Q n listed a w
  | 0, listed, hs, β, S, tm, hp, a, w, hI, h => by
    simp only [evAny] at h
    split at h
    · rename_i hn
      exact ⟨(ready_nil hs).2 hn, hK _ _ _ _ _ _ h hI⟩
    · exact h.elim
  | n + 1, listed, hs, β, S, tm, hp, a, w, hI, h => by
    simp only [evAny] at h
    split at h
    · rename_i hn
      have hn := (ready_nil hs).2 hn
      exact ⟨fun _ => hK _ _ _ _ _ _ h hI, fun i hi => by rw [hn] at hi; simp at hi⟩
    · rename_i hn
      refine ⟨fun h0 => by rw [(ready_nil hs).1 h0] at hn; simp at hn, fun i hi => ?_⟩
      obtain ⟨o, h1, h2⟩ := (ready_iff hs i).1 hi
      have := eachReady_of h i o (by rw [Array.getElem?_toList]; exact h1) (by simpa using h2)
      simp only [Nat.zero_add] at this
      refine evOp_wp (k := fun tm hp => evAny E ops.toList kp k n (setB listed.toList i) tm hp) hE hM hKp h1 hI ?_ this
      intro β' S' tm' hp' a' w' h' hI'
      rw [setB_eq] at h'
      exact evAny_wp hE hM hKp hK n (listed.setIfInBounds i true) (by simp [hs]) hI' (by simpa using h')

end regions
end Go.Proofs.Ythakgbecpkfeoaa.Ev
