/- States: what an abstract state says of the model's; how it goes on from one operation to the next. -/
import Derived.Test.YthakgbecpkfeoaaEvB
set_option linter.unusedVariables false
set_option linter.unusedSimpArgs false
namespace Go.Proofs.Ythakgbecpkfeoaa.Ev

/-! ### The words in continuation form, plainly -/
theorem getV_eq (l : List AV) (n : Nat) : getV l n = l.getD n .undef := by
  induction l generalizing n with
  | nil => simp [getV]
  | cons x l ih => cases n <;> simp [getV, ih]
theorem nthA_of {l : List AV} {n : Nat} {k : AV → Prop} (h : nthA l n k) : n < l.length ∧ k (l.getD n .undef) := by
  induction l generalizing n with
  | nil => exact h.elim
  | cons x l ih =>
    cases n with
    | zero => simpa [nthA, AV.f_eq] using h
    | succ n => obtain ⟨h1, h2⟩ := ih h; exact ⟨by simpa using h1, by simpa using h2⟩
theorem setF_eq (l : List AV) (n : Nat) (v : AV) (k : List AV → Prop) : setF l n v k = k (l.set n v) := by
  induction l generalizing n k with
  | nil => simp [setF]
  | cons x l ih => cases n <;> simp [setF, ih]
theorem putF_eq (tm : List AV) (d : Nat) (v : AV) (k : List AV → Prop) : putF tm d v k = k (tm.set d v) := by simp [putF, AV.f_eq, setF_eq]
def putL (tm : List AV) (d : Option Nat) (v : AV) : List AV := match d with | some d => tm.set d v | none => tm
theorem putD_eq (tm : List AV) (d : Option Nat) (v : AV) (k : List AV → Prop) : putD tm d v k = k (putL tm d v) := by cases d <;> simp [putD, putL, putF_eq]
theorem takeF_of {l : List AV} {n : Nat} {k : List AV → Prop} (h : takeF l n k) : n ≤ l.length ∧ k (l.take n) := by
  induction l generalizing n k with
  | nil => cases n <;> simp_all [takeF]
  | cons x l ih =>
    cases n with
    | zero => simpa [takeF] using h
    | succ n => obtain ⟨h1, h2⟩ := ih h; exact ⟨by simpa using h1, by simpa using h2⟩
theorem dropF_of {l : List AV} {n : Nat} {k : List AV → Prop} (h : dropF l n k) : n ≤ l.length ∧ k (l.drop n) := by
  induction l generalizing n k with
  | nil => cases n <;> simp_all [dropF]
  | cons x l ih =>
    cases n with
    | zero => simpa [dropF] using h
    | succ n => obtain ⟨h1, h2⟩ := ih h; exact ⟨by simpa using h1, by simpa using h2⟩
theorem spliceF_of {l : List AV} {n : Nat} {vs : List AV} {k : List AV → Prop} (h : spliceF l n vs k) : n + vs.length ≤ l.length ∧ k (l.take n ++ vs ++ l.drop (n + vs.length)) := by
  induction l generalizing n vs k with
  | nil => cases n <;> cases vs <;> simp_all [spliceF]
  | cons x l ih =>
    cases n with
    | zero =>
      cases vs with
      | nil => simpa [spliceF] using h
      | cons v vs => obtain ⟨h1, h2⟩ := ih h; exact ⟨by simpa using h1, by simpa using h2⟩
    | succ n =>
      obtain ⟨h1, h2⟩ := ih (n := n) (vs := vs) (by simpa [spliceF] using h)
      exact ⟨by simp; omega, by rw [show n + 1 + vs.length = n + vs.length + 1 by omega]; simpa using h2⟩
theorem takeC_of {l : List CV} {n : Nat} {k : List AV → Prop} (h : takeC l n k) : n ≤ l.length ∧ k ((l.take n).map CV.av) := by
  induction l generalizing n k with
  | nil => cases n <;> simp_all [takeC]
  | cons x l ih =>
    cases n with
    | zero => simpa [takeC] using h
    | succ n => rw [takeC, AV.f_eq] at h; obtain ⟨h1, h2⟩ := ih h; exact ⟨by simpa using h1, by simpa using h2⟩
theorem dropC_of {l : List CV} {n : Nat} {k : List CV → Prop} (h : dropC l n k) : n ≤ l.length ∧ k (l.drop n) := by
  induction l generalizing n k with
  | nil => cases n <;> simp_all [dropC]
  | cons x l ih =>
    cases n with
    | zero => simpa [dropC] using h
    | succ n => obtain ⟨h1, h2⟩ := ih h; exact ⟨by simpa using h1, by simpa using h2⟩
theorem hget_of {h : Hp} {n : Nat} {k : AO → Prop} (hh : hget h n k) : ∃ x, (n, x) ∈ h ∧ k x := by
  induction h with
  | nil => exact hh.elim
  | cons p h ih =>
    obtain ⟨o, x⟩ := p
    simp only [hget] at hh
    cases e : Nat.beq o n with
    | true => rw [e] at hh; obtain rfl := Nat.eq_of_beq_eq_true e; exact ⟨x, by simp, hh⟩
    | false => rw [e] at hh; obtain ⟨y, h1, h2⟩ := ih hh; exact ⟨y, by simp [h1], h2⟩
theorem tiGet_of {h : List (Nat × TI)} {n : Nat} {k : TI → Prop} (hh : tiGet h n k) : ∃ x, (n, x) ∈ h ∧ k x := by
  induction h with
  | nil => exact hh.elim
  | cons p h ih =>
    obtain ⟨o, x⟩ := p
    simp only [tiGet] at hh
    cases e : Nat.beq o n with
    | true => rw [e] at hh; obtain rfl := Nat.eq_of_beq_eq_true e; exact ⟨x, by simp, hh⟩
    | false => rw [e] at hh; obtain ⟨y, h1, h2⟩ := ih hh; exact ⟨y, by simp [h1], h2⟩
theorem spGet_of {h : List (Nat × Spec)} {n : Nat} {k : Spec → Prop} (hh : spGet h n k) : ∃ x, (n, x) ∈ h ∧ k x := by
  induction h with
  | nil => exact hh.elim
  | cons p h ih =>
    obtain ⟨o, x⟩ := p
    simp only [spGet] at hh
    cases e : Nat.beq o n with
    | true => rw [e] at hh; obtain rfl := Nat.eq_of_beq_eq_true e; exact ⟨x, by simp, hh⟩
    | false => rw [e] at hh; obtain ⟨y, h1, h2⟩ := ih hh; exact ⟨y, by simp [h1], h2⟩
theorem nthF_of {l : List (Nat × Nat × Bool)} {i : Nat} {k : Nat × Nat × Bool → Prop} (h : nthF l i k) : ∃ x, l[i]? = some x ∧ k x := by
  induction l generalizing i with
  | nil => exact h.elim
  | cons y l ih => cases i with
    | zero => exact ⟨y, rfl, h⟩
    | succ i => obtain ⟨x, h1, h2⟩ := ih h; exact ⟨x, by simpa using h1, h2⟩

def hput : Hp → Nat → AO → Hp
  | [], n, x => [(n, x)]
  | (o, y) :: h, n, x => if o = n then (n, x) :: h else (o, y) :: hput h n x
theorem hputF_eq (h : Hp) (n : Nat) (x : AO) (k : Hp → Prop) : hputF h n x k = k (hput h n x) := by
  induction h generalizing k with
  | nil => rfl
  | cons p h ih =>
    obtain ⟨o, y⟩ := p
    simp only [hputF, hput]
    cases e : Nat.beq o n with
    | true => simp [Nat.eq_of_beq_eq_true e]
    | false => simp [Nat.ne_of_beq_eq_false e, ih]
theorem hput_keys (h : Hp) (n : Nat) (x : AO) : (hput h n x).map (·.1) = if n ∈ h.map (·.1) then h.map (·.1) else h.map (·.1) ++ [n] := by
  induction h with
  | nil => simp [hput]
  | cons p h ih =>
    obtain ⟨o, y⟩ := p
    simp only [hput]
    by_cases e : o = n
    · subst e; simp
    · have e' : ¬ n = o := fun z => e z.symm
      simp only [e, if_false, List.map_cons, List.mem_cons, e', false_or, ih]
      split <;> simp
theorem hput_nodup {h : Hp} (hn : (h.map (·.1)).Nodup) (n : Nat) (x : AO) : ((hput h n x).map (·.1)).Nodup := by
  rw [hput_keys]
  split
  · exact hn
  · rename_i hm
    rw [List.nodup_append]
    refine ⟨hn, by simp, ?_⟩
    intro a ha b hb
    simp at hb
    subst hb
    intro e
    subst e
    exact hm ha
theorem hput_mem {h : Hp} (hn : (h.map (·.1)).Nodup) {n : Nat} {x : AO} {o : Nat} {y : AO} (hm : (o, y) ∈ hput h n x) : (o = n ∧ y = x) ∨ (o ≠ n ∧ (o, y) ∈ h) := by
  induction h with
  | nil => simp [hput] at hm; exact .inl hm
  | cons p h ih =>
    obtain ⟨q, z⟩ := p
    simp only [List.map_cons, List.nodup_cons] at hn
    simp only [hput] at hm
    by_cases e : q = n
    · subst e
      simp only [if_true, List.mem_cons, Prod.mk.injEq] at hm
      rcases hm with ⟨rfl, rfl⟩ | hm
      · exact .inl ⟨rfl, rfl⟩
      · refine .inr ⟨?_, by simp [hm]⟩
        rintro rfl
        exact hn.1 (List.mem_map.2 ⟨_, hm, rfl⟩)
    · simp only [e, if_false, List.mem_cons, Prod.mk.injEq] at hm
      rcases hm with ⟨rfl, rfl⟩ | hm
      · exact .inr ⟨e, by simp⟩
      · rcases ih hn.2 hm with h1 | ⟨h1, h2⟩
        · exact .inl h1
        · exact .inr ⟨h1, by simp [h2]⟩
theorem hput_self (h : Hp) (n : Nat) (x : AO) : (n, x) ∈ hput h n x := by
  induction h with
  | nil => simp [hput]
  | cons p h ih => obtain ⟨q, z⟩ := p; simp only [hput]; split <;> simp [ih]
theorem hput_keep {h : Hp} {n : Nat} {x : AO} {o : Nat} {y : AO} (ho : o ≠ n) (hm : (o, y) ∈ h) : (o, y) ∈ hput h n x := by
  induction h with
  | nil => simp at hm
  | cons p h ih =>
    obtain ⟨q, z⟩ := p
    simp only [hput]
    simp only [List.mem_cons, Prod.mk.injEq] at hm
    split
    · rename_i e
      rcases hm with ⟨rfl, rfl⟩ | hm
      · exact absurd e ho
      · simp [hm]
    · rcases hm with ⟨rfl, rfl⟩ | hm
      · simp
      · simp [ih hm]

def hdel : Hp → Nat → Hp
  | [], _ => []
  | (o, y) :: h, n => if o = n then h else (o, y) :: hdel h n
theorem hdelF_eq (h : Hp) (n : Nat) (k : Hp → Prop) : hdelF h n k = k (hdel h n) := by
  induction h generalizing k with
  | nil => rfl
  | cons p h ih =>
    obtain ⟨o, y⟩ := p
    simp only [hdelF, hdel]
    cases e : Nat.beq o n with
    | true => simp [Nat.eq_of_beq_eq_true e]
    | false => simp [Nat.ne_of_beq_eq_false e, ih]
theorem hdel_mem {h : Hp} (hn : (h.map (·.1)).Nodup) {n o : Nat} {y : AO} : (o, y) ∈ hdel h n ↔ o ≠ n ∧ (o, y) ∈ h := by
  induction h with
  | nil => simp [hdel]
  | cons p h ih =>
    obtain ⟨q, z⟩ := p
    simp only [List.map_cons, List.nodup_cons] at hn
    simp only [hdel]
    by_cases e : q = n
    · subst e
      simp only [if_true, List.mem_cons, Prod.mk.injEq]
      constructor
      · intro hm
        refine ⟨?_, .inr hm⟩
        rintro rfl
        exact hn.1 (List.mem_map.2 ⟨_, hm, rfl⟩)
      · rintro ⟨h1, ⟨rfl, rfl⟩ | h2⟩
        · exact absurd rfl h1
        · exact h2
    · simp only [e, if_false, List.mem_cons, Prod.mk.injEq, ih hn.2]
      constructor
      · rintro (⟨rfl, rfl⟩ | ⟨h1, h2⟩)
        · exact ⟨e, .inl ⟨rfl, rfl⟩⟩
        · exact ⟨h1, .inr h2⟩
      · rintro ⟨h1, ⟨rfl, rfl⟩ | h2⟩
        · exact .inl ⟨rfl, rfl⟩
        · exact .inr ⟨h1, h2⟩
theorem hdel_nodup {h : Hp} (hn : (h.map (·.1)).Nodup) (n : Nat) : ((hdel h n).map (·.1)).Nodup := by
  induction h with
  | nil => simp [hdel]
  | cons p h ih =>
    obtain ⟨q, z⟩ := p
    simp only [List.map_cons, List.nodup_cons] at hn
    simp only [hdel]
    split
    · exact hn.2
    · simp only [List.map_cons, List.nodup_cons]
      refine ⟨?_, ih hn.2⟩
      intro hm
      obtain ⟨⟨a, b⟩, h1, h2⟩ := List.mem_map.1 hm
      simp only at h2
      subst h2
      exact hn.1 (List.mem_map.2 ⟨_, ((hdel_mem hn.2).1 h1).2, rfl⟩)
theorem hlive_iff (h : Hp) (n : Nat) : hlive h n = true ↔ ∃ x, (n, x) ∈ h := by
  induction h with
  | nil => simp [hlive]
  | cons p h ih =>
    obtain ⟨q, z⟩ := p
    simp only [hlive]
    cases e : Nat.beq q n with
    | true => obtain rfl := Nat.eq_of_beq_eq_true e; simp
    | false =>
      have hne := Nat.ne_of_beq_eq_false e
      simp only [ih, List.mem_cons, Prod.mk.injEq]
      constructor
      · rintro ⟨x, hx⟩; exact ⟨x, .inr hx⟩
      · rintro ⟨x, ⟨rfl, rfl⟩ | hx⟩
        · exact absurd rfl hne
        · exact ⟨x, hx⟩

theorem kills_eq (o : Nat) (l : List AV) (k : List AV → Prop) : killsF o l k = k (AV.kills o l) := by
  induction l generalizing k with
  | nil => rfl
  | cons v l ih => simp [killsF, AV.f_eq, ih, AV.kills]
theorem frzs_eq (o : Nat) (τ : ET) (xs : List τ.T) (l : List AV) (k : List AV → Prop) : frzsF o τ xs l k = k (AV.frzs o τ xs l) := by
  induction l generalizing k with
  | nil => rfl
  | cons v l ih => simp [frzsF, AV.f_eq, ih, AV.frzs]
def AO.kill (o : Nat) : AO → AO
  | .box cs => .box (AV.kills o cs)
  | .arr τ xs => .arr τ xs
def AO.frz (o : Nat) (τ : ET) (xs : List τ.T) : AO → AO
  | .box cs => .box (AV.frzs o τ xs cs)
  | .arr τ' ys => .arr τ' ys
def killHp (o : Nat) (h : Hp) : Hp := h.map fun p => (p.1, p.2.kill o)
def frzHp (o : Nat) (τ : ET) (xs : List τ.T) (h : Hp) : Hp := h.map fun p => (p.1, p.2.frz o τ xs)
theorem killHp_eq (o : Nat) (h : Hp) (k : Hp → Prop) : killHpF o h k = k (killHp o h) := by
  induction h generalizing k with
  | nil => rfl
  | cons p h ih => obtain ⟨n, x⟩ := p; cases x <;> simp [killHpF, killHp, AO.kill, kills_eq, ih]
theorem frzHp_eq (o : Nat) (τ : ET) (xs : List τ.T) (h : Hp) (k : Hp → Prop) : frzHpF o τ xs h k = k (frzHp o τ xs h) := by
  induction h generalizing k with
  | nil => rfl
  | cons p h ih => obtain ⟨n, x⟩ := p; cases x <;> simp [frzHpF, frzHp, AO.frz, frzs_eq, ih]

theorem evs_eq (tm : List AV) (l : List Operand) (k : List AV → Prop) : evs tm l k = k (l.map (evalV tm)) := by
  induction l generalizing k with
  | nil => rfl
  | cons x l ih => simp [evs, AV.f_eq, ih]
theorem constsF_eq (l : List Value) (k : List AV → Prop) : constsF l k = k (l.map constV) := by
  induction l generalizing k with
  | nil => rfl
  | cons x l ih => simp [constsF, AV.f_eq, ih]

/-! ### Lists of values -/
section rel
variable {β β' : Nat → Option Value} {S S' : Nat → Prop} {w w' : World}
theorem RelVs.length : ∀ {l : List AV} {vs : List Value}, RelVs β S w l vs → l.length = vs.length
  | [], _, h => by simp only [RelVs] at h; subst h; rfl
  | _ :: _, _, ⟨_, _, rfl, _, h⟩ => by simp [RelVs.length h]
theorem RelVs.append : ∀ {l m : List AV} {vs us : List Value}, RelVs β S w l vs → RelVs β S w m us → RelVs β S w (l ++ m) (vs ++ us)
  | [], _, _, _, h, k => by simp only [RelVs] at h; subst h; exact k
  | _ :: _, _, _, _, ⟨v, us, rfl, h1, h2⟩, k => ⟨v, _, rfl, h1, h2.append k⟩
theorem RelVs.take (n : Nat) : ∀ {l : List AV} {vs : List Value}, RelVs β S w l vs → RelVs β S w (l.take n) (vs.take n) := by
  induction n with
  | zero => intro l vs _; simp [RelVs]
  | succ n ih =>
    intro l vs h
    cases l with
    | nil => simp only [RelVs] at h; subst h; simp [RelVs]
    | cons a l => obtain ⟨v, us, rfl, h1, h2⟩ := h; exact ⟨v, _, rfl, h1, ih h2⟩
theorem RelVs.drop (n : Nat) : ∀ {l : List AV} {vs : List Value}, RelVs β S w l vs → RelVs β S w (l.drop n) (vs.drop n) := by
  induction n with
  | zero => intro l vs h; simpa using h
  | succ n ih =>
    intro l vs h
    cases l with
    | nil => simp only [RelVs] at h; subst h; simp [RelVs]
    | cons a l => obtain ⟨v, us, rfl, h1, h2⟩ := h; simpa using ih h2
theorem RelVs.get {l : List AV} {vs : List Value} (h : RelVs β S w l vs) (n : Nat) (hn : n < l.length) : ∃ v, vs[n]? = some v ∧ RelV β S w (l.getD n .undef) v := by
  induction l generalizing vs n with
  | nil => simp at hn
  | cons a l ih =>
    obtain ⟨v, us, rfl, h1, h2⟩ := h
    cases n with
    | zero => exact ⟨v, rfl, h1⟩
    | succ n => obtain ⟨u, h3, h4⟩ := ih h2 n (by simpa using hn); exact ⟨u, by simpa using h3, by simpa using h4⟩
theorem RelVs.set {l : List AV} {vs : List Value} (h : RelVs β S w l vs) (n : Nat) {a : AV} {v : Value} (hv : RelV β S w a v) : RelVs β S w (l.set n a) (vs.set n v) := by
  induction l generalizing vs n with
  | nil => simp only [RelVs] at h; subst h; simp [RelVs]
  | cons b l ih =>
    obtain ⟨u, us, rfl, h1, h2⟩ := h
    cases n with
    | zero => exact ⟨v, us, rfl, hv, h2⟩
    | succ n => exact ⟨u, _, rfl, h1, ih h2 n⟩
theorem RelV.cv (c : CV) : RelV β S w c.av c.v := by cases c <;> simp [CV.av, CV.v, RelV]
theorem RelVs.cvs (l : List CV) : RelVs β S w (l.map CV.av) (l.map CV.v) := by
  induction l with
  | nil => simp [RelVs]
  | cons c l ih => exact ⟨c.v, _, rfl, RelV.cv c, ih⟩
end rel

theorem RelV.const {β : Nat → Option Value} {S : Nat → Prop} {w : World} (v : Value) : RelV β S w (constV v) v := by
  unfold constV
  split <;> simp [RelV]
theorem RelVs.consts {β : Nat → Option Value} {S : Nat → Prop} {w : World} (l : List Value) : RelVs β S w (l.map constV) l := by
  induction l with
  | nil => simp [RelVs]
  | cons c l ih => exact ⟨c, _, rfl, RelV.const c, ih⟩

/-! ### States -/
def blk : Value → Option Nat
  | .pointer (some a) => some a.block
  | .slice (some a) _ _ => some a.block
  | _ => none

/-- An array that the call owns. -/
def OwnR (S : Nat → Prop) (w : World) (B : Nat) (τ : ET) (xs : List τ.T) (v : Value) : Prop :=
  (xs = [] ∧ (v = .slice none 0 0 ∨ ∃ g, v = .slice (some ⟨g, 0, none⟩) 0 0 ∧ S g ∧ w.heap[g]? = some (.cells #[] τ.tid (0, 0)))) ∨
  ∃ g cap cur, v = .slice (some ⟨g, 0, none⟩) xs.length cap ∧ B ≤ g ∧ ¬ S g ∧ w.heap[g]? = some (.cells cur τ.tid (0, 0)) ∧ xs.length ≤ cap ∧ cap ≤ maxI ∧
    cur.size = cap * τ.size ∧ cur.toList.take (xs.length * τ.size) = cellsOf τ xs

/-- The blocks of old memory that the call may write, and those that it may read. -/
structure XR where
  x : Nat → Prop
  r : Nat → Prop
  e : Nat → Option Value
instance : CoeFun XR fun _ => Nat → Prop := ⟨XR.x⟩

structure Inv (X : XR) (w0 : World) (β : Nat → Option Value) (S : Nat → Prop) (tm : List AV) (hp : Hp) (a : Act) (w : World) : Prop where
  os : w.os = w0.os
  tape : w.tape = w0.tape
  output : w.output = w0.output
  size : w0.heap.size ≤ w.heap.size
  old : ∀ b, b < w0.heap.size → ¬ X b → w.heap[b]? = w0.heap[b]?
  ext : ∀ b, X b → b < w0.heap.size
  sb : ∀ b, S b → b < w.heap.size
  box : ∀ o cs, (o, .box cs) ∈ hp → ∃ g T vs, β o = some (.pointer (some ⟨g, 0, none⟩)) ∧ (w0.heap.size ≤ g ∨ X g) ∧ ¬ S g ∧ w.heap[g]? = some (.cells vs T (0, 0)) ∧ RelVs β S w cs vs.toList
  arr : ∀ o τ xs, (o, .arr τ xs) ∈ hp → ∃ v, β o = some v ∧ OwnR S w w0.heap.size τ xs v
  live : ∀ o v, β o = some v → ∃ x, (o, x) ∈ hp
  nodup : (hp.map (·.1)).Nodup
  apart : ∀ o o' v v' g, o ≠ o' → β o = some v → β o' = some v' → blk v = some g → ¬ S g → blk v' ≠ some g
  rel : RelVs β S w tm a.tmps.toList
  defs : a.defers = []
  grew : ∀ b, S b → b < w0.heap.size → X.r b
  keep : ∀ o v u, X.e o = some v → β o = some u → u = v
  far : ∀ o v, X.e o = some v → 1000 ≤ o

theorem OwnR.mono {S S' : Nat → Prop} {w w' : World} {B : Nat} {τ : ET} {xs : List τ.T} {v : Value} (h : OwnR S w B τ xs v) (hS : ∀ b, S b → S' b)
    (hn : ∀ b, blk v = some b → ¬ S b → ¬ S' b) (hw : ∀ b, blk v = some b → w'.heap[b]? = w.heap[b]?) : OwnR S' w' B τ xs v := by
  rcases h with ⟨h1, h2⟩ | ⟨g, cap, cur, rfl, h1, h2, h3, h4⟩
  · refine .inl ⟨h1, ?_⟩
    rcases h2 with h2 | ⟨g, rfl, h3, h4⟩
    · exact .inl h2
    · exact .inr ⟨g, rfl, hS _ h3, (hw g rfl).trans h4⟩
  · exact .inr ⟨g, cap, cur, rfl, h1, hn g rfl h2, (hw g rfl).trans h3, h4⟩

section inv
variable {X : XR} {w0 : World} {β : Nat → Option Value} {S : Nat → Prop} {tm : List AV} {hp : Hp} {a : Act} {w : World}

/-- The same memory under another count of draws. -/
theorem Inv.same (h : Inv X w0 β S tm hp a w) {w' : World} (ho : w'.os = w.os) (ht : w'.tape = w.tape) (hu : w'.output = w.output) (hh : w'.heap = w.heap) : Inv X w0 β S tm hp a w' := by
  have hw : ∀ b, S b → w'.heap[b]? = w.heap[b]? := fun b _ => by rw [hh]
  have hm : ∀ (l : List AV) vs, RelVs β S w l vs → RelVs β S w' l vs := fun l vs => RelVs.mono (fun _ _ x => x) (fun _ x => x) hw l vs
  refine ⟨ho.trans h.os, ht.trans h.tape, hu.trans h.output, by rw [hh]; exact h.size, fun b h1 h2 => by rw [hh]; exact h.old b h1 h2, h.ext, fun b hb => by rw [hh]; exact h.sb b hb, ?_, ?_, h.live, h.nodup, h.apart, hm _ _ h.rel, h.defs, h.grew, h.keep, h.far⟩
  · intro o cs ho
    obtain ⟨g, T, vs, h1, h2, h3, h4, h5⟩ := h.box o cs ho
    exact ⟨g, T, vs, h1, h2, h3, by rw [hh]; exact h4, hm _ _ h5⟩
  · intro o τ xs ho
    obtain ⟨v, h1, h2⟩ := h.arr o τ xs ho
    exact ⟨v, h1, h2.mono (fun _ x => x) (fun _ _ x => x) (fun b _ => by rw [hh])⟩

theorem Inv.put (h : Inv X w0 β S tm hp a w) {v : AV} {u : Value} (hv : RelV β S w v u) (d : Option Nat) : Inv X w0 β S (putL tm d v) hp (a.put d u) w := by
  cases d with
  | none => exact h
  | some d =>
    refine { h with rel := ?_, defs := h.defs }
    simp only [putL, Act.put, Array.toList_setIfInBounds]
    exact h.rel.set d hv

theorem Inv.eval (h : Inv X w0 β S tm hp a w) (x : Operand) : RelV β S w (evalV tm x) (a.eval x) := by
  cases x with
  | tmp t =>
    simp only [evalV, Act.eval, getV_eq]
    by_cases ht : t < tm.length
    · obtain ⟨v, h1, h2⟩ := h.rel.get t ht
      rw [Array.getD_eq_getD_getElem?, ← Array.getElem?_toList, h1]
      exact h2
    · have e : tm.getD t .undef = .undef := by simp [List.getD, List.getElem?_eq_none (Nat.le_of_not_lt ht)]
      rw [e]
      simp [RelV]
  | const v => exact RelV.const v
  | global g => simp [evalV, RelV]
  | func f => simp [evalV, RelV, Act.eval]

theorem Inv.evals (h : Inv X w0 β S tm hp a w) (l : List Operand) : RelVs β S w (l.map (evalV tm)) (l.map a.eval) := by
  induction l with
  | nil => simp [RelVs]
  | cons x l ih => exact ⟨_, _, rfl, h.eval x, ih⟩

/-- A slot is told as nothing, or as it is. -/
theorem Weak1.rel {b c : AV} (h : Weak1 b c) {v : Value} (hv : RelV β S w c v) : RelV β S w b v := by
  cases h with
  | same => exact hv
  | undef => simp [RelV]
  | lit τ xs =>
    obtain ⟨g, rfl, h1, h2, h3⟩ := hv
    refine ⟨_, _, rfl, Nat.le_refl _, h3, fun _ => ⟨⟨g, 0, none⟩, rfl, h1, fun j u hj => ?_⟩⟩
    rw [add_zero']
    simp only [World.cell?, h2]
    simpa using hj
theorem WeakL.rel {l m : List AV} (h : WeakL l m) : ∀ {vs : List Value}, RelVs β S w m vs → RelVs β S w l vs := by
  induction h with
  | nil => exact fun h => h
  | cons h1 _ ih => rintro vs ⟨v, us, rfl, h2, h3⟩; exact ⟨v, us, rfl, h1.rel h2, ih h3⟩
theorem Inv.weak (h : Inv X w0 β S tm hp a w) {tm' : List AV} (hl : WeakL tm' tm) : Inv X w0 β S tm' hp a w := { h with rel := hl.rel h.rel }
theorem WeakH.mem {h g : Hp} (hw : WeakH h g) : h.map (·.1) = g.map (·.1) ∧ (∀ o x, (o, x) ∈ h → ∃ y, (o, y) ∈ g ∧ WeakA x y) ∧ ∀ o y, (o, y) ∈ g → ∃ x, (o, x) ∈ h := by
  induction hw with
  | nil => simp
  | cons n hx _ ih =>
    obtain ⟨h1, h2, h3⟩ := ih
    refine ⟨by simp [h1], fun o x hm => ?_, fun o y hm => ?_⟩
    · simp only [List.mem_cons, Prod.mk.injEq] at hm
      rcases hm with ⟨rfl, rfl⟩ | hm
      · exact ⟨_, by simp, hx⟩
      · obtain ⟨y, h4, h5⟩ := h2 o x hm; exact ⟨y, by simp [h4], h5⟩
    · simp only [List.mem_cons, Prod.mk.injEq] at hm
      rcases hm with ⟨rfl, rfl⟩ | hm
      · exact ⟨_, List.mem_cons_self ..⟩
      · obtain ⟨x, h4⟩ := h3 o y hm; exact ⟨x, by simp [h4]⟩
theorem Inv.weakH (h : Inv X w0 β S tm hp a w) {hp' : Hp} (hw : WeakH hp' hp) : Inv X w0 β S tm hp' a w := by
  obtain ⟨h1, h2, h3⟩ := hw.mem
  refine { h with box := fun o cs ho => ?_, arr := fun o τ xs ho => ?_, live := fun o v hv => ?_, nodup := by rw [h1]; exact h.nodup, apart := h.apart, rel := h.rel, defs := h.defs }
  · obtain ⟨y, hy, hxy⟩ := h2 o _ ho
    cases hxy with
    | same => exact h.box o cs hy
    | box hl =>
      obtain ⟨g, T, vs, q1, q2, q3, q4, q5⟩ := h.box o _ hy
      exact ⟨g, T, vs, q1, q2, q3, q4, hl.rel q5⟩
  · obtain ⟨y, hy, hxy⟩ := h2 o _ ho
    cases hxy with
    | same => exact h.arr o τ xs hy
  · obtain ⟨x, hx⟩ := h.live o v hv
    exact h3 o x hx

end inv
end Go.Proofs.Ythakgbecpkfeoaa.Ev
