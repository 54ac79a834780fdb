/- What abstract values, objects and states mean in the model's world; what keeps that meaning. -/
import Derived.Test.YthakgbecpkfeoaaEvA
set_option linter.unusedVariables false
set_option linter.unusedSimpArgs false
namespace Go.Proofs.Ythakgbecpkfeoaa.Ev

def cellsOf (τ : ET) (xs : List τ.T) : List Value := xs.flatMap fun x => (τ.enc x).map CV.v

theorem enc_length (τ : ET) (x : τ.T) : (τ.enc x).length = τ.size := by cases τ <;> rfl
theorem size_pos (τ : ET) : 0 < τ.size := by cases τ <;> decide

theorem cellsOf_length (τ : ET) (xs : List τ.T) : (cellsOf τ xs).length = xs.length * τ.size := by
  induction xs with
  | nil => simp [cellsOf]
  | cons x xs ih =>
    simp only [cellsOf, List.flatMap_cons, List.length_append, List.length_map, enc_length, List.length_cons] at ih ⊢
    rw [ih, Nat.add_mul]
    omega
theorem cellsOf_append (τ : ET) (xs ys : List τ.T) : cellsOf τ (xs ++ ys) = cellsOf τ xs ++ cellsOf τ ys := by simp [cellsOf]
theorem cellsOf_cons (τ : ET) (x : τ.T) (xs : List τ.T) : cellsOf τ (x :: xs) = (τ.enc x).map CV.v ++ cellsOf τ xs := by simp [cellsOf]

theorem cellsOf_at (τ : ET) (xs : List τ.T) (i j : Nat) (c : CV) (hi : i < xs.length) (hj : (τ.enc (xs.getD i τ.dflt))[j]? = some c) :
    (cellsOf τ xs)[i * τ.size + j]? = some c.v := by
  induction xs generalizing i with
  | nil => simp at hi
  | cons x xs ih =>
    rw [cellsOf_cons]
    have hjl : j < τ.size := by rw [← enc_length τ]; exact (List.getElem?_eq_some_iff.1 hj).1
    cases i with
    | zero =>
      simp only [List.getD_cons_zero, Nat.zero_mul, Nat.zero_add] at hj ⊢
      rw [List.getElem?_append_left (by simp [enc_length, hjl]), List.getElem?_map, hj]
      rfl
    | succ i =>
      simp only [List.getD_cons_succ] at hj
      have h := ih i (by simpa using hi) hj
      rw [List.getElem?_append_right (by simp [enc_length, Nat.add_mul]; omega)]
      simp only [List.length_map, enc_length]
      rw [show (i + 1) * τ.size + j - τ.size = i * τ.size + j by rw [Nat.add_mul]; omega]
      exact h

theorem cv_one (c : CV) : c.v.oneCell' = true := by cases c <;> rfl
theorem cellsOf_one (τ : ET) (xs : List τ.T) : ∀ u ∈ cellsOf τ xs, u.oneCell' = true := by
  intro u hu
  simp only [cellsOf, List.mem_flatMap, List.mem_map] at hu
  obtain ⟨x, _, c, _, rfl⟩ := hu
  exact cv_one c

theorem add_add (a : Addr) (m j : Nat) : (a.add m).add j = a.add (m + j) := by
  obtain ⟨b, o, s⟩ := a
  unfold Addr.add
  split
  · rename_i h; subst h; simp
  · split
    · rename_i h h2; subst h2; simp [h]
    · rename_i h h2
      simp [h, h2, Nat.add_assoc]
theorem add_block (a : Addr) (m : Nat) : (a.add m).block = a.block := by unfold Addr.add; split <;> rfl
theorem add_zero' (g m : Nat) : (⟨g, 0, none⟩ : Addr).add m = ⟨g, m, none⟩ := by unfold Addr.add; split <;> simp_all
theorem add_off (g o m : Nat) : (⟨g, o, none⟩ : Addr).add m = ⟨g, o + m, none⟩ := by unfold Addr.add; split <;> simp_all

/-! ### Values -/
def Reads (S : Nat → Prop) (w : World) (A : Option Addr) (cs : List Value) : Prop :=
  cs ≠ [] → ∃ a, A = some a ∧ S a.block ∧ ∀ j u, cs[j]? = some u → w.cell? (a.add j) = some u

abbrev maxI : Nat := 9223372036854775807

mutual
def RelV (β : Nat → Option Value) (S : Nat → Prop) (w : World) : AV → Value → Prop
  | .int k n, v => v = .int k n
  | .bool b, v => v = .bool b
  | .str s, v => v = .string s
  | .ptr o off, v => ∃ g, β o = some (.pointer (some ⟨g, 0, none⟩)) ∧ v = .pointer (some ⟨g, off, none⟩)
  | .ep cs, v => ∃ a, v = .pointer (some a) ∧ S a.block ∧ ∀ j c, cs[j]? = some c → w.cell? (a.add j) = some c.v
  | .oep o i, v => ∃ g n c, β o = some (.slice (some ⟨g, 0, none⟩) n c) ∧ v = .pointer (some ⟨g, i, none⟩)
  | .sl τ xs, v => ∃ A c, v = .slice A xs.length c ∧ xs.length ≤ c ∧ xs.length ≤ maxI ∧ Reads S w A (cellsOf τ xs)
  | .lit τ xs, v => ∃ g, v = .slice (some ⟨g, 0, none⟩) xs.length xs.length ∧ S g ∧ w.heap[g]? = some (.cells (cellsOf τ xs).toArray τ.tid (0, 0)) ∧ xs.length ≤ maxI
  | .own o, v => β o = some v ∧ ∃ A n c, v = .slice A n c
  | .nil, v => v = .slice none 0 0
  | .fn f, v => v = .func (.func f) #[] #[]
  | .clo f caps, v => ∃ cs : List Value, v = .func (.func f) #[] cs.toArray ∧ RelVs β S w caps cs
  | .agg l, v => ∃ vs : List Value, v = .agg vs.toArray ∧ RelVs β S w l vs
  | .tup l, v => ∃ vs : List Value, v = .tuple vs.toArray ∧ RelVs β S w l vs
  | .ifc t x, v => ∃ u, v = .iface t u ∧ RelV β S w x u
  | .opq x, v => v = x
  | .skp, v => v = undef
  | .undef, _ => True
def RelVs (β : Nat → Option Value) (S : Nat → Prop) (w : World) : List AV → List Value → Prop
  | [], vs => vs = []
  | a :: l, vs => ∃ v us, vs = v :: us ∧ RelV β S w a v ∧ RelVs β S w l us
end

section mono
variable {β β' : Nat → Option Value} {S S' : Nat → Prop} {w w' : World}

theorem Reads.mono {A : Option Addr} {cs : List Value} (h : Reads S w A cs) (hS : ∀ b, S b → S' b) (hw : ∀ b, S b → w'.heap[b]? = w.heap[b]?) : Reads S' w' A cs := by
  intro hne
  obtain ⟨a, e, hs, hc⟩ := h hne
  exact ⟨a, e, hS _ hs, fun j u hj => (World.cell?_of_block (by rw [add_block]; exact hw _ hs)).trans (hc j u hj)⟩

mutual
theorem RelV.mono (hβ : ∀ o v, β o = some v → β' o = some v) (hS : ∀ b, S b → S' b) (hw : ∀ b, S b → w'.heap[b]? = w.heap[b]?) :
    ∀ (a : AV) (v : Value), RelV β S w a v → RelV β' S' w' a v
  | .int .., _, h => h
  | .bool .., _, h => h
  | .str .., _, h => h
  | .ptr .., _, ⟨g, h1, h2⟩ => ⟨g, hβ _ _ h1, h2⟩
  | .ep cs, _, ⟨a, h1, h2, h3⟩ => ⟨a, h1, hS _ h2, fun j c hj => (World.cell?_of_block (by rw [add_block]; exact hw _ h2)).trans (h3 j c hj)⟩
  | .oep .., _, ⟨g, n, c, h1, h2⟩ => ⟨g, n, c, hβ _ _ h1, h2⟩
  | .sl .., _, ⟨A, c, h1, h2, h3, h4⟩ => ⟨A, c, h1, h2, h3, h4.mono hS hw⟩
  | .lit .., _, ⟨g, h1, h2, h3, h4⟩ => ⟨g, h1, hS _ h2, (hw _ h2).trans h3, h4⟩
  | .own .., _, ⟨h1, h2⟩ => ⟨hβ _ _ h1, h2⟩
  | .nil, _, h => h
  | .fn .., _, h => h
  | .clo _ l, _, ⟨cs, h1, h2⟩ => ⟨cs, h1, RelVs.mono hβ hS hw l cs h2⟩
  | .agg l, _, ⟨cs, h1, h2⟩ => ⟨cs, h1, RelVs.mono hβ hS hw l cs h2⟩
  | .tup l, _, ⟨cs, h1, h2⟩ => ⟨cs, h1, RelVs.mono hβ hS hw l cs h2⟩
  | .ifc _ x, _, ⟨u, h1, h2⟩ => ⟨u, h1, RelV.mono hβ hS hw x u h2⟩
  | .opq .., _, h => h
  | .skp, _, h => h
  | .undef, _, _ => trivial
theorem RelVs.mono (hβ : ∀ o v, β o = some v → β' o = some v) (hS : ∀ b, S b → S' b) (hw : ∀ b, S b → w'.heap[b]? = w.heap[b]?) :
    ∀ (l : List AV) (vs : List Value), RelVs β S w l vs → RelVs β' S' w' l vs
  | [], _, h => h
  | a :: l, _, ⟨v, us, h1, h2, h3⟩ => ⟨v, us, h1, RelV.mono hβ hS hw a v h2, RelVs.mono hβ hS hw l us h3⟩
end

/- What an object named is forgotten. -/
mutual
theorem RelV.kill (o : Nat) (hβ : ∀ p v, p ≠ o → β p = some v → β' p = some v) : ∀ (a : AV) (v : Value), RelV β S w a v → RelV β' S w (a.kill o) v
  | .int .., _, h => h
  | .bool .., _, h => h
  | .str .., _, h => h
  | .ptr p off, _, h => by
    simp only [AV.kill]
    cases e : Nat.beq p o with
    | true => trivial
    | false =>
      obtain ⟨g, h1, h2⟩ := h
      exact ⟨g, hβ _ _ (Nat.ne_of_beq_eq_false e) h1, h2⟩
  | .ep cs, _, h => h
  | .oep p i, _, h => by
    simp only [AV.kill]
    cases e : Nat.beq p o with
    | true => trivial
    | false =>
      obtain ⟨g, n, c, h1, h2⟩ := h
      exact ⟨g, n, c, hβ _ _ (Nat.ne_of_beq_eq_false e) h1, h2⟩
  | .sl .., _, h => h
  | .lit .., _, h => h
  | .own p, _, h => by
    simp only [AV.kill]
    cases e : Nat.beq p o with
    | true => trivial
    | false => exact ⟨hβ _ _ (Nat.ne_of_beq_eq_false e) h.1, h.2⟩
  | .nil, _, h => h
  | .fn .., _, h => h
  | .clo _ l, _, ⟨cs, h1, h2⟩ => ⟨cs, h1, RelVs.kill o hβ l cs h2⟩
  | .agg l, _, ⟨cs, h1, h2⟩ => ⟨cs, h1, RelVs.kill o hβ l cs h2⟩
  | .tup l, _, ⟨cs, h1, h2⟩ => ⟨cs, h1, RelVs.kill o hβ l cs h2⟩
  | .ifc _ x, _, ⟨u, h1, h2⟩ => ⟨u, h1, RelV.kill o hβ x u h2⟩
  | .opq .., _, h => h
  | .skp, _, h => h
  | .undef, _, _ => trivial
theorem RelVs.kill (o : Nat) (hβ : ∀ p v, p ≠ o → β p = some v → β' p = some v) : ∀ (l : List AV) (vs : List Value), RelVs β S w l vs → RelVs β' S w (AV.kills o l) vs
  | [], _, h => h
  | a :: l, _, ⟨v, us, h1, h2, h3⟩ => ⟨v, us, h1, RelV.kill o hβ a v h2, RelVs.kill o hβ l us h3⟩
end

/- An array is read alone from now on. -/
mutual
theorem RelV.frz (o : Nat) (τ : ET) (xs : List τ.T) (hβ : ∀ p v, p ≠ o → β p = some v → β' p = some v) (hS : ∀ b, S b → S' b)
    (ho : ∀ v, β o = some v → RelV β' S' w (.sl τ xs) v) : ∀ (a : AV) (v : Value), RelV β S w a v → RelV β' S' w (a.frz o τ xs) v
  | .int .., _, h => h
  | .bool .., _, h => h
  | .str .., _, h => h
  | .ptr p off, _, h => by
    simp only [AV.frz]
    cases e : Nat.beq p o with
    | true => trivial
    | false =>
      obtain ⟨g, h1, h2⟩ := h
      exact ⟨g, hβ _ _ (Nat.ne_of_beq_eq_false e) h1, h2⟩
  | .ep cs, _, ⟨a, h1, h2, h3⟩ => ⟨a, h1, hS _ h2, h3⟩
  | .oep p i, _, h => by
    simp only [AV.frz]
    cases e : Nat.beq p o with
    | true => trivial
    | false =>
      obtain ⟨g, n, c, h1, h2⟩ := h
      exact ⟨g, n, c, hβ _ _ (Nat.ne_of_beq_eq_false e) h1, h2⟩
  | .sl .., _, ⟨A, c, h1, h2, h3, h4⟩ => ⟨A, c, h1, h2, h3, h4.mono hS fun _ _ => rfl⟩
  | .lit .., _, ⟨g, h1, h2, h3⟩ => ⟨g, h1, hS _ h2, h3⟩
  | .own p, v, h => by
    simp only [AV.frz]
    cases e : Nat.beq p o with
    | true => exact ho v (by rw [← Nat.eq_of_beq_eq_true e]; exact h.1)
    | false => exact ⟨hβ _ _ (Nat.ne_of_beq_eq_false e) h.1, h.2⟩
  | .nil, _, h => h
  | .fn .., _, h => h
  | .clo _ l, _, ⟨cs, h1, h2⟩ => ⟨cs, h1, RelVs.frz o τ xs hβ hS ho l cs h2⟩
  | .agg l, _, ⟨cs, h1, h2⟩ => ⟨cs, h1, RelVs.frz o τ xs hβ hS ho l cs h2⟩
  | .tup l, _, ⟨cs, h1, h2⟩ => ⟨cs, h1, RelVs.frz o τ xs hβ hS ho l cs h2⟩
  | .ifc _ x, _, ⟨u, h1, h2⟩ => ⟨u, h1, RelV.frz o τ xs hβ hS ho x u h2⟩
  | .opq .., _, h => h
  | .skp, _, h => h
  | .undef, _, _ => trivial
theorem RelVs.frz (o : Nat) (τ : ET) (xs : List τ.T) (hβ : ∀ p v, p ≠ o → β p = some v → β' p = some v) (hS : ∀ b, S b → S' b)
    (ho : ∀ v, β o = some v → RelV β' S' w (.sl τ xs) v) : ∀ (l : List AV) (vs : List Value), RelVs β S w l vs → RelVs β' S' w (AV.frzs o τ xs l) vs
  | [], _, h => h
  | a :: l, _, ⟨v, us, h1, h2, h3⟩ => ⟨v, us, h1, RelV.frz o τ xs hβ hS ho a v h2, RelVs.frz o τ xs hβ hS ho l us h3⟩
end

end mono
end Go.Proofs.Ythakgbecpkfeoaa.Ev
