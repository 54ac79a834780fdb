/- How a state goes on where an object is made, written, forgotten, or read alone from then on. -/
import Derived.Test.YthakgbecpkfeoaaEvH
set_option linter.unusedVariables false
set_option linter.unusedSimpArgs false
namespace Go.Proofs.Ythakgbecpkfeoaa.Ev

def delβ (β : Nat → Option Value) (o : Nat) (p : Nat) : Option Value := if p = o then none else β p
def updβ (β : Nat → Option Value) (o : Nat) (v : Value) (p : Nat) : Option Value := if p = o then some v else β p

section trans
variable {X : XR} {w0 : World} {β : Nat → Option Value} {S : Nat → Prop} {tm : List AV} {hp : Hp} {a : Act} {w : World}

theorem killHp_mem {o : Nat} {h : Hp} {p : Nat} {y : AO} (hm : (p, y) ∈ killHp o h) : ∃ x, (p, x) ∈ h ∧ y = x.kill o := by
  obtain ⟨⟨q, x⟩, h1, h2⟩ := List.mem_map.1 hm
  simp only [Prod.mk.injEq] at h2
  obtain ⟨rfl, rfl⟩ := h2
  exact ⟨x, h1, rfl⟩
theorem killHp_keys (o : Nat) (h : Hp) : (killHp o h).map (·.1) = h.map (·.1) := by simp [killHp]
theorem frzHp_mem {o : Nat} {τ : ET} {xs : List τ.T} {h : Hp} {p : Nat} {y : AO} (hm : (p, y) ∈ frzHp o τ xs h) : ∃ x, (p, x) ∈ h ∧ y = x.frz o τ xs := by
  obtain ⟨⟨q, x⟩, h1, h2⟩ := List.mem_map.1 hm
  simp only [Prod.mk.injEq] at h2
  obtain ⟨rfl, rfl⟩ := h2
  exact ⟨x, h1, rfl⟩
theorem frzHp_keys (o : Nat) (τ : ET) (xs : List τ.T) (h : Hp) : (frzHp o τ xs h).map (·.1) = h.map (·.1) := by simp [frzHp]

/-- An object is forgotten. -/
theorem Inv.drop (hI : Inv X w0 β S tm hp a w) (o : Nat) : Inv X w0 (delβ β o) S (AV.kills o tm) (killHp o (hdel hp o)) a w := by
  have hβ : ∀ p v, p ≠ o → β p = some v → delβ β o p = some v := fun p v h1 h2 => by simp [delβ, h1, h2]
  have hinv : ∀ p v, delβ β o p = some v → p ≠ o ∧ β p = some v := fun p v h => by
    unfold delβ at h; split at h
    · simp at h
    · exact ⟨by assumption, h⟩
  refine ⟨hI.os, hI.tape, hI.output, hI.size, hI.old, hI.ext, hI.sb, ?_, ?_, ?_, ?_, ?_, RelVs.kill o hβ _ _ hI.rel, hI.defs, hI.grew, fun p u u' he hu => hI.keep p u u' he (hinv p u' hu).2, hI.far⟩
  · intro p cs hm
    obtain ⟨x, hx, he⟩ := killHp_mem hm
    obtain ⟨hne, hx⟩ := (hdel_mem hI.nodup).1 hx
    cases x with
    | arr τ xs => simp [AO.kill] at he
    | box ds =>
      simp only [AO.kill, AO.box.injEq] at he
      subst he
      obtain ⟨g, T, vs, h1, h2, h3, h4, h5⟩ := hI.box p ds hx
      exact ⟨g, T, vs, hβ _ _ hne h1, h2, h3, h4, RelVs.kill o hβ _ _ h5⟩
  · intro p τ xs hm
    obtain ⟨x, hx, he⟩ := killHp_mem hm
    obtain ⟨hne, hx⟩ := (hdel_mem hI.nodup).1 hx
    cases x with
    | box ds => simp [AO.kill] at he
    | arr τ' ys =>
      simp only [AO.kill] at he
      rw [← he] at hx
      obtain ⟨v, h1, h2⟩ := hI.arr p τ xs hx
      exact ⟨v, hβ _ _ hne h1, h2⟩
  · intro p v h
    obtain ⟨h1, h2⟩ := hinv p v h
    obtain ⟨x, hx⟩ := hI.live p v h2
    exact ⟨x.kill o, List.mem_map.2 ⟨(p, x), (hdel_mem hI.nodup).2 ⟨h1, hx⟩, rfl⟩⟩
  · rw [killHp_keys]; exact hdel_nodup hI.nodup o
  · intro p p' v v' g hne h1 h2
    exact hI.apart p p' v v' g hne (hinv p v h1).2 (hinv p' v' h2).2

theorem dropObj_of (hI : Inv X w0 β S tm hp a w) {o : Nat} {k : List AV → Hp → Prop} (h : dropObj tm hp o k) :
    ∃ tm' hp', k tm' hp' ∧ Inv X w0 (delβ β o) S tm' hp' a w := by
  unfold dropObj at h
  split at h
  · rename_i hl
    refine ⟨tm, hp, h, ?_⟩
    have hn : β o = none := by
      cases e : β o with
      | none => rfl
      | some v =>
        obtain ⟨x, hx⟩ := hI.live o v e
        have := (hlive_iff hp o).2 ⟨x, hx⟩
        rw [hl] at this
        simp at this
    have : delβ β o = β := by
      funext p
      unfold delβ
      split
      · rename_i e; subst e; exact hn.symm
      · rfl
    rw [this]
    exact hI
  · rw [hdelF_eq, kills_eq, killHp_eq] at h
    exact ⟨_, _, h, hI.drop o⟩

/-- What an object is, in memory. -/
def ObjR (X : XR) (B : Nat) (β : Nat → Option Value) (S : Nat → Prop) (w : World) (v : Value) : AO → Prop
  | .box cs => ∃ g T vs, v = .pointer (some ⟨g, 0, none⟩) ∧ (B ≤ g ∨ X g) ∧ ¬ S g ∧ w.heap[g]? = some (.cells vs T (0, 0)) ∧ RelVs β S w cs vs.toList
  | .arr τ xs => OwnR S w B τ xs v

/-- An object more; memory that nobody names may have changed. -/
theorem Inv.add (hI : Inv X w0 β S tm hp a w) {o : Nat} (hlo : o < 1000) (ho : β o = none) {x : AO} {v : Value} {w' : World} {S' : Nat → Prop} (M : Nat → Prop)
    (hos : w'.os = w.os) (htape : w'.tape = w.tape) (hout : w'.output = w.output) (hsz : w.heap.size ≤ w'.heap.size)
    (hb : ∀ b, b < w.heap.size → ¬ M b → w'.heap[b]? = w.heap[b]?)
    (hM : ∀ b, M b → ¬ S b ∧ w0.heap.size ≤ b ∧ ∀ p u, β p = some u → blk u ≠ some b)
    (hS : ∀ b, S b → S' b) (hS2 : ∀ b, S' b → b < w'.heap.size ∧ (S b ∨ w.heap.size ≤ b))
    (hx : ObjR X w0.heap.size β S' w' v x) (hf : ∀ p u g, β p = some u → blk v = some g → ¬ S' g → blk u ≠ some g) :
    Inv X w0 (updβ β o v) S' tm (hput hp o x) a w' := by
  have hβ : ∀ p u, β p = some u → updβ β o v p = some u := fun p u h => by
    unfold updβ
    split
    · rename_i e; subst e; rw [ho] at h; simp at h
    · exact h
  have hinv : ∀ p u, updβ β o v p = some u → (p = o ∧ u = v) ∨ (p ≠ o ∧ β p = some u) := fun p u h => by
    unfold updβ at h; split at h
    · rename_i e; exact .inl ⟨e, by simpa using h.symm⟩
    · exact .inr ⟨by assumption, h⟩
  have hw : ∀ b, S b → w'.heap[b]? = w.heap[b]? := fun b h => hb b (hI.sb b h) (fun hm => (hM b hm).1 h)
  have hm : ∀ (l : List AV) vs, RelVs β S w l vs → RelVs (updβ β o v) S' w' l vs := fun l vs => RelVs.mono hβ hS hw l vs
  have hm2 : ∀ (l : List AV) vs, RelVs β S' w' l vs → RelVs (updβ β o v) S' w' l vs := fun l vs => RelVs.mono hβ (fun _ x => x) (fun _ _ => rfl) l vs
  have hn : ∀ b, b < w.heap.size → ¬ S b → ¬ S' b := fun b h1 h2 h3 => (hS2 b h3).2.elim h2 (by omega)
  have hblk : ∀ p u b, β p = some u → blk u = some b → w'.heap[b]? = w.heap[b]? := fun p u b h1 h2 => hb b (blk_lt hI h1 h2) (fun hmb => (hM b hmb).2.2 p u h1 h2)
  refine ⟨hos.trans hI.os, htape.trans hI.tape, hout.trans hI.output, Nat.le_trans hI.size hsz, ?_, hI.ext, fun b h => (hS2 b h).1, ?_, ?_, ?_, hput_nodup hI.nodup o x, ?_, hm _ _ hI.rel, hI.defs, fun b hb hlt => (hS2 b hb).2.elim (fun h => hI.grew b h hlt) (fun h => by have := hI.size; omega), fun p u u' he hu => ?_, hI.far⟩
  · intro b h1 h2
    refine (hb b (Nat.lt_of_lt_of_le h1 hI.size) (fun hmb => ?_)).trans (hI.old b h1 h2)
    have := (hM b hmb).2.1
    omega
  · intro p cs hmem
    rcases hput_mem hI.nodup hmem with ⟨rfl, rfl⟩ | ⟨hne, hmem⟩
    · obtain ⟨g, T, vs, rfl, h2, h3, h4, h5⟩ := hx
      exact ⟨g, T, vs, by simp [updβ], h2, h3, h4, hm2 _ _ h5⟩
    · obtain ⟨g, T, vs, h1, h2, h3, h4, h5⟩ := hI.box p cs hmem
      exact ⟨g, T, vs, hβ _ _ h1, h2, hn g (heap_lt h4) h3, (hblk p _ g h1 rfl).trans h4, hm _ _ h5⟩
  · intro p τ xs hmem
    rcases hput_mem hI.nodup hmem with ⟨rfl, rfl⟩ | ⟨hne, hmem⟩
    · exact ⟨v, by simp [updβ], hx⟩
    · obtain ⟨u, h1, h2⟩ := hI.arr p τ xs hmem
      exact ⟨u, hβ _ _ h1, h2.mono hS (fun b hv => hn b (blk_lt hI h1 hv)) (fun b hv => hblk p u b h1 hv)⟩
  · intro p u h
    rcases hinv p u h with ⟨rfl, rfl⟩ | ⟨hne, h⟩
    · exact ⟨x, hput_self _ _ _⟩
    · obtain ⟨y, hy⟩ := hI.live p u h
      exact ⟨y, hput_keep hne hy⟩
  · intro p p' u u' g hne h1 h2 h3 h4
    rcases hinv p u h1 with ⟨e1, e2⟩ | ⟨hp1, q1⟩
    · rcases hinv p' u' h2 with ⟨e3, e4⟩ | ⟨hp2, q2⟩
      · exact absurd (e1.trans e3.symm) hne
      · exact hf p' u' g q2 (e2 ▸ h3) h4
    · rcases hinv p' u' h2 with ⟨e3, e4⟩ | ⟨hp2, q2⟩
      · intro h5
        exact hf p u g q1 (e4 ▸ h5) h4 h3
      · exact hI.apart p p' u u' g hne q1 q2 h3 (fun h6 => h4 (hS g h6))
  · rcases hinv p u' hu with ⟨e1, e2⟩ | ⟨_, q1⟩
    · have := hI.far p u he
      omega
    · exact hI.keep p u u' he q1

/-- An object is written where it lies. -/
theorem Inv.write (hI : Inv X w0 β S tm hp a w) {o : Nat} {y x : AO} (hy : (o, y) ∈ hp) {v : Value} (hv : β o = some v) {g : Nat} (hg : blk v = some g) (hgS : ¬ S g) (hgX : w0.heap.size ≤ g ∨ X g) {w' : World}
    (hos : w'.os = w.os) (htape : w'.tape = w.tape) (hout : w'.output = w.output) (hsz : w'.heap.size = w.heap.size)
    (hb : ∀ b, b ≠ g → w'.heap[b]? = w.heap[b]?) (hx : ObjR X w0.heap.size β S w' v x) : Inv X w0 β S tm (hput hp o x) a w' := by
  have hw : ∀ b, S b → w'.heap[b]? = w.heap[b]? := fun b h => hb b (fun e => hgS (e ▸ h))
  have hm : ∀ (l : List AV) vs, RelVs β S w l vs → RelVs β S w' l vs := fun l vs => RelVs.mono (fun _ _ x => x) (fun _ x => x) hw l vs
  have hblk : ∀ p u b, p ≠ o → β p = some u → blk u = some b → w'.heap[b]? = w.heap[b]? := fun p u b h0 h1 h2 => hb b (fun e => by
    subst e
    exact hI.apart o p v u b (fun z => h0 z.symm) hv h1 hg hgS h2)
  refine ⟨hos.trans hI.os, htape.trans hI.tape, hout.trans hI.output, by rw [hsz]; exact hI.size, ?_, hI.ext, fun b h => by rw [hsz]; exact hI.sb b h, ?_, ?_, ?_, hput_nodup hI.nodup o x, hI.apart, hm _ _ hI.rel, hI.defs, hI.grew, hI.keep, hI.far⟩
  · intro b h1 h2
    refine (hb b (fun e => ?_)).trans (hI.old b h1 h2)
    subst e
    rcases hgX with h | h
    · omega
    · exact h2 h
  · intro p cs hmem
    rcases hput_mem hI.nodup hmem with ⟨rfl, rfl⟩ | ⟨hne, hmem⟩
    · obtain ⟨g', T, vs, rfl, h2, h3, h4, h5⟩ := hx
      exact ⟨g', T, vs, hv, h2, h3, h4, h5⟩
    · obtain ⟨g', T, vs, h1, h2, h3, h4, h5⟩ := hI.box p cs hmem
      exact ⟨g', T, vs, h1, h2, h3, (hblk p _ g' hne h1 rfl).trans h4, hm _ _ h5⟩
  · intro p τ xs hmem
    rcases hput_mem hI.nodup hmem with ⟨rfl, rfl⟩ | ⟨hne, hmem⟩
    · exact ⟨v, hv, hx⟩
    · obtain ⟨u, h1, h2⟩ := hI.arr p τ xs hmem
      exact ⟨u, h1, h2.mono (fun _ x => x) (fun _ _ x => x) (fun b hv => hblk p u b hne h1 hv)⟩
  · intro p u h
    by_cases hne : p = o
    · subst hne; exact ⟨x, hput_self _ _ _⟩
    · obtain ⟨z, hz⟩ := hI.live p u h
      exact ⟨z, hput_keep hne hz⟩

/-- An array is read alone from now on. -/
theorem Inv.freeze (hI : Inv X w0 β S tm hp a w) {o : Nat} {τ : ET} {xs : List τ.T} (ho : (o, .arr τ xs) ∈ hp) :
    ∃ S', (∀ b, S b → S' b) ∧ (∀ v, β o = some v → RelV (delβ β o) S' w (.sl τ xs) v) ∧ Inv X w0 (delβ β o) S' (AV.frzs o τ xs tm) (frzHp o τ xs (hdel hp o)) a w := by
  obtain ⟨v, hv, hown⟩ := hI.arr o τ xs ho
  have hβ : ∀ p u, p ≠ o → β p = some u → delβ β o p = some u := fun p u h1 h2 => by simp [delβ, h1, h2]
  have hinv : ∀ p u, delβ β o p = some u → p ≠ o ∧ β p = some u := fun p u h => by
    unfold delβ at h; split at h
    · simp at h
    · exact ⟨by assumption, h⟩
  let S' : Nat → Prop := fun b => S b ∨ blk v = some b
  have hS : ∀ b, S b → S' b := fun b h => .inl h
  have hsl : RelV (delβ β o) S' w (.sl τ xs) v := own_sl hown hS (fun b h => .inr h)
  have hn : ∀ p u g, p ≠ o → β p = some u → blk u = some g → ¬ S g → ¬ S' g := fun p u g h1 h2 h3 h4 h5 => by
    rcases h5 with h5 | h5
    · exact h4 h5
    · exact hI.apart o p v u g (fun z => h1 z.symm) hv h2 h5 h4 h3
  have hr : ∀ (l : List AV) vs, RelVs β S w l vs → RelVs (delβ β o) S' w (AV.frzs o τ xs l) vs := fun l vs => RelVs.frz o τ xs hβ hS (fun u hu => by
    rw [hv] at hu
    obtain rfl : v = u := by simpa using hu
    exact hsl) l vs
  refine ⟨S', hS, fun v' hv' => ?_, hI.os, hI.tape, hI.output, hI.size, hI.old, hI.ext, ?_, ?_, ?_, ?_, ?_, ?_, hr _ _ hI.rel, hI.defs, fun b hb hlt => ?_, fun p u u' he hu => hI.keep p u u' he (hinv p u' hu).2, hI.far⟩
  · rw [hv] at hv'
    obtain rfl : v = v' := by simpa using hv'
    exact hsl
  · intro b h
    rcases h with h | h
    · exact hI.sb b h
    · exact blk_lt hI hv h
  · intro p cs hm
    obtain ⟨x, hx, he⟩ := frzHp_mem hm
    obtain ⟨hne, hx⟩ := (hdel_mem hI.nodup).1 hx
    cases x with
    | arr τ xs => simp [AO.frz] at he
    | box ds =>
      simp only [AO.frz, AO.box.injEq] at he
      subst he
      obtain ⟨g, T, vs, h1, h2, h3, h4, h5⟩ := hI.box p ds hx
      exact ⟨g, T, vs, hβ _ _ hne h1, h2, hn p _ g hne h1 rfl h3, h4, hr _ _ h5⟩
  · intro p τ' ys hm
    obtain ⟨x, hx, he⟩ := frzHp_mem hm
    obtain ⟨hne, hx⟩ := (hdel_mem hI.nodup).1 hx
    cases x with
    | box ds => simp [AO.frz] at he
    | arr τ2 zs =>
      simp only [AO.frz] at he
      rw [← he] at hx
      obtain ⟨u, h1, h2⟩ := hI.arr p τ' ys hx
      exact ⟨u, hβ _ _ hne h1, h2.mono hS (fun b hb => hn p u b hne h1 hb) (fun _ _ => rfl)⟩
  · intro p u h
    obtain ⟨h1, h2⟩ := hinv p u h
    obtain ⟨x, hx⟩ := hI.live p u h2
    exact ⟨x.frz o τ xs, List.mem_map.2 ⟨(p, x), (hdel_mem hI.nodup).2 ⟨h1, hx⟩, rfl⟩⟩
  · rw [frzHp_keys]; exact hdel_nodup hI.nodup o
  · intro p p' u u' g hne h1 h2 h3 h4
    exact hI.apart p p' u u' g hne (hinv p u h1).2 (hinv p' u' h2).2 h3 (fun h5 => h4 (hS g h5))
  · rcases hb with hb | hb
    · exact hI.grew b hb hlt
    · rcases hown with ⟨_, rfl | ⟨g, rfl, h3, _⟩⟩ | ⟨g, cap, cur, rfl, h3, _⟩
      · simp [blk] at hb
      · simp only [blk, Option.some.injEq] at hb; subst hb; exact hI.grew _ h3 hlt
      · simp only [blk, Option.some.injEq] at hb; omega

theorem freezeF_of (hI : Inv X w0 β S tm hp a w) {o : Nat} {k : List AV → Hp → Prop} (h : freezeF tm hp o k) :
    ∃ tm' hp' β' S', k tm' hp' ∧ (∀ b, S b → S' b) ∧ Inv X w0 β' S' tm' hp' a w := by
  unfold freezeF at h
  obtain ⟨x, hx, h⟩ := hget_of h
  split at h
  · rename_i τ xs
    rw [hdelF_eq, frzs_eq, frzHp_eq] at h
    obtain ⟨S', hS, _, hI'⟩ := hI.freeze hx
    exact ⟨_, _, _, S', h, hS, hI'⟩
  · exact h.elim

theorem freezesF_of : ∀ {vs : List AV} {β : Nat → Option Value} {S : Nat → Prop} {tm : List AV} {hp : Hp} {k : List AV → Hp → Prop}, Inv X w0 β S tm hp a w → freezesF vs tm hp k →
    ∃ tm' hp' β' S', k tm' hp' ∧ (∀ b, S b → S' b) ∧ Inv X w0 β' S' tm' hp' a w
  | [], β, S, tm, hp, k, hI, h => ⟨tm, hp, β, S, h, fun _ x => x, hI⟩
  | v :: vs, β, S, tm, hp, k, hI, h => by
    simp only [freezesF] at h
    split at h
    · split at h
      · obtain ⟨tm', hp', β', S', h, hS, hI'⟩ := freezeF_of hI h
        obtain ⟨tm2, hp2, β2, S2, h2, hS2, hI2⟩ := freezesF_of hI' h
        exact ⟨tm2, hp2, β2, S2, h2, fun b hb => hS2 b (hS b hb), hI2⟩
      · exact freezesF_of hI h
    · exact freezesF_of hI h

end trans
end Go.Proofs.Ythakgbecpkfeoaa.Ev
