/- '==' of structs goes cell by cell; the tables, put together. -/
import Derived.Test.YthakgbecpkfeoaaEvT
set_option linter.unusedVariables false
set_option linter.unusedSimpArgs false
namespace Go.Proofs.Ythakgbecpkfeoaa.Ev

def cksF (P : Program) (ck : Nat → Option (List CK)) : Nat → List Field → Option (List CK)
  | _, [] => some []
  | off, f :: fs => match f.name == "_", Nat.beq f.offset off, ck f.type with
    | false, true, some ks => match (P.info? f.type).map (fun i => Nat.beq i.size ks.length), cksF P ck (off + ks.length) fs with
      | some true, some r => some (ks ++ r)
      | _, _ => none
    | _, _, _ => none
/-- The kinds of a type's cells, where '==' asks cell by cell. -/
def cksT (P : Program) : Nat → Nat → Option (List CK)
  | 0, _ => none
  | n + 1, T => match P.underlying T with
    | some (.int κ) => some [.int κ]
    | some .bool => some [.bool]
    | some .string => some [.str]
    | some (.struct fs) => match P.stoodInHeld T with
      | true => none
      | false => cksF P (cksT P n) 0 fs.toList
    | _ => none
def aggB (P : Program) (T : Nat) : Bool := ((P.underlying T).map aggD).getD false
def valOf (P : Program) (T : Nat) (l : List CV) : Value :=
  match P.underlying T with
  | some (.struct _) => .agg (l.map CV.v).toArray
  | _ => match l with
    | [c] => c.v
    | _ => undef

theorem CKms_append : ∀ {ks r : List CK} {l : List CV}, CKms (ks ++ r) l = true → ∃ l1 l2, l = l1 ++ l2 ∧ CKms ks l1 = true ∧ CKms r l2 = true ∧ l1.length = ks.length
  | [], r, l, h => ⟨[], l, rfl, rfl, h, rfl⟩
  | k :: ks, r, [], h => by simp [CKms] at h
  | k :: ks, r, c :: l, h => by
    simp only [List.cons_append, CKms, Bool.and_eq_true] at h
    obtain ⟨l1, l2, rfl, h1, h2, h3⟩ := CKms_append h.2
    exact ⟨c :: l1, l2, rfl, by simp [CKms, h.1, h1], h2, by simp [h3]⟩
theorem eqCVs_append : ∀ {a b c d : List CV}, a.length = b.length → eqCVs (a ++ c) (b ++ d) = (eqCVs a b && eqCVs c d)
  | [], [], c, d, _ => by simp [eqCVs]
  | x :: a, y :: b, c, d, h => by simp only [List.cons_append, eqCVs, eqCVs_append (a := a) (b := b) (by simpa using h), Bool.and_assoc]
  | [], _ :: _, _, _, h => by simp at h
  | _ :: _, [], _, _, h => by simp at h
theorem CKms_one {k : CK} {l : List CV} (h : CKms [k] l = true) : ∃ c, l = [c] ∧ CKm k c = true := by
  match l with
  | [] => simp [CKms] at h
  | [c] => exact ⟨c, rfl, by simpa [CKms] using h⟩
  | _ :: _ :: _ => simp [CKms] at h
theorem CKms_length : ∀ {ks : List CK} {l : List CV}, CKms ks l = true → l.length = ks.length
  | [], [], _ => rfl
  | k :: ks, c :: l, h => by simp only [CKms, Bool.and_eq_true] at h; simp [CKms_length h.2]
  | [], _ :: _, h => by simp [CKms] at h
  | _ :: _, [], h => by simp [CKms] at h

section eq
variable {P : Program} {w : World}

theorem eqF_of {ck : Nat → Option (List CK)} {d : Nat}
    (hck : ∀ T ks, ck T = some ks → (∃ D, P.underlying T = some D ∧ (aggD D = false → ks.length = 1) ∧ (aggD D = true → ∃ fs, D = .struct fs)) ∧ ∀ l m, CKms ks l = true → CKms ks m = true → (Op.equalIn d T (valOf P T l) (valOf P T m)).run P w = .ok (eqCVs l m) w) :
    ∀ {fs : List Field} {off : Nat} {ks : List CK}, cksF P ck off fs = some ks → ∀ (pl pm l m : List CV), pl.length = off → pm.length = off → CKms ks l = true → CKms ks m = true →
      (Op.eqFields d ((pl ++ l).map CV.v).toArray ((pm ++ m).map CV.v).toArray fs).run P w = .ok (eqCVs l m) w
  | [], off, ks, h, pl, pm, l, m, h1, h2, h3, h4 => by
    simp only [cksF, Option.some.injEq] at h
    subst h
    match l, m, h3, h4 with
    | [], [], _, _ => simp [Op.eqFields, eqCVs]
  | f :: fs, off, ks, h, pl, pm, l, m, h1, h2, h3, h4 => by
    simp only [cksF] at h
    split at h
    · rename_i ks1 hn ho hk
      split at h
      · rename_i r hs hr
        simp only [Option.some.injEq] at h
        subst h
        obtain ⟨i, hi, hs⟩ := Option.map_eq_some_iff.1 hs
        have hs := Nat.eq_of_beq_eq_true hs
        have ho := Nat.eq_of_beq_eq_true ho
        obtain ⟨l1, l2, rfl, a1, a2, a3⟩ := CKms_append h3
        obtain ⟨m1, m2, rfl, b1, b2, b3⟩ := CKms_append h4
        obtain ⟨⟨D, hD, hone, hst⟩, heq⟩ := hck f.type ks1 hk
        have hagg : (isAgg f.type).run P w = .ok (aggD D) w := by
          unfold isAgg
          simp only [Sem.run_bind, run_underlying hD, Result.andThen_ok]
          cases D <;> rfl
        have hpart : ∀ (p l1 l2 : List CV), p.length = off → l1.length = ks1.length → (part f.type ((p ++ (l1 ++ l2)).map CV.v).toArray f.offset).run P w = .ok (valOf P f.type l1) w := by
          intro p l1 l2 hp hl
          cases hb : aggD D with
          | true =>
            obtain ⟨gs, rfl⟩ := hst hb
            simp only [part, Sem.run_bind, hagg, hb, Result.andThen_ok, if_true, sizeOf, typeInfo, run_program, hi, Sem.run_pure, hs, valOf, hD, ho]
            congr 2
            apply Array.ext'
            simp [List.extract_eq_take_drop, ← hp, ← hl]
          | false =>
            have := hone hb
            match l1, hl.trans this with
            | [c], _ =>
              have hv : valOf P f.type [c] = c.v := by
                unfold valOf
                rw [hD]
                cases D <;> first | rfl | simp [aggD] at hb
              rw [hv]
              have h0 : ((p ++ ([c] ++ l2)).map CV.v).toArray[f.offset]? = some c.v := by
                rw [ho, ← hp]
                simp
              simp only [part, Sem.run_bind, hagg, hb, Result.andThen_ok, Bool.false_eq_true, if_false]
              rw [h0]
              rfl
        have hn' : f.name ≠ "_" := by simpa using hn
        rw [Op.eqFields]
        simp only [if_pos hn', Sem.run_bind, hpart pl l1 l2 h1 a3, hpart pm m1 m2 h2 b3, heq l1 m1 a1 b1, Result.andThen_ok]
        have hrest := eqF_of hck hr (pl ++ l1) (pm ++ m1) l2 m2 (by simp [h1, a3]) (by simp [h2, b3]) a2 b2
        rw [eqCVs_append (a3.trans b3.symm)]
        cases eqCVs l1 m1 with
        | false => simp
        | true => simpa [List.append_assoc] using hrest
      · simp at h
    · simp at h

theorem eqT_of : ∀ (n T : Nat) (ks : List CK), cksT P n T = some ks → (∃ D, P.underlying T = some D ∧ (aggD D = false → ks.length = 1) ∧ (aggD D = true → ∃ fs, D = .struct fs)) ∧
    ∀ d, n ≤ d → ∀ l m, CKms ks l = true → CKms ks m = true → (Op.equalIn d T (valOf P T l) (valOf P T m)).run P w = .ok (eqCVs l m) w
  | 0, T, ks, h => by simp [cksT] at h
  | n + 1, T, ks, h => by
    simp only [cksT] at h
    split at h
    · rename_i κ hu
      simp only [Option.some.injEq] at h
      subst h
      refine ⟨⟨_, hu, fun _ => rfl, fun h => by simp [aggD] at h⟩, fun d hd l m hl hm => ?_⟩
      obtain ⟨d, rfl⟩ : ∃ d', d = d' + 1 := ⟨d - 1, by omega⟩
      obtain ⟨c, rfl, hc⟩ := CKms_one hl
      obtain ⟨c', rfl, hc'⟩ := CKms_one hm
      cases c <;> simp only [CKm, Bool.false_eq_true] at hc
      cases c' <;> simp only [CKm, Bool.false_eq_true] at hc'
      obtain rfl := kindEq_of hc
      obtain rfl := kindEq_of hc'
      simp only [valOf, hu, CV.v, run_equalIn_int (P := P) (h := hu), eqCVs, eqCV, Bool.and_true]
    · rename_i hu
      simp only [Option.some.injEq] at h
      subst h
      refine ⟨⟨_, hu, fun _ => rfl, fun h => by simp [aggD] at h⟩, fun d hd l m hl hm => ?_⟩
      obtain ⟨d, rfl⟩ : ∃ d', d = d' + 1 := ⟨d - 1, by omega⟩
      obtain ⟨c, rfl, hc⟩ := CKms_one hl
      obtain ⟨c', rfl, hc'⟩ := CKms_one hm
      cases c <;> simp only [CKm, Bool.false_eq_true] at hc
      cases c' <;> simp only [CKm, Bool.false_eq_true] at hc'
      simp only [valOf, hu, CV.v, run_equalIn_bool' (P := P) (h := hu), eqCVs, eqCV, Bool.and_true]
    · rename_i hu
      simp only [Option.some.injEq] at h
      subst h
      refine ⟨⟨_, hu, fun _ => rfl, fun h => by simp [aggD] at h⟩, fun d hd l m hl hm => ?_⟩
      obtain ⟨d, rfl⟩ : ∃ d', d = d' + 1 := ⟨d - 1, by omega⟩
      obtain ⟨c, rfl, hc⟩ := CKms_one hl
      obtain ⟨c', rfl, hc'⟩ := CKms_one hm
      cases c <;> simp only [CKm, Bool.false_eq_true] at hc
      cases c' <;> simp only [CKm, Bool.false_eq_true] at hc'
      simp only [valOf, hu, CV.v, run_equalIn_string (P := P) (h := hu), eqCVs, eqCV, Bool.and_true]
    · rename_i fs hu
      split at h
      · simp at h
      · rename_i hst
        refine ⟨⟨_, hu, fun h => by simp [aggD] at h, fun _ => ⟨fs, rfl⟩⟩, fun d hd l m hl hm => ?_⟩
        obtain ⟨d, rfl⟩ : ∃ d', d = d' + 1 := ⟨d - 1, by omega⟩
        have hf : P.fieldsOf T = fs := by simp [Program.fieldsOf, hu]
        simp only [valOf, hu]
        rw [run_equalIn_struct (P := P) w d T _ _ (by rw [hf]; exact hu) hst, hf]
        have := eqF_of (P := P) (w := w) (ck := cksT P n) (d := d) (fun T ks hk => ⟨(eqT_of n T ks hk).1, (eqT_of n T ks hk).2 d (by omega)⟩) h [] [] l m rfl rfl hl hm
        simpa using this
    · simp at h

theorem EqOK.of {n T : Nat} {ks : List CK} (h : cksT P n T = some ks) (hn : n ≤ 10000) (hu : aggB P T = true) (hg : P.eqGuardType P.depth T = false) : EqOK P T ks := by
  intro l m w hl hm
  refine ⟨?_, hg⟩
  obtain ⟨⟨D, hD, _, hst⟩, heq⟩ := eqT_of (P := P) (w := w) n T ks h
  have := heq 10000 hn l m hl hm
  unfold aggB at hu
  rw [hD] at hu
  obtain ⟨fs, rfl⟩ := hst (by simpa using hu)
  simpa [valOf, hD, Op.equal, Op.maxDepth] using this

end eq

/-! ### Tables -/
def AllTy (P : Program) : List (Nat × TI) → Prop
  | [] => True
  | p :: l => tiOf P p.1 = some { p.2 with eqk := [] } ∧ AllTy P l
theorem AllTy.get {P : Program} : ∀ {l : List (Nat × TI)}, AllTy P l → ∀ T ti, (T, ti) ∈ l → tiOf P T = some { ti with eqk := [] }
  | [], _, _, _, h => by simp at h
  | p :: l, ⟨h1, h2⟩, T, ti, h => by
    rcases List.mem_cons.1 h with rfl | h
    · exact h1
    · exact AllTy.get h2 T ti h
def AllEq (P : Program) : List (Nat × TI) → Prop
  | [] => True
  | p :: l => (p.2.eqk = [] ∨ EqOK P p.1 p.2.eqk) ∧ AllEq P l
theorem AllEq.get {P : Program} : ∀ {l : List (Nat × TI)}, AllEq P l → ∀ T ti, (T, ti) ∈ l → ti.eqk ≠ [] → EqOK P T ti.eqk
  | [], _, _, _, h, _ => by simp at h
  | p :: l, ⟨h1, h2⟩, T, ti, h, hne => by
    rcases List.mem_cons.1 h with rfl | h
    · exact h1.resolve_left hne
    · exact AllEq.get h2 T ti h hne

end Go.Proofs.Ythakgbecpkfeoaa.Ev
