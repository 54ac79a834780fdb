/- What a call is handed, as the evaluator's values. -/
import Derived.Test.YthakgbecpkfeoaaEvV
import Derived.WalkKit
import Derived.ProofKit
import Derived.OpenShut
import Derived.ShutString
import Derived.ChangeOld
import Derived.Below
import Derived.SizedLaws
set_option linter.unusedVariables false
set_option linter.unusedSimpArgs false
namespace Go.Proofs.Ythakgbecpkfeoaa.Ev

/-- What a cell may be. -/
inductive SK where
  | int (κ : IntKind)
  | bool
  | str
  | sl (τ : ET)
  | any
  deriving DecidableEq

def FitK : SK → AV → Prop
  | .int κ, v => ∃ n, v = .int κ n ∧ (Lit.int κ n).wf = true
  | .bool, v => ∃ b, v = .bool b
  | .str, v => ∃ s, v = .str s
  | .sl τ, v => ∃ xs, v = .sl τ xs
  | .any, v => v = .undef
def FitKs : List SK → List AV → Prop
  | [], l => l = []
  | k :: ks, l => ∃ v m, l = v :: m ∧ FitK k v ∧ FitKs ks m

def skOf : ET → List SK
  | .i64 => [.int .i64]
  | .u8 => [.int .u8]
  | .bl => [.bool]
  | .acc => [.int .i64, .int .i64, .int .i64, .int .i64, .str]
  | .res => [.int .i64, .bool]
  | .i3 => [.int .i64, .int .i64, .int .i64]
  | .i2 => [.int .i64, .int .i64]

def shapeFs (P : Program) (sh : Nat → Option (List SK)) : Nat → List Field → Option (List SK)
  | _, [] => some []
  | off, f :: fs => match Nat.beq f.offset off, sh f.type with
    | true, some ks => match Nat.beq (P.cellsOf f.type) ks.length, shapeFs P sh (off + ks.length) fs with
      | true, some r => some (ks ++ r)
      | _, _ => none
    | _, _ => none
def shapeT (P : Program) : Nat → Nat → Option (List SK)
  | 0, _ => none
  | n + 1, T => match P.underlying T with
    | some (.int κ) => some [.int κ]
    | some .bool => some [.bool]
    | some .string => some [.str]
    | some (.struct fs) => match shapeFs P (shapeT P n) 0 fs.toList with
      | some ks => if ks.length = P.cellsOf T then some ks else none
      | none => none
    | some (.slice e) => match etOf e with
      | some τ => if shapeT P n e = some (skOf τ) ∧ P.cellsOf e = τ.size then some [.sl τ] else none
      | none => some [.any]
    | _ => none

theorem FitKs.append : ∀ {ks r : List SK} {l m : List AV}, FitKs ks l → FitKs r m → FitKs (ks ++ r) (l ++ m)
  | [], r, l, m, h, k => by simp only [FitKs] at h; subst h; exact k
  | q :: ks, r, l, m, ⟨v, l', h1, h2, h3⟩, k => by subst h1; exact ⟨v, _, rfl, h2, h3.append k⟩
theorem FitKs.length : ∀ {ks : List SK} {l : List AV}, FitKs ks l → l.length = ks.length
  | [], l, h => by simp only [FitKs] at h; subst h; rfl
  | k :: ks, l, ⟨v, m, h1, h2, h3⟩ => by subst h1; simp [h3.length]

theorem decode {β : Nat → Option Value} {S : Nat → Prop} {w : World} (τ : ET) {l : List AV} {us : List Value} (h : FitKs (skOf τ) l) (hr : RelVs β S w l us) : ∃ x : τ.T, us = (τ.enc x).map CV.v := by
  cases τ with
  | i64 =>
    obtain ⟨v1, m, rfl, ⟨n, rfl, _⟩, rfl⟩ := h
    obtain ⟨u, us', rfl, h1, rfl⟩ := hr
    simp only [RelV] at h1; subst h1
    exact ⟨n, rfl⟩
  | u8 =>
    obtain ⟨v1, m, rfl, ⟨n, rfl, _⟩, rfl⟩ := h
    obtain ⟨u, us', rfl, h1, rfl⟩ := hr
    simp only [RelV] at h1; subst h1
    exact ⟨n, rfl⟩
  | bl =>
    obtain ⟨v1, m, rfl, ⟨b, rfl⟩, rfl⟩ := h
    obtain ⟨u, us', rfl, h1, rfl⟩ := hr
    simp only [RelV] at h1; subst h1
    exact ⟨b, rfl⟩
  | acc =>
    obtain ⟨v1, m, rfl, ⟨a, rfl, _⟩, v2, m, rfl, ⟨b, rfl, _⟩, v3, m, rfl, ⟨c, rfl, _⟩, v4, m, rfl, ⟨d, rfl, _⟩, v5, m, rfl, ⟨s, rfl⟩, rfl⟩ := h
    obtain ⟨u1, us', rfl, h1, u2, us', rfl, h2, u3, us', rfl, h3, u4, us', rfl, h4, u5, us', rfl, h5, rfl⟩ := hr
    simp only [RelV] at h1 h2 h3 h4 h5
    subst h1 h2 h3 h4 h5
    exact ⟨⟨a, b, c, d, s⟩, rfl⟩
  | res =>
    obtain ⟨v1, m, rfl, ⟨a, rfl, _⟩, v2, m, rfl, ⟨b, rfl⟩, rfl⟩ := h
    obtain ⟨u1, us', rfl, h1, u2, us', rfl, h2, rfl⟩ := hr
    simp only [RelV] at h1 h2
    subst h1 h2
    exact ⟨⟨a, b⟩, rfl⟩
  | i3 =>
    obtain ⟨v1, m, rfl, ⟨a, rfl, _⟩, v2, m, rfl, ⟨b, rfl, _⟩, v3, m, rfl, ⟨c, rfl, _⟩, rfl⟩ := h
    obtain ⟨u1, us', rfl, h1, u2, us', rfl, h2, u3, us', rfl, h3, rfl⟩ := hr
    simp only [RelV] at h1 h2 h3
    subst h1 h2 h3
    exact ⟨(a, b, c), rfl⟩
  | i2 =>
    obtain ⟨v1, m, rfl, ⟨a, rfl, _⟩, v2, m, rfl, ⟨b, rfl, _⟩, rfl⟩ := h
    obtain ⟨u1, us', rfl, h1, u2, us', rfl, h2, rfl⟩ := hr
    simp only [RelV] at h1 h2
    subst h1 h2
    exact ⟨(a, b), rfl⟩

theorem cells_get {w : World} {base : Nat} {a : Addr} {n : Nat} {l : List Value} (h : w.cells? base a n = some l) : l.length = n ∧ ∀ j, j < n → w.cell? (a.add j) = l[j]? := by
  unfold World.cells? at h
  split at h
  · have h1 := mapM_some_length h
    refine ⟨by simpa using h1, fun j hj => ?_⟩
    exact mapM_some_get h j j (by simp [hj])
  · simp at h

theorem cell_lt {w : World} {a : Addr} {v : Value} (h : w.cell? a = some v) : a.block < w.heap.size := by
  unfold World.cell? at h
  split at h
  · rename_i hh; exact heap_lt hh
  · simp at h

/-- The elements of a row. -/
theorem row_of {τ : ET} {w : World} {a : Addr} : ∀ (len : Nat), (∀ i, i < len → ∃ x : τ.T, w.cells? 0 (a.add (i * τ.size)) τ.size = some ((τ.enc x).map CV.v)) →
    ∃ xs : List τ.T, xs.length = len ∧ ∀ j u, (cellsOf τ xs)[j]? = some u → w.cell? (a.add j) = some u
  | 0, _ => ⟨[], rfl, by simp [cellsOf]⟩
  | n + 1, h => by
    obtain ⟨xs, h1, h2⟩ := row_of n (fun i hi => h i (by omega))
    obtain ⟨x, hx⟩ := h n (by omega)
    obtain ⟨_, hg⟩ := cells_get hx
    refine ⟨xs ++ [x], by simp [h1], fun j u hj => ?_⟩
    rw [cellsOf_append] at hj
    by_cases hlt : j < (cellsOf τ xs).length
    · rw [List.getElem?_append_left hlt] at hj
      exact h2 j u hj
    · rw [List.getElem?_append_right (by omega), cellsOf_length, h1] at hj
      have hj' : ((τ.enc x).map CV.v)[j - n * τ.size]? = some u := by simpa [cellsOf] using hj
      have hjl := (List.getElem?_eq_some_iff.1 hj').1
      rw [List.length_map, enc_length] at hjl
      have := hg (j - n * τ.size) hjl
      rw [add_add, hj'] at this
      rw [cellsOf_length, h1] at hlt
      rw [show n * τ.size + (j - n * τ.size) = j by omega] at this
      exact this

theorem maxLen_eq : maxLen = maxI := rfl

section opens
variable {H : Type} {enc : TypeId × Value → H} {P : Program} {W : World} {spare : Nat → Bool} {held : Bool}

abbrev Fits (W : World) (ks : List SK) (cs : List Value) : Prop := ∃ l, FitKs ks l ∧ RelVs (fun _ => none) (fun b => b < W.heap.size) W l cs

theorem openFs {sh : Nat → Option (List SK)} {cs : List Value} (hsh : ∀ (f : Field) (ks : List SK), sh f.type = some ks → (∃ fuel x, DataW.trod enc P W 0 spare held fuel f.type ((cs.drop f.offset).take (P.cellsOf f.type)) = some x) → Fits W ks ((cs.drop f.offset).take (P.cellsOf f.type))) :
    ∀ {fs : List Field} {off : Nat} {ks : List SK}, shapeFs P sh off fs = some ks → (∀ f ∈ fs, ∃ fuel x, DataW.trod enc P W 0 spare held fuel f.type ((cs.drop f.offset).take (P.cellsOf f.type)) = some x) → Fits W ks ((cs.drop off).take ks.length)
  | [], off, ks, h, _ => by
    simp only [shapeFs, Option.some.injEq] at h
    subst h
    exact ⟨[], rfl, by simp [RelVs]⟩
  | f :: fs, off, ks, h, hx => by
    simp only [shapeFs] at h
    split at h
    · rename_i ks1 ho hk
      split at h
      · rename_i r hs hr
        simp only [Option.some.injEq] at h
        subst h
        have ho := Nat.eq_of_beq_eq_true ho
        have hs := Nat.eq_of_beq_eq_true hs
        obtain ⟨l1, f1, r1⟩ := hsh f ks1 hk (hx f (by simp))
        obtain ⟨l2, f2, r2⟩ := openFs hsh hr (fun g hg => hx g (by simp [hg]))
        refine ⟨l1 ++ l2, f1.append f2, ?_⟩
        rw [hs, ho] at r1
        have := r1.append r2
        rw [← List.drop_drop] at this
        rw [List.length_append, List.take_add]
        exact this
      · simp at h
    · simp at h

theorem openT : ∀ (n T : Nat) (ks : List SK), shapeT P n T = some ks → ∀ (fuel : Nat) (cs : List Value) (x : DataW H × List MemPlace), DataW.trod enc P W 0 spare held fuel T cs = some x → Fits W ks cs
  | 0, T, ks, h, _, _, _, _ => by simp [shapeT] at h
  | n + 1, T, ks, h, fuel, cs, x, hx => by
    simp only [shapeT] at h
    split at h
    · rename_i κ hu
      simp only [Option.some.injEq] at h
      subst h
      obtain ⟨m, rfl, _, hw⟩ := DataW.trod_int hu hx
      exact ⟨[.int κ m], ⟨_, _, rfl, ⟨m, rfl, hw⟩, rfl⟩, ⟨_, _, rfl, rfl, rfl⟩⟩
    · rename_i hu
      simp only [Option.some.injEq] at h
      subst h
      obtain ⟨b, rfl, _⟩ := DataW.trod_bool hu hx
      exact ⟨[.bool b], ⟨_, _, rfl, ⟨b, rfl⟩, rfl⟩, ⟨_, _, rfl, rfl, rfl⟩⟩
    · rename_i hu
      simp only [Option.some.injEq] at h
      subst h
      obtain ⟨s, rfl, _⟩ := DataW.trod_string hu hx
      exact ⟨[.str s], ⟨_, _, rfl, ⟨s, rfl⟩, rfl⟩, ⟨_, _, rfl, rfl, rfl⟩⟩
    · rename_i fs hu
      split at h
      · rename_i ks' hks
        split at h
        · rename_i hlen
          simp only [Option.some.injEq] at h
          subst h
          obtain ⟨xs, m, _, _, hl, hxl, hf⟩ := DataW.trod_struct hu hx
          have := openFs (enc := enc) (P := P) (W := W) (spare := spare) (held := held) (cs := cs) (fun f ks hk ⟨fuel, x, hx⟩ => openT n f.type ks hk fuel _ x hx) hks (by
            intro f hf'
            obtain ⟨i, hi, he⟩ := List.mem_iff_getElem.1 hf'
            simp only [Array.length_toList] at hi
            have hfi : fs[i]? = some f := by rw [← Array.getElem?_toList, List.getElem?_eq_getElem (by simpa using hi), he]
            have hxi : i < xs.length := by omega
            exact ⟨m, xs[i], by rw [hf i f hfi]; simp [hxi]⟩)
          rw [List.drop_zero, List.take_of_length_le (by omega)] at this
          exact this
        · simp at h
      · simp at h
    · rename_i e hu
      split at h
      · rename_i τ hτ
        split at h
        · rename_i hs
          simp only [Option.some.injEq] at h
          subst h
          rcases DataW.trod_slice hu hx with ⟨rfl, _⟩ | ⟨a, len, cap, elems, rest, m, _, rfl, _, hb, hlc, hcm, hel, hcells, _⟩
          · exact ⟨[.sl τ []], ⟨_, _, rfl, ⟨[], rfl⟩, rfl⟩, ⟨_, _, rfl, ⟨none, 0, rfl, by simp, by simp, fun hne => absurd rfl hne⟩, rfl⟩⟩
          · have hrow := row_of (τ := τ) (w := W) (a := a) len (by
              intro i hi
              have h1 := hcells i hi
              rw [hs.2] at h1
              have hsome : elems[i]? = some elems[i] := List.getElem?_eq_getElem (by omega)
              rw [hsome] at h1
              obtain ⟨ci, hc1, hc2⟩ := Option.bind_eq_some_iff.1 h1
              obtain ⟨l, hl1, hl2⟩ := openT n e _ hs.1 m ci _ hc2
              obtain ⟨y, hy⟩ := decode τ hl1 hl2
              exact ⟨y, by rw [hc1, hy]⟩)
            obtain ⟨xs, hxl, hxr⟩ := hrow
            refine ⟨[.sl τ xs], ⟨_, _, rfl, ⟨xs, rfl⟩, rfl⟩, ⟨_, _, rfl, ⟨some a, cap, by rw [hxl], by omega, by rw [← maxLen_eq]; omega, fun hne => ⟨a, rfl, ?_, hxr⟩⟩, rfl⟩⟩
            cases hc : cellsOf τ xs with
            | nil => exact absurd hc hne
            | cons u us =>
              have := hxr 0 u (by rw [hc]; rfl)
              have := cell_lt this
              rwa [add_block] at this
        · simp at h
      · simp only [Option.some.injEq] at h
        subst h
        rcases DataW.trod_slice hu hx with ⟨rfl, _⟩ | ⟨a, len, cap, elems, rest, m, _, rfl, _⟩
        · exact ⟨[.undef], ⟨_, _, rfl, rfl, rfl⟩, ⟨_, _, rfl, by simp [RelV], rfl⟩⟩
        · exact ⟨[.undef], ⟨_, _, rfl, rfl, rfl⟩, ⟨_, _, rfl, by simp [RelV], rfl⟩⟩
    · simp at h

theorem open_one {n T : Nat} {k : SK} {D : TypeDesc} {r : Reach} {b0 : Nat} {v : Value} {d : DataW H} {ps : List MemPlace} (hs : shapeT P n T = some [k]) (hu : P.underlying T = some D) (hD : aggD D = false) (hval : Value.okWide P W r b0 T v) (hd : DataW.Trod enc P W 0 spare held T v d ps) :
    ∃ a, FitK k a ∧ RelV (fun _ => none) (fun b => b < W.heap.size) W a v := by
  obtain ⟨fuel, hf⟩ := hd
  obtain ⟨l, h1, h2⟩ := openT n T _ hs fuel _ _ hf
  obtain ⟨a, m, rfl, h3, rfl⟩ := h1
  obtain ⟨u, us, h4, h5, rfl⟩ := h2
  have hcell : v.cells.toList = [v] := by
    cases n with
    | zero => simp [shapeT] at hs
    | succ n =>
      simp only [shapeT, hu] at hs
      cases D <;> simp only [aggD, Bool.true_eq_false] at hD hs
      all_goals first
        | (obtain ⟨b, rfl⟩ := WideShapes.okWide_bool hu hval; rfl)
        | (obtain ⟨b, rfl⟩ := WideShapes.okWide_int hu hval; rfl)
        | (obtain ⟨b, rfl⟩ := WideShapes.okWide_string hu hval; rfl)
        | (obtain ⟨a, b, c, rfl⟩ := WideShapes.okWide_slice hu hval; rfl)
        | (simp at hs)
  rw [hcell] at h4
  simp only [List.cons.injEq, and_true] at h4
  subst h4
  exact ⟨a, h3, h5⟩

theorem open_many {n T : Nat} {ks : List SK} {fs : Array Field} {r : Reach} {b0 : Nat} {v : Value} {d : DataW H} {ps : List MemPlace} (hs : shapeT P n T = some ks) (hu : P.underlying T = some (.struct fs)) (hval : Value.okWide P W r b0 T v) (hd : DataW.Trod enc P W 0 spare held T v d ps) :
    ∃ l, FitKs ks l ∧ RelV (fun _ => none) (fun b => b < W.heap.size) W (.agg l) v := by
  obtain ⟨fuel, hf⟩ := hd
  obtain ⟨l, h1, h2⟩ := openT n T _ hs fuel _ _ hf
  simp only [Value.okWide, hu] at hval
  obtain ⟨cs, rfl, _⟩ := hval
  exact ⟨l, h1, ⟨cs.toList, by simp, h2⟩⟩
end opens

theorem wf_u8 {n : Int} (h : (Lit.int .u8 n).wf = true) : 0 ≤ n ∧ n < 256 := by
  simp [Lit.wf, IntKind.min, IntKind.max, IntKind.bits, IntKind.signed] at h
  omega
theorem wf_u32 {n : Int} (h : (Lit.int .u32 n).wf = true) : 0 ≤ n ∧ n < 4294967296 := by
  simp [Lit.wf, IntKind.min, IntKind.max, IntKind.bits, IntKind.signed] at h
  omega
theorem wf_i64 {n : Int} (h : (Lit.int .i64 n).wf = true) : -9223372036854775808 ≤ n ∧ n < 9223372036854775808 := by
  simp [Lit.wf, IntKind.min, IntKind.max, IntKind.bits, IntKind.signed] at h
  omega

end Go.Proofs.Ythakgbecpkfeoaa.Ev
