/- Parts of the proof, joined. -/
import Derived.Test.YthakgbecpkfeoaaX3
import Derived.Recover
import Derived.Tactics
import Derived.Tactics2
import Derived.Laws.Pointers
/- Code that starts amid a function: boxes told by numbers from 1000 on. -/
set_option linter.unusedVariables false
set_option linter.unusedSimpArgs false
namespace Go.Proofs.Ythakgbecpkfeoaa.Ev

section mid
variable {P : Program} {E : Env}

abbrev XRof (S : Nat → Prop) (gs : List Nat) (ds : List Deferred) : XR := ⟨fun g => g ∈ gs, S, extβ gs, ds⟩

theorem start_inv {S : Nat → Prop} {w : World} {bs : List (List AV)} {gs : List Nat} {tm0 : List AV} {tmps0 : Array Value} {ds : List Deferred} (hS : ∀ b, S b → b < w.heap.size) (hgl : gs.length = bs.length) (hgn : gs.Nodup)
    (hgd : ∀ g ∈ gs, ¬ S g ∧ g < w.heap.size) (hbs : ∀ (i : Nat) (cs : List AV), bs[i]? = some cs → ∃ (g T : Nat) (vs : Array Value), gs[i]? = some g ∧ w.heap[g]? = some (Obj.cells vs T (0, 0)) ∧ RelVs (extβ gs) S w cs vs.toList)
    (hargs : RelVs (extβ gs) S w tm0 tmps0.toList) : Inv (XRof S gs ds) w (extβ gs) S tm0 (extL 0 bs) { tmps := tmps0, defers := ds } w := by
  have hext : ∀ i g, gs[i]? = some g → extβ gs (1000 + i) = some (.pointer (some ⟨g, 0, none⟩)) := fun i g hi => by simp [extβ, hi]
  have hext' : ∀ o v, extβ gs o = some v → ∃ i g, o = 1000 + i ∧ gs[i]? = some g ∧ v = .pointer (some ⟨g, 0, none⟩) := by
    intro o v h
    unfold extβ at h
    split at h
    · obtain ⟨g, h1, h2⟩ := Option.map_eq_some_iff.1 h
      exact ⟨o - 1000, g, by omega, h1, h2.symm⟩
    · simp at h
  refine ⟨rfl, rfl, rfl, Nat.le_refl _, fun _ _ _ => rfl, fun b hb => (hgd b hb).2, hS, ?_, ?_, ?_, extL_nodup 0 bs, ?_, hargs, rfl, fun b hb _ => hb, fun o v u h1 h2 => ?_, fun o v h => ?_⟩
  · intro o cs hm
    obtain ⟨j, cs', h1, rfl, h3⟩ := extL_mem.1 hm
    simp only [AO.box.injEq] at h3
    subst h3
    obtain ⟨g, T, vs, h4, h5, h6⟩ := hbs j cs h1
    exact ⟨g, T, vs, by simpa using hext j g h4, .inr (List.mem_of_getElem? h4), (hgd g (List.mem_of_getElem? h4)).1, h5, h6⟩
  · intro o τ xs hm
    obtain ⟨j, cs', h1, rfl, h3⟩ := extL_mem.1 hm
    simp at h3
  · intro o v h
    obtain ⟨i, g, rfl, h1, rfl⟩ := hext' o v h
    have hlt : i < bs.length := by rw [← hgl]; exact (List.getElem?_eq_some_iff.1 h1).1
    exact ⟨.box bs[i], extL_mem.2 ⟨i, bs[i], List.getElem?_eq_getElem hlt, by omega, rfl⟩⟩
  · intro o o' v v' g hne h1 h2 h3 h4 h5
    obtain ⟨i, g1, rfl, q1, rfl⟩ := hext' o v h1
    obtain ⟨j, g2, rfl, q2, rfl⟩ := hext' o' v' h2
    simp only [blk, Option.some.injEq] at h3 h5
    subst h3
    subst h5
    obtain ⟨a1, a2⟩ := List.getElem?_eq_some_iff.1 q1
    obtain ⟨b1, b2⟩ := List.getElem?_eq_some_iff.1 q2
    have := (List.getElem_inj (h₀ := a1) (h₁ := b1) hgn).1 (a2.trans b2.symm)
    omega
  · rw [show (XRof S gs ds).e o = extβ gs o from rfl, h2] at h1; simpa using h1
  · obtain ⟨i, g, rfl, _⟩ := hext' o v h
    omega

/-- What a box from outside holds at the end. -/
theorem end_box {S S' : Nat → Prop} {w w' : World} {gs : List Nat} {tm' : List AV} {hp' : Hp} {a' : Act} {β' : Nat → Option Value} {ds : List Deferred} (hI' : Inv (XRof S gs ds) w β' S' tm' hp' a' w') {i g : Nat} (hi : gs[i]? = some g) {cs : List AV}
    (hm : (1000 + i, AO.box cs) ∈ hp') (hf : AV.frees cs = true) : ∃ (T : Nat) (vs : Array Value), w'.heap[g]? = some (Obj.cells vs T (0, 0)) ∧ RelVs (extβ gs) S' w' cs vs.toList ∧ ¬ S' g := by
  obtain ⟨g', T, vs, h3, _, hns, h5, h6⟩ := hI'.box _ cs hm
  have hext : extβ gs (1000 + i) = some (.pointer (some ⟨g, 0, none⟩)) := by simp [extβ, hi]
  have := hI'.keep (1000 + i) _ _ hext h3
  simp only [Value.pointer.injEq, Option.some.injEq, Addr.mk.injEq, and_true] at this
  subst this
  exact ⟨T, vs, h5, RelVs.free (β' := extβ gs) _ _ hf h6, hns⟩
/-- A slot that names a box from outside. -/
theorem end_ptr {S S' : Nat → Prop} {w w' : World} {gs : List Nat} {tm' : List AV} {hp' : Hp} {a' : Act} {β' : Nat → Option Value} {ds : List Deferred} (hI' : Inv (XRof S gs ds) w β' S' tm' hp' a' w') {i g t off : Nat} (hi : gs[i]? = some g)
    (ht : getV tm' t = .ptr (1000 + i) off) : a'.eval (.tmp t) = .pointer (some ⟨g, off, none⟩) := by
  have h := hI'.eval (.tmp t)
  simp only [evalV, ht] at h
  obtain ⟨g', h3, h4⟩ := h
  have hext : extβ gs (1000 + i) = some (.pointer (some ⟨g, 0, none⟩)) := by simp [extβ, hi]
  have := hI'.keep (1000 + i) _ _ hext h3
  simp only [Value.pointer.injEq, Option.some.injEq, Addr.mk.injEq, and_true] at this
  subst this
  exact h4

/-- Pieces one after another. -/
def seqs : List Code → Code → Code
  | [], c => c
  | x :: l, c => .seq x (seqs l c)
noncomputable def evSeqs (E : Env) : List Code → List AV → Hp → (List AV → Hp → Prop) → Prop
  | [], tm, hp, k => k tm hp
  | x :: l, tm, hp, k => ev E x tm hp fun e tm hp => match e with
    | .normal => evSeqs E l tm hp k
    | _ => False
theorem seqs_wp (hE : EnvOK P E) (hmix : P.follows .mixedOrders = true) {X : XR} {w0 : World} {Q : Exit → Act → World → Prop} {c : Code} {k : List AV → Hp → Prop} (hc : ∀ β S tm hp a w, k tm hp → Inv X w0 β S tm hp a w → c.wp P Q a w) :
    ∀ (l : List Code), (∀ x ∈ l, moreB P x = true) → ∀ β S tm hp a w, Inv X w0 β S tm hp a w → evSeqs E l tm hp k → (seqs l c).wp P Q a w
  | [], _, β, S, tm, hp, a, w, hI, h => hc _ _ _ _ _ _ h hI
  | x :: l, hm, β, S, tm, hp, a, w, hI, h => by
    refine wp_seq (ev_wp hE hmix x (hm x (by simp)) _ _ ?_ β S tm hp a w hI h)
    intro β1 S1 tm1 hp1 a1 w1 hI1
    exact ⟨fun h => seqs_wp hE hmix hc l (fun y hy => hm y (by simp [hy])) _ _ _ _ _ _ hI1 h, fun id h => h.elim, fun h => h.elim, fun v u h => h.elim⟩

end mid
end Go.Proofs.Ythakgbecpkfeoaa.Ev

/- Layer 16: play.Run's deferred function, for a frame that returns and for one that panics at the end of the log. -/
set_option linter.unusedVariables false
set_option linter.unusedSimpArgs false
set_option maxRecDepth 100000
namespace Go.Proofs.Ythakgbecpkfeoaa.Ev

theorem eq_nil (w : World) : (binOp .eql 20 .nilIface .nilIface).run Try.prog w = .ok (.bool true) w := by kernel_rfl
theorem guard_nil (w : World) : (eqGuard .eql 20 (.tmp 7) (.const .nilIface) .nilIface .nilIface).run Try.prog w = .ok () w := by kernel_rfl
theorem eq_ifc (T : Nat) (v : Value) (w : World) : (binOp .eql 20 (.iface T v) .nilIface).run Try.prog w = .ok (.bool false) w := by kernel_rfl
theorem guard_ifc (T : Nat) (v : Value) (w : World) : (eqGuard .eql 20 (.tmp 7) (.const .nilIface) (.iface T v) .nilIface).run Try.prog w = .ok () w := by kernel_rfl
theorem assert_ifc (v : Value) (w : World) : (Instr.typeAssert (.iface 136 v) 20 136 true).run Try.prog w = .ok (.tuple #[v, .bool true]) w := by kernel_rfl

theorem catch_idle (p q r : Value) (w : World) :
    CallsD Try.prog 99 #[p, q, r] .returning w fun e u' w' => e = .returned (.tuple #[]) ∧ u' = .returning ∧ w' = w := by
  refine callsD_of_wpS Try.func99 rfl fun c₀ cs hu => ?_
  apply wpS_seq
  apply wpS_region
  simp [wpOpsS, go_sem, recoverD, hu, Try.ntmps99, Exit.thenS]
  refine wpS_of_wp ?_
  refine wp_block ?_
  refine wp_seq ?_
  refine wp_region ?_
  show wpOps _ _ _ [0] _ _
  generalize ha : ({ tmps := #[p, q, r] ++ (Array.replicate 20 undef).setIfInBounds 4 Value.nilIface, defers := [] } : Act) = a1
  have h7 : a1.eval (.tmp 7) = .nilIface := by subst ha; simp [Act.eval, Array.replicate]
  have hd : a1.defers = [] := by subst ha; rfl
  have hs : a1.tmps.size = 23 := by subst ha; simp
  clear ha
  rw [wpOps_cons]
  refine wpOp_plain rfl rfl (wp_value (u := .bool true) (w' := w) ?_ ?_)
  · show (do let x ← (do eqGuard .eql 20 (.tmp 7) (.const .nilIface) (a1.eval (.tmp 7)) .nilIface; binOp .eql 20 (a1.eval (.tmp 7)) .nilIface); pure (Next.value x) : Sem Next).run Try.prog w = _
    rw [h7]
    simp [Sem.run_bind, guard_nil, eq_nil]
  refine wp_cond_true (eval_put_same (by omega)) ?_
  refine wp_region ?_
  show wpOps _ _ _ [0] _ _
  rw [wpOps_cons]
  refine wpOp_plain rfl rfl (wp_value (u := .nilIface) (w' := w) ?_ ?_)
  · show (pure (Next.value ((a1.put (some 9) (.bool true)).eval (.tmp 7))) : Sem Next).run Try.prog w = _
    rw [eval_put_ne (by decide), h7]
    rfl
  refine ⟨hd, .returning, ?_, .tuple #[], ?_, rfl, rfl, rfl⟩
  · cases c₀
    simp only at hu
    subst hu
    rfl
  · simp [results, Try.results99]

theorem wpOpsS_rec {P : Program} {ops : Array Oper} {Q : Exit → Act → List Frame → World → Prop} {a : Act} {cs cs' : List Frame} {w : World} {o : Oper} {v : Value} {d : Option Nat} (ho : ops[0]? = some o) (hd : o.dst = d) (hg : o.guard = none)
    (hr : (execOp a.eval o).run P w = .ok .recover w) (hrec : recoverD cs = some (v, cs')) (h : Q .normal (a.put d v) cs' w) : wpOpsS P ops Q [0] a cs w := by
  subst hd
  unfold wpOpsS
  simp only [ho, Region.wanted, hg, hr, hrec, if_true]
  unfold wpOpsS
  exact h

def zeroAcc : List AV := [.int .i64 0, .int .i64 0, .int .i64 0, .int .i64 0, .str ⟨#[]⟩]
def zeroOut : List AV := [.int .i64 0, .int .i64 0, .int .i64 0, .int .i64 0, .bool false, .bool false, .int .i64 0]
def outBs (a o : List AV) (b : Bool) : List (List AV) := [a, o, [.bool b]]
/-- The three result variables hold this. -/
def Holds3 (gs : List Nat) (S : Nat → Prop) (w : World) (bs : List (List AV)) : Prop :=
  ∀ (i : Nat) (cs : List AV), bs[i]? = some cs → ∃ (g T : Nat) (vs : Array Value), gs[i]? = some g ∧ w.heap[g]? = some (Obj.cells vs T (0, 0)) ∧ RelVs (extβ gs) S w cs vs.toList
/-- Only these blocks of old memory have been written. -/
def Only (gs : List Nat) (w w' : World) : Prop := w'.os = w.os ∧ w'.tape = w.tape ∧ w'.output = w.output ∧ w.heap.size ≤ w'.heap.size ∧ ∀ b, b < w.heap.size → b ∉ gs → w'.heap[b]? = w.heap[b]?

def accVal (q : Acc) : Value := .agg #[.int .i64 q.kind, .int .i64 q.cell, .int .i64 q.old, .int .i64 q.new, .string q.bytes]

theorem catch_panic {sp : List (Nat × Spec)} (hE : EnvOK Try.prog ⟨tys, sp⟩) {S : Nat → Prop} {w : World} {g4 g5 g6 : Nat} (q : Acc) (hS : ∀ b, S b → b < w.heap.size) (hgn : [g4, g5, g6].Nodup) (hgd : ∀ g ∈ [g4, g5, g6], ¬ S g ∧ g < w.heap.size)
    (hbs : Holds3 [g4, g5, g6] S w (outBs zeroAcc zeroOut false)) :
    CallsD Try.prog 99 #[.pointer (some ⟨g4, 0, none⟩), .pointer (some ⟨g5, 0, none⟩), .pointer (some ⟨g6, 0, none⟩)] (.panicking [{ v := .iface 136 (accVal q), recovered := false }]) w
      fun e u' w' => e = .returned (.tuple #[]) ∧ u' = .panicking [{ v := .iface 136 (accVal q), recovered := true }] ∧ ∃ S', Holds3 [g4, g5, g6] S' w' (outBs (accV q) zeroOut false) ∧ Only [g4, g5, g6] w w' := by
  refine callsD_of_wpS Try.func99 rfl fun c₀ cs hu => ?_
  apply wpS_seq
  apply wpS_region
  show wpOpsS _ _ _ [0] _ _ _
  refine wpOpsS_rec (v := .iface 136 (accVal q)) (cs' := { c₀ with mode := .panicking [{ v := .iface 136 (accVal q), recovered := true }] } :: cs) (d := some 7) rfl rfl rfl (by rfl) (by simp [recoverD, hu]) ?_
  refine wpS_of_wp ?_
  have hargs : RelVs (extβ [g4, g5, g6]) S w ([.ptr 1000 0, .ptr 1001 0, .ptr 1002 0] ++ List.replicate 20 .skp) (#[Value.pointer (some ⟨g4, 0, none⟩), .pointer (some ⟨g5, 0, none⟩), .pointer (some ⟨g6, 0, none⟩)] ++ Array.replicate 20 undef).toList := by
    simp only [Array.toList_append, Array.toList_replicate]
    refine RelVs.append (vs := [_, _, _]) ⟨_, _, rfl, ⟨g4, rfl, rfl⟩, _, _, rfl, ⟨g5, rfl, rfl⟩, _, _, rfl, ⟨g6, rfl, rfl⟩, rfl⟩ ?_
    generalize 20 = n
    induction n with
    | zero => simp [RelVs]
    | succ n ih => exact ⟨undef, _, rfl, rfl, ih⟩
  have hI0 := start_inv (ds := []) hS (gs := [g4, g5, g6]) (bs := outBs zeroAcc zeroOut false) rfl hgn hgd hbs hargs
  have hn : Try.f99.ntmps - (#[Value.pointer (some ⟨g4, 0, none⟩), .pointer (some ⟨g5, 0, none⟩), .pointer (some ⟨g6, 0, none⟩)] : Array Value).size = 20 := rfl
  rw [hn]
  have hI1 := hI0.put (v := .undef) (u := .iface 136 (accVal q)) (by simp [RelV]) (some 7)
  generalize ha : (Act.put { tmps := #[Value.pointer (some ⟨g4, 0, none⟩), .pointer (some ⟨g5, 0, none⟩), .pointer (some ⟨g6, 0, none⟩)] ++ Array.replicate 20 undef, defers := [] } (some 7) (.iface 136 (accVal q)) : Act) = a1 at hI1 ⊢
  have hs : a1.tmps.size = 23 := by subst ha; simp [Act.put]
  have h7 : a1.eval (.tmp 7) = .iface 136 (accVal q) := by subst ha; exact eval_put_same (by simp)
  show (Code.block _ _).wp _ _ a1 w
  refine wp_block ?_
  refine wp_seq ?_
  refine wp_region ?_
  show wpOps _ _ _ [0] _ _
  rw [wpOps_cons]
  refine wpOp_plain rfl rfl (wp_value (u := .bool false) (w' := w) ?_ ?_)
  · show (do let x ← (do eqGuard .eql 20 (.tmp 7) (.const .nilIface) (a1.eval (.tmp 7)) .nilIface; binOp .eql 20 (a1.eval (.tmp 7)) .nilIface); pure (Next.value x) : Sem Next).run Try.prog w = _
    rw [h7]
    simp [Sem.run_bind, guard_ifc, eq_ifc]
  have hI2 := hI1.put (v := .undef) (u := .bool false) (by simp [RelV]) (some 9)
  have h72 : (a1.put (some 9) (.bool false)).eval (.tmp 7) = .iface 136 (accVal q) := by rw [eval_put_ne (by decide)]; exact h7
  have hs2 : (a1.put (some 9) (.bool false)).tmps.size = 23 := by simp [Act.put, hs]
  refine wp_cond_false (eval_put_same (by omega)) ?_
  show (Code.seq _ _).wp _ _ (a1.put (some 9) (.bool false)) w
  generalize a1.put (some 9) (.bool false) = a2 at hI2 h72 hs2 ⊢
  refine wp_seq ?_
  refine wp_region ?_
  show wpOps _ _ _ [0, 1, 2] _ _
  rw [wpOps_cons]
  refine wpOp_plain rfl rfl (wp_value (u := .tuple #[accVal q, .bool true]) (w' := w) ?_ ?_)
  · show (do let x ← Instr.typeAssert (a2.eval (.tmp 7)) 20 136 true; pure (Next.value x) : Sem Next).run Try.prog w = _
    rw [h72]
    simp [Sem.run_bind, assert_ifc]
  have hI3 := hI2.put (v := .undef) (u := .tuple #[accVal q, .bool true]) (by simp [RelV]) (some 10)
  have h10 : (a2.put (some 10) (.tuple #[accVal q, .bool true])).eval (.tmp 10) = .tuple #[accVal q, .bool true] := eval_put_same (by omega)
  have hs3 : (a2.put (some 10) (.tuple #[accVal q, .bool true])).tmps.size = 23 := by simp [Act.put, hs2]
  show wpOps _ _ _ [1, 2] (a2.put (some 10) (.tuple #[accVal q, .bool true])) w
  generalize a2.put (some 10) (.tuple #[accVal q, .bool true]) = a3 at hI3 h10 hs3 ⊢
  rw [wpOps_cons]
  refine wpOp_plain rfl rfl (wp_value (u := .bool true) (w' := w) ?_ ?_)
  · show (do let x ← Instr.extract (a3.eval (.tmp 10)) 1; pure (Next.value x) : Sem Next).run Try.prog w = _
    rw [h10]
    rfl
  have hI4 := hI3.put (v := .undef) (u := .bool true) (by simp [RelV]) (some 11)
  have h10' : (a3.put (some 11) (.bool true)).eval (.tmp 10) = .tuple #[accVal q, .bool true] := by rw [eval_put_ne (by decide)]; exact h10
  have h11 : (a3.put (some 11) (.bool true)).eval (.tmp 11) = .bool true := eval_put_same (by omega)
  show wpOps _ _ _ [2] (a3.put (some 11) (.bool true)) w
  generalize a3.put (some 11) (.bool true) = a4 at hI4 h10' h11 ⊢
  rw [wpOps_cons]
  refine wpOp_plain rfl rfl (wp_value (u := accVal q) (w' := w) ?_ ?_)
  · show (do let x ← Instr.extract (a4.eval (.tmp 10)) 0; pure (Next.value x) : Sem Next).run Try.prog w = _
    rw [h10']
    rfl
  have hI5 := hI4.put (v := .agg (accV q)) (u := accVal q) ⟨[.int .i64 q.kind, .int .i64 q.cell, .int .i64 q.old, .int .i64 q.new, .string q.bytes], rfl, _, _, rfl, rfl, _, _, rfl, rfl, _, _, rfl, rfl, _, _, rfl, rfl, _, _, rfl, rfl, rfl⟩ (some 12)
  refine wp_cond_true (a := a4.put (some 12) (accVal q)) (by rw [eval_put_ne (by decide)]; exact h11) ?_
  refine ev_wp hE (by kernel_rfl) (.seq _ _) (by kernel_rfl) (fun e tm hp => e = .normal ∧ (1000, AO.box (accV q)) ∈ hp ∧ (1001, AO.box zeroOut) ∈ hp ∧ (1002, AO.box [.bool false]) ∈ hp) _ ?_ _ _ _ _ _ _ hI5 ?_
  · intro β S' tm hp a w' hI
    refine ⟨fun ⟨_, h1, h2, h3⟩ => ?_, fun id h => by simp at h, fun h => by simp at h, fun v u h => by simp at h⟩
    refine ⟨hI.defs, _, rfl, .tuple #[], ?_, rfl, rfl, S', ?_, hI.os, hI.tape, hI.output, hI.size, fun b h1 h2 => hI.old b h1 h2⟩
    · simp [results, Try.results99]
    · intro i cs hi
      match i, hi with
      | 0, hi => simp [outBs] at hi; subst hi; obtain ⟨T, vs, q1, q2, _⟩ := end_box hI (i := 0) (g := g4) rfl h1 rfl; exact ⟨g4, T, vs, rfl, q1, q2⟩
      | 1, hi => simp [outBs] at hi; subst hi; obtain ⟨T, vs, q1, q2, _⟩ := end_box hI (i := 1) (g := g5) rfl h2 rfl; exact ⟨g5, T, vs, rfl, q1, q2⟩
      | 2, hi => simp [outBs] at hi; subst hi; obtain ⟨T, vs, q1, q2, _⟩ := end_box hI (i := 2) (g := g6) rfl h3 rfl; exact ⟨g6, T, vs, rfl, q1, q2⟩
      | n + 3, hi => simp [outBs] at hi
  · conv => whnf
    exact ⟨rfl, .head _, .tail _ (.head _), .tail _ (.tail _ (.head _))⟩

end Go.Proofs.Ythakgbecpkfeoaa.Ev

/- Layer 16: play.Run. -/
set_option linter.unusedVariables false
set_option linter.unusedSimpArgs false
set_option maxRecDepth 100000
namespace Go.Proofs.Ythakgbecpkfeoaa.Ev

def runV : Out → AV
  | .ret r => .tup [.agg zeroAcc, r, .bool true]
  | .pan (.ifc _ (.agg cs)) => .tup [.agg cs, .agg zeroOut, .bool false]
  | .pan _ => .undef

def rtm : List AV := [.undef, .undef, .undef, .undef, .ptr 1000 0, .ptr 1001 0, .ptr 1002 0] ++ List.replicate 9 .undef

theorem RelVs.undefs {β : Nat → Option Value} {S : Nat → Prop} {w : World} : ∀ us : List Value, RelVs β S w (List.replicate us.length .undef) us
  | [] => rfl
  | u :: us => ⟨u, us, rfl, trivial, RelVs.undefs us⟩

theorem rtm_rel {g4 g5 g6 : Nat} {S : Nat → Prop} {w : World} {a : Act} (hs : a.tmps.size = 16) (h4 : a.eval (.tmp 4) = .pointer (some ⟨g4, 0, none⟩)) (h5 : a.eval (.tmp 5) = .pointer (some ⟨g5, 0, none⟩)) (h6 : a.eval (.tmp 6) = .pointer (some ⟨g6, 0, none⟩)) :
    RelVs (extβ [g4, g5, g6]) S w rtm a.tmps.toList := by
  obtain ⟨⟨l⟩, ds⟩ := a
  simp only [List.size_toArray] at hs
  match l, hs with
  | x0 :: x1 :: x2 :: x3 :: x4 :: x5 :: x6 :: l', hs =>
    simp only [Act.eval, Array.getD, List.size_toArray, List.length_cons] at h4 h5 h6
    simp at h4 h5 h6
    subst h4
    subst h5
    subst h6
    have hl : l'.length = 9 := by simp at hs; omega
    refine ⟨_, _, rfl, trivial, _, _, rfl, trivial, _, _, rfl, trivial, _, _, rfl, trivial, _, _, rfl, ⟨g4, rfl, rfl⟩, _, _, rfl, ⟨g5, rfl, rfl⟩, _, _, rfl, ⟨g6, rfl, rfl⟩, ?_⟩
    rw [← hl]
    exact RelVs.undefs l'

/-- The results of play.Run are read from their variables. -/
theorem run_results {sp : List (Nat × Spec)} (hE : EnvOK Try.prog ⟨tys, sp⟩) {g4 g5 g6 : Nat} {S : Nat → Prop} {w : World} {a : Act} {x : Acc} {val ver rv st er : Int} {is lo dn : Bool}
    (hS : ∀ b, S b → b < w.heap.size) (hgn : [g4, g5, g6].Nodup) (hgd : ∀ g ∈ [g4, g5, g6], ¬ S g ∧ g < w.heap.size)
    (hs : a.tmps.size = 16) (h4 : a.eval (.tmp 4) = .pointer (some ⟨g4, 0, none⟩)) (h5 : a.eval (.tmp 5) = .pointer (some ⟨g5, 0, none⟩)) (h6 : a.eval (.tmp 6) = .pointer (some ⟨g6, 0, none⟩))
    (hb : Holds3 [g4, g5, g6] S w [accV x, [.int .i64 val, .int .i64 ver, .int .i64 rv, .int .i64 st, .bool is, .bool lo, .int .i64 er], [.bool dn]]) :
    ∃ v, (results Try.f80 a.tmps).run Try.prog w = .ok v w ∧ ∀ (β : Nat → Option Value) (S : Nat → Prop) (w : World), RelV β S w (.tup [.agg (accV x), .agg [.int .i64 val, .int .i64 ver, .int .i64 rv, .int .i64 st, .bool is, .bool lo, .int .i64 er], .bool dn]) v := by
  have hI := start_inv (ds := a.defers) hS (gs := [g4, g5, g6]) rfl hgn hgd hb (rtm_rel (S := S) (w := w) hs h4 h5 h6)
  obtain ⟨vs, us, hk, hr, hrun⟩ := resF_of hE hI (l := Try.f80.results.toList) (k := fun vs => vs = [.agg (accV x), .agg [.int .i64 val, .int .i64 ver, .int .i64 rv, .int .i64 st, .bool is, .bool lo, .int .i64 er], .bool dn]) (show resF ⟨tys, sp⟩ rtm _ _ _ from by (conv => whnf); rfl)
  subst hk
  refine ⟨_, results_run hrun, fun β S w => ?_⟩
  simp only [RelVs, RelV, accV] at hr ⊢
  obtain ⟨v1, us1, rfl, ⟨vs1, rfl, p1⟩, v2, us2, rfl, ⟨vs2, rfl, p2⟩, v3, us3, rfl, rfl, rfl⟩ := hr
  exact ⟨_, rfl, _, _, rfl, ⟨_, rfl, p1⟩, _, _, rfl, ⟨_, rfl, p2⟩, _, _, rfl, rfl, rfl⟩

def h80 : List AV → Option (Prop × AV)
  | [.clo 81 [.kp lay, .kp mes, .kp op], .sl .res log] => match h81 [.clo 98 [.ptr 1000 0, .kp [.sl .res log]], .clo 100 [.ptr 1000 0], .kp lay, .kp mes, .kp op] [[.int .i64 0]] with
    | some (p, out, bs) => some (p, runV out)
    | none => none
  | _ => none
def runTm (lay mes op : List AV) (log : List Res) : List AV := [.clo 81 [.kp lay, .kp mes, .kp op], .sl .res log, .skp, .kp [.sl .res log], .ptr 4 0, .ptr 5 0, .ptr 6 0, .ptr 7 0, .clo 98 [.ptr 7 0, .kp [.sl .res log]], .clo 98 [.ptr 7 0, .kp [.sl .res log]], .skp, .skp, .skp, .skp, .skp, .skp]
def runHp : Hp := [(4, .box zeroAcc), (5, .box zeroOut), (6, .box [.bool false]), (7, .box [.int .i64 0])]

noncomputable def c80 : Code := match Try.f80.body with
  | some (.seq _ (.seq _ (.seq _ (.seq _ c)))) => c
  | _ => .skip
def midTm (lay mes op : List AV) (log : List Res) : List AV := [.clo 81 [.kp lay, .kp mes, .kp op], .sl .res log, .skp, .kp [.sl .res log], .ptr 1000 0, .ptr 1001 0, .ptr 1002 0, .ptr 1003 0, .clo 98 [.ptr 1003 0, .kp [.sl .res log]], .clo 98 [.ptr 1003 0, .kp [.sl .res log]], .undef, .skp, .skp, .skp, .skp, .skp]
def midHp : Hp := extL 0 [zeroAcc, zeroOut, [.bool false], [.int .i64 0]]
def Slots (tm : List AV) : Prop := tm.length = 16 ∧ getV tm 4 = .ptr 1000 0 ∧ getV tm 5 = .ptr 1001 0 ∧ getV tm 6 = .ptr 1002 0
def outL (val ver : Int) (is : Bool) (err : Int) : List AV := [.int .i64 val, .int .i64 ver, .int .i64 0, .int .i64 0, .bool is, .bool false, .int .i64 err]
def Boxes (hp : Hp) (a o : List AV) (b : Bool) : Prop := (1000, AO.box a) ∈ hp ∧ (1001, AO.box o) ∈ hp ∧ (1002, AO.box [.bool b]) ∈ hp
def post80 (out : Out) (e : Ex) (tm : List AV) (hp : Hp) : Prop :=
  Slots tm ∧ ((e = .ret ∧ ∃ v w b r, out = .ret (outV v w b r) ∧ Boxes hp zeroAcc (outL v w b r) true) ∨ ∃ q, e = .pan (.ifc 136 (.agg (accV q))) ∧ out = panA q ∧ Boxes hp zeroAcc zeroOut false)

theorem stepF_shape (wd vl kind B me : Int) (log : List Res) : (∃ v w b r, (stepF wd vl kind B me log).1 = .ret (outV v w b r)) ∨ ∃ a, (stepF wd vl kind B me log).1 = panA a := by
  have up : ∀ {F : Out × Int}, ShapeO F → (∃ v w b r, F.1 = .ret (outV v w b r)) ∨ ∃ a, F.1 = panA a := fun h => h.imp (fun ⟨v, w, b, h⟩ => ⟨v, w, b, 0, h⟩) id
  unfold stepF
  split
  · exact .inl ⟨_, _, _, _, rfl⟩
  · split
    · exact up (tkF_shape _ _ _)
    · split
      · exact up (gvF_shape _ _ _)
      · split
        · exact up (lkF_shape _ _ _)
        · exact up (rdF_shape _ _ _)

theorem body80 {lay mes op : List AV} {log : List Res} {p : Prop} {out : Out} {bs : List (List AV)} (he : h81 [.clo 98 [.ptr 1000 0, .kp [.sl .res log]], .clo 100 [.ptr 1000 0], .kp lay, .kp mes, .kp op] [[.int .i64 0]] = some (p, out, bs)) (hp : p) :
    AV.renoks [4, 5, 6, 7] (runTm lay mes op log) = true ∧ AV.rens [4, 5, 6, 7] (runTm lay mes op log) = [.clo 81 [.kp lay, .kp mes, .kp op], .sl .res log, .skp, .kp [.sl .res log], .ptr 1000 0, .ptr 1001 0, .ptr 1002 0, .ptr 1003 0, .clo 98 [.ptr 1003 0, .kp [.sl .res log]], .clo 98 [.ptr 1003 0, .kp [.sl .res log]], .skp, .skp, .skp, .skp, .skp, .skp] ∧ ev ⟨tys, (81, .full h81) :: sp88⟩ c80 (midTm lay mes op log) midHp (post80 out) := by
  unfold h81 at he
  split at he
  · rename_i log t l k s m c st lg en th lk lo sz me kind A B tr m1 m2 m3 seen wr du h1 h2
    simp only [Option.some.injEq, Prod.mk.injEq] at he
    obtain ⟨rfl, rfl, rfl⟩ := he
    cases h1
    cases h2
    refine ⟨rfl, rfl, ?_⟩
    have hs := stepF_shape (cellA lo l A 4 0) (cellA lo l A 4 1) kind B me log
    conv => whnf
    refine ⟨hp, ?_⟩
    generalize stepF (cellA lo l A 4 0) (cellA lo l A 4 1) kind B me log = F at hs ⊢
    obtain ⟨out, pos⟩ := F
    dsimp only at hs ⊢
    rcases hs with ⟨v, w, b, r, rfl⟩ | ⟨q, rfl⟩
    · conv => whnf
      exact ⟨⟨rfl, rfl, rfl, rfl⟩, .inl ⟨rfl, _, _, _, _, rfl, .head _, .tail _ (.head _), .tail _ (.tail _ (.head _))⟩⟩
    · conv => whnf
      exact ⟨⟨rfl, rfl, rfl, rfl⟩, .inr ⟨_, rfl, rfl, .head _, .tail _ (.head _), .tail _ (.tail _ (.head _))⟩⟩
  · rename_i log t l k s m c st lg en th lk lo sz me kind A B tr m1 m2 m3 h1 h2
    simp only [Option.some.injEq, Prod.mk.injEq] at he
    obtain ⟨rfl, rfl, rfl⟩ := he
    cases h1
    cases h2
    refine ⟨rfl, rfl, ?_⟩
    have hs := stepF_shape (cellA lo l A 4 0) (cellA lo l A 4 1) kind B me log
    conv => whnf
    refine ⟨hp, ?_⟩
    generalize stepF (cellA lo l A 4 0) (cellA lo l A 4 1) kind B me log = F at hs ⊢
    obtain ⟨out, pos⟩ := F
    dsimp only at hs ⊢
    rcases hs with ⟨v, w, b, r, rfl⟩ | ⟨q, rfl⟩
    · conv => whnf
      exact ⟨⟨rfl, rfl, rfl, rfl⟩, .inl ⟨rfl, _, _, _, _, rfl, .head _, .tail _ (.head _), .tail _ (.tail _ (.head _))⟩⟩
    · conv => whnf
      exact ⟨⟨rfl, rfl, rfl, rfl⟩, .inr ⟨_, rfl, rfl, .head _, .tail _ (.head _), .tail _ (.tail _ (.head _))⟩⟩
  · simp at he

theorem Holds3.any {gs : List Nat} {S S' : Nat → Prop} {w : World} {x : Acc} {val ver rv st er : Int} {is lo dn : Bool} (hb : Holds3 gs S w [accV x, [.int .i64 val, .int .i64 ver, .int .i64 rv, .int .i64 st, .bool is, .bool lo, .int .i64 er], [.bool dn]]) :
    Holds3 gs S' w [accV x, [.int .i64 val, .int .i64 ver, .int .i64 rv, .int .i64 st, .bool is, .bool lo, .int .i64 er], [.bool dn]] := by
  intro i cs hi
  obtain ⟨g, T, vs, h1, h2, h3⟩ := hb i cs hi
  refine ⟨g, T, vs, h1, h2, ?_⟩
  match i, hi with
  | 0, hi => simp at hi; subst hi; simpa only [RelVs, RelV, accV] using h3
  | 1, hi => simp at hi; subst hi; simpa only [RelVs, RelV] using h3
  | 2, hi => simp at hi; subst hi; simpa only [RelVs, RelV] using h3
  | n + 3, hi => simp at hi

theorem wp_defer {P : Program} {o : Oper} {a : Act} {w : World} {K : Act → World → Prop} {Q : Exit → Act → World → Prop} {d : Deferred} (h : (execOp a.eval o).run P w = .ok (.defer d) w) (hd : o.dst = none)
    (hK : K { a with defers := d :: a.defers } w) : o.wp P a w K Q := by
  unfold Oper.wp
  rw [h, Oper.upon_defer, hd]
  exact hK

theorem run80 : SpecPure Try.prog 80 h80 := by
  intro S w args vals p r hS hr hh hp
  unfold h80 at hh
  split at hh
  · rename_i lay mes op log
    split at hh
    · rename_i p' out bs h81e
      simp only [Option.some.injEq, Prod.mk.injEq] at hh
      obtain ⟨rfl, rfl⟩ := hh
      refine calls_of_wp_defers Try.func80 rfl ?_
      have hargs : RelVs (extβ []) S w ([.clo 81 [.kp lay, .kp mes, .kp op], .sl .res log] ++ List.replicate 14 .skp) (vals.toArray ++ Array.replicate 14 undef).toList := by
        simp only [Array.toList_append, Array.toList_replicate]
        rw [extβ_nil]
        refine hr.append ?_
        generalize 14 = n
        induction n with
        | zero => simp [RelVs]
        | succ n ih => exact ⟨undef, _, rfl, rfl, ih⟩
      have hI0 := start_inv (ds := []) hS (gs := []) (bs := []) rfl (by simp) (by simp) (by simp) hargs
      have hsz : vals.toArray.size = 2 := by simpa using hr.length.symm
      have hn : Try.f80.ntmps - vals.toArray.size = 14 := by rw [hsz]; rfl
      rw [hn]
      refine seqs_wp w81 (by kernel_rfl) (k := fun tm hp => tm = runTm lay mes op log ∧ hp = runHp) ?_ [_, _, _] ?_ _ _ _ _ _ _ hI0 ?_
      · rintro β S1 tm hp a w1 ⟨rfl, rfl⟩ hI
        obtain ⟨g4, T4, vs4, b4, k4, n4, e4, r4⟩ := hI.box 4 zeroAcc (.head _)
        obtain ⟨g5, T5, vs5, b5, k5, n5, e5, r5⟩ := hI.box 5 zeroOut (.tail _ (.head _))
        obtain ⟨g6, T6, vs6, b6, k6, n6, e6, r6⟩ := hI.box 6 [.bool false] (.tail _ (.tail _ (.head _)))
        obtain ⟨g7, T7, vs7, b7, k7, n7, e7, r7⟩ := hI.box 7 [.int .i64 0] (.tail _ (.tail _ (.tail _ (.head _))))
        have ne : ∀ {o o' g g' : Nat}, o ≠ o' → β o = some (.pointer (some ⟨g, 0, none⟩)) → β o' = some (.pointer (some ⟨g', 0, none⟩)) → ¬ S1 g → g ≠ g' := by
          intro o o' g g' h1 h2 h3 h4 h5
          subst h5
          exact hI.apart o o' _ _ g h1 h2 h3 rfl h4 rfl
        have hnd : [g4, g5, g6, g7].Nodup := by
          simp only [List.nodup_cons, List.mem_cons, List.not_mem_nil, or_false, not_or, not_false_eq_true, List.nodup_nil, and_true]
          exact ⟨⟨ne (by decide) b4 b5 n4, ne (by decide) b4 b6 n4, ne (by decide) b4 b7 n4⟩, ⟨ne (by decide) b5 b6 n5, ne (by decide) b5 b7 n5⟩, ne (by decide) b6 b7 n6⟩
        have lt : ∀ {g : Nat} {o : Obj}, w1.heap[g]? = some o → g < w1.heap.size := fun h => (Array.getElem?_eq_some_iff.1 h).1
        have hgd : ∀ g ∈ [g4, g5, g6, g7], ¬ S1 g ∧ g < w1.heap.size := by
          intro g hg
          simp only [List.mem_cons, List.not_mem_nil, or_false] at hg
          rcases hg with rfl | rfl | rfl | rfl
          · exact ⟨n4, lt e4⟩
          · exact ⟨n5, lt e5⟩
          · exact ⟨n6, lt e6⟩
          · exact ⟨n7, lt e7⟩
        have fresh : ∀ {g : Nat}, (w.heap.size ≤ g ∨ XRof S [] [] g) → w.heap.size ≤ g := fun h => h.elim id (fun h => by simp at h)
        have k4 := fresh k4
        have k5 := fresh k5
        have k6 := fresh k6
        have k7 := fresh k7
        have free : ∀ {cs : List AV} {vs : List Value}, AV.frees cs = true → RelVs β S1 w1 cs vs → RelVs (extβ [g4, g5, g6, g7]) S1 w1 cs vs := fun h1 h2 => RelVs.free _ _ h1 h2
        have hbs : ∀ (i : Nat) (cs : List AV), [zeroAcc, zeroOut, [.bool false], [.int .i64 0]][i]? = some cs → ∃ (g T : Nat) (vs : Array Value), [g4, g5, g6, g7][i]? = some g ∧ w1.heap[g]? = some (Obj.cells vs T (0, 0)) ∧ RelVs (extβ [g4, g5, g6, g7]) S1 w1 cs vs.toList := by
          intro i cs hi
          match i, hi with
          | 0, hi => simp at hi; subst hi; exact ⟨g4, T4, vs4, rfl, e4, free rfl r4⟩
          | 1, hi => simp at hi; subst hi; exact ⟨g5, T5, vs5, rfl, e5, free rfl r5⟩
          | 2, hi => simp at hi; subst hi; exact ⟨g6, T6, vs6, rfl, e6, free rfl r6⟩
          | 3, hi => simp at hi; subst hi; exact ⟨g7, T7, vs7, rfl, e7, free rfl r7⟩
          | n + 4, hi => simp at hi
        have hrel : RelVs (extβ [g4, g5, g6, g7]) S1 w1 (AV.rens [4, 5, 6, 7] (runTm lay mes op log)) a.tmps.toList := by
          refine RelVs.ren (β := β) (fun o i v h1 h2 => ?_) _ _ ?_ hI.rel
          · match i, h1 with
            | 0, h1 => simp at h1; subst h1; rw [b4] at h2; exact h2
            | 1, h1 => simp at h1; subst h1; rw [b5] at h2; exact h2
            | 2, h1 => simp at h1; subst h1; rw [b6] at h2; exact h2
            | 3, h1 => simp at h1; subst h1; rw [b7] at h2; exact h2
            | n + 4, h1 => simp at h1
          · exact (body80 h81e hp).1
        rw [(body80 h81e hp).2.1] at hrel
        have evp : ∀ {t o g : Nat}, getV (runTm lay mes op log) t = .ptr o 0 → β o = some (.pointer (some ⟨g, 0, none⟩)) → a.eval (.tmp t) = .pointer (some ⟨g, 0, none⟩) := by
          intro t o g ht ho
          have h := hI.eval (.tmp t)
          simp only [evalV, ht] at h
          obtain ⟨g', h3, h4⟩ := h
          rw [ho] at h3
          simp only [Value.pointer.injEq, Option.some.injEq, Addr.mk.injEq, and_true] at h3
          subst h3
          exact h4
        have v4 := evp (t := 4) rfl b4
        have v5 := evp (t := 5) rfl b5
        have v6 := evp (t := 6) rfl b6
        have hsa : a.tmps.size = 16 := by simpa [runTm] using hI.rel.length.symm
        have hda : a.defers = [] := hI.defs
        refine wp_seq ?_
        refine wp_region ?_
        show wpOps _ _ _ [0, 1] _ _
        rw [wpOps_cons]
        refine wpOp_plain rfl rfl (wp_value (u := .func (.func 99) #[] #[.pointer (some ⟨g4, 0, none⟩), .pointer (some ⟨g5, 0, none⟩), .pointer (some ⟨g6, 0, none⟩)]) (w' := w1) ?_ ?_)
        · show (do let x ← Instr.makeFunc (.func 99) (#[].map a.eval) (#[Operand.tmp 4, .tmp 5, .tmp 6].map a.eval); pure (Next.value x) : Sem Next).run Try.prog w1 = _
          simp [Instr.makeFunc, v4, v5, v6]
        rw [wpOps_cons]
        refine wpOp_plain rfl rfl ?_
        generalize hd : ({ target := .fn (.func 99) #[.pointer (some ⟨g4, 0, none⟩), .pointer (some ⟨g5, 0, none⟩), .pointer (some ⟨g6, 0, none⟩)], args := #[] } : Deferred) = d
        generalize hclo : Value.func (.func 99) #[] #[.pointer (some ⟨g4, 0, none⟩), .pointer (some ⟨g5, 0, none⟩), .pointer (some ⟨g6, 0, none⟩)] = clo
        have h10 : (a.put (some 10) clo).eval (.tmp 10) = clo := eval_put_same (by omega)
        refine wp_defer (d := d) ?_ rfl ?_
        · show (do let x ← resolve (a.put (some 10) clo).eval { callee := .value (.tmp 10), args := #[], argTypes := #[] } 0; pure (Next.defer x) : Sem Next).run Try.prog w1 = _
          simp [resolve, h10]
          rw [← hclo, ← hd]
          simp [Deferred.ofValue]
        have hI1 := start_inv (ds := a.defers) hI.sb (gs := [g4, g5, g6, g7]) rfl hnd hgd hbs hrel
        have hrel2 := (hI1.put (v := .undef) (u := clo) (by simp [RelV]) (some 10)).rel
        have hI2 := start_inv (ds := [d]) (tmps0 := (a.put (some 10) clo).tmps) hI.sb (gs := [g4, g5, g6, g7]) rfl hnd hgd hbs hrel2
        show Code.wp Try.prog (.seq _ _) _ { tmps := (a.put (some 10) clo).tmps, defers := d :: (a.put (some 10) clo).defers } w1
        have hdp : (a.put (some 10) clo).defers = [] := hda
        rw [hdp]
        refine ev_wp w81 (by kernel_rfl) c80 (by kernel_rfl) (post80 out) _ ?_ _ _ _ _ _ _ hI2 (body80 h81e hp).2.2
        intro β' S' tm hp a' w' hI'
        have hinv : (invoke d.target d.args).run Try.prog w' = .ok (.enter 99 #[.pointer (some ⟨g4, 0, none⟩), .pointer (some ⟨g5, 0, none⟩), .pointer (some ⟨g6, 0, none⟩)]) w' := by
          rw [← hd]
          exact enter_of (P := Try.prog) (f := 99) (fn := Try.f99) (by kernel_rfl) (by kernel_rfl) rfl w' _
        have hd' : a'.defers = [d] := hI'.defs
        have hnd3 : [g4, g5, g6].Nodup := by
          simp only [List.nodup_cons, List.mem_cons, List.not_mem_nil, or_false, not_or, not_false_eq_true, List.nodup_nil, and_true] at hnd ⊢
          exact ⟨⟨hnd.1.1, hnd.1.2.1⟩, hnd.2.1.1⟩
        have hold : ∀ b, b < w.heap.size → w'.heap[b]? = w.heap[b]? := fun b hb => by
          rw [hI'.old b (Nat.lt_of_lt_of_le hb hI.size) (fun hm => by
            have hm : b ∈ [g4, g5, g6, g7] := hm
            simp only [List.mem_cons, List.not_mem_nil, or_false] at hm
            omega)]
          exact hI.old b hb (fun hm => by simp at hm)
        have both : post80 out .ret tm hp → True := fun _ => trivial
        have slots : Slots tm → a'.tmps.size = 16 ∧ a'.eval (.tmp 4) = .pointer (some ⟨g4, 0, none⟩) ∧ a'.eval (.tmp 5) = .pointer (some ⟨g5, 0, none⟩) ∧ a'.eval (.tmp 6) = .pointer (some ⟨g6, 0, none⟩) := by
          rintro ⟨h1, h2, h3, h4⟩
          refine ⟨?_, end_ptr hI' (i := 0) rfl h2, end_ptr hI' (i := 1) rfl h3, end_ptr hI' (i := 2) rfl h4⟩
          have := hI'.rel.length
          rw [h1] at this
          simpa using this.symm
        have boxes : ∀ {x : Acc} {val ver rv st er : Int} {is lo dn : Bool}, Boxes hp (accV x) [.int .i64 val, .int .i64 ver, .int .i64 rv, .int .i64 st, .bool is, .bool lo, .int .i64 er] dn →
            Holds3 [g4, g5, g6] S' w' [accV x, [.int .i64 val, .int .i64 ver, .int .i64 rv, .int .i64 st, .bool is, .bool lo, .int .i64 er], [.bool dn]] ∧ ∀ g ∈ [g4, g5, g6], ¬ S' g ∧ g < w'.heap.size := by
          rintro x val ver rv st er is lo dn ⟨h1, h2, h3⟩
          obtain ⟨T1, us1, q1, p1, m1⟩ := end_box hI' (i := 0) (g := g4) rfl h1 rfl
          obtain ⟨T2, us2, q2, p2, m2⟩ := end_box hI' (i := 1) (g := g5) rfl h2 rfl
          obtain ⟨T3, us3, q3, p3, m3⟩ := end_box hI' (i := 2) (g := g6) rfl h3 rfl
          have lt' : ∀ {g : Nat} {o : Obj}, w'.heap[g]? = some o → g < w'.heap.size := fun h => (Array.getElem?_eq_some_iff.1 h).1
          refine ⟨?_, ?_⟩
          · intro i cs hi
            match i, hi with
            | 0, hi => simp at hi; subst hi; exact ⟨g4, T1, us1, rfl, q1, RelVs.free _ _ rfl p1⟩
            | 1, hi => simp at hi; subst hi; exact ⟨g5, T2, us2, rfl, q2, RelVs.free _ _ rfl p2⟩
            | 2, hi => simp at hi; subst hi; exact ⟨g6, T3, us3, rfl, q3, RelVs.free _ _ rfl p3⟩
            | n + 3, hi => simp at hi
          · intro g hg
            simp only [List.mem_cons, List.not_mem_nil, or_false] at hg
            rcases hg with rfl | rfl | rfl
            · exact ⟨m1, lt' q1⟩
            · exact ⟨m2, lt' q2⟩
            · exact ⟨m3, lt' q3⟩
        refine ⟨fun h => ?_, fun id h => ?_, fun h => ?_, fun v u h hc hr => ?_⟩
        · rcases h.2 with ⟨h, _⟩ | ⟨q, h, _⟩ <;> simp at h
        · rcases h.2 with ⟨h, _⟩ | ⟨q, h, _⟩ <;> simp at h
        · obtain ⟨hsl, ⟨_, val, ver, is, er, rfl, hbx⟩ | ⟨q, h, _⟩⟩ := h
          · obtain ⟨s0, s4, s5, s6⟩ := slots hsl
            obtain ⟨hH, hgd3⟩ := boxes (x := ⟨0, 0, 0, 0, ⟨#[]⟩⟩) hbx
            obtain ⟨v, hrun, hrv⟩ := run_results w81 hI'.sb hnd3 hgd3 s0 s4 s5 s6 hH
            show Leaves Try.prog Try.f80 a'.tmps _ a'.defers .returning w'
            rw [hd']
            refine ⟨by simp, _, _, _, _, (by rw [← hd]), hinv, ?_⟩
            refine (catch_idle _ _ _ w').mono ?_
            rintro e u' w'' ⟨rfl, rfl, rfl⟩
            exact ⟨v, hrun, v, rfl, hrv _ _ _, hI'.os.trans hI.os, hI'.tape.trans hI.tape, hI'.output.trans hI.output, Nat.le_trans hI.size hI'.size, hold⟩
          · simp at h
        · obtain ⟨hsl, ⟨h, _⟩ | ⟨q, h, rfl, hbx⟩⟩ := h
          · simp at h
          · simp only [Ex.pan.injEq] at h
            subst h
            obtain ⟨s0, s4, s5, s6⟩ := slots hsl
            obtain ⟨hH, hgd3⟩ := boxes (x := ⟨0, 0, 0, 0, ⟨#[]⟩⟩) hbx
            obtain ⟨u1, rfl, hu1⟩ := hr
            have hu : u1 = accVal q := by
              simp only [RelV, RelVs, accV] at hu1
              obtain ⟨vs, rfl, x1, l1, rfl, rfl, x2, l2, rfl, rfl, x3, l3, rfl, rfl, x4, l4, rfl, rfl, x5, l5, rfl, rfl, rfl⟩ := hu1
              rfl
            subst hu
            show Leaves Try.prog Try.f80 a'.tmps _ a'.defers (.panicking _) w'
            rw [hd']
            refine ⟨by simp, _, _, _, _, (by rw [← hd]), hinv, ?_⟩
            refine (catch_panic w81 q hI'.sb hnd3 hgd3 hH).mono ?_
            rintro e u' w'' ⟨rfl, rfl, S2, hH2, hO⟩
            obtain ⟨v, hrun, hrv⟩ := run_results w81 (S := fun _ => False) (w := w'') (a := a') (fun _ h => h.elim) hnd3 (fun g hg => ⟨id, Nat.lt_of_lt_of_le (hgd3 g hg).2 hO.2.2.2.1⟩) s0 s4 s5 s6 (Holds3.any hH2)
            refine ⟨v, hrun, v, rfl, hrv _ _ _, hO.1.trans (hI'.os.trans hI.os), hO.2.1.trans (hI'.tape.trans hI.tape), hO.2.2.1.trans (hI'.output.trans hI.output), Nat.le_trans (Nat.le_trans hI.size hI'.size) hO.2.2.2.1, fun b hb => ?_⟩
            rw [hO.2.2.2.2 b (Nat.lt_of_lt_of_le (Nat.lt_of_lt_of_le hb hI.size) hI'.size) (by simp only [List.mem_cons, List.not_mem_nil, or_false]; omega)]
            exact hold b hb
      · exact List.all_eq_true.1 (by kernel_rfl)
      · conv => whnf
        exact ⟨rfl, rfl⟩
    · simp at hh
  · simp at hh

theorem w80 : EnvOK Try.prog ⟨tys, (80, .pure h80) :: (81, .full h81) :: sp88⟩ := by
  have hE := w81
  refine ⟨hE.ty, hE.eq, fun g k hk => ?_, fun g s hk => ?_, hE.z3, hE.u3, hE.u4⟩
  · rcases List.mem_cons.1 hk with h1 | h1
    · simp only [Prod.mk.injEq, Spec.pure.injEq] at h1
      obtain ⟨rfl, rfl⟩ := h1
      exact ⟨run80, enter_of (P := Try.prog) (f := 80) (fn := Try.f80) (by kernel_rfl) (by kernel_rfl) rfl⟩
    · exact hE.pure g k h1
  · rcases List.mem_cons.1 hk with h1 | h1
    · simp at h1
    · exact hE.full g s h1
abbrev sp80 : List (Nat × Spec) := (80, .pure h80) :: (81, .full h81) :: sp88

end Go.Proofs.Ythakgbecpkfeoaa.Ev

/- Layer 16: lock.Next answers as the reference does. -/
set_option linter.unusedVariables false
set_option linter.unusedSimpArgs false
set_option maxRecDepth 100000
namespace Go.Proofs.Ythakgbecpkfeoaa.Ev

def nxV (n : NX) : AV := .tup [.agg (accV n.acc), .agg [.int .i64 n.val, .int .i64 n.ver, .int .i64 0, .int .i64 0, .bool n.is, .bool false, .int .i64 n.err], .bool n.done]

theorem doC_nil (a : Acc) : doC (c0 []) a = (⟨[], 0, a, true⟩, r0) := by simp [doC, c0]
theorem doC_cons (r : Res) (l : List Res) (a : Acc) : doC (c0 (r :: l)) a = (⟨r :: l, 1, a0, false⟩, r) := by
  unfold doC
  rw [if_neg (by simp [c0]), if_neg (by simp [c0])]
  rfl
theorem doC_stop (l : List Res) (p : Int) (b a : Acc) : doC ⟨l, p, b, true⟩ a = (⟨l, p, b, true⟩, r0) := by simp [doC]
theorem doC_end (l : List Res) (p : Int) (b a : Acc) (h : p = l.length) : doC ⟨l, p, b, false⟩ a = (⟨l, p, a, true⟩, r0) := by simp [doC, h]
theorem doC_at (l : List Res) (i : Nat) (b a : Acc) (h : i < l.length) : doC ⟨l, i, b, false⟩ a = (⟨l, (i + 1 : Nat), b, false⟩, l[i]) := by
  simp only [doC, Bool.false_eq_true, if_false]
  rw [if_neg (by simp; omega)]
  simp [List.getD_eq_getElem?_getD, List.getElem?_eq_getElem h]
theorem locked0 : lockedW 0 = false := rfl

theorem step_nxt (wd vl kind B me : Int) (log : List Res) : runV (stepF wd vl kind B me log).1 = nxV (nxt wd vl kind B me log) := by
  by_cases hk : kind = 1 ∨ kind = 2 ∨ kind = 3 ∨ kind = 4
  · by_cases hw : wd < 0
    · rw [stepF_bad (.inr hw), nxt_bad (.inr (.inr hw))]; rfl
    · rcases hk with rfl | rfl | rfl | rfl
      · rw [stepF_1 hw]
        unfold nxt
        rw [if_neg (by omega), if_pos rfl]
        match log with
        | [] => simp [tkF, nxtT, tkC, tkW, tkX, doC_nil, doC_stop, r0, locked0, toldN, toldA, toldI, toldB, runV, panA, nxV, zeroOut]
        | [r] =>
          cases hl : lockedW r.val
          · simp [tkF, nxtT, tkC, tkW, tkX, doC_cons, hl]
            simp [doC_end, r0, toldN, toldA, toldI, toldB, runV, panA, nxV, zeroOut]
          · simp [tkF, nxtT, tkC, tkW, tkX, doC_cons, hl]
            try simp [toldN, toldA, toldI, toldB, runV, panA, nxV, zeroOut, outV, zeroAcc, a0, accV]
        | r :: q :: l =>
          cases hl : lockedW r.val
          · have := doC_at (r :: q :: l) 1 a0 (accC wd r.val (2 * me + 1)) (by simp)
            simp only [Int.natCast_one] at this
            cases hq : q.ok
            · simp [tkF, nxtT, tkC, tkW, tkX, doC_cons, hl, this, hq]
              try simp [toldN, toldA, toldI, toldB, runV, panA, nxV, zeroOut, outV, zeroAcc, a0, accV]
            · simp [tkF, nxtT, tkC, tkW, tkX, doC_cons, hl, this, hq]
              try simp [toldN, toldA, toldI, toldB, runV, panA, nxV, zeroOut, outV, zeroAcc, a0, accV]
          · simp [tkF, nxtT, tkC, tkW, tkX, doC_cons, hl]
            try simp [toldN, toldA, toldI, toldB, runV, panA, nxV, zeroOut, outV, zeroAcc, a0, accV]
      · rw [stepF_2 hw]
        unfold nxt
        rw [if_neg (by omega), if_neg (by omega), if_pos rfl]
        match log with
        | [] => simp [gvF, gvC, doC_nil, r0, toldN, toldA, toldI, toldB, runV, panA, nxV, zeroOut]
        | r :: l => simp [gvF, gvC, doC_cons, toldN, toldA, toldI, toldB, runV, panA, nxV, zeroOut, outV, zeroAcc, a0, accV]
      · rw [stepF_3 hw]
        unfold nxt
        rw [if_neg (by omega), if_neg (by omega), if_neg (by omega), if_pos rfl]
        match log with
        | [] =>
          simp only [lkF, lkC, doC_nil, nxtL]
          cases h : (r0.val == IntKind.i64.wrap (2 * B)) <;> simp [h, r0, locked0, toldN, toldA, toldI, toldB, runV, panA, nxV, zeroOut]
          all_goals split <;> simp [toldN, toldA, toldI, toldB]
        | r :: l =>
          simp only [lkF, lkC, doC_cons, nxtL]
          cases h : (r.val == IntKind.i64.wrap (2 * B))
          · cases hl : lockedW r.val
            · simp [toldN, toldA, toldI, toldB, runV, panA, nxV, zeroOut, outV, zeroAcc, a0, accV]
            · simp [toldN, toldA, toldI, toldB, runV, panA, nxV, zeroOut, outV, zeroAcc, a0, accV]
          · simp [toldN, toldA, toldI, toldB, runV, panA, nxV, zeroOut, outV, zeroAcc, a0, accV]
      · rw [stepF_4 hw]
        unfold nxt
        rw [if_neg (by omega), if_neg (by omega), if_neg (by omega), if_neg (by omega)]
        match log with
        | [] => simp [rdF, nxtR, rdC, rdX, rdD, doC_nil, doC_stop, r0, locked0, toldN, toldA, toldI, toldB, runV, panA, nxV, zeroOut]
        | [r] =>
          cases hl : lockedW r.val
          · simp [rdF, nxtR, rdC, rdX, rdD, doC_cons, hl]
            simp [doC_end, doC_stop, r0, toldN, toldA, toldI, toldB, runV, panA, nxV, zeroOut]
            split <;> simp [toldN, toldA, toldI, toldB]
          · simp [rdF, nxtR, rdC, rdX, rdD, doC_cons, hl]
            try simp [toldN, toldA, toldI, toldB, runV, panA, nxV, zeroOut, outV, zeroAcc, a0, accV]
        | [r, v] =>
          cases hl : lockedW r.val
          · have := doC_at [r, v] 1 a0 (accL vl) (by simp)
            simp only [Int.natCast_one] at this
            simp [rdF, nxtR, rdC, rdX, rdD, doC_cons, hl, this]
            simp [doC_end, doC_stop, r0, toldN, toldA, toldI, toldB, runV, panA, nxV, zeroOut]
            split <;> simp [toldN, toldA, toldI, toldB]
          · simp [rdF, nxtR, rdC, rdX, rdD, doC_cons, hl]
            try simp [toldN, toldA, toldI, toldB, runV, panA, nxV, zeroOut, outV, zeroAcc, a0, accV]
        | r :: v :: q :: l =>
          cases hl : lockedW r.val
          · have h1 := doC_at (r :: v :: q :: l) 1 a0 (accL vl) (by simp)
            have h2 : doC ⟨r :: v :: q :: l, 2, a0, false⟩ (accL wd) = (⟨r :: v :: q :: l, 3, a0, false⟩, q) := doC_at (r :: v :: q :: l) 2 a0 (accL wd) (by simp)
            simp only [Int.natCast_one] at h1
            simp [rdF, nxtR, rdC, rdX, rdD, doC_cons, hl, h1, h2]
            by_cases h : q.val = r.val <;> simp [h]
            all_goals simp [toldN, toldA, toldI, toldB, runV, panA, nxV, zeroOut, outV, zeroAcc, a0, accV]

          · simp [rdF, nxtR, rdC, rdX, rdD, doC_cons, hl]
            try simp [toldN, toldA, toldI, toldB, runV, panA, nxV, zeroOut, outV, zeroAcc, a0, accV]
  · rw [stepF_bad (.inl (by omega)), nxt_bad (by omega)]; rfl

def h54 : List AV → Option (Prop × AV)
  | [.agg [.int .i64 t, .int .i64 l, .int .i64 k, .int .i64 s, .int .i64 m, .int .i64 c, .int .i64 st, .int .i64 lg, .int .i64 en, .int .i64 th, .int .i64 lk, .int .i64 lo, .int .i64 sz], .int .i64 me, .agg [.int .i64 kind, .int .i64 A, .int .i64 B, .int .i64 tr, .int .i64 m1, .int .i64 m2, .int .i64 m3, .sl .i3 seen, .sl .i2 wr, .sl .bl du], .sl .res log] => some (log.length ≤ 1000000 ∧ 0 ≤ me ∧ me ≤ 2, nxV (nxt (cellA lo l A 4 0) (cellA lo l A 4 1) kind B me log))
  | [.agg [.int .i64 t, .int .i64 l, .int .i64 k, .int .i64 s, .int .i64 m, .int .i64 c, .int .i64 st, .int .i64 lg, .int .i64 en, .int .i64 th, .int .i64 lk, .int .i64 lo, .int .i64 sz], .int .i64 me, .agg [.int .i64 kind, .int .i64 A, .int .i64 B, .int .i64 tr, .int .i64 m1, .int .i64 m2, .int .i64 m3, .nil, .nil, .nil], .sl .res log] => some (log.length ≤ 1000000 ∧ 0 ≤ me ∧ me ≤ 2, nxV (nxt (cellA lo l A 4 0) (cellA lo l A 4 1) kind B me log))
  | _ => none
theorem w54 : EnvOK Try.prog ⟨tys, (54, .pure h54) :: sp80⟩ := by
  refine addPure w80 (fn := Try.f54) (by kernel_rfl) (by kernel_rfl) (by kernel_rfl) ?_
  intro args p r h hp
  unfold h54 at h
  split at h
  · rename_i t l k s m c st lg en th lk lo sz me kind A B tr m1 m2 m3 seen wr du log
    simp only [Option.some.injEq, Prod.mk.injEq] at h
    obtain ⟨rfl, rfl⟩ := h
    conv => whnf
    refine ⟨hp, ?_⟩
    rw [step_nxt]
    conv => whnf
    exact ⟨_, rfl, Wk.eq rfl⟩
  · rename_i t l k s m c st lg en th lk lo sz me kind A B tr m1 m2 m3 log
    simp only [Option.some.injEq, Prod.mk.injEq] at h
    obtain ⟨rfl, rfl⟩ := h
    conv => whnf
    refine ⟨hp, ?_⟩
    rw [step_nxt]
    conv => whnf
    exact ⟨_, rfl, Wk.eq rfl⟩
  · simp at h
abbrev sp54 : List (Nat × Spec) := (54, .pure h54) :: sp80


end Go.Proofs.Ythakgbecpkfeoaa.Ev

/- Layer 16: the statements' own helpers. -/
set_option linter.unusedVariables false
set_option linter.unusedSimpArgs false
set_option maxRecDepth 100000
namespace Go.Proofs.Ythakgbecpkfeoaa.Ev

def whereV : List AV := [.int .i64 3, .int .i64 2, .int .i64 0, .int .i64 0, .int .i64 0, .int .i64 0, .int .i64 1, .int .i64 2, .int .i64 3, .int .i64 4, .int .i64 16, .int .i64 16, .int .i64 24]
def h47 : List AV → Option (Prop × AV)
  | [] => some (True, .agg whereV)
  | _ => none
theorem w47 : EnvOK Try.prog ⟨tys, (47, .pure h47) :: sp54⟩ := by
  refine addPure w54 (fn := Try.f47) (by kernel_rfl) (by kernel_rfl) (by kernel_rfl) ?_
  intro args p r h hp
  unfold h47 at h
  split at h
  · simp only [Option.some.injEq, Prod.mk.injEq] at h
    obtain ⟨rfl, rfl⟩ := h
    conv => whnf
    refine ⟨trivial, ?_⟩
    conv => whnf
    exact ⟨_, rfl, Wk.eq rfl⟩
  · simp at h
abbrev sp47 : List (Nat × Spec) := (47, .pure h47) :: sp54

def h48 : List AV → Option (Prop × AV)
  | [] => some (True, .agg [.sl .i64 (List.replicate 24 (0 : Int))])
  | _ => none
theorem w48 : EnvOK Try.prog ⟨tys, (48, .pure h48) :: sp47⟩ := by
  refine addPure w47 (fn := Try.f48) (by kernel_rfl) (by kernel_rfl) (by kernel_rfl) ?_
  intro args p r h hp
  unfold h48 at h
  split at h
  · simp only [Option.some.injEq, Prod.mk.injEq] at h
    obtain ⟨rfl, rfl⟩ := h
    conv => whnf
    refine ⟨trivial, ?_⟩
    conv => whnf
    refine ⟨by decide, ?_⟩
    conv => whnf
    exact ⟨_, rfl, Wk.eq rfl⟩
  · simp at h
abbrev sp48 : List (Nat × Spec) := (48, .pure h48) :: sp47

def cellM (m : List Int) (k : Int) : Int := if k < 0 then 0 else if k ≥ m.length then 0 else m.getD k.toNat 0
def h58 : List AV → Option (Prop × AV)
  | [.agg [.sl .i64 m], .int .i64 k] => some (True, .int .i64 (cellM m k))
  | _ => none
theorem w58 : EnvOK Try.prog ⟨tys, (58, .pure h58) :: sp48⟩ := by
  refine addPure w48 (fn := Try.f58) (by kernel_rfl) (by kernel_rfl) (by kernel_rfl) ?_
  intro args p r h hp
  unfold h58 at h
  split at h
  · rename_i m k
    simp only [Option.some.injEq, Prod.mk.injEq] at h
    obtain ⟨rfl, rfl⟩ := h
    unfold cellM
    conv => whnf
    split
    · rename_i h1
      have h1 : k < 0 := by simpa using h1
      conv => whnf
      refine ⟨_, rfl, Wk.eq ?_⟩
      rw [if_pos h1]
    · rename_i h1
      have h1 : ¬ k < 0 := by simpa using h1
      conv => whnf
      split
      · rename_i h2
        have h2 : k ≥ m.length := by simpa using h2
        conv => whnf
        refine ⟨_, rfl, Wk.eq ?_⟩
        rw [if_neg h1, if_pos h2]
      · rename_i h2
        have h2 : ¬ k ≥ m.length := by simpa using h2
        conv => whnf
        refine ⟨by omega, ?_⟩
        conv => whnf
        refine ⟨_, rfl, Wk.eq ?_⟩
        rw [if_neg h1, if_neg h2]
        rfl
  · simp at h
abbrev sp58 : List (Nat × Spec) := (58, .pure h58) :: sp48

end Go.Proofs.Ythakgbecpkfeoaa.Ev

/- Layer 16: an operation without interference. -/
set_option linter.unusedVariables false
set_option linter.unusedSimpArgs false
set_option maxRecDepth 100000
namespace Go.Proofs.Ythakgbecpkfeoaa.Ev

def outN (n : NX) : List AV := [.int .i64 n.val, .int .i64 n.ver, .int .i64 0, .int .i64 0, .bool n.is, .bool false, .int .i64 n.err]
/-- An operation without interference: the outcome, the memory, the number of accesses. -/
def aloneF (wd vl kind B me : Int) : Nat → Nat → List Int → List Res → List AV × List Int × Int
  | 0, _, m, _ => (zeroOut, m, -1)
  | n + 1, i, m, log =>
    if (nxt wd vl kind B me log).done = true then (outN (nxt wd vl kind B me log), m, i)
    else if (doAcc m (nxt wd vl kind B me log).acc).2.2 = 0 then aloneF wd vl kind B me n (i + 1) (doAcc m (nxt wd vl kind B me log).acc).1 (log ++ [(doAcc m (nxt wd vl kind B me log).acc).2.1])
    else (outN (nxt wd vl kind B me log), m, -1)
def alW (A : Int) : Int := cellA 16 2 A 4 0
def alV (A : Int) : Int := cellA 16 2 A 4 1
def h51 : List AV → Option (Prop × AV)
  | [.agg [.sl .i64 m], .int .i64 me, .agg [.int .i64 kind, .int .i64 A, .int .i64 B, .int .i64 tr, .int .i64 m1, .int .i64 m2, .int .i64 m3, .nil, .nil, .nil]] =>
    some (m.length ≤ 1000000 ∧ 0 ≤ me ∧ me ≤ 2, .tup [.agg (aloneF (alW A) (alV A) kind B me 20 0 m []).1, .agg [.sl .i64 (aloneF (alW A) (alV A) kind B me 20 0 m []).2.1], .int .i64 (aloneF (alW A) (alV A) kind B me 20 0 m []).2.2])
  | _ => none
theorem w51 : EnvOK Try.prog ⟨tys, (51, .pure h51) :: sp58⟩ := by
  refine addPure w58 (fn := Try.f51) (by kernel_rfl) (by kernel_rfl) (by kernel_rfl) ?_
  intro args p r h hp
  unfold h51 at h
  split at h
  · rename_i m me kind A B tr m1 m2 m3
    simp only [Option.some.injEq, Prod.mk.injEq] at h
    obtain ⟨rfl, rfl⟩ := h
    obtain ⟨hm, hme⟩ := hp
    generalize hR : aloneF (alW A) (alV A) kind B me 20 0 m [] = R
    conv => whnf
    refine LoopVC.intro [11, 12, 14, 15] (fun p : Nat × List Int × List Res => [.agg [.sl .i64 m], .int .i64 me, .agg [.int .i64 kind, .int .i64 A, .int .i64 B, .int .i64 tr, .int .i64 m1, .int .i64 m2, .int .i64 m3, .nil, .nil, .nil], .ptr 3 0, .skp, .kp [.int .i64 kind, .int .i64 A, .int .i64 B, .int .i64 tr, .int .i64 m1, .int .i64 m2, .int .i64 m3, .nil, .nil, .nil], .ptr 6 0, .ptr 7 0, .int .i64 0, .own 9, .int .i64 p.1, .undef, .undef, .undef, .undef, .undef, .undef, .undef, .undef, .undef, .undef, .undef, .undef, .undef, .undef, .undef, .undef, .undef, .undef, .undef, .undef, .undef, .undef, .undef, .undef, .undef, .undef, .undef, .undef, .undef, .undef, .undef, .undef, .undef, .undef, .undef, .undef, .undef, .undef, .undef, .undef, .undef])
      (fun p => [(3, .box [.sl .i64 p.2.1]), (6, .box [.int .i64 0, .int .i64 0, .int .i64 0, .int .i64 0, .bool false, .bool false, .int .i64 0]), (7, .box [.nil]), (9, .arr .res p.2.2)])
      (fun p => p.1 ≤ 20 ∧ p.2.2.length = p.1 ∧ p.2.1.length = m.length ∧ aloneF (alW A) (alV A) kind B me (20 - p.1) p.1 p.2.1 p.2.2 = R) (fun p => 20 - p.1) (0, m, []) ⟨by simp, rfl, rfl, hR⟩ ?_ ?_
    · conv => whnf
      refine ⟨?_, rfl⟩
      repeat' (first | exact WeakL.nil | refine WeakL.cons ?_ ?_ | exact Weak1.undef _ | exact Weak1.same _)
    rintro ⟨i, x, log⟩ ⟨hi, hlog, hx, hal⟩
    dsimp only at hi hlog hx hal ⊢
    conv => whnf
    split
    · rename_i hlt
      have hlt' : (i : Int) < 20 := of_decide_eq_true hlt
      have hlt : i < 20 := by omega
      have hge : 20 - i = (20 - (i + 1)) + 1 := by omega
      rw [hge] at hal
      rw [aloneF] at hal
      conv => whnf
      apply DrawVC.mix
      conv => whnf
      refine ⟨trivial, ?_⟩
      conv => whnf
      refine ⟨⟨by omega, hme⟩, ?_⟩
      conv => whnf
      generalize hN : nxt (cellA 16 2 A 4 0) (cellA 16 2 A 4 1) kind B me log = N
      refine ⟨by kernel_rfl, ?_⟩
      conv => whnf
      have hN' : nxt (alW A) (alV A) kind B me log = N := hN
      rw [hN'] at hal
      cases hd : N.done with
      | true =>
        conv => whnf
        apply DrawVC.mix
        conv => whnf
        refine ⟨by kernel_rfl, ?_⟩
        conv => whnf
        refine ⟨_, rfl, Wk.eq ?_⟩
        rw [if_pos hd] at hal
        rw [← hal]
        rfl
      | false =>
        rw [if_neg (by simp [hd])] at hal
        conv => whnf
        refine ⟨by omega, ?_⟩
        conv => whnf
        split
        · rename_i he
          have he : (doAcc x N.acc).2.2 ≠ 0 := by simpa [doAcc] using he
          rw [if_neg he] at hal
          conv => whnf
          apply DrawVC.mix
          conv => whnf
          refine ⟨by kernel_rfl, ?_⟩
          conv => whnf
          refine ⟨_, rfl, Wk.eq ?_⟩
          rw [← hal]
          rfl
        · rename_i he
          have he : (doAcc x N.acc).2.2 = 0 := by simpa [doAcc] using he
          rw [if_pos he] at hal
          conv => whnf
          refine ⟨by simp only [List.length_cons, List.length_nil, ET.bytes]; omega, ?_⟩
          conv => whnf
          have hw : IntKind.i64.wrap ((i : Int) + 1) = ((i + 1 : Nat) : Int) := by rw [wrap_small (by omega) (by omega)]; rfl
          rw [hw]
          refine ⟨(i + 1, (doAcc x N.acc).1, log ++ [(doAcc x N.acc).2.1]), by simp only; omega, ⟨by simp only; omega, by simp [hlog], by rw [← hx]; exact doA_length .., hal⟩, ?_⟩
          conv => whnf
          refine ⟨?_, rfl⟩
          repeat' (first | exact WeakL.nil | refine WeakL.cons ?_ ?_ | exact Weak1.undef _ | exact Weak1.same _)
    · rename_i hlt
      have hlt' : ¬ (i : Int) < 20 := of_decide_eq_false hlt
      have hge : i = 20 := by omega
      subst hge
      conv => whnf
      apply DrawVC.mix
      conv => whnf
      refine ⟨by kernel_rfl, ?_⟩
      conv => whnf
      refine ⟨_, rfl, Wk.eq ?_⟩
      rw [← hal]
      rfl
  · simp at h

abbrev sp51 : List (Nat × Spec) := (51, .pure h51) :: sp58

end Go.Proofs.Ythakgbecpkfeoaa.Ev

/- Layer 16: the example that every statement checks. -/
set_option linter.unusedVariables false
set_option linter.unusedSimpArgs false
set_option maxRecDepth 100000
namespace Go.Proofs.Ythakgbecpkfeoaa.Ev

def mW (x : Int) : List Int := (List.replicate 24 (0 : Int)).set 20 x
def outI (val ver : Int) (is : Bool) : List AV := [.int .i64 val, .int .i64 ver, .int .i64 0, .int .i64 0, .bool is, .bool false, .int .i64 0]
theorem s0 : doA (List.replicate 24 0) 2 (cellA 16 2 1 4 0) 0 10 ⟨#[]⟩ = (mW 10, ⟨0, true⟩, 0) := by kernel_rfl
theorem s1 : aloneF (alW 1) (alV 1) 4 0 0 20 0 (mW 10) [] = (outI 0 5 true, mW 10, 3) := by kernel_rfl
theorem s2 : aloneF (alW 1) (alV 1) 1 0 2 20 0 (mW 10) [] = (outI 0 5 true, mW 5, 2) := by kernel_rfl
theorem s3 : aloneF (alW 1) (alV 1) 1 0 1 20 0 (mW 5) [] = (outI 2 0 false, mW 5, 1) := by kernel_rfl
theorem s4 : aloneF (alW 1) (alV 1) 2 6 2 20 0 (mW 5) [] = (outI 0 0 true, mW 12, 1) := by kernel_rfl
theorem s5 : aloneF (alW 1) (alV 1) 3 6 0 20 0 (mW 12) [] = (outI 0 0 true, mW 12, 1) := by kernel_rfl
theorem s6 : aloneF (alW 1) (alV 1) 3 5 0 20 0 (mW 12) [] = (outI (-1) 0 false, mW 12, 1) := by kernel_rfl
theorem s7 : cellM (mW 5) (cellA 16 2 1 4 0) = 5 := by kernel_rfl
theorem s8 : cellM (mW 12) (cellA 16 2 1 4 0) = 12 := by kernel_rfl
theorem mW_len (x : Int) : (mW x).length ≤ 1000000 := by simp [mW]
def h46 : List AV → Option (Prop × AV)
  | [] => some (True, .bool true)
  | _ => none
theorem w46 : EnvOK Try.prog ⟨tys, (46, .pure h46) :: sp51⟩ := by
  refine addPure w51 (fn := Try.f46) (by kernel_rfl) (by kernel_rfl) (by kernel_rfl) ?_
  intro args p r h hp
  unfold h46 at h
  split at h
  · simp only [Option.some.injEq, Prod.mk.injEq] at h
    obtain ⟨rfl, rfl⟩ := h
    conv => whnf
    refine ⟨trivial, ?_⟩
    conv => whnf
    apply DrawVC.mix
    conv => whnf
    refine ⟨trivial, ?_⟩
    conv => whnf
    refine ⟨trivial, ?_⟩
    conv => whnf
    refine ⟨by simp, ?_⟩
    rw [s0]
    conv => whnf
    refine ⟨by kernel_rfl, ?_⟩
    conv => whnf
    refine ⟨⟨mW_len _, by decide, by decide⟩, ?_⟩
    rw [s1]
    conv => whnf
    refine ⟨⟨mW_len _, by decide, by decide⟩, ?_⟩
    rw [s2]
    conv => whnf
    apply DrawVC.mix
    conv => whnf
    refine ⟨trivial, ?_⟩
    conv => whnf
    refine ⟨trivial, ?_⟩
    rw [s7]
    conv => whnf
    refine ⟨by kernel_rfl, ?_⟩
    conv => whnf
    refine ⟨⟨mW_len _, by decide, by decide⟩, ?_⟩
    rw [s3]
    conv => whnf
    refine ⟨⟨mW_len _, by decide, by decide⟩, ?_⟩
    rw [s4]
    conv => whnf
    refine ⟨⟨mW_len _, by decide, by decide⟩, ?_⟩
    rw [s5]
    conv => whnf
    refine ⟨⟨mW_len _, by decide, by decide⟩, ?_⟩
    rw [s6]
    conv => whnf
    apply DrawVC.mix
    conv => whnf
    refine ⟨trivial, ?_⟩
    conv => whnf
    refine ⟨trivial, ?_⟩
    rw [s8]
    conv => whnf
    refine ⟨by kernel_rfl, ?_⟩
    conv => whnf
    exact ⟨_, rfl, Wk.eq rfl⟩
  · simp at h

abbrev sp46 : List (Nat × Spec) := (46, .pure h46) :: sp51

end Go.Proofs.Ythakgbecpkfeoaa.Ev

/- Layer 16: LockNext. -/
set_option linter.unusedVariables false
set_option linter.unusedSimpArgs false
set_option maxRecDepth 100000
namespace Go.Proofs.Ythakgbecpkfeoaa.Ev

def h16 : List AV → Option (Prop × AV)
  | [.int .u8 me, .agg [.int .i64 kind, .int .i64 A, .int .i64 B, .int .i64 tr, .int .i64 m1, .int .i64 m2, .int .i64 m3, .sl .i3 seen, .sl .i2 wr, .sl .bl du], .sl .res log] => some ((0 ≤ me ∧ me < 256) ∧ ∀ r ∈ log, inR r.val, .bool true)
  | _ => none
theorem w16 : EnvOK Try.prog ⟨tys, (16, .pure h16) :: sp46⟩ := by
  refine addPure w46 (fn := Try.f16) (by kernel_rfl) (by kernel_rfl) (by kernel_rfl) ?_
  intro args p r h hp
  unfold h16 at h
  split at h
  · rename_i me kind A B tr m1 m2 m3 seen wr du log
    simp only [Option.some.injEq, Prod.mk.injEq] at h
    obtain ⟨rfl, rfl⟩ := h
    obtain ⟨hme, hlog⟩ := hp
    conv => whnf
    refine ⟨trivial, ?_⟩
    conv => whnf
    split
    · conv => whnf
      exact ⟨_, rfl, Wk.eq rfl⟩
    rename_i h1
    have h1 : ¬ ((log.length : Int) > 20) := of_decide_eq_false h1
    conv => whnf
    split
    · conv => whnf
      exact ⟨_, rfl, Wk.eq rfl⟩
    conv => whnf
    split
    · conv => whnf
      exact ⟨_, rfl, Wk.eq rfl⟩
    conv => whnf
    split
    · conv => whnf
      exact ⟨_, rfl, Wk.eq rfl⟩
    conv => whnf
    apply DrawVC.mix
    conv => whnf
    refine ⟨trivial, ?_⟩
    conv => whnf
    refine ⟨by decide, ?_⟩
    conv => whnf
    have ht : me.tmod 3 = me % 3 := Int.tmod_eq_emod_of_nonneg hme.1
    have hX : ∃ X : Int, IntKind.i64.wrap (me.tmod 3) = X ∧ 0 ≤ X ∧ X ≤ 2 := ⟨_, rfl, by rw [ht, wrap_small (by omega) (by omega)]; omega, by rw [ht, wrap_small (by omega) (by omega)]; omega⟩
    obtain ⟨X, hX, hX0⟩ := hX
    try rw [hX]
    refine ⟨⟨by omega, hX0⟩, ?_⟩
    generalize hN : nxt (cellA 16 2 A 4 0) (cellA 16 2 A 4 1) kind B X log = N
    conv => whnf
    refine ⟨by kernel_rfl, ?_⟩
    conv => whnf
    apply DrawVC.mix
    conv => whnf
    refine ⟨trivial, ?_⟩
    conv => whnf
    refine ⟨by decide, ?_⟩
    conv => whnf
    rw [hX]
    refine ⟨⟨hX0, by omega, hlog⟩, ?_⟩
    rw [hN]
    conv => whnf
    refine ⟨by kernel_rfl, ?_⟩
    conv => whnf
    split
    case' h_2 => rename_i hf; simp at hf
    conv => whnf
    split
    case' h_2 => rename_i hf; simp at hf
    conv => whnf
    exact ⟨_, rfl, Wk.eq (by simp)⟩
  · simp at h

end Go.Proofs.Ythakgbecpkfeoaa.Ev
