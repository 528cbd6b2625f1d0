/-
  A region that draws, in any order.
-/
import Derived.Test.YthbnlmmidanaiaaGreatDetOrder
set_option linter.unusedVariables false
set_option linter.unusedSimpArgs false
set_option linter.unusedSectionVars false
namespace Go.Det
variable [Beside]

/-! ### Worlds that are alike -/
structure Calm (w w' : World) : Prop where
  size : w.heap.size ≤ w'.heap.size
  same : ∀ k, k < w.heap.size → w'.heap[k]? = w.heap[k]?
  os : w'.os = w.os
  tape : w'.tape = w.tape
  output : w'.output = w.output

theorem Calm.refl (w : World) : Calm w w := ⟨Nat.le_refl _, fun _ _ => rfl, rfl, rfl, rfl⟩

theorem Calm.later {w w' : World} (h : Calm w w') {ρ ρ' : Nm} (hρ : ∀ b g, ρ b = some g → ρ' b = some g) (N : Nat → Prop) : Later ρ N w ρ' N w' :=
  ⟨hρ, fun k hk hN => ⟨h.same k hk, hN⟩, fun k arr e fr hk => ⟨arr, fr, (by
    rw [h.same k]
    · exact hk
    · rcases Nat.lt_or_ge k w.heap.size with h1 | h1
      · exact h1
      · rw [Array.getElem?_eq_none h1] at hk; cases hk), rfl⟩⟩

theorem Calm.memG {w w' : World} (h : Calm w w') {ρ : Nm} {N : Nat → Prop} {m : DH} (G : MemG ρ N w m) : MemG ρ N w' m :=
  ⟨fun b g hb => ⟨(G.dom b g hb).1, Nat.lt_of_lt_of_le (G.dom b g hb).2 h.size⟩, G.fresh, G.inj, G.apart, fun g hg => Nat.lt_of_lt_of_le (G.below g hg) h.size⟩

theorem Calm.obj {w w' : World} (h : Calm w w') {ρ : Nm} {N : Nat → Prop} {g : Nat} (hg : g < w.heap.size) {d : DO} (O : ObjR ρ N w g d) : ObjR ρ N w' g d :=
  ObjR.later (h.later (fun _ _ h => h) N) (h.same g hg) O

theorem Calm.row {w w' : World} (h : Calm w w') {ρ : Nm} {N : Nat → Prop} {m : DH} (G : MemG ρ N w m) {b : Nat} (R : Row ρ N w m b) : Row ρ N w' m b :=
  fun g o hρ ho => h.obj (G.dom b g hρ).2 (R g o hρ ho)

theorem wrD_still {op : Op} (h : clsOf op = .idle ∨ clsOf op = .read) (t : Slots) : wrD op t = [] := by
  cases op <;> first | rfl | (rcases h with h | h <;> simp only [clsOf] at h <;> cases h; done) | skip
  case call c =>
    cases hc : c.callee with
    | value f => rcases h with h | h <;> simp only [clsOf, hc] at h <;> cases h
    | invoke f n => rcases h with h | h <;> simp only [clsOf, hc] at h <;> cases h
    | builtin b =>
      simp only [clsOf, hc] at h
      cases b <;> first | (simp only [wrD, hc]; done) | (rcases h with h | h <;> cases h)

/-- An operation that changes nothing. -/
theorem still_spec {P : Program} {o : Oper} {a : Act} {ρ : Nm} {N : Nat → Prop} {M : DH} {w : World} {t : Slots} (G : MemG ρ N w M) (S : SR ρ N w t a.tmps) (hc : clsOf o.op = .idle ∨ clsOf o.op = .read) (hR : ∀ b, b ∈ rdD o.op t M → Row ρ N w M b) {v : DV}
    (h : opD P o.op t M = some (v, M)) : ∃ r w', (execOp a.eval o).run P w = .ok r w' ∧ Calm w w' ∧ ((∃ x, r = .value x ∧ VR ρ N w' v x) ∨ (r = .skip ∧ v = undefD)) := by
  obtain ⟨wr, hwr, r, ρ', w', h1, h2, h3, h4, h5⟩ := done_op (P := P) (o := o) G S hR h
  have hwr0 : ∀ b, ¬ b ∈ wr := fun b hb => by have := hwr b hb; rw [wrD_still hc] at this; simp at this
  have hρ : ρ' = ρ := by
    funext b
    cases hb : ρ' b with
    | none =>
      cases hb2 : ρ b with
      | none => rfl
      | some g => rw [h2.ext b g hb2] at hb; cases hb
    | some g =>
      rcases h2.new b g hb with h6 | ⟨h6, _⟩
      · exact h6.symm
      · have := (h3.dom b g hb).1; omega
  subst hρ
  exact ⟨r, w', h1, ⟨h2.size, fun k hk => h2.frame k hk fun b hb => absurd hb (hwr0 b), h2.os, h2.tape, h2.output⟩, h5⟩

/-! ### What one operation looks at -/
theorem looks_agree {ops : Array Oper} {o : Oper} {ts ts' : Slots} (h : ∀ d, d ∈ o.looksAt ops → ts.get d = ts'.get d) : (∀ x, x ∈ o.op.operands → ev ts x = ev ts' x) ∧ wantedD ops o ts = wantedD ops o ts' := by
  refine ⟨fun x hx => ?_, ?_⟩
  · cases x with
    | tmp d =>
      simp only [ev]
      rw [h d]
      unfold Oper.looksAt
      exact List.mem_append_left _ (List.mem_filterMap.2 ⟨.tmp d, by simpa using hx, rfl⟩)
    | const v => rfl
    | global g => rfl
    | func f => rfl
  · unfold wantedD
    cases hg : o.guard with
    | none => rfl
    | some g =>
      simp only
      unfold guardD
      cases hd : (ops[g.1]?).bind (·.dst) with
      | none => rfl
      | some d =>
        simp only
        rw [h d]
        unfold Oper.looksAt
        refine List.mem_append_right _ ?_
        obtain ⟨g1, g2⟩ := g
        simp only [hg]
        simp only at hd
        rw [hd]
        simp

def isC (X : Text) (i : Nat) : Prop := ∃ wr n, X.kS i = .chain wr n
def isN (X : Text) (i : Nat) : Prop := ∃ b, X.kS i = .new b

/-- What may be done next. -/
structure Next (ops : Array Oper) (L : Nat → Prop) (j : Nat) (o : Oper) : Prop where
  op : ops[j]? = some o
  not : ¬ L j
  bef : ∀ i, Bef ops i j → L i
  closed : ∀ i k, L k → Bef ops i k → L i

section
variable {E : Env} {X : Text} {ops : Array Oper} {l : List (Nat × Nat)} {L : Nat → Prop} {j : Nat} {o : Oper}

theorem Next.pair (H : Next ops L j o) (T : Stat ops l) {i : Nat} {x : Oper} (hi : i ≠ j) (hx : ops[i]? = some x) :
    (i < j ∧ L i) ∨ (j < i ∧ ¬ L i) ∨ (i < j ∧ x.apart ops o = true ∧ classOk l i j (clsOf x.op) (clsOf o.op) = true) ∨ (j < i ∧ o.apart ops x = true ∧ classOk l j i (clsOf o.op) (clsOf x.op) = true) := by
  rcases Nat.lt_or_ge i j with h | h
  · rcases T.pairs i j x o h hx H.op with h1 | h1
    · exact .inl ⟨h, H.bef i h1⟩
    · exact .inr (.inr (.inl ⟨h, h1⟩))
  · have h : j < i := by omega
    rcases T.pairs j i o x h H.op hx with h1 | h1
    · exact .inr (.inl ⟨h, fun hL => H.not (H.closed j i hL h1)⟩)
    · exact .inr (.inr (.inr ⟨h, h1⟩))

theorem Next.agree (H : Next ops L j o) (T : Stat ops l) {d : Nat} (hd : d ∈ o.looksAt ops) {i : Nat} {x : Oper} (hx : ops[i]? = some x) (hxd : x.dst = some d) : L i ↔ i < j := by
  by_cases e : i = j
  · subst e; exact ⟨fun h => absurd h H.not, fun h => by omega⟩
  · rcases H.pair T e hx with ⟨h1, h2⟩ | ⟨h1, h2⟩ | ⟨h1, h2, _⟩ | ⟨h1, h2, _⟩
    · exact ⟨fun _ => h1, fun _ => h2⟩
    · exact ⟨fun h => absurd h h2, fun h => by omega⟩
    · exact absurd hd ((Oper.apart_spec h2).1 d hxd)
    · exact absurd hd ((Oper.apart_spec h2).2.2 d hxd)

theorem Next.last (H : Next ops L j o) (T : Stat ops l) {i : Nat} {x : Oper} {d : Nat} (hL : L i) (hx : ops[i]? = some x) (hxd : x.dst = some d) (hd : o.dst = some d) : i ≤ j := by
  rcases Nat.lt_or_ge j i with h | h
  · exfalso
    rcases T.pairs j i o x h H.op hx with h1 | h1
    · exact H.not (H.closed j i hL h1)
    · exact (Oper.apart_spec h1.1).2.1 d hd hxd
  · exact h

structure Inv (X : Text) (ops : Array Oper) (nn : Nat) (m : DH) (ρ0 : Nm) (N0 : Nat → Prop) (w0 : World) (L : Nat → Prop) (a : Act) (w : World) (ρ : Nm) (N : Nat → Prop) (ts : Slots) (c : Nat) : Prop where
  asz : a.tmps.size = nn
  adef : a.defers = []
  sr : SR ρ N w ts a.tmps
  sl : SlotsAt X ops L (X.tS 0) ts
  cle : c ≤ ops.size
  cL : ∀ i, i < c → isC X i → L i
  cN : ∀ i, c ≤ i → i < ops.size → isC X i → ¬ L i
  cc : c = ops.size ∨ isC X c
  G : MemG ρ N w (X.mS c)
  R : ∀ b, Row ρ N w (X.mS c) b
  early : ∀ i, c ≤ i → i < ops.size → L i → isN X i → ∃ g d, ρ (X.bS i) = some g ∧ (X.mS (i + 1)).h.get (X.bS i) = some d ∧ ObjR ρ N w g d ∧ ∀ b, ρ b = some g → b = X.bS i
  late : ∀ i, i < ops.size → ¬ L i → isN X i → ρ (X.bS i) = none
  big : Big ρ0 N0 m w0 ρ N (X.mS c) w

/-- Nothing was changed. -/
theorem Inv.calm {nn : Nat} {m : DH} {ρ0 : Nm} {N0 : Nat → Prop} {w0 : World} {a : Act} {w : World} {ρ : Nm} {N : Nat → Prop} {ts : Slots} {c : Nat} (I : Inv X ops nn m ρ0 N0 w0 L a w ρ N ts c) (H : Next ops L j o) (T : Stat ops l) (hd : ∀ i, o.dst = some i → i < nn)
    (hnc : ¬ isC X j) (hnn : ¬ isN X j) {w' : World} (C : Calm w w') {x : Value} (hv : VR ρ N w' (X.vS j) x) : Inv X ops nn m ρ0 N0 w0 (fun i => L i ∨ i = j) (a.put o.dst x) w' ρ N (put ts o.dst (X.vS j)) c := by
  have La := C.later (ρ := ρ) (ρ' := ρ) (fun _ _ h => h) N
  refine ⟨by rw [put_size]; exact I.asz, by rw [put_defers]; exact I.adef, (I.sr.later La).put (fun i hi => by rw [I.asz]; exact hd i hi) hv, I.sl.put H.op (fun i o' d h1 h2 h3 h4 => H.last T h1 h2 h3 h4), I.cle, fun i hi hc => .inl (I.cL i hi hc), fun i hi hn hc => ?_, I.cc, C.memG I.G, fun b => C.row I.G (I.R b), fun i hi hn hL hN => ?_, fun i hi hL hN => I.late i hi (fun h => hL (.inl h)) hN, ?_⟩
  · rintro (h | h)
    · exact I.cN i hi hn hc h
    · subst h; exact hnc hc
  · rcases hL with hL | hL
    · obtain ⟨g, d, h1, h2, h3, h4⟩ := I.early i hi hn hL hN
      exact ⟨g, d, h1, h2, C.obj (I.G.dom _ g h1).2 h3, h4⟩
    · subst hL; exact absurd hN hnn
  · have B := I.big
    refine ⟨B.later.trans B.size La, B.new, B.gone, B.le, Nat.le_trans B.size C.size, fun k hk hf => ?_, C.os.trans B.os, C.tape.trans B.tape, C.output.trans B.output⟩
    rw [C.same k (Nat.lt_of_lt_of_le hk B.size)]
    exact B.frame k hk hf
end
end Go.Det
