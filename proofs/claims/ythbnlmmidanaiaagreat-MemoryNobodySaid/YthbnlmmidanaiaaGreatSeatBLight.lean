/-
  Light(g) returns some truth; nothing but a new row is made.
-/
import Derived.Test.YthbnlmmidanaiaaGreatProg
import Derived.Test.YthbnlmmidanaiaaGreatDetMono
import Derived.KernelRfl
set_option linter.unusedVariables false
set_option linter.unusedSectionVars false
set_option maxRecDepth 100000
set_option linter.unusedSimpArgs false
namespace Go.Proofs.YthbnlmmidanaiaaGreat
open Go.Det
def c1 : Code → Code | .seq a _ => a | c => c
def c2 : Code → Code | .seq _ b => b | c => c
def cl : Code → Code | .loop c => c | c => c
def cb : Code → Code | .block _ c => c | c => c
noncomputable def lightC : Code := match Tryz.f6.body with | some c => c | none => .skip
noncomputable def lightL : Code := cl (cb (c2 (c1 (c2 lightC))))
theorem f26 (k : Nat) (hk : k < 5) : ∃ fd, fieldOf Tryz.prog 26 k = some fd ∧ fd.offset = k := by
  have : k = 0 ∨ k = 1 ∨ k = 2 ∨ k = 3 ∨ k = 4 := by omega
  rcases this with rfl | rfl | rfl | rfl | rfl <;> exact ⟨_, by unfold fieldOf; rw [Tryz.underlying26]; rfl, rfl⟩
theorem fo26_0 : fieldOf Tryz.prog 26 0 = some { name := "Reads", type := 22, offset := 0, embedded := false, tag := "", pkgPath := "", byteOffset := 0 } := by kernel_rfl
theorem fo26_1 : fieldOf Tryz.prog 26 1 = some { name := "Through", type := 23, offset := 1, embedded := false, tag := "", pkgPath := "", byteOffset := 24 } := by kernel_rfl
theorem fo26_2 : fieldOf Tryz.prog 26 2 = some { name := "Order", type := 22, offset := 2, embedded := false, tag := "", pkgPath := "", byteOffset := 48 } := by kernel_rfl
theorem fo26_3 : fieldOf Tryz.prog 26 3 = some { name := "Reach", type := 24, offset := 3, embedded := false, tag := "", pkgPath := "", byteOffset := 72 } := by kernel_rfl
theorem fo26_4 : fieldOf Tryz.prog 26 4 = some { name := "From", type := 22, offset := 4, embedded := false, tag := "", pkgPath := "", byteOffset := 96 } := by kernel_rfl
theorem s24 : sizeB Tryz.prog 24 = some 1 := by kernel_rfl
theorem a24 : isAggB Tryz.prog 24 = some false := by kernel_rfl
theorem a23 : isAggB Tryz.prog 23 = some false := by kernel_rfl
theorem s23 : sizeB Tryz.prog 23 = some 1 := by kernel_rfl
theorem a22 : isAggB Tryz.prog 22 = some false := by kernel_rfl
theorem s22 : sizeB Tryz.prog 22 = some 1 := by kernel_rfl

theorem wrap_small {i : Nat} (h : i ≤ 60) : wrapD .i64 ((i : Int) + 1) = ((i + 1 : Nat) : Int) := by
  have : (i : Int) + 1 = Int.ofNat (i + 1) := by simp
  rw [this]
  unfold wrapD
  have h2 : fitsK .i64 (Int.ofNat (i + 1)) = true := by
    show Nat.blt (i + 1) 9223372036854775808 = true
    rw [Nat.blt_eq]; omega
  rw [h2]; rfl

theorem light_out {E : Env} (hP : E.P = Tryz.prog) {t : Slots} {m : DH} {p i n ks : Nat} {a0 a1 a2 a4 : DV} {cs : List DV} {z : Option Bool} (h1 : t.get 1 = some (.ptr p 0)) (h3 : t.get 3 = some (.int .i64 (i : Int))) (hm : m.h.get p = some (.cells [a0, a1, a2, .dsl z ks n cs, a4] 26 false)) (hi : ¬ (i < n ∧ i ≤ 60)) :
    ∃ t', run E 60 (.code 6 lightL t m) = .st (.exit 0) t' m ∧ t'.get 1 = some (.ptr p 0) := by
  by_cases h4 : i < n
  · have h5 : ¬ i ≤ 60 := fun h => hi ⟨h4, h⟩
    have h6 : ¬ (i : Int) ≤ 60 := by omega
    simp [lightL, lightC, c1, c2, cl, cb, Tryz.f6, run, bodyB, codeB, seqGo, condGo, blockGo, opsB, opsGo, oneB, wantedD, guardD, userCall, opD, ev, put, PM.get_set, h1, h3, hm, hP, fieldAddrD, fo26_3, s24, loadD, takeVar, a24, okV, Out.ofOR, builtinD, evs, lenD, Tryz.underlying24, binOpD, intOpD, ofConst, ofValues, DV.one, pickD, h4, h6]
  · simp [lightL, lightC, c1, c2, cl, cb, Tryz.f6, run, bodyB, codeB, seqGo, condGo, blockGo, opsB, opsGo, oneB, wantedD, guardD, userCall, opD, ev, put, PM.get_set, h1, h3, hm, hP, fieldAddrD, fo26_3, s24, loadD, takeVar, a24, okV, Out.ofOR, builtinD, evs, lenD, Tryz.underlying24, binOpD, intOpD, ofConst, ofValues, DV.one, pickD, h4]

theorem light_ret {E : Env} (hP : E.P = Tryz.prog) {t : Slots} {m : DH} {p i n : Nat} {a0 a1 a2 a4 : DV} {cs rest : List DV} {z z' : Option Bool} {k' n' : Nat} {cs' : List DV} (h1 : t.get 1 = some (.ptr p 0)) (h3 : t.get 3 = some (.int .i64 (i : Int))) (hm : m.h.get p = some (.cells [a0, a1, a2, .dsl z 1 n cs, a4] 26 false)) (hi : i < n) (h60 : i ≤ 60)
    (hc : cs.drop i = .dsl z' k' n' cs' :: rest) (h7 : 60 < n') :
    ∃ t', run E 60 (.code 6 lightL t m) = .st .ret t' m ∧ t'.get 2 = some (.bool false) := by
  have h6 : (i : Int) ≤ 60 := by omega
  have hb : Nat.blt i n = true := by rw [Nat.blt_eq]; exact hi
  have h8 : (60 : Int) < (n' : Int) := by omega
  simp [lightL, lightC, c1, c2, cl, cb, Tryz.f6, run, bodyB, codeB, seqGo, condGo, blockGo, opsB, opsGo, oneB, wantedD, guardD, userCall, opD, ev, put, PM.get_set, h1, h3, hm, hP, fieldAddrD, fo26_3, s24, s23, loadD, takeVar, a24, a23, okV, Out.ofOR, builtinD, evs, lenD, Tryz.underlying24, Tryz.underlying23, binOpD, intOpD, ofConst, ofValues, DV.one, pickD, hi, h6, indexAddrD, asNat, hb, hc, h8]

theorem light_next {E : Env} (hP : E.P = Tryz.prog) {t : Slots} {m : DH} {p i n : Nat} {a0 a1 a2 a4 : DV} {cs rest : List DV} {z z' : Option Bool} {k' n' : Nat} {cs' : List DV} (h1 : t.get 1 = some (.ptr p 0)) (h3 : t.get 3 = some (.int .i64 (i : Int))) (hm : m.h.get p = some (.cells [a0, a1, a2, .dsl z 1 n cs, a4] 26 false)) (hi : i < n) (h60 : i ≤ 60)
    (hc : cs.drop i = .dsl z' k' n' cs' :: rest) (h7 : ¬ 60 < n') :
    ∃ t', run E 60 (.code 6 lightL t m) = .st .normal t' m ∧ t'.get 1 = some (.ptr p 0) ∧ t'.get 3 = some (.int .i64 ((i : Int) + 1)) := by
  have h6 : (i : Int) ≤ 60 := by omega
  have hb : Nat.blt i n = true := by rw [Nat.blt_eq]; exact hi
  have h8 : ¬ (60 : Int) < (n' : Int) := by omega
  have hw : wrapD .i64 ((i : Int) + 1) = (i : Int) + 1 := by have := wrap_small h60; simpa using this
  simp [lightL, lightC, c1, c2, cl, cb, Tryz.f6, run, bodyB, codeB, seqGo, condGo, blockGo, opsB, opsGo, oneB, wantedD, guardD, userCall, opD, ev, put, PM.get_set, h1, h3, hm, hP, fieldAddrD, fo26_3, s24, s23, loadD, takeVar, a24, a23, okV, Out.ofOR, builtinD, evs, lenD, Tryz.underlying24, Tryz.underlying23, binOpD, intOpD, ofConst, ofValues, DV.one, pickD, hi, h6, indexAddrD, asNat, hb, hc, h8, hw]

theorem light_loop {E : Env} (hP : E.P = Tryz.prog) {m : DH} {p n ks : Nat} {a0 a1 a2 a4 : DV} {cs : List DV} {z : Option Bool} (hm : m.h.get p = some (.cells [a0, a1, a2, .dsl z ks n cs, a4] 26 false)) (hks : n = 0 ∨ ks = 1)
    (hcs : ∀ i, i < n → ∃ z' k' n' cs' rest, cs.drop i = .dsl z' k' n' cs' :: rest) : ∀ (q i : Nat) (t : Slots), 61 ≤ i + q → t.get 1 = some (.ptr p 0) → t.get 3 = some (.int .i64 (i : Int)) →
    ∃ t', (Runs E (.code 6 (.loop lightL) t m) (.st (.exit 0) t' m) ∧ t'.get 1 = some (.ptr p 0)) ∨ (Runs E (.code 6 (.loop lightL) t m) (.st .ret t' m) ∧ t'.get 2 = some (.bool false)) := by
  intro q
  induction q with
  | zero =>
    intro i t hq h1 h3
    obtain ⟨t', h4, h5⟩ := light_out hP h1 h3 hm (by omega)
    exact ⟨t', .inl ⟨Runs.loop_out ⟨by simp, _, h4⟩ (by simp), h5⟩⟩
  | succ q ih =>
    intro i t hq h1 h3
    by_cases hi : i < n ∧ i ≤ 60
    · obtain ⟨z', k', n', cs', rest, hc⟩ := hcs i hi.1
      have hk : ks = 1 := by omega
      subst hk
      by_cases h7 : 60 < n'
      · obtain ⟨t', h4, h5⟩ := light_ret hP h1 h3 hm hi.1 hi.2 hc h7
        exact ⟨t', .inr ⟨Runs.loop_out ⟨by simp, _, h4⟩ (by simp), h5⟩⟩
      · obtain ⟨t1, h4, h5, h6⟩ := light_next hP h1 h3 hm hi.1 hi.2 hc h7
        obtain ⟨t', h8⟩ := ih (i + 1) t1 (by omega) h5 (by rw [h6]; simp)
        refine ⟨t', ?_⟩
        rcases h8 with ⟨h8, h9⟩ | ⟨h8, h9⟩
        · exact .inl ⟨Runs.loop ⟨by simp, _, h4⟩ h8, h9⟩
        · exact .inr ⟨Runs.loop ⟨by simp, _, h4⟩ h8, h9⟩
    · obtain ⟨t', h4, h5⟩ := light_out hP h1 h3 hm hi
      exact ⟨t', .inl ⟨Runs.loop_out ⟨by simp, _, h4⟩ (by simp), h5⟩⟩

noncomputable def lightE : Code := c1 (c2 (c2 lightC))
theorem light_end {E : Env} (hP : E.P = Tryz.prog) {t : Slots} {m : DH} {p n0 n1 n2 n3 n4 k0 k1 k2 k3 k4 : Nat} {c0 c1' c2' c3 c4 : List DV} {z0 z1 z2 z3 z4 : Option Bool} (h1 : t.get 1 = some (.ptr p 0)) (hm : m.h.get p = some (.cells [.dsl z0 k0 n0 c0, .dsl z1 k1 n1 c1', .dsl z2 k2 n2 c2', .dsl z3 k3 n3 c3, .dsl z4 k4 n4 c4] 26 false)) :
    ∃ b t', run E 60 (.code 6 lightE t m) = .st .normal t' m ∧ t'.get 2 = some (.bool b) := by
  by_cases q0 : (n0 : Int) ≤ 100 <;> by_cases q1 : (n1 : Int) ≤ 100 <;> by_cases q2 : (n2 : Int) ≤ 60 <;> by_cases q3 : (n3 : Int) ≤ 60 <;> by_cases q4 : (n4 : Int) ≤ 60 <;>
  simp [lightE, lightC, c1, c2, cl, cb, Tryz.f6, run, bodyB, codeB, opsB, opsGo, oneB, wantedD, guardD, userCall, opD, ev, put, PM.get_set, h1, hm, hP, fieldAddrD, fo26_0, fo26_1, fo26_2, fo26_3, fo26_4, s24, s23, s22, loadD, takeVar, a24, a23, a22, okV, Out.ofOR, builtinD, evs, lenD, Tryz.underlying24, Tryz.underlying23, Tryz.underlying22, binOpD, intOpD, ofConst, ofValues, DV.one, pickD, q0, q1, q2, q3, q4]

abbrev gcells (k0 n0 k1 n1 k2 n2 k3 n3 k4 n4 : Nat) (c0 c1' c2' c3 c4 : List DV) (z0 z1 z2 z3 z4 : Option Bool) : List DV := [.dsl z0 k0 n0 c0, .dsl z1 k1 n1 c1', .dsl z2 k2 n2 c2', .dsl z3 k3 n3 c3, .dsl z4 k4 n4 c4]

def boxed (m : DH) (cs : List DV) : DH := { h := m.h.set m.n (.cells cs 26 false), n := m.n + 1, wrs := m.wrs }

theorem light_start {E : Env} (hP : E.P = Tryz.prog) {m : DH} {g0 g1 g2 g3 g4 : DV} (hone : allOne [g0, g1, g2, g3, g4] = true) :
    ∃ t', run E 30 (.code 6 (c1 lightC) (enterSlots [.agg [g0, g1, g2, g3, g4]] 0 .lf) m) = .st .normal t' (boxed m [g0, g1, g2, g3, g4]) ∧ t'.get 1 = some (.ptr m.n 0) := by
  simp [lightC, c1, Tryz.f6, run, bodyB, codeB, opsB, opsGo, oneB, wantedD, userCall, opD, ev, put, enterSlots, PM.get_set, Out.ofOR, boxD, DV.cells, hone, newPtr, boxed, ofConst, ofValues]

theorem light_zero {E : Env} (hP : E.P = Tryz.prog) {t : Slots} {m : DH} {p : Nat} (h1 : t.get 1 = some (.ptr p 0)) :
    ∃ t', run E 30 (.code 6 (c1 (c1 (c2 lightC))) t m) = .st .normal t' m ∧ t'.get 1 = some (.ptr p 0) ∧ t'.get 3 = some (.int .i64 ((0 : Nat) : Int)) := by
  simp [lightC, c1, c2, Tryz.f6, run, bodyB, codeB, opsB, opsGo, oneB, wantedD, userCall, opD, ev, put, PM.get_set, Out.ofOR, h1, ofConst, ofValues]

theorem light_call {E : Env} (hP : E.P = Tryz.prog) {m : DH} {n0 n1 n2 n3 n4 k0 k1 k2 k3 k4 : Nat} {c0 c1' c2' c3 c4 : List DV} {z0 z1 z2 z3 z4 : Option Bool}
    (he : E.ext 6 [.agg (gcells k0 n0 k1 n1 k2 n2 k3 n3 k4 n4 c0 c1' c2' c3 c4 z0 z1 z2 z3 z4)] m = none)
    (hks : n3 = 0 ∨ k3 = 1) (hcs : ∀ i, i < n3 → ∃ z' k' n' cs' rest, c3.drop i = .dsl z' k' n' cs' :: rest) :
    ∃ b, Runs E (.call 6 [.agg (gcells k0 n0 k1 n1 k2 n2 k3 n3 k4 n4 c0 c1' c2' c3 c4 z0 z1 z2 z3 z4)] m) (.val (.bool b) (boxed m (gcells k0 n0 k1 n1 k2 n2 k3 n3 k4 n4 c0 c1' c2' c3 c4 z0 z1 z2 z3 z4))) := by
  have hbody : Tryz.f6.body = some (.seq (c1 lightC) (.seq (.seq (c1 (c1 (c2 lightC))) (.block 0 (.loop lightL))) (.seq lightE .ret))) := rfl
  have hf : E.P.funcs[6]? = some Tryz.f6 := by rw [hP]; exact Tryz.func6
  obtain ⟨t1, h1, h2⟩ := light_start hP (m := m) (g0 := .dsl z0 k0 n0 c0) (g1 := .dsl z1 k1 n1 c1') (g2 := .dsl z2 k2 n2 c2') (g3 := .dsl z3 k3 n3 c3) (g4 := .dsl z4 k4 n4 c4) rfl
  have hm : (boxed m (gcells k0 n0 k1 n1 k2 n2 k3 n3 k4 n4 c0 c1' c2' c3 c4 z0 z1 z2 z3 z4)).h.get m.n = some (.cells (gcells k0 n0 k1 n1 k2 n2 k3 n3 k4 n4 c0 c1' c2' c3 c4 z0 z1 z2 z3 z4) 26 false) := PM.get_set_same _ _ _
  obtain ⟨t2, h3, h4, h5⟩ := light_zero hP (m := boxed m (gcells k0 n0 k1 n1 k2 n2 k3 n3 k4 n4 c0 c1' c2' c3 c4 z0 z1 z2 z3 z4)) h2
  obtain ⟨t3, h6⟩ := light_loop hP hm hks hcs 61 0 t2 (by omega) h4 h5
  have R1 : Runs E (.code 6 (c1 lightC) (enterSlots [.agg (gcells k0 n0 k1 n1 k2 n2 k3 n3 k4 n4 c0 c1' c2' c3 c4 z0 z1 z2 z3 z4)] 0 .lf) m) (.st .normal t1 (boxed m (gcells k0 n0 k1 n1 k2 n2 k3 n3 k4 n4 c0 c1' c2' c3 c4 z0 z1 z2 z3 z4))) := ⟨by simp, _, h1⟩
  have R2 : Runs E (.code 6 (c1 (c1 (c2 lightC))) t1 (boxed m (gcells k0 n0 k1 n1 k2 n2 k3 n3 k4 n4 c0 c1' c2' c3 c4 z0 z1 z2 z3 z4))) (.st .normal t2 (boxed m (gcells k0 n0 k1 n1 k2 n2 k3 n3 k4 n4 c0 c1' c2' c3 c4 z0 z1 z2 z3 z4))) := ⟨by simp, _, h3⟩
  have fin : ∀ {x : DX} {t' : Slots} {b : Bool}, Runs E (.code 6 (.seq (c1 lightC) (.seq (.seq (c1 (c1 (c2 lightC))) (.block 0 (.loop lightL))) (.seq lightE .ret))) (enterSlots [.agg (gcells k0 n0 k1 n1 k2 n2 k3 n3 k4 n4 c0 c1' c2' c3 c4 z0 z1 z2 z3 z4)] 0 .lf) m) (.st x t' (boxed m (gcells k0 n0 k1 n1 k2 n2 k3 n3 k4 n4 c0 c1' c2' c3 c4 z0 z1 z2 z3 z4))) →
      (x = .normal ∨ x = .ret) → t'.get 2 = some (.bool b) → ∃ b, Runs E (.call 6 [.agg (gcells k0 n0 k1 n1 k2 n2 k3 n3 k4 n4 c0 c1' c2' c3 c4 z0 z1 z2 z3 z4)] m) (.val (.bool b) (boxed m (gcells k0 n0 k1 n1 k2 n2 k3 n3 k4 n4 c0 c1' c2' c3 c4 z0 z1 z2 z3 z4))) := by
    intro x t' b R hx h2
    refine ⟨b, Runs.call hf hbody he (by simp [Tryz.f6]) R hx ?_⟩
    simp [resultsD, Tryz.f6, resD, h2]
  rcases h6 with ⟨h6, h7⟩ | ⟨h6, h7⟩
  · obtain ⟨b, t4, h8, h9⟩ := light_end hP h7 hm
    have R3 := Runs.block (id := 0) h6
    have R4 : Runs E (.code 6 lightE t3 _) (.st .normal t4 _) := ⟨by simp, _, h8⟩
    have R5 : Runs E (.code 6 .ret t4 (boxed m (gcells k0 n0 k1 n1 k2 n2 k3 n3 k4 n4 c0 c1' c2' c3 c4 z0 z1 z2 z3 z4))) (.st .ret t4 _) := ⟨by simp, 1, rfl⟩
    exact fin (R1.seq ((R2.seq R3).seq (R4.seq R5))) (.inr rfl) h9
  · have R3 := Runs.block (id := 0) h6
    exact fin (R1.seq ((R2.seq R3).seq_out (by simp))) (.inr rfl) h7
end Go.Proofs.YthbnlmmidanaiaaGreat
