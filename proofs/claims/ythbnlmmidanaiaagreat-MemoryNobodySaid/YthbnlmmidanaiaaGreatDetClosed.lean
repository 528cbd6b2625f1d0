/-
  A call that was shown where nothing is named does the same wherever it is made, and nothing that is named turns.
-/
import Derived.Test.YthbnlmmidanaiaaGreatDetRow
set_option linter.unusedVariables false
set_option linter.unusedSimpArgs false
set_option linter.unusedSectionVars false
namespace Go.Det
variable [Beside]

theorem calm_big {ρ : Nm} {N : Nat → Prop} {m : DH} {w w' : World} (C : Calm w w') (M : Mem ρ N w m) : Big ρ N m w ρ N m w' ∧ Mem ρ N w' m := by
  have La := C.later (fun b g h => h) N (ρ := ρ)
  refine ⟨⟨La, fun b g h => .inl h, fun _ _ h => h, Nat.le_refl _, C.size, fun k hk _ => C.same k hk, C.os, C.tape, C.output⟩, ⟨⟨fun b g h => ?_, M.G.fresh, M.G.inj, M.G.apart, fun g h => ?_⟩, fun b g o h1 h2 => ?_, Beside.later La M.I⟩⟩
  · have := M.G.dom b g h
    have := C.size
    exact ⟨by omega, by omega⟩
  · have := M.G.below g h
    have := C.size
    omega
  · exact C.obj (M.G.dom b g h1).2 (M.R b g o h1 h2)

/-- A value that names nothing. -/
def Plain (v : DV) : Prop := ∀ (ρ ρ' : Nm) (N N' : Nat → Prop) (w w' : World) (x : Value), VR ρ N w v x → VR ρ' N' w' v x

theorem plain_bool (b : Bool) : Plain (.bool b) := fun _ _ _ _ _ _ _ h => by simp only [VR] at h ⊢; exact h
theorem plain_int (k : IntKind) (n : Int) : Plain (.int k n) := fun _ _ _ _ _ _ _ h => by simp only [VR] at h ⊢; exact h

theorem good_closed {P : Program} {f : FuncId} {v : DV} {m' : DH} (hB : ∀ (N : Nat → Prop) (w : World), Beside.holds N w → Beside.holds (fun b => b < w.heap.size) w) (h : GoodCall P f [] noMem v m') (hv : Plain v) (m : DH) : GoodCall P f [] m v m := by
  intro ρ N w vs M hx
  have hvs : vs = [] := by simpa [VRL] using hx
  subst hvs
  refine (h _ _ w [] (mem_none (hB N w M.I)) VRL.nil).mono fun e w' he => ?_
  obtain ⟨x, rfl, ρ', N', B, _, hvx⟩ := he
  have hb := big_below B
  have C : Calm w w' := ⟨hb.size, hb.block, hb.os, hb.tape, hb.output⟩
  obtain ⟨h1, h2⟩ := calm_big C M
  exact ⟨x, rfl, ρ, N, h1, h2, hv _ _ _ _ _ _ _ hvx⟩

theorem maxLen_mono (N : Nat → Prop) (w : World) (h : maxLenBeside.holds N w) : maxLenBeside.holds (fun b => b < w.heap.size) w := by
  obtain ⟨_, k, hk⟩ := h
  exact ⟨lt_of_cell hk, k, hk⟩

/-- What was shown of an argument that is not looked at holds of any. -/
theorem good_junk {P : Program} {f : FuncId} {v : DV} {m m' : DH} (h : GoodCall P f [.junk] m v m') (x : DV) : GoodCall P f [x] m v m' := by
  intro ρ N w vs M hx
  refine h ρ N w vs M ?_
  cases vs with
  | nil => simp [VRL] at hx
  | cons y vs =>
    obtain ⟨_, h2⟩ := hx.uncons
    exact VRL.cons (by simp only [VR]) h2

/-- More answers. -/
def withExt (E : Env) (ext : FuncId → List DV → DH → Option (DV × DH)) : Env := ⟨E.P, ext, E.pairs⟩

theorem known_with {E : Env} (K : Known E) {ext : FuncId → List DV → DH → Option (DV × DH)} (h : ∀ f args m r, ext f args m = some r → GoodCall E.P f args m r.1 r.2 ∧ Kept m r.2) : Known (withExt E ext) :=
  ⟨h, K.ok, K.mixed, K.name⟩

end Go.Det
