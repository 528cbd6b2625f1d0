/-
  What must be known of a program that the machine runs: a test over its functions; the answers of strings.Contains and strings.IndexByte.
-/
import Derived.Test.YthbnlmmidanaiaaGreatDetSound
import Derived.Test.YthbnlmmidanaiaaGreatDetFastGo
import Derived.Lib.IndexMore
set_option linter.unusedVariables false
set_option linter.unusedSimpArgs false
set_option linter.unusedSectionVars false
namespace Go.Det

/-! ### The test -/
def okAll (pr : Nat → Nat → Option (List (Nat × Nat))) : List Func → Nat → Bool
  | [], _ => true
  | fn :: fs, i => match fn.body with
    | none => okAll pr fs (i + 1)
    | some c => match codeOk (pr i) fn.ntmps c with
      | true => okAll pr fs (i + 1)
      | false => false

theorem okAll_get {pr : Nat → Nat → Option (List (Nat × Nat))} : ∀ {fs : List Func} {i : Nat}, okAll pr fs i = true → ∀ (k : Nat) (fn : Func) (c : Code), fs[k]? = some fn → fn.body = some c → codeOk (pr (i + k)) fn.ntmps c = true
  | [], _, _, _, _, _, h, _ => by simp at h
  | fn0 :: fs, i, h, k, fn, c, hk, hb => by
    unfold okAll at h
    have h2 : okAll pr fs (i + 1) = true ∧ ∀ c, fn0.body = some c → codeOk (pr i) fn0.ntmps c = true := by
      split at h
      · rename_i hb0
        exact ⟨h, fun c hc => by rw [hb0] at hc; cases hc⟩
      · rename_i c0 hb0
        split at h
        · rename_i hc0
          exact ⟨h, fun c hc => by rw [hb0] at hc; injection hc with hc; subst hc; exact hc0⟩
        · cases h
    cases k with
    | zero =>
      simp at hk
      subst hk
      exact h2.2 c hb
    | succ k =>
      have := okAll_get h2.1 k fn c (by simpa using hk) hb
      rw [show i + (k + 1) = i + 1 + k by omega]
      exact this

/-- One function by itself. -/
noncomputable def okFn (pr : Nat → Nat → Option (List (Nat × Nat))) (P : Program) (f : Nat) : Bool := match P.funcs[f]? with
  | none => true
  | some fn => match fn.body with
    | none => true
    | some c => codeOk (pr f) fn.ntmps c

/-! ### A table of pairs -/
def lookN {α : Type} (n : Nat) : List (Nat × α) → Option α
  | [] => none
  | p :: ps => match Nat.beq p.1 n with
    | true => some p.2
    | false => lookN n ps

def pairsOf (tb : List (Nat × List (Nat × List (Nat × Nat)))) (f id : Nat) : Option (List (Nat × Nat)) :=
  match lookN f tb with
  | some l => lookN id l
  | none => none

theorem lookN_mem {α : Type} {n : Nat} {x : α} : ∀ {l : List (Nat × α)}, lookN n l = some x → ∃ y, (n, y) ∈ l
  | [], h => by cases h
  | p :: ps, h => by
    unfold lookN at h
    split at h
    · rename_i hn
      rw [Nat.beq_eq] at hn
      exact ⟨p.2, by rw [← hn]; exact List.mem_cons_self⟩
    · obtain ⟨y, hy⟩ := lookN_mem h
      exact ⟨y, List.mem_cons_of_mem _ hy⟩

theorem ok_of_rows {P : Program} {tb : List (Nat × List (Nat × List (Nat × Nat)))} (h0 : okAll (fun _ _ => none) P.funcs.toList 0 = true) (h1 : tb.all (fun p => okFn (pairsOf tb) P p.1) = true)
    (f : FuncId) (fn : Func) (c : Code) (hf : P.funcs[f]? = some fn) (hb : fn.body = some c) : codeOk (pairsOf tb f) fn.ntmps c = true := by
  cases hl : lookN f tb with
  | none =>
    have : pairsOf tb f = fun _ => none := by
      funext id
      unfold pairsOf
      rw [hl]
    rw [this]
    exact okAll_get h0 f fn c (by rw [Array.getElem?_toList]; exact hf) hb
  | some x =>
    obtain ⟨y, hy⟩ := lookN_mem hl
    have := List.all_eq_true.mp h1 _ hy
    simp only [okFn, hf, hb] at this
    exact this

/-! ### strings.Contains and strings.IndexByte, quick -/
noncomputable section
def preQ (p : List UInt8) : List UInt8 → Bool :=
  List.rec (motive := fun _ => List UInt8 → Bool) (fun _ => true) (fun a _ ih s => List.rec (motive := fun _ => Bool) false (fun b s _ => iteB (Nat.beq a.toNat b.toNat) (ih s) false) s) p
def infQ (p s : List UInt8) : Bool := List.rec (motive := fun _ => Bool) (preQ p []) (fun b l ih => iteB (preQ p (b :: l)) true ih) s
def ixQ (s : List UInt8) (c : UInt8) : Nat → Int := List.rec (motive := fun _ => Nat → Int) (fun _ => -1) (fun b _ ih i => iteI (Nat.beq b.toNat c.toNat) (.ofNat i) (ih (Nat.succ i))) s

theorem byte_beq (a b : UInt8) : Nat.beq a.toNat b.toNat = (a == b) := by
  rw [nat_beq]
  by_cases h : a = b
  · subst h; simp
  · have : a.toNat ≠ b.toNat := fun e => h (UInt8.toNat_inj.mp e)
    rw [beq_eq_false_iff_ne.mpr h, beq_eq_false_iff_ne.mpr this]

theorem preQ_eq : ∀ (p s : List UInt8), preQ p s = p.isPrefixOf s
  | [], s => by cases s <;> rfl
  | a :: p, [] => rfl
  | a :: p, b :: s => by
    show iteB (Nat.beq a.toNat b.toNat) (preQ p s) false = _
    rw [iteB_eq, byte_beq, preQ_eq p s]
    show _ = (a == b && p.isPrefixOf s)
    cases a == b <;> simp

theorem infQ_eq (p : List UInt8) : ∀ s : List UInt8, infQ p s = Lib.contains s p
  | [] => by
    show preQ p [] = _
    rw [preQ_eq]
    cases p <;> rfl
  | b :: l => by
    show iteB (preQ p (b :: l)) true (infQ p l) = _
    rw [iteB_eq, preQ_eq, infQ_eq p l]
    unfold Lib.contains
    rw [Lib.index]
    have := Lib.index_ge l p
    by_cases h : p.isPrefixOf (b :: l) = true
    · simp [h]
    · rw [if_neg h, if_neg h]
      split
      · rename_i h1
        rw [beq_iff_eq] at h1
        rw [h1]
      · rename_i h1
        simp only [beq_iff_eq] at h1
        rw [decide_eq_decide]; omega

theorem ixQ_eq (c : UInt8) : ∀ (s : List UInt8) (i : Nat), ixQ s c i = if Lib.indexByte s c = -1 then -1 else Lib.indexByte s c + i
  | [], i => rfl
  | b :: l, i => by
    show iteI (Nat.beq b.toNat c.toNat) (Int.ofNat i) (ixQ l c (Nat.succ i)) = _
    rw [iteI_eq, byte_beq, ixQ_eq c l, Lib.indexByte]
    have := Lib.indexByte_ge l c
    by_cases h : (b == c) = true
    · rw [if_pos h, if_pos h, if_neg (by decide)]; simp
    · rw [if_neg h, if_neg h]
      by_cases h1 : Lib.indexByte l c = -1
      · simp [h1]
      · have h2 : (Lib.indexByte l c == -1) = false := by simpa using h1
        rw [if_neg h1, h2]
        simp only [Bool.false_eq_true, if_false]
        rw [if_neg (by omega)]
        omega

/-- What the two answer; 'fc' and 'fi' are their numbers. -/
def extS (fc fi : Nat) (f : FuncId) (args : List DV) (m : DH) : Option (DV × DH) :=
  match Nat.beq f fc with
  | true => match args with
    | [.str s, .str p] => match Nat.blt s.size 4294967281 with
      | true => some (.bool (infQ p.data.toList s.data.toList), m)
      | false => none
    | _ => none
  | false => match Nat.beq f fi with
    | true => match args with
      | [.str s, .int .u8 c] => some (.int .i64 (ixQ s.data.toList c.toNat.toUInt8 0), m)
      | _ => none
    | false => none
end

/-- 'internal/bytealg.MaxLen' (block 0) holds some number. -/
@[reducible] def maxLenBeside : Beside where
  holds N w := N 0 ∧ ∃ k : Int, w.cell? ⟨0, 0, none⟩ = some (.int .i64 k)
  later := by
    intro ρ ρ' N N' w w' L h
    obtain ⟨h1, k, h2⟩ := h
    have hlt := lt_of_cell h2
    obtain ⟨h3, h4⟩ := L.keep 0 hlt h1
    refine ⟨h4, k, ?_⟩
    rw [← h2]
    simp only [World.cell?, h3]

theorem good_pure [Beside] {P : Program} {f : FuncId} {args : List DV} {m : DH} {v : DV}
    (h : ∀ (ρ : Nm) (N : Nat → Prop) (w : World) (vs : List Value), Mem ρ N w m → VRL ρ N w args vs → Calls P f ⟨vs⟩ w fun e w' => ∃ x, e = .returned x ∧ w' = w ∧ VR ρ N w v x) : GoodCall P f args m v m := by
  intro ρ N w vs M hv
  refine (h ρ N w vs M hv).mono fun e w' he => ?_
  obtain ⟨x, h1, h2, h3⟩ := he
  subst h2
  exact ⟨x, h1, ρ, N, Big.refl _ _ _ _, M, h3⟩

theorem ext_good {P : Program} {fc fi : Nat}
    (hc : ∀ (s p : ByteArray) (k : Int) (w : World), s.size < 4294967281 → w.cell? ⟨0, 0, none⟩ = some (.int .i64 k) → Calls P fc #[.string s, .string p] w fun e w' => e = .returned (.bool (Lib.contains s.data.toList p.data.toList)) ∧ w' = w)
    (hi : ∀ (s : ByteArray) (c : Int) (w : World), Calls P fi #[.string s, .int .u8 c] w fun e w' => e = .returned (.int .i64 (Lib.indexByte s.data.toList c.toNat.toUInt8)) ∧ w' = w)
    (f : FuncId) (args : List DV) (m : DH) (r : DV × DH) (h : extS fc fi f args m = some r) :
    @GoodCall maxLenBeside P f args m r.1 r.2 ∧ Kept m r.2 := by
  letI : Beside := maxLenBeside
  unfold extS at h
  split at h
  · rename_i hf
    rw [Nat.beq_eq] at hf
    subst hf
    split at h
    · rename_i s p
      split at h
      · rename_i hs
        injection h with h; subst h
        refine ⟨good_pure fun ρ N w vs M hv => ?_, Kept.refl _⟩
        obtain ⟨k, hk⟩ := M.I.2
        cases vs with
        | nil => simp [VRL] at hv
        | cons x vs =>
          obtain ⟨h1, h2⟩ := hv.uncons
          cases vs with
          | nil => simp [VRL] at h2
          | cons y vs =>
            obtain ⟨h3, h4⟩ := h2.uncons
            simp only [VR] at h1 h3
            simp only [VRL] at h4
            subst h1 h3 h4
            rw [Nat.blt_eq] at hs
            refine (hc s p k w hs hk).mono fun e w' he => ?_
            exact ⟨_, he.1, he.2, by simp only [VR, infQ_eq]⟩
      · cases h
    · cases h
  · split at h
    · rename_i hf
      rw [Nat.beq_eq] at hf
      subst hf
      split at h
      · rename_i s c
        injection h with h; subst h
        refine ⟨good_pure fun ρ N w vs M hv => ?_, Kept.refl _⟩
        cases vs with
        | nil => simp [VRL] at hv
        | cons x vs =>
          obtain ⟨h1, h2⟩ := hv.uncons
          cases vs with
          | nil => simp [VRL] at h2
          | cons y vs =>
            obtain ⟨h3, h4⟩ := h2.uncons
            simp only [VR] at h1 h3
            simp only [VRL] at h4
            subst h1 h3 h4
            refine (hi s c w).mono fun e w' he => ?_
            refine ⟨_, he.1, he.2, ?_⟩
            simp only [VR, ixQ_eq]
            split
            · rename_i h; rw [h]
            · simp
      · cases h
    · cases h

end Go.Det
