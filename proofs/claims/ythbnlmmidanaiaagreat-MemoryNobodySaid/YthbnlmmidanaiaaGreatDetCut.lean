/-
  Addresses, cuts of slices, lengths, structs that are built.
-/
import Derived.Test.YthbnlmmidanaiaaGreatDetAddr
set_option linter.unusedVariables false
set_option linter.unusedSimpArgs false
set_option linter.unusedSectionVars false
namespace Go.Det

section
variable {P : Program} {o : Oper} {a : Act} {ρ : Nm} {N : Nat → Prop} {m : DH} {w : World} {t : Slots}

theorem add_off (g off n : Nat) : (⟨g, off, none⟩ : Addr).add n = ⟨g, off + n, none⟩ := by unfold Go.Addr.add; split <;> simp_all

theorem done_fieldAddr (G : MemG ρ N w m) (S : SR ρ N w t a.tmps) {T : TypeId} {x : Operand} {f : Nat} (ho : o.op = .fieldAddr T x f) {v : DV} {m' : DH} (h : fieldAddrD P T (ev t x) f m = some (v, m')) : Done P o a ρ N m w [] v m' := by
  have hx := ev_spec S x
  unfold fieldAddrD at h
  split at h
  · rename_i fd hf
    split at h
    · rename_i k hk
      unfold fieldOf at hf
      split at hf
      · rename_i fs hu
        have hrun : ∀ ad : Addr, a.eval x = .pointer (some ad) → (execOp a.eval o).run P w = .ok (.value (.pointer (some (ad.add fd.offset)))) w := fun ad hv => by
          unfold execOp
          simp only [ho, Instr.fieldAt, Sem.run_bind, under_of hu, Result.andThen_ok, hf, hv, Instr.sureAddr, Sem.run_pure, fieldPlace, size_of hk, Nat.add_one_ne_zero, if_false]
        split at h
        · rename_i b off e
          injection h with h; injection h with h1 h2; subst h1 h2
          rw [e] at hx; simp only [VR] at hx
          obtain ⟨g, hg, hv⟩ := hx
          exact done_pure G (hrun _ hv) (by simp only [VR]; exact ⟨g, hg, by rw [add_off]⟩)
        · rename_i cs e
          injection h with h; injection h with h1 h2; subst h1 h2
          rw [e] at hx; simp only [VR] at hx
          obtain ⟨ad, hv, hc⟩ := hx
          refine done_pure G (hrun _ hv) ?_
          simp only [VR]
          refine ⟨_, rfl, fun hn => ?_⟩
          have hne : cs ≠ [] := by intro e; subst e; simp at hn
          obtain ⟨h1, h2⟩ := hc hne
          exact ⟨by rw [Addr.block_add]; exact h1, h2.drop _⟩
        · cases h
      · cases hf
    · cases h
  · cases h

theorem done_indexAddr (G : MemG ρ N w m) (S : SR ρ N w t a.tmps) {T : TypeId} {x i : Operand} (ho : o.op = .indexAddr T x i) {v : DV} {m' : DH} (h : indexAddrD P T (ev t x) (ev t i) m = some (v, m')) : Done P o a ρ N m w [] v m' := by
  have hx := ev_spec S x
  unfold indexAddrD at h
  split at h
  · cases h
  · rename_i j hj
    obtain ⟨k, hi⟩ := asNat_spec hj (ev_spec S i)
    split at h
    · rename_i e hu
      split at h
      · rename_i sz hsz
        have hrun : ∀ (ad : Addr) (len cap : Nat), a.eval x = .slice (some ad) len cap → j < len → (execOp a.eval o).run P w = .ok (.value (.pointer (some (ad.add (j * sz))))) w := fun ad len cap hv hl => by
          unfold execOp
          have hc : (0 : Int) ≤ (j : Int) ∧ (j : Int) < (len : Int) := ⟨by omega, by omega⟩
          simp only [ho, Instr.indexAt, hi, asIntOf, Sem.run_bind, Sem.run_pure, Result.andThen_ok, under_of hu, hv, hc, and_self, if_true, size_of hsz, Int.toNat_natCast]
        split at h
        · rename_i b off len cap ex sz' e1
          split at h
          · rename_i hb
            simp only [Bool.and_eq_true, Nat.blt_eq, Nat.beq_eq] at hb
            obtain ⟨hb1, rfl⟩ := hb
            injection h with h; injection h with h1 h2; subst h1 h2
            rw [e1] at hx; simp only [VR] at hx
            obtain ⟨g, off', c, arr, e', fr, hg, hv, hoff, hl1, hl2, _⟩ := hx
            have : off' = off := by rcases hoff with h0 | h0
                                    · omega
                                    · exact h0
            subst this
            exact done_pure G (hrun _ _ _ hv hb1) (by simp only [VR]; exact ⟨g, hg, by rw [add_off]⟩)
          · cases h
        · rename_i z sz' n cs e1
          split at h
          · rename_i hb
            simp only [Bool.and_eq_true, Nat.blt_eq, Nat.beq_eq] at hb
            obtain ⟨hb1, rfl⟩ := hb
            injection h with h; injection h with h1 h2; subst h1 h2
            rw [e1] at hx; simp only [VR] at hx
            obtain ⟨ad, c, hv, _, _, _, _, hnone, hlen, hc⟩ := hx
            cases ad with
            | none => have := (hnone rfl).1; omega
            | some ad =>
              refine done_pure G (hrun _ _ _ hv hb1) ?_
              simp only [VR]
              refine ⟨_, rfl, fun hn => ?_⟩
              have hne : cs ≠ [] := by intro e; subst e; simp at hn
              obtain ⟨h1, h2⟩ := hc ad rfl hne
              exact ⟨by rw [Addr.block_add]; exact h1, h2.drop _⟩
          · cases h
        · cases h
      · cases h
    · rename_i n e hu
      split at h
      · rename_i sz hsz
        split at h
        · rename_i hlt
          rw [Nat.blt_eq] at hlt
          have hrun : ∀ (ad : Addr), a.eval x = .pointer (some ad) → (execOp a.eval o).run P w = .ok (.value (.pointer (some (ad.add (j * sz))))) w := fun ad hv => by
            unfold execOp
            have hc : (0 : Int) ≤ (j : Int) ∧ (j : Int) < (n : Int) := ⟨by omega, by omega⟩
            simp only [ho, Instr.indexAt, hi, asIntOf, Sem.run_bind, Sem.run_pure, Result.andThen_ok, under_of hu, hv, Instr.sureAddr, hc, and_self, if_true, size_of hsz, Int.toNat_natCast]
          split at h
          · rename_i b off e1
            injection h with h; injection h with h1 h2; subst h1 h2
            rw [e1] at hx; simp only [VR] at hx
            obtain ⟨g, hg, hv⟩ := hx
            exact done_pure G (hrun _ hv) (by simp only [VR]; exact ⟨g, hg, by rw [add_off]⟩)
          · rename_i cs e1
            injection h with h; injection h with h1 h2; subst h1 h2
            rw [e1] at hx; simp only [VR] at hx
            obtain ⟨ad, hv, hc⟩ := hx
            refine done_pure G (hrun _ hv) ?_
            simp only [VR]
            refine ⟨_, rfl, fun hn => ?_⟩
            have hne : cs ≠ [] := by intro e; subst e; simp at hn
            obtain ⟨h1, h2⟩ := hc hne
            exact ⟨by rw [Addr.block_add]; exact h1, h2.drop _⟩
          · cases h
        · cases h
      · cases h
    · cases h

/-! ### Cuts -/
def OptR (ρ : Nm) (N : Nat → Prop) (w : World) (ov : Option DV) (u : Option Value) : Prop :=
  match ov, u with | none, none => True | some x, some y => VR ρ N w x y | _, _ => False

theorem bound_spec {N : Nat → Prop} {ov : Option DV} {d n : Nat} (h : optNat ov d = some n) {u : Option Value} (hu : OptR ρ N w ov u) (y : Nat) (hy : n ≤ y) (code : BoundsCode) :
    (match u with | some v => Instr.sliceBound v y code | none => pure d).run P w = .ok n w := by
  unfold optNat at h
  cases ov with
  | none =>
    cases u with
    | none => simp only at h; injection h with h; subst h; rfl
    | some v => exact hu.elim
  | some x =>
    cases u with
    | none => exact hu.elim
    | some v =>
      simp only [OptR] at h hu
      obtain ⟨k, rfl⟩ := asNat_spec h hu
      have hc : (0 : Int) ≤ (n : Int) ∧ (n : Int) ≤ (y : Int) := ⟨by omega, by omega⟩
      simp only [Instr.sliceBound, asIntOf, Sem.run_bind, Sem.run_pure, Result.andThen_ok, hc, and_self, if_true, Int.toNat_natCast]

theorem optEv_spec {N : Nat → Prop} (S : SR ρ N w t a.tmps) (x : Option Operand) : OptR ρ N w (optEv t x) (x.map a.eval) := by
  cases x with
  | none => simp [optEv, OptR]
  | some x => simp only [optEv, Option.map_some, OptR]; exact ev_spec S x

theorem bounds_two {N : Nat → Prop} {lo hi : Option DV} {ul uh : Option Value} (hl : OptR ρ N w lo ul) (hh : OptR ρ N w hi uh) {isS : Bool} {len cap l h : Nat} (eh : optNat hi len = some h) (el : optNat lo 0 = some l) (h1 : l ≤ h) (h2 : h ≤ cap) :
    (Instr.sliceBounds isS len cap ul uh none).run P w = .ok (l, h, cap) w := by
  have b1 := bound_spec (P := P) (u := uh) eh hh cap h2 (if isS then .sliceAcap else .sliceAlen)
  have b2 := bound_spec (P := P) (u := ul) el hl h h1 .sliceB
  unfold Instr.sliceBounds
  cases uh with
  | none =>
    cases ul with
    | none =>
      simp only [Sem.run_pure, Result.ok.injEq, and_true] at b1 b2
      subst b1 b2
      simp
    | some ul =>
      simp only [Sem.run_pure, Result.ok.injEq, and_true] at b1
      subst b1
      simp only [Sem.run_bind, Sem.run_pure, Result.andThen_ok, Option.isSome_none, Bool.false_eq_true, if_false, b2]
  | some uh =>
    cases ul with
    | none =>
      simp only [Sem.run_pure, Result.ok.injEq, and_true] at b2
      subst b2
      simp only [Sem.run_bind, Sem.run_pure, Result.andThen_ok, b1]
    | some ul => simp only [Sem.run_bind, Sem.run_pure, Result.andThen_ok, Option.isSome_none, Bool.false_eq_true, if_false, b1, b2]

theorem bounds_three {N : Nat → Prop} {lo hi : Option DV} {mx : DV} {ul uh : Option Value} {um : Value} (hl : OptR ρ N w lo ul) (hh : OptR ρ N w hi uh) (hm : VR ρ N w mx um) (hs : uh ≠ none) {len cap l h k : Nat} (eh : optNat hi len = some h) (el : optNat lo 0 = some l) (em : asNat mx = some k) (h1 : l ≤ h) (h2 : h ≤ k) (h3 : k ≤ cap) :
    (Instr.sliceBounds true len cap ul uh (some um)).run P w = .ok (l, h, k) w := by
  have b0 := bound_spec (P := P) (ov := some mx) (u := some um) (d := 0) em hm cap h3 .slice3Acap
  have b1 := bound_spec (P := P) (u := uh) eh hh k h2 .slice3B
  have b2 := bound_spec (P := P) (u := ul) el hl h h1 .slice3C
  unfold Instr.sliceBounds
  cases uh with
  | none => exact absurd rfl hs
  | some uh =>
    cases ul with
    | none =>
      simp only [Sem.run_pure, Result.ok.injEq, and_true] at b2
      subst b2
      simp only [if_true, Sem.run_bind, b0, Result.andThen_ok, b1, Sem.run_pure]
    | some ul => simp only [if_true, Sem.run_bind, b0, Result.andThen_ok, b1, Option.isSome_some, b2, Sem.run_pure]

theorem sliceAt_of {T : TypeId} {d : TypeDesc} (hu : P.underlying T = some d) (hd : ∀ n e, d ≠ .array n e) (x : Value) (lo hi mx : Option Value) (w : World) : (Instr.sliceAt T x lo hi mx).run P w = (Instr.slice T x lo hi mx).run P w := by
  unfold Instr.sliceAt
  simp only [Sem.run_bind, under_of hu, Result.andThen_ok]

theorem done_slice (G : MemG ρ N w m) (S : SR ρ N w t a.tmps) {T : TypeId} {x : Operand} {lo hi mx : Option Operand} (ho : o.op = .slice T x lo hi mx) {v : DV} {m' : DH}
    (h : okV m (sliceD P T (ev t x) (optEv t lo) (optEv t hi) (optEv t mx)) = some (v, m')) : Done P o a ρ N m w [] v m' := by
  have hx := ev_spec S x
  have hlo := optEv_spec S lo
  have hhi := optEv_spec S hi
  have hmx := optEv_spec S mx
  unfold okV at h
  split at h
  case h_2 => cases h
  rename_i d hd
  injection h with h; injection h with h1 h2; subst h1 h2
  have hexec : ∀ {d : TypeDesc}, P.underlying T = some d → (∀ n e, d ≠ .array n e) → ∀ {y : Value}, (Instr.slice T (a.eval x) (lo.map a.eval) (hi.map a.eval) (mx.map a.eval)).run P w = .ok y w → (execOp a.eval o).run P w = .ok (.value y) w := by
    intro d hu hd y hy
    unfold execOp
    simp only [ho, Sem.run_bind, sliceAt_of hu hd, hy, Result.andThen_ok, Sem.run_pure]
  unfold sliceD at hd
  split at hd
  · rename_i hu
    split at hd
    · rename_i s e
      rw [e] at hx; simp only [VR] at hx
      unfold cutStr at hd
      split at hd
      · rename_i h l e1 e2 e3
        split at hd
        · rename_i hb
          simp only [Bool.and_eq_true, Nat.ble_eq] at hb
          injection hd with hd; subst hd
          have hmx' : mx.map a.eval = none := by
            rw [e1] at hmx
            cases mx with
            | none => rfl
            | some q => simp [OptR] at hmx
          refine done_pure G (hexec hu (by simp) (y := .string (s.extract l h)) ?_) (by simp only [VR])
          have hb3 := bounds_two (P := P) (isS := false) hlo hhi e2 e3 hb.1 hb.2
          unfold Instr.slice
          simp only [Sem.run_bind, under_of hu, Result.andThen_ok, hx, hmx', Option.isSome_none, Bool.false_eq_true, if_false, Sem.run_pure, hb3]
        · cases hd
      · cases hd
    · cases hd
  · rename_i e hu
    split at hd
    · rename_i k hk
      split at hd
      · rename_i b off len cap ex sz e1
        rw [e1] at hx; simp only [VR] at hx
        obtain ⟨g, off', c, arr, e', fr, hg, hv, hoff, hl1, hl2, hl3, hl4, hh, hsz⟩ := hx
        unfold cutSl at hd
        split at hd
        · rename_i h l e2 e3
          split at hd
          · rename_i hb
            simp only [Bool.and_eq_true, Nat.ble_eq, Nat.beq_eq] at hb
            obtain ⟨⟨rfl, hb1⟩, hb2⟩ := hb
            split at hd
            · rename_i e4
              injection hd with hd; subst hd
              have hmx' : mx.map a.eval = none := by
                rw [e4] at hmx
                cases mx with
                | none => rfl
                | some q => simp [OptR] at hmx
              have hb3 := bounds_two (P := P) (isS := true) hlo hhi e2 e3 hb1 (show h ≤ c by omega)
              refine done_pure G (hexec hu (by simp) (y := .slice (some (if c = l then ⟨g, off', none⟩ else (⟨g, off', none⟩ : Addr).add (l * k))) (h - l) (c - l)) ?_) ?_
              · unfold Instr.slice
                simp only [Sem.run_bind, under_of hu, Result.andThen_ok, hv, hmx', hb3, size_of hk, Sem.run_pure]
                split <;> rfl
              · simp only [VR]
                refine ⟨g, if c = l then off' else off' + l * k, c - l, arr, e', fr, hg, ?_, ?_, by omega, by omega, fun hx => by have := hl3 hx; omega, by omega, hh, ?_⟩
                · congr 2
                  split
                  · rfl
                  · rw [add_off]
                · by_cases hcl : c = l
                  · left; omega
                  · right
                    rw [if_neg hcl]
                    rcases hoff with h0 | h0
                    · omega
                    · rw [h0]
                · have : l * k + (c - l) * k = c * k := by rw [← Nat.add_mul]; congr 1; omega
                  omega
            · rename_i q e4
              split at hd
              · rename_i hi0 n2 hi1 hi2
                split at hd
                · rename_i hb3
                  simp only [Bool.and_eq_true, Nat.ble_eq] at hb3
                  injection hd with hd; subst hd
                  rw [e4] at hmx
                  cases hmx0 : mx with
                  | none => rw [hmx0] at hmx; simp [OptR] at hmx
                  | some mq =>
                    rw [hmx0] at hmx
                    simp only [Option.map_some, OptR] at hmx
                    have hh' : hi.map a.eval ≠ none := by
                      cases hi with
                      | none => simp [optEv] at hi1
                      | some q => simp
                    have hb4 := bounds_three (P := P) hlo hhi hmx hh' e2 e3 hi2 hb1 hb3.1 (show n2 ≤ c by omega)
                    refine done_pure G (hexec hu (by simp) (y := .slice (some (if n2 = l then ⟨g, off', none⟩ else (⟨g, off', none⟩ : Addr).add (l * k))) (h - l) (n2 - l)) ?_) ?_
                    · unfold Instr.slice
                      simp only [hmx0, Option.map_some, Sem.run_bind, under_of hu, Result.andThen_ok, hv, hb4, size_of hk, Sem.run_pure]
                      split <;> rfl
                    · simp only [VR]
                      refine ⟨g, if n2 = l then off' else off' + l * k, n2 - l, arr, e', fr, hg, ?_, ?_, by omega, by omega, fun _ => rfl, by omega, hh, ?_⟩
                      · congr 2
                        split
                        · rfl
                        · rw [add_off]
                      · by_cases hcl : n2 = l
                        · left; omega
                        · right
                          rw [if_neg hcl]
                          rcases hoff with h0 | h0
                          · omega
                          · rw [h0]
                      · have h5 : l * k + (n2 - l) * k = n2 * k := by rw [← Nat.add_mul]; congr 1; omega
                        have h6 : n2 * k ≤ c * k := Nat.mul_le_mul_right _ (by omega)
                        omega
                · cases hd
              · cases hd
          · cases hd
        · cases hd
      · rename_i z sz n cs e1
        rw [e1] at hx; simp only [VR] at hx
        obtain ⟨ad, c, hv, hnc, hcm, hz1, hz2, hnone, hlen, hc⟩ := hx
        unfold cutDsl at hd
        split at hd
        · rename_i h l e2 e3 e4
          split at hd
          · rename_i hb
            simp only [Bool.and_eq_true, Bool.or_eq_true, Nat.ble_eq, Nat.beq_eq] at hb
            injection hd with hd; subst hd
            have hmx' : mx.map a.eval = none := by
              rw [e2] at hmx
              cases mx with
              | none => rfl
              | some q => simp [OptR] at hmx
            have hb3 := bounds_two (P := P) (isS := true) hlo hhi e3 e4 hb.1.1 (show h ≤ c by omega)
            refine done_pure G (hexec hu (by simp) (y := .slice (if c = l then ad else ad.map (·.add (l * k))) (h - l) (c - l)) ?_) ?_
            · unfold Instr.slice
              simp only [Sem.run_bind, under_of hu, Result.andThen_ok, hv, hmx', hb3, size_of hk, Sem.run_pure]
            · simp only [VR]
              refine ⟨_, c - l, rfl, by omega, by omega, fun hz => ?_, fun hz => ?_, fun hn => ?_, ?_, fun ad' had hne => ?_⟩
              · obtain ⟨h1, h2⟩ := hz1 hz
                subst h1
                refine ⟨by split <;> rfl, by omega⟩
              · have := hz2 hz
                cases ad with
                | none => exact absurd rfl this
                | some ad => split <;> simp
              · have : ad = none := by
                  cases ad with
                  | none => rfl
                  | some ad => split at hn <;> simp at hn
                obtain ⟨h1, h2⟩ := hnone this
                omega
              · rw [List.length_take, List.length_drop, hlen]
                have h5 : l * sz + (h - l) * sz = h * sz := by rw [← Nat.add_mul]; congr 1; omega
                have h6 : h * sz ≤ n * sz := Nat.mul_le_mul_right _ (by omega)
                omega
              · have hcs : cs ≠ [] := by intro e; subst e; simp at hne
                have hn0 : n ≠ 0 := by intro e; subst e; rw [Nat.zero_mul] at hlen; exact hcs (List.eq_nil_of_length_eq_zero hlen)
                have hks : k = sz := by rcases hb.2 with h0 | h0
                                        · exact absurd h0 hn0
                                        · exact h0
                subst hks
                have hlh : h - l ≠ 0 := by intro e; rw [e, Nat.zero_mul, List.take_zero] at hne; exact hne rfl
                rw [if_neg (by omega)] at had
                cases ad with
                | none => simp at had
                | some ad0 =>
                  simp only [Option.map_some, Option.some.injEq] at had
                  subst had
                  obtain ⟨h1, h2⟩ := hc ad0 rfl hcs
                  exact ⟨by rw [Addr.block_add]; exact h1, (h2.drop _).take _⟩
          · cases hd
        · cases hd
      · cases hd
    · cases hd
  · cases hd
end
end Go.Det
