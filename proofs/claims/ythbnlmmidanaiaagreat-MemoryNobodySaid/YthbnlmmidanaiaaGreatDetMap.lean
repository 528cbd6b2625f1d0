/-
  Lengths, least and greatest, conversions, maps.
-/
import Derived.Test.YthbnlmmidanaiaaGreatDetStore
import Derived.Laws.IdiomStrings
set_option linter.unusedVariables false
set_option linter.unusedSimpArgs false
set_option linter.unusedSectionVars false
namespace Go.Det

section
variable {P : Program} {o : Oper} {a : Act} {ρ : Nm} {N : Nat → Prop} {m : DH} {w : World} {t : Slots}

/-- The world is the same but for what was drawn. -/
theorem done_drew (G : MemG ρ N w m) {w' : World} (hh : w'.heap = w.heap) (hos : w'.os = w.os) (ht : w'.tape = w.tape) (hout : w'.output = w.output) {v : DV} {x : Value} (hr : (execOp a.eval o).run P w = .ok (.value x) w')
    (hv : VR ρ N w v x) : Done P o a ρ N m w [] v m := by
  have hs : Step (· ∈ []) ρ m w ρ m w' := ⟨fun _ _ h => h, fun _ _ h => .inl h, fun _ h => by simp at h, fun _ _ _ => rfl, Nat.le_refl _, by rw [hh]; exact Nat.le_refl _, fun _ _ _ => by rw [hh], fun _ arr _ fr h => ⟨arr, fr, by rw [hh]; exact h, rfl⟩, hos, ht, hout⟩
  have hG : MemG ρ N w' m := ⟨fun b g h => by rw [hh]; exact G.dom b g h, G.fresh, G.inj, G.apart, fun g h => by rw [hh]; exact G.below g h⟩
  refine ⟨_, ρ, w', hr, hs, hG, fun b hb => ?_, .inl ⟨x, rfl, VR.later (hs.later G) v x hv⟩⟩
  rcases hb with hb | hb
  · simp at hb
  · exact hG.row_none hb

/-! ### What is read of a slice -/
theorem rowD_spec {x : DV} {v : Value} (hv : VR ρ N w x v) (hR : ∀ b off len cap ex sz, x = .sl b off len cap ex sz → Row ρ N w m b) {n : Nat} {cs : List DV} (h : rowD x m = some (n, cs)) :
    ∃ ad c vs, v = .slice ad n c ∧ VRL ρ N w cs vs ∧ (ad = none → n = 0 ∧ cs = []) ∧ ∀ A, ad = some A → ∀ j u, vs[j]? = some u → w.cell? (A.add j) = some u := by
  unfold rowD at h
  split at h
  · rename_i b off len cap ex sz
    simp only [VR] at hv
    obtain ⟨g, off', c, arr, e', fr, hg, hv, hoff, hl1, hl2, hl3, hl4, hh, hsz⟩ := hv
    split at h
    · rename_i cs0 e ro hb
      split at h
      · rename_i hle
        rw [Nat.ble_eq] at hle
        injection h with h; injection h with h1 h2; subst h1 h2
        obtain ⟨vs, h3, h4⟩ := row_cells (hR _ _ _ _ _ _ rfl) hg hb off
        refine ⟨some ⟨g, off', none⟩, c, vs.take (len * sz), hv, h3.take _, fun h => by simp at h, fun A hA j u hu => ?_⟩
        simp only [Option.some.injEq] at hA
        subst hA
        rw [List.getElem?_take] at hu
        split at hu
        · rename_i hj
          have hc0 : c ≠ 0 := by
            intro e0
            have : len = 0 := by omega
            rw [this] at hj; simp at hj
          have : off' = off := by rcases hoff with h0 | h0
                                  · exact absurd h0 hc0
                                  · exact h0
          rw [this]
          exact h4 j u hu
        · cases hu
      · cases h
    · cases h
  · rename_i z sz n' cs'
    injection h with h; injection h with h1 h2; subst h1 h2
    simp only [VR] at hv
    obtain ⟨ad, c, hv, hnc, hcm, hz1, hz2, hnone, hlen, hc⟩ := hv
    by_cases hcs : cs' = []
    · subst hcs
      exact ⟨ad, c, [], hv, VRL.nil, fun h => ⟨(hnone h).1, rfl⟩, fun A _ j u hu => by simp at hu⟩
    · cases ad with
      | none =>
        have := (hnone rfl).1
        subst this
        rw [Nat.zero_mul] at hlen
        exact absurd (List.eq_nil_of_length_eq_zero hlen) hcs
      | some A =>
        obtain ⟨vs, h3, h4⟩ := of_cellsAt (hc A rfl hcs).2
        exact ⟨some A, c, vs, hv, h3, fun h => by simp at h, fun A' hA j u hu => by
          simp only [Option.some.injEq] at hA
          subst hA
          have := h4 j u hu
          rwa [Nat.zero_add] at this⟩
  · cases h

/-! ### Conversions -/
theorem bytesD_spec : ∀ {cs : List DV} {l : List UInt8} {vs : List Value}, bytesD cs = some l → VRL ρ N w cs vs → ∃ ns : List Int, vs = ns.map (Value.int .u8) ∧ l = ns.map fun n => UInt8.ofNat n.toNat
  | [], l, vs, h, hv => by
    simp only [bytesD] at h; injection h with h; subst h
    simp only [VRL] at hv; subst hv
    exact ⟨[], rfl, rfl⟩
  | d :: cs, l, [], h, hv => by simp [VRL] at hv
  | d :: cs, l, v :: vs, h, hv => by
    unfold bytesD at h
    split at h
    · rename_i e; cases e
    · rename_i n cs' e
      injection e with e1 e2
      subst e1 e2
      split at h
      · rename_i l' hl
        injection h with h; subst h
        obtain ⟨h1, h2⟩ := hv.uncons
        obtain ⟨ns, h3, h4⟩ := bytesD_spec hl h2
        simp only [VR] at h1
        exact ⟨n :: ns, by simp [h1, h3], by simp [h4]⟩
      · cases h
    · cases h

theorem foldl_push : ∀ (ns : List Int) (r : ByteArray), ns.foldl (fun r n => r.push (UInt8.ofNat n.toNat)) r = ⟨r.data ++ (ns.map fun n => UInt8.ofNat n.toNat).toArray⟩
  | [], r => by simp
  | n :: ns, r => by
    simp only [List.foldl_cons]
    rw [foldl_push ns]
    simp [ByteArray.push]

theorem convert_num {src dst : TypeId} {st : TypeDesc} {k k' : IntKind} {n : Int} (h1 : P.underlying src = some st) (h2 : P.underlying dst = some (.int k)) : (convert src dst (.int k' n)).run P w = .ok (.int k (wrapD k n)) w := by
  simp [convert, under_of h1, under_of h2, Conv.intToInt, wrapD_eq]
theorem convert_str {src dst : TypeId} {s : ByteArray} (h1 : P.underlying src = some .string) (h2 : P.underlying dst = some .string) : (convert src dst (.string s)).run P w = .ok (.string s) w := by
  simp [convert, under_of h1, under_of h2]
theorem convert_back {src dst e : TypeId} {x : Value} (h1 : P.underlying src = some (.slice e)) (h2 : P.underlying dst = some .string) (h3 : P.underlying e = some (.int .u8)) : (convert src dst x).run P w = (Conv.bytesToString x).run P w ∨ ∃ k n, x = .int k n ∨ ∃ s, x = .string s := by
  cases x
  case int k n => exact .inr ⟨k, n, .inl rfl⟩
  case string s => exact .inr ⟨.u8, 0, .inr ⟨s, rfl⟩⟩
  all_goals (left; simp [convert, under_of h1, under_of h2, under_of h3])

theorem done_conv (G : MemG ρ N w m) (S : SR ρ N w t a.tmps) {src dst : TypeId} {x : Operand} (ho : o.op = .convert src dst x) (hR : ∀ b off len cap ex sz, ev t x = .sl b off len cap ex sz → Row ρ N w m b) {v : DV} {m' : DH}
    (h : convD P src dst (ev t x) m = some (v, m')) : Done P o a ρ N m w [] v m' := by
  have hx := ev_spec S x
  have hexec : ∀ {y : Value} {w' : World}, (convert src dst (a.eval x)).run P w = .ok y w' → (execOp a.eval o).run P w = .ok (.value y) w' := by
    intro y w' hy
    unfold execOp
    simp only [ho, Sem.run_bind, hy, Result.andThen_ok, Sem.run_pure]
  unfold convD at h
  split at h
  · cases h
  rename_i st hst
  split at h
  · cases h
  rename_i dt hdt
  split at h
  · rename_i k n e
    rw [e] at hx; simp only [VR] at hx
    split at h
    · injection h with h; injection h with h1 h2; subst h1 h2
      exact done_pure G (hexec (by rw [hx]; exact convert_num hst hdt)) (by simp only [VR])
    · cases h
  · rename_i s e
    rw [e] at hx; simp only [VR] at hx
    split at h
    · injection h with h; injection h with h1 h2; subst h1 h2
      exact done_pure G (hexec (by rw [hx]; exact convert_str hst hdt)) (by simp only [VR])
    · rename_i el
      split at h
      · rename_i hel
        split at h
        · rename_i hsz
          rw [Nat.ble_eq] at hsz
          injection h with h; injection h with h1 h2; subst h1 h2
          have hr := run_bytes_of_string (P := P) w src dst el s hst hdt hel
          have hge := grownCap_ge w s.size 0 el
          have hm : grownCap w s.size 0 el ≤ maxLen := grownCap_le_maxLen w s.size 0 el (by simp only [maxLen]; omega)
          have hnew := IsNew.drew w (.cells (bytesRow s (grownCap w s.size 0 el)) el ((bytesRow s (grownCap w s.size 0 el)).size, (bytesRow s (grownCap w s.size 0 el)).size + 1))
          have hvs : ∀ (ρ : Nm) (N : Nat → Prop) (w : World) (l : List UInt8), VRL ρ N w (l.map fun c => DV.int .u8 c.toNat) (l.map fun c => Value.int .u8 c.toNat) := by
            intro ρ N w l
            induction l with
            | nil => exact VRL.nil
            | cons c l ih => exact VRL.cons (by simp only [VR]) ih
          have hsize : (bytesRow s (grownCap w s.size 0 el)).size = grownCap w s.size 0 el := by
            simp only [bytesRow, Array.size_append, Array.size_map, Array.size_replicate]
            have : s.data.size = s.size := rfl
            omega
          have htake : (bytesRow s (grownCap w s.size 0 el)).toList.take (bytesV s).length = s.data.toList.map fun c => Value.int .u8 c.toNat := by
            simp only [bytesRow, bytesV, Array.toList_append, Array.toList_map, List.length_map]
            rw [List.take_left' (by simp)]
          refine done_new G (d := .cells (bytesV s) el false) ⟨_, _, _, hnew, hexec (by rw [hx]; exact hr), fun ρ' L hb => ⟨⟨_, _, hnew.last, fun i hi h => by simp at h; omega, ?_, ?_⟩, ?_⟩⟩
          · rw [hsize]; simp only [bytesV, List.length_map, Array.length_toList]; exact hge
          · rw [htake]; exact hvs _ _ _ _
          · simp only [VR]
            exact ⟨w.heap.size, 0, grownCap w s.size 0 el, _, el, _, hb, rfl, .inr rfl, Nat.le_refl _, hge, fun h => by simp at h, hm, hnew.last, by rw [hsize]; omega⟩
        · cases h
      · cases h
    · cases h
  · rename_i hn1 hn2
    split at h
    · rename_i el
      split at h
      · rename_i hel
        split at h
        · rename_i n cs hrow
          split at h
          · rename_i hlen
            rw [Nat.beq_eq] at hlen
            split at h
            · rename_i l hl
              injection h with h; injection h with h1 h2; subst h1 h2
              obtain ⟨ad, c, vs, hv, hvs, hnone, hcell⟩ := rowD_spec hx hR hrow
              obtain ⟨ns, h3, h4⟩ := bytesD_spec hl hvs
              subst h3 h4
              rcases convert_back (P := P) (w := w) (x := a.eval x) hst hdt hel with hc | ⟨k, n', hc | ⟨s, hc⟩⟩
              · refine done_pure G (x := .string ⟨(ns.map fun n => UInt8.ofNat n.toNat).toArray⟩) (hexec (hc.trans ?_)) (by simp only [VR])
                have hll := hvs.length
                simp only [List.length_map] at hll
                cases ad with
                | none =>
                  obtain ⟨h5, h6⟩ := hnone rfl
                  have : ns = [] := List.eq_nil_of_length_eq_zero (by rw [← hll, h6]; rfl)
                  subst this
                  rw [hv]
                  rfl
                | some A =>
                  have hload := run_loadCells_list (P := P) w A (ns.map (Value.int .u8)) (fun j u hu => hcell A rfl j u hu)
                  rw [List.length_map, ← hll, hlen] at hload
                  rw [hv, run_bytesToString w A n c ns hload, foldl_push]
                  have he0 : ByteArray.empty.data = #[] := rfl
                  rw [he0]
                  simp
              · rw [hv] at hc; cases hc
              · rw [hv] at hc; cases hc
            · cases h
          · cases h
        · cases h
      · cases h
    · cases h

/-! ### Maps -/
theorem list_beq_toList (x y : ByteArray) : (x == y) = (x.data.toList == y.data.toList) := by
  show (x.data == y.data) = _
  rw [Bool.eq_iff_iff, beq_iff_eq, beq_iff_eq]
  exact ⟨fun h => by rw [h], fun h => Array.ext' h⟩
theorem eq_of_bytes {x y : ByteArray} (h : (x == y) = true) : x = y := by
  have h : (x.data == y.data) = true := h
  rw [beq_iff_eq] at h
  cases x; cases y; congr

theorem find_spec {kt : TypeId} {kd : TypeDesc} {k : DV} {kv : Value} (hk : VR ρ N w k kv) (hkd : (∃ q, kd = .int q) ∨ kd = .string) (hk1 : ∀ q, kd = .int q → ∃ i n, k = .int i n) (hk2 : kd = .string → ∃ s, k = .str s) :
    ∀ {es : List (DV × DV × Nat)} {xs : List MapEntry} {i : Nat} {r : Option (Nat × DV)}, EntR ρ N w es xs → findD P kt k es i = some r →
    ∃ r', Instr.findNow kd kv xs i = some r' ∧ (match r, r' with | none, none => True | some (j, v), some (j', v') => j = j' ∧ VR ρ N w v v' ∧ i ≤ j ∧ (∃ e x, es[j - i]? = some e ∧ xs[j - i]? = some x ∧ e.2.1 = v ∧ x.val = v' ∧ VR ρ N w k x.key ∧ kv = x.key) | _, _ => False)
  | [], xs, i, r, h, hf => by
    simp only [EntR] at h; subst h
    simp only [findD] at hf; injection hf with hf; subst hf
    exact ⟨none, rfl, trivial⟩
  | e :: es, xs, i, r, h, hf => by
    simp only [EntR] at h
    obtain ⟨x, xs', rfl, h1, h2, h3, h4⟩ := h
    have hsame : ∀ b, keyEq P kt k e.1 = some b → Instr.sameNow kd kv x.key = some b ∧ (b = true → kv = x.key ∧ VR ρ N w k x.key) := by
      intro b hb
      rcases hkd with ⟨q, rfl⟩ | rfl
      · obtain ⟨i', n, rfl⟩ := hk1 q rfl
        unfold keyEq at hb
        split at hb
        · rename_i k1 a1 k2 b2 e1 e2
          injection e1 with e1a e1b
          subst e1a e1b
          rw [e2] at h1
          simp only [VR] at h1 hk
          split at hb
          · rename_i hkk
            subst hkk
            injection hb with hb
            rw [hk, h1]
            refine ⟨by simp only [Instr.sameNow, if_true]; rw [hb], fun ht => ?_⟩
            subst ht
            have : i' = i' := rfl
            simp at hb
            subst hb
            exact ⟨rfl, by simp only [VR]⟩
          · cases hb
        · rename_i e1 _; cases e1
        · rename_i e1 _; cases e1
        · cases hb
      · obtain ⟨s, rfl⟩ := hk2 rfl
        unfold keyEq at hb
        split at hb
        · rename_i e1 _; cases e1
        · rename_i a1 b1 e1 e2
          injection e1 with e1
          subst e1
          rw [e2] at h1
          simp only [VR] at h1 hk
          injection hb with hb
          rw [hk, h1]
          refine ⟨by simp only [Instr.sameNow]; rw [list_beq_toList, hb], fun ht => ?_⟩
          subst ht
          rw [← list_beq_toList] at hb
          have := eq_of_bytes hb
          subst this
          exact ⟨rfl, by simp only [VR]⟩
        · rename_i e1 _; cases e1
        · cases hb
    simp only [findD] at hf
    split at hf
    · rename_i hb
      injection hf with hf; subst hf
      obtain ⟨h5, h6⟩ := hsame _ hb
      obtain ⟨h7, h8⟩ := h6 rfl
      exact ⟨some (i, x.val), by simp only [Instr.findNow, h5], rfl, h2, Nat.le_refl _, e, x, by simp, by simp, rfl, rfl, h8, h7⟩
    · rename_i hb
      obtain ⟨h5, _⟩ := hsame _ hb
      obtain ⟨r', h6, h7⟩ := find_spec hk hkd hk1 hk2 h4 hf
      refine ⟨r', by simp only [Instr.findNow, h5, h6], ?_⟩
      cases r with
      | none => cases r' with
        | none => trivial
        | some _ => exact h7.elim
      | some p => cases r' with
        | none => exact h7.elim
        | some p' =>
          obtain ⟨j, v⟩ := p
          obtain ⟨j', v'⟩ := p'
          simp only at h7 ⊢
          obtain ⟨h8, h9, h10, e', x', h11, h12, h13⟩ := h7
          have : j - i = (j - (i + 1)) + 1 := by omega
          exact ⟨h8, h9, by omega, e', x', by rw [this]; simpa using h11, by rw [this]; simpa using h12, h13⟩
    · cases hf

/-- A key of a number or a text; of a struct of these. -/
theorem keyOk_spec {kt : TypeId} {k : DV} (h : keyOk P kt k = true) : (∃ kd, P.underlying kt = some kd ∧ ((∃ q, kd = .int q) ∨ kd = .string) ∧ (∀ q, kd = .int q → ∃ i n, k = .int i n) ∧ (kd = .string → ∃ s, k = .str s)) ∨
    ∃ fs cs, P.underlying kt = some (.struct fs) ∧ k = .agg cs ∧ plainFs P cs.length fs.toList = true ∧ plainL cs = true := by
  unfold keyOk at h
  split at h
  · rename_i q hu
    split at h
    · exact .inl ⟨_, hu, .inl ⟨q, rfl⟩, (fun _ _ => ⟨_, _, rfl⟩), (fun h => by cases h)⟩
    · cases h
  · rename_i hu
    split at h
    · exact .inl ⟨_, hu, .inr rfl, (fun _ h => by cases h), (fun _ => ⟨_, rfl⟩)⟩
    · cases h
  · rename_i fs hu
    split at h
    · rename_i cs
      rw [Bool.and_eq_true] at h
      exact .inr ⟨fs, cs, hu, rfl, h.1, h.2⟩
    · cases h
  · cases h

theorem run_checkKey {kt : TypeId} {kd : TypeDesc} {e : Bool} {v : Value} (hu : P.underlying kt = some kd) (hk : (∃ q, kd = .int q) ∨ kd = .string) : (Instr.checkKey e 10000 kt v).run P w = .ok () w := by
  show (Instr.checkKey e (9999 + 1) kt v).run P w = .ok () w
  unfold Instr.checkKey
  rcases hk with ⟨q, rfl⟩ | rfl <;> simp [under_of hu]

theorem run_findKey {kt : TypeId} {kd : TypeDesc} {v : Value} {xs : List MapEntry} {r : Option (Nat × Value)} (hu : P.underlying kt = some kd) (h : Instr.findNow kd v xs 0 = some r) : (Instr.findKey kt v xs).run P w = .ok r w := by
  unfold Instr.findKey
  simp [under_of hu, h]

theorem sameC_spec {x y : DV} {u v : Value} (h : sameC x y = true) (hx : VR ρ N w x u) (hy : VR ρ N w y v) : u = v := by
  unfold sameC at h
  split at h
  · rename_i k a k' b
    rw [Bool.and_eq_true, decide_eq_true_iff, beq_iff_eq] at h
    simp only [VR] at hx hy
    rw [hx, hy, h.1, h.2]
  · rename_i a b
    rw [beq_iff_eq] at h
    simp only [VR] at hx hy
    rw [hx, hy, h]
  · rename_i a b
    rw [← list_beq_toList] at h
    simp only [VR] at hx hy
    rw [hx, hy, eq_of_bytes h]
  · cases h
theorem sameL_spec : ∀ {xs ys : List DV} {us vs : List Value}, sameL xs ys = true → VRL ρ N w xs us → VRL ρ N w ys vs → us = vs
  | [], [], us, vs, _, hx, hy => by
    simp only [VRL] at hx hy
    rw [hx, hy]
  | [], _ :: _, _, _, h, _, _ => by cases h
  | _ :: _, [], _, _, h, _, _ => by cases h
  | x :: xs, y :: ys, us, vs, h, hx, hy => by
    simp only [sameL, Bool.and_eq_true] at h
    cases us with
    | nil => simp [VRL] at hx
    | cons u us => cases vs with
      | nil => simp [VRL] at hy
      | cons v vs =>
        obtain ⟨h1, h2⟩ := hx.uncons
        obtain ⟨h3, h4⟩ := hy.uncons
        rw [sameC_spec h.1 h1 h3, sameL_spec h.2 h2 h4]

theorem plainL_bits {n : Nat} : ∀ {xs : List DV} {us : List Value}, plainL xs = true → VRL ρ N w xs us → (us.zip us).all (fun (x, y) => Instr.sameBits n x y) = true
  | [], us, _, hx => by
    simp only [VRL] at hx; subst hx; rfl
  | x :: xs, us, h, hx => by
    cases us with
    | nil => simp [VRL] at hx
    | cons u us =>
      obtain ⟨h1, h2⟩ := hx.uncons
      have : plainL xs = true ∧ Instr.sameBits n u u = true := by
        cases x with
        | int k a => simp only [VR] at h1; subst h1; exact ⟨h, by cases n <;> simp [Instr.sameBits]⟩
        | bool b => simp only [VR] at h1; subst h1; exact ⟨h, by cases n <;> simp [Instr.sameBits]⟩
        | str s => simp only [VR] at h1; subst h1; exact ⟨h, by cases n <;> simp [Instr.sameBits, list_beq_toList]⟩
        | _ => cases h
      simp only [List.zip_cons_cons, List.all_cons, this.2, Bool.true_and]
      exact plainL_bits this.1 h2

theorem run_forIn {α : Type} {b : α → PUnit → Sem (ForInStep PUnit)} : ∀ l : List α, (∀ a, a ∈ l → (b a ⟨⟩).run P w = .ok (.yield ⟨⟩) w) → (forIn l PUnit.unit b).run P w = .ok ⟨⟩ w
  | [], _ => by simp
  | a :: l, h => by
    rw [List.forIn_cons, Sem.run_bind, h a List.mem_cons_self]
    exact run_forIn l fun a ha => h a (List.mem_cons_of_mem _ ha)

theorem run_checkBasic {t : TypeId} {d : TypeDesc} {n : Nat} {e : Bool} {v : Value} (hu : P.underlying t = some d) (hd : (∃ q, d = .int q) ∨ d = .bool ∨ d = .string) : (Instr.checkKey e (n + 1) t v).run P w = .ok () w := by
  unfold Instr.checkKey
  rcases hd with ⟨q, rfl⟩ | rfl | rfl <;> simp [under_of hu]

theorem plainFs_get {n : Nat} : ∀ {fs : List Field}, plainFs P n fs = true → ∀ f, f ∈ fs → f.offset < n ∧ ∃ d, P.underlying f.type = some d ∧ ((∃ q, d = .int q) ∨ d = .bool ∨ d = .string)
  | [], _, f, hf => by simp at hf
  | g :: fs, h, f, hf => by
    have hg : (g.offset < n ∧ ∃ d, P.underlying g.type = some d ∧ ((∃ q, d = .int q) ∨ d = .bool ∨ d = .string)) ∧ plainFs P n fs = true := by
      unfold plainFs at h
      split at h
      · rename_i q hu
        rw [Bool.and_eq_true, Nat.blt_eq] at h
        exact ⟨⟨h.1, _, hu, .inl ⟨q, rfl⟩⟩, h.2⟩
      · rename_i hu
        rw [Bool.and_eq_true, Nat.blt_eq] at h
        exact ⟨⟨h.1, _, hu, .inr (.inl rfl)⟩, h.2⟩
      · rename_i hu
        rw [Bool.and_eq_true, Nat.blt_eq] at h
        exact ⟨⟨h.1, _, hu, .inr (.inr rfl)⟩, h.2⟩
      · cases h
    rcases List.mem_cons.1 hf with e | hf
    · subst e; exact hg.1
    · exact plainFs_get hg.2 f hf

theorem run_checkStruct {kt : TypeId} {fs : Array Field} {e : Bool} {vs : List Value} (hu : P.underlying kt = some (.struct fs)) (hp : plainFs P vs.length fs.toList = true) : (Instr.checkKey e 10000 kt (.agg ⟨vs⟩)).run P w = .ok () w := by
  show (Instr.checkKey e (9999 + 1) kt (.agg ⟨vs⟩)).run P w = .ok () w
  unfold Instr.checkKey
  simp only [Sem.run_bind, under_of hu, Result.andThen_ok]
  rw [← Array.forIn_toList, run_forIn fs.toList fun f hf => ?_]
  · rfl
  obtain ⟨h1, d, h2, h3⟩ := plainFs_get hp f hf
  have ha : isAggB P f.type = some false := by
    unfold isAggB
    rw [h2]
    rcases h3 with ⟨q, rfl⟩ | rfl | rfl <;> rfl
  have hpart : ∃ v, (part f.type ⟨vs⟩ f.offset).run P w = .ok v w := by
    refine ⟨vs[f.offset], ?_⟩
    unfold part
    simp [isAgg_of ha, h1]
  obtain ⟨v, hv⟩ := hpart
  have hc := run_checkBasic (P := P) (w := w) (n := 9998) (e := e) (v := v) h2 h3
  by_cases hn : f.name = "_"
  · simp [hn]
  · simp [hn, hv, hc]

/-- What two finds come to. -/
def FindR (ρ : Nm) (N : Nat → Prop) (w : World) (k : DV) (kv : Value) (es : List (DV × DV × Nat)) (xs : List MapEntry) (i : Nat) (r : Option (Nat × DV)) (r' : Option (Nat × Value)) : Prop :=
  match r, r' with | none, none => True | some (j, v), some (j', v') => j = j' ∧ VR ρ N w v v' ∧ i ≤ j ∧ (∃ e x, es[j - i]? = some e ∧ xs[j - i]? = some x ∧ e.2.1 = v ∧ x.val = v' ∧ VR ρ N w k x.key ∧ kv = x.key) | _, _ => False

theorem find_ask {kt : TypeId} {fs : Array Field} (hu : P.underlying kt = some (.struct fs)) {cs : List DV} {vs : List Value} (hk : VRL ρ N w cs vs) :
    ∀ {es : List (DV × DV × Nat)} {xs : List MapEntry} {i : Nat} {r : Option (Nat × DV)}, EntR ρ N w es xs → findD P kt (.agg cs) es i = some r →
    ∃ r', (Instr.findAsking kt (.agg ⟨vs⟩) xs i).run P w = .ok r' w ∧ FindR ρ N w (.agg cs) (.agg ⟨vs⟩) es xs i r r'
  | [], xs, i, r, h, hf => by
    simp only [EntR] at h; subst h
    simp only [findD] at hf; injection hf with hf; subst hf
    exact ⟨none, rfl, trivial⟩
  | e :: es, xs, i, r, h, hf => by
    simp only [EntR] at h
    obtain ⟨x, xs', rfl, h1, h2, h3, h4⟩ := h
    have hag : isAggB P kt = some true := by unfold isAggB; rw [hu]
    have hsame : ∀ b, keyEq P kt (.agg cs) e.1 = some b → (Op.equal kt (.agg ⟨vs⟩) x.key).run P w = .ok b w ∧ (b = true → (Value.agg ⟨vs⟩) = x.key) := by
      intro b hb
      unfold keyEq at hb
      split at hb
      · rename_i e1 _; cases e1
      · rename_i e1 _; cases e1
      · rename_i xs0 ys e1 e2
        injection e1 with e1
        subst e1
        rw [e2] at h1
        simp only [VR] at h1
        obtain ⟨us, hus, hy⟩ := h1
        have hq : ∀ b, eqD P 50 kt cs ys = some b → (Op.equal kt (.agg ⟨vs⟩) x.key).run P w = .ok b w := fun b hb =>
          eqD_spec 50 Op.maxDepth (by unfold Op.maxDepth; omega) hb (.inl ⟨hag, _, rfl, hk⟩) (.inl ⟨hag, us, hus, hy⟩)
        split at hb
        · rename_i he
          split at hb
          · rename_i hs
            injection hb with hb; subst hb
            exact ⟨hq _ he, fun _ => by rw [hus, sameL_spec hs hk hy]⟩
          · cases hb
        · rename_i he
          injection hb with hb; subst hb
          exact ⟨hq _ he, fun h => by cases h⟩
        · cases hb
      · cases hb
    simp only [findD] at hf
    split at hf
    · rename_i hb
      injection hf with hf; subst hf
      obtain ⟨h5, h6⟩ := hsame _ hb
      refine ⟨some (i, x.val), by simp [Instr.findAsking, h5], rfl, h2, Nat.le_refl _, e, x, by simp, by simp, rfl, rfl, ?_, h6 rfl⟩
      rw [← h6 rfl]; simp only [VR]; exact ⟨vs, rfl, hk⟩
    · rename_i hb
      obtain ⟨h5, _⟩ := hsame _ hb
      obtain ⟨r', h6, h7⟩ := find_ask hu hk h4 hf
      refine ⟨r', by simp [Instr.findAsking, h5, h6], ?_⟩
      unfold FindR at h7 ⊢
      cases r with
      | none => cases r' with
        | none => trivial
        | some _ => exact h7.elim
      | some p => cases r' with
        | none => exact h7.elim
        | some p' =>
          obtain ⟨j, v⟩ := p
          obtain ⟨j', v'⟩ := p'
          simp only at h7 ⊢
          obtain ⟨h8, h9, h10, e', x', h11, h12, h13⟩ := h7
          have : j - i = (j - (i + 1)) + 1 := by omega
          exact ⟨h8, h9, by omega, e', x', by rw [this]; simpa using h11, by rw [this]; simpa using h12, h13⟩
    · cases hf

theorem sameBits_basic {kd : TypeDesc} {k : DV} {v : Value} (hv : VR ρ N w k v) (hkd : (∃ q, kd = .int q) ∨ kd = .string) (hk1 : ∀ q, kd = .int q → ∃ i n, k = .int i n) (hk2 : kd = .string → ∃ s, k = .str s) : Instr.sameBits 10000 v v = true := by
  show Instr.sameBits (9999 + 1) v v = true
  rcases hkd with ⟨q, rfl⟩ | rfl
  · obtain ⟨i, n, rfl⟩ := hk1 q rfl
    simp only [VR] at hv; subst hv
    simp [Instr.sameBits]
  · obtain ⟨s, rfl⟩ := hk2 rfl
    simp only [VR] at hv; subst hv
    simp only [Instr.sameBits]
    rw [list_beq_toList]
    simp

/-- What a map asks of a key. -/
structure KeyFacts (P : Program) (ρ : Nm) (N : Nat → Prop) (w : World) (kt : TypeId) (k : DV) (kv : Value) : Prop where
  check : ∀ e, (Instr.checkKey e 10000 kt kv).run P w = .ok () w
  bits : Instr.sameBits 10000 kv kv = true
  find : ∀ {es : List (DV × DV × Nat)} {xs : List MapEntry} {r : Option (Nat × DV)}, EntR ρ N w es xs → findD P kt k es 0 = some r → ∃ r', (Instr.findKey kt kv xs).run P w = .ok r' w ∧ FindR ρ N w k kv es xs 0 r r'

theorem key_facts {kt : TypeId} {k : DV} {kv : Value} (h : keyOk P kt k = true) (hk : VR ρ N w k kv) : KeyFacts P ρ N w kt k kv := by
  rcases keyOk_spec h with ⟨kd, hk1, hk2, hk3, hk4⟩ | ⟨fs, cs, hu, rfl, hp, hpl⟩
  · refine ⟨fun e => run_checkKey hk1 hk2, sameBits_basic hk hk2 hk3 hk4, fun he hf => ?_⟩
    obtain ⟨y, hy1, hy2⟩ := find_spec hk hk2 hk3 hk4 he hf
    exact ⟨y, run_findKey hk1 hy1, hy2⟩
  · simp only [VR] at hk
    obtain ⟨vs, rfl, hv⟩ := hk
    refine ⟨fun e => run_checkStruct hu (by rw [← hv.length]; exact hp), ?_, fun {es xs r} he hf => ?_⟩
    · show Instr.sameBits (9999 + 1) (.agg ⟨vs⟩) (.agg ⟨vs⟩) = true
      simp only [Instr.sameBits, beq_self_eq_true, Bool.true_and]
      exact plainL_bits hpl hv
    · obtain ⟨r', h1, h2⟩ := find_ask hu hv he hf
      refine ⟨r', ?_, h2⟩
      unfold Instr.findKey
      cases xs with
      | nil =>
        simp only [Instr.findAsking] at h1
        simp [under_of hu, Instr.findNow]
        simpa using h1
      | cons x xs =>
        simp only [Sem.run_bind, under_of hu, Result.andThen_ok, Instr.findNow, Instr.sameNow]
        exact h1

theorem mapOf_spec {x : DV} {v : Value} (hv : VR ρ N w x v) (hR : ∀ b, x = .mp b → Row ρ N w m b) {es : List (DV × DV × Nat)} {c : Nat} (h : mapOf m x = some (es, c)) :
    (v = .map none ∧ es = []) ∨ ∃ g xs, v = .map (some g) ∧ w.heap[g]? = some (.map xs c) ∧ EntR ρ N w es xs.toList := by
  unfold mapOf at h
  split at h
  · injection h with h; injection h with h1 h2; subst h1 h2
    simp only [VR] at hv
    exact .inl ⟨hv, rfl⟩
  · rename_i b
    simp only [VR] at hv
    obtain ⟨g, hg, hv⟩ := hv
    split at h
    · rename_i es' c' hb
      injection h with h; injection h with h1 h2; subst h1 h2
      obtain ⟨xs, h3, h4⟩ := hR b rfl g _ hg hb
      exact .inr ⟨g, xs, hv, h3, h4⟩
    · cases h
  · cases h

theorem EntR.length : ∀ {es : List (DV × DV × Nat)} {xs : List MapEntry}, EntR ρ N w es xs → es.length = xs.length
  | [], xs, h => by simp only [EntR] at h; subst h; rfl
  | e :: es, xs, h => by
    obtain ⟨x, xs', rfl, _, _, _, h4⟩ := h
    simp [EntR.length h4]

theorem run_getObj_of {g : Nat} {xs : Array MapEntry} {c : Nat} (h : w.heap[g]? = some (.map xs c)) : (getObj g).run P w = .ok (.map xs c) w := by
  simp [getObj, Sem.run, h]
theorem run_getIter_of {g : Nat} {mo : Option Nat} {since last : Nat} {seen : Array Nat} (h : w.heap[g]? = some (.mapIter mo since seen last)) : (getObj g).run P w = .ok (.mapIter mo since seen last) w := by
  simp [getObj, Sem.run, h]

theorem done_lookup (G : MemG ρ N w m) (S : SR ρ N w t a.tmps) {T : TypeId} {x i : Operand} {ok : Bool} (ho : o.op = .lookup T x i ok) (hR : ∀ b, ev t x = .mp b → Row ρ N w m b) {v : DV} {m' : DH}
    (h : okV m (lookupD P T (ev t x) (ev t i) ok m) = some (v, m')) : Done P o a ρ N m w [] v m' := by
  unfold okV at h
  split at h
  case h_2 => cases h
  rename_i d hd
  injection h with h; injection h with h1 h2; subst h1 h2
  have hx := ev_spec S x
  have hi := ev_spec S i
  unfold lookupD at hd
  split at hd
  · rename_i kt et hu
    split at hd
    · cases hd
    · rename_i hk
      have KF := key_facts hk hi
      split at hd
      · rename_i es c hm
        have hfind : ∀ r, findD P kt (ev t i) es 0 = some r → ∃ y : Option (Nat × Value), (Instr.lookup T (a.eval x) (a.eval i) ok).run P w = (do
            let (v, ok') ← match y with
              | some (_, v) => pure (v, true)
              | none => pure (← zeroValue et, false)
            pure (if ok then .tuple #[v, .bool ok'] else v) : Sem Value).run P w ∧ (match r, y with | none, none => True | some (_, v), some (_, v') => VR ρ N w v v' | _, _ => False) := by
          intro r hr
          rcases mapOf_spec hx hR hm with ⟨hv, he⟩ | ⟨g, xs, hv, hg, he⟩
          · subst he
            simp only [findD] at hr; injection hr with hr; subst hr
            have h0 : (Instr.findKey kt (a.eval i) ((#[] : Array MapEntry).toList)).run P w = .ok none w := by
              obtain ⟨r', q1, q2⟩ := KF.find (es := []) (xs := []) (r := none) (by simp only [EntR]) rfl
              cases r' with
              | none => exact q1
              | some _ => exact q2.elim
            refine ⟨none, ?_, trivial⟩
            unfold Instr.lookup
            simp only [Sem.run_bind, under_of hu, Result.andThen_ok, hv, Sem.run_pure, KF.check, h0]
          · obtain ⟨y, hy1, hy2⟩ := KF.find he hr
            refine ⟨y, ?_, ?_⟩
            · unfold Instr.lookup
              simp only [Sem.run_bind, under_of hu, Result.andThen_ok, hv, Sem.run_pure, run_getObj_of hg, KF.check, hy1]
              cases y <;> rfl
            · cases r with
              | none => cases y with
                | none => trivial
                | some _ => exact hy2.elim
              | some p => cases y with
                | none => exact hy2.elim
                | some p' => exact hy2.2.1
        split at hd
        · rename_i j v hf
          injection hd with hd; subst hd
          obtain ⟨y, hy1, hy2⟩ := hfind _ hf
          cases y with
          | none => exact hy2.elim
          | some p =>
            obtain ⟨j', v'⟩ := p
            simp only at hy2
            cases ok with
            | true =>
              refine done_pure G (x := .tuple #[v', .bool true]) ?_ (by simp only [VR]; exact ⟨_, rfl, VRL.cons hy2 (VRL.cons (by simp only [VR]) VRL.nil)⟩)
              unfold execOp
              simp only [ho, Sem.run_bind, hy1]
              simp
            | false =>
              refine done_pure G (x := v') ?_ hy2
              unfold execOp
              simp only [ho, Sem.run_bind, hy1]
              simp
        · rename_i hf
          obtain ⟨y, hy1, hy2⟩ := hfind _ hf
          cases y with
          | some _ => exact hy2.elim
          | none =>
            split at hd
            · rename_i z hz
              injection hd with hd; subst hd
              obtain ⟨iz, zv, hiz, hzv, hvr⟩ := zeroOf_spec hz
              have hzr : (zeroValue et).run P w = .ok zv w := by simp [zeroValue, typeInfo, hiz, hzv]
              cases ok with
              | true =>
                refine done_pure G (x := .tuple #[zv, .bool false]) ?_ (by simp only [VR]; exact ⟨_, rfl, VRL.cons (hvr _ _ _).1 (VRL.cons (by simp only [VR]) VRL.nil)⟩)
                unfold execOp
                simp only [ho, Sem.run_bind, hy1, hzr]
                simp
              | false =>
                refine done_pure G (x := zv) ?_ (hvr _ _ _).1
                unfold execOp
                simp only [ho, Sem.run_bind, hy1, hzr]
                simp
            · cases hd
        · cases hd
      · cases hd
  · cases hd
end
end Go.Det
