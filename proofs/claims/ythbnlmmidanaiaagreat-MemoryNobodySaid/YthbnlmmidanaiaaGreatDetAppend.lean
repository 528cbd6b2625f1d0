/-
  Adding to a slice.
-/
import Derived.Test.YthbnlmmidanaiaaGreatDetMapSet
import Derived.ArgAppend
set_option linter.unusedVariables false
set_option linter.unusedSimpArgs false
set_option linter.unusedSectionVars false
namespace Go.Det

section
variable {P : Program} {o : Oper} {a : Act} {ρ : Nm} {N : Nat → Prop} {m : DH} {w : World} {t : Slots}

theorem append_types {ts : Array TypeId} {T U e e' : TypeId} {ty : TypeId} {args : Array Value} (h0 : ts[0]? = some T) (h1 : ts[1]? = some U) (hT : P.underlying T = some (.slice e)) (hU : P.underlying U = some (.slice e')) :
    (Builtin.append_ ts ty args).run P w = (Builtin.append_ #[T, T] ty args).run P w := by
  unfold Builtin.append_
  have h2 : (#[T, T] : Array TypeId)[0]? = some T := rfl
  have h3 : (#[T, T] : Array TypeId)[1]? = some T := rfl
  rw [h0, h1, h2, h3]
  cases args[0]? with
  | none => rfl
  | some s =>
    cases args[1]? with
    | none => rfl
    | some x =>
      simp only [Sem.run_bind, under_of hT, Result.andThen_ok]
      cases s with
      | slice base sLen sCap =>
        simp only [Sem.run_bind]
        cases (sizeOf e).run P w with
        | halt _ _ => rfl
        | ok k w1 => simp only [Result.andThen_ok, under_of hT, under_of hU, Sem.run_pure]
      | _ => rfl

/-- What a slice that is laid into a world at least of a row's size comes to. -/
theorem fits_spec {e : TypeId} {n : Nat} (h : fitsD P e n = true) : ∃ i, P.info? e = some i ∧ n * i.bytes ≤ 70368744177664 ∧ n ≤ 70368744177664 := by
  unfold fitsD at h
  split at h
  · rename_i i hi
    simp only [Bool.and_eq_true, Nat.ble_eq, Nat.blt_eq] at h
    exact ⟨i, hi, h.1, Nat.le_trans (Nat.le_mul_of_pos_right _ h.2) h.1⟩
  · cases h

theorem zeroCells_size (z : Array Value) (n : Nat) : (Builtin.zeroCells z n).size = n * z.size := by simp [Builtin.zeroCells]

/-- A new row. -/
theorem app_new (G : MemG ρ N w m) {w' : World} {e : TypeId} {cs : List DV} {vs : List Value} {arr : Array Value} {n sz c : Nat} (hn : IsNew w w' (.cells arr e)) (hv : VRL ρ N w cs vs) (ht : arr.toList.take vs.length = vs)
    (hc1 : n ≤ c) (hc2 : c ≤ maxLen) (hc3 : c * sz ≤ arr.size) (hr : (execOp a.eval o).run P w = .ok (.value (.slice (some ⟨w.heap.size, 0, none⟩) n c)) w') :
    Done P o a ρ N m w [] (.sl m.n 0 n n false sz) (m.add (.cells cs e false)) := by
  refine done_new G (d := .cells cs e false) ⟨_, _, _, hn, hr, fun ρ' L hb => ⟨obj_cells hn.last (VRL.later L _ _ hv) ht, ?_⟩⟩
  simp only [VR]
  exact ⟨w.heap.size, 0, c, arr, e, (0, 0), hb, rfl, .inr rfl, Nat.le_refl _, hc1, (fun h => by cases h), hc2, hn.last, by omega⟩

theorem maxLen_eq : maxLen = 9223372036854775807 := by simp [maxLen]

/-- Nobody knows whether there is room, and there is: the new name is the old row's. -/
theorem app_open_room (G : MemG ρ N w m) {b g : Nat} (hg : ρ b = some g) {cs new : List DV} {e : TypeId} (hb : m.h.get b = some (.cells cs e false)) (R : Row ρ N w m b) {news : List Value} (hnew : VRL ρ N w new news)
    {n c sz k : Nat} (hn : n = cs.length + new.length) {arr : Array Value} {fr : Nat × Nat} (harr : w.heap[g]? = some (.cells arr e fr)) (hsz : c * sz ≤ arr.size) (hnc : k ≤ c) (hk : k * sz = n) (hcm : c ≤ maxLen) (hnz : n ≤ arr.size)
    (hr : (execOp a.eval o).run P w = .ok (.value (.slice (some ⟨g, 0, none⟩) k c)) (w.setCells g cs.length news)) :
    Done P o a ρ N m w [b] (.sl m.n 0 k k false sz) { h := (m.h.set m.n (.cells (cs ++ new) e false)).set b .dead, n := m.n + 1, wrs := addW b m.wrs } := by
  obtain ⟨arr0, fr0, h2, h3, h4, h5⟩ := R g _ hg hb
  rw [harr] at h2
  injection h2 with h2; injection h2 with e1 e2 e3; subst e1 e3
  have hbn := (G.dom b g hg).1
  obtain ⟨h6, h7⟩ := setCells_spec g news cs.length w harr
  have hs : Step (· ∈ [b]) ρ m w (nm ρ m.n g) { h := (m.h.set m.n (.cells (cs ++ new) e false)).set b .dead, n := m.n + 1, wrs := addW b m.wrs } (w.setCells g cs.length news) := by
    refine ⟨fun b' g' hb' => ?_, fun b' g' hb' => ?_, fun b' hb' => by simp at hb'; subst hb'; exact ⟨_, hb, by simp⟩, fun b' hb' hw => ?_, Nat.le_succ _, by rw [h6.size]; exact Nat.le_refl _, fun k hk h => h6.other k (fun e => ?_), fun k arr' e' fr' hk => ?_, h6.os, h6.tape, h6.output⟩
    · have := (G.dom b' g' hb').1
      simp only [nm]; rw [if_neg (by omega)]; exact hb'
    · simp only [nm] at hb'
      split at hb'
      · injection hb' with hb'; right; subst hb'; exact ⟨by omega, .inr ⟨b, by simp, hg⟩⟩
      · exact .inl hb'
    · have : b' ≠ b := by simpa using hw
      rw [PM.get_set_ne _ _ (Ne.symm this), PM.get_set_ne _ _ (by omega)]
    · subst e; exact h b (by simp) hg
    · by_cases e : k = g
      · subst e; exact h6.shape _ _ _ hk
      · exact ⟨arr', fr', by rw [h6.other k e]; exact hk, rfl⟩
  have hG : MemG (nm ρ m.n g) N (w.setCells g cs.length news) { h := (m.h.set m.n (.cells (cs ++ new) e false)).set b .dead, n := m.n + 1, wrs := addW b m.wrs } := by
    refine ⟨fun b' g' h => ?_, fun b' h => ?_, fun b1 b2 g' o1 o2 q1 q2 q3 q4 q5 q6 => ?_, hs.apart G, fun g' hg' => Nat.lt_of_lt_of_le (G.below g' hg') hs.size⟩
    · rw [h6.size]
      simp only [nm] at h
      split at h
      · injection h with h; subst h; have := (G.dom b g hg).2; show _ < m.n + 1 ∧ _; omega
      · have := G.dom b' g' h; show _ < m.n + 1 ∧ _; omega
    · have hb' : m.n + 1 ≤ b' := h
      rw [PM.get_set_ne _ _ (by omega), PM.get_set_ne _ _ (by omega)]
      exact G.fresh b' (by omega)
    · -- a name that is not dead: not b
      have key : ∀ b' o', ((m.h.set m.n (.cells (cs ++ new) e false)).set b .dead).get b' = some o' → o' ≠ .dead → b' ≠ b := by
        intro b' o' h8 h9 e'
        subst e'
        rw [PM.get_set_same] at h8
        injection h8 with h8; exact h9 h8.symm
      have n1 := key b1 o1 q3 q5
      have n2 := key b2 o2 q4 q6
      rw [PM.get_set_ne _ _ (Ne.symm n1)] at q3
      rw [PM.get_set_ne _ _ (Ne.symm n2)] at q4
      simp only [nm] at q1 q2
      split at q1 <;> split at q2
      · omega
      · rename_i f1 f2
        injection q1 with q1
        subst q1
        rw [PM.get_set_ne _ _ (Ne.symm f2)] at q4
        exact absurd (G.inj b b2 g _ o2 hg q2 hb q4 (by simp) q6).symm n2
      · rename_i f1 f2
        injection q2 with q2
        subst q2
        rw [PM.get_set_ne _ _ (Ne.symm f1)] at q3
        exact absurd (G.inj b b1 g _ o1 hg q1 hb q3 (by simp) q5).symm n1
      · rename_i f1 f2
        rw [PM.get_set_ne _ _ (Ne.symm f1)] at q3
        rw [PM.get_set_ne _ _ (Ne.symm f2)] at q4
        exact G.inj b1 b2 g' o1 o2 q1 q2 q3 q4 q5 q6
  have L := hs.later G
  have hnl := hnew.length
  refine ⟨_, nm ρ m.n g, _, hr, hs, hG, fun b' hb' => ?_, .inl ⟨_, rfl, ?_⟩⟩
  · intro g' q hg' hq
    by_cases e' : b' = b
    · subst e'
      rw [PM.get_set_same] at hq
      injection hq with hq
      subst hq
      trivial
    · have hge : m.n ≤ b' := by
        rcases hb' with h | h
        · simp at h; exact absurd h e'
        · exact h
      simp only [nm] at hg'
      split at hg'
      · rename_i e''
        subst e''
        injection hg' with hg'
        subst hg'
        rw [PM.get_set_ne _ _ (Ne.symm e'), PM.get_set_same] at hq
        injection hq with hq
        subst hq
        refine ⟨_, fr, h7, ?_, ?_, ?_⟩
        · intro i hi
          have : i < arr.size := by simpa [setL_length] using hi
          exact h3 i this
        · simp [setL_length]; omega
        · simp only
          have : (setL arr.toList cs.length news).take (cs ++ new).length = arr.toList.take cs.length ++ news := by
            rw [List.length_append, hnl]
            have hh : ∀ (xs l : List Value) (i : Nat), i + xs.length ≤ l.length → (setL l i xs).take (i + xs.length) = l.take i ++ xs := by
              intro xs
              induction xs with
              | nil => intro l i _; simp [setL]
              | cons x xs ih =>
                intro l i hl
                simp only [List.length_cons] at hl
                simp only [setL, List.length_cons]
                rw [show i + (xs.length + 1) = (i + 1) + xs.length by omega, ih (l.set i x) (i + 1) (by simp; omega)]
                have : (l.set i x).take (i + 1) = l.take i ++ [x] := by
                  rw [List.take_add_one]
                  simp [List.take_set_of_le, show i < l.length by omega]
                rw [this]; simp
            exact hh news arr.toList cs.length (by simp; omega)
          rw [this]
          exact VRL.later L _ _ (h5.append hnew)
      · have := (G.dom b' g' hg').1; omega
  · simp only [VR]
    exact ⟨g, 0, c, _, e, fr, (by simp [nm]), rfl, .inr rfl, Nat.le_refl _, hnc, (fun h => by cases h), hcm, h7, by simp [setL_length]; omega⟩

/-- Nothing is added. -/
theorem run_append_zero {T e : TypeId} {ty : TypeId} {i : TypeInfo} (hT : P.underlying T = some (.slice e)) (hi : P.info? e = some i) {base : Option Addr} {len c : Nat} {ad : Option Addr} {c' : Nat} (h : len ≤ c) :
    (Builtin.append_ #[T, T] ty #[.slice base len c, .slice ad 0 c']).run P w = .ok (.slice base len c) w := by
  have hf : (Builtin.firstCells i.size 0 (.slice ad 0 c')).run P w = .ok #[] w := by
    cases ad with
    | none => simp [Builtin.firstCells]
    | some A => simp [Builtin.firstCells, loadCells, loadCellsFrom]
  cases base with
  | none => simp [Builtin.append_, under_of hT, sizeOf, typeInfo, hi, Builtin.lenOf, h, hf]
  | some b => simp [Builtin.append_, under_of hT, sizeOf, typeInfo, hi, Builtin.lenOf, h, hf, storeCells]

theorem done_append (G : MemG ρ N w m) (S : SR ρ N w t a.tmps) {c : Call} (ho : o.op = .call c) (hc : c.callee = .builtin .append) {s x : DV} (hx : evs t c.args.toList = [s, x])
    (hRs : ∀ b off len cap ex sz, s = .sl b off len cap ex sz → Row ρ N w m b) (hRx : ∀ b off len cap ex sz, x = .sl b off len cap ex sz → Row ρ N w m b) {d : DV} {m' : DH}
    (h : appD P c.argTypes[0]? c.argTypes[1]? s x m = some (d, m')) : Done P o a ρ N m w [] d m' ∨ ∃ b off len cap ex sz, s = .sl b off len cap ex sz ∧ Done P o a ρ N m w [b] d m' := by
  obtain ⟨sv, xv, hv, hsv, hxv⟩ := args_two S hx
  obtain ⟨ccs, hccs⟩ := exec_builtin (P := P) (w := w) (a := a) ho hc
  unfold appD at h
  cases hT0 : c.argTypes[0]? with
  | none => rw [hT0] at h; simp at h
  | some T =>
  cases hU0 : c.argTypes[1]? with
  | none => rw [hU0] at h; cases hq : (c.argTypes[0]?.bind P.underlying) <;> simp [hq] at h
  | some U =>
  rw [hT0, hU0] at h
  simp only [Option.bind_some] at h
  split at h
  case h_2 => cases h
  rename_i e e2 hT hU
  split at h
  case h_2 => cases h
  rename_i k new len hrow hlen
  split at h
  case h_2 => cases h
  rename_i hfit
  obtain ⟨ie, hie, hfit1, hfit2⟩ := fits_spec hfit
  unfold appendD at h
  split at h
  case h_2 => cases h
  rename_i sz z hsz hz
  split at h
  case h_1 => cases h
  rename_i hb
  simp only [Bool.and_eq_true, Nat.blt_eq, Nat.beq_eq] at hb
  obtain ⟨⟨⟨hb1, hb2⟩, hb3⟩, hb4⟩ := hb
  obtain ⟨i, zv, hi, hzv, hzr⟩ := zeroOf_spec hz
  rw [hie] at hi; injection hi with hi; subst hi
  obtain ⟨i', hi', hsize⟩ := info_of_size hsz
  rw [hie] at hi'; injection hi' with hi'; subst hi'
  subst hsize
  have hzs : zv.cells.size = ie.size := by
    have := (hzr ρ N w).2.length
    simp at this
    omega
  obtain ⟨ad, cx, vs, hxs, hvs, hnone, hcell⟩ := rowD_spec hxv hRx hrow
  subst hxs
  have hvl : vs.length = k * ie.size := by rw [← hvs.length]; exact hb2
  have hone : ∀ u ∈ vs, u.oneCell' = true := fun u hu => one_oneCell (allOne_values hvs hb3 u hu)
  have hexec : ∀ {y : Value} {w' : World}, (Builtin.append_ #[T, T] o.type #[sv, .slice ad k cx]).run P w = .ok y w' → (execOp a.eval o).run P w = .ok (.value y) w' := by
    intro y w' hy
    rw [hccs, hv]
    simp only [builtin, Sem.run_bind, append_types hT0 hU0 hT hU, hy, Result.andThen_ok, Sem.run_pure]
  have hm1 := maxLen_eq
  split at h
  · rename_i s' sz0
    left
    simp only [lenOfD] at hlen
    injection hlen with hlen
    subst hlen
    have hsv0 := hsv
    simp only [VR] at hsv
    obtain ⟨ad2, c2, hsv, _, _, hz1, _, _, _, _⟩ := hsv
    obtain ⟨h1, h2⟩ := hz1 trivial
    subst h1 h2 hsv
    rw [Nat.zero_add] at hfit1 hfit2
    split at h
    · injection h with h; injection h with h1 h2; subst h1 h2
      exact done_pure G (hexec (run_append_zero hT hie (Nat.le_refl _))) hsv0
    · rename_i hk
      injection h with h; injection h with h1 h2; subst h1 h2
      have hk0 : 0 < k := Nat.pos_of_ne_zero hk
      cases ad with
      | none => have := (hnone rfl).1; omega
      | some A =>
        have hr := run_append_nil (P := P) w T o.type e ie zv hT hie hzv A k cx vs hvl (hcell A rfl) hk0 (by omega) (by omega)
        have hge := grownCap_ge w k 0 e
        refine app_new G (IsNew.drew w _) hvs ?_ hge (grownCap_le_maxLen w k 0 e (by omega)) ?_ (hexec hr)
        · simp
        · rw [Array.size_append, zeroCells_size, hzs]
          simp only [List.size_toArray, hvl, ← Nat.add_mul]
          exact Nat.mul_le_mul_right _ (by omega)
  · rename_i s' b off len' cap ex sz'
    right
    simp only [lenOfD] at hlen
    injection hlen with hlen
    subst hlen
    refine ⟨b, off, len', cap, ex, sz', rfl, ?_⟩
    have R := hRs _ _ _ _ _ _ rfl
    simp only [VR] at hsv
    obtain ⟨g, off', cc, arr, e3, fr, hg, hsv, hoff, hl1, hl2, hl3, hl4, hh, hsz2⟩ := hsv
    subst hsv
    split at h
    · rename_i cs e' ro hbm
      split at h
      · cases h
      · rename_i hb5
        simp only [Bool.and_eq_true, Nat.beq_eq, Nat.ble_eq] at hb5
        obtain ⟨rfl, hb5⟩ := hb5
        obtain ⟨arr0, fr0, hh0, hfr0, hle0, hvr0⟩ := R g _ hg hbm
        rw [hh] at hh0
        injection hh0 with hh0; injection hh0 with f1 f2 f3; subst f1 f2 f3
        have hdone : ∀ {d : DV} {m' : DH}, Done P o a ρ N m w [] d m' → (∀ x, x < m.n → m'.h.get x = m.h.get x) → Done P o a ρ N m w [b] d m' := by
          intro d m' hd hsame
          obtain ⟨r, ρ', w', q1, q2, q3, q4, q5⟩ := hd
          refine ⟨r, ρ', w', q1, ⟨q2.ext, fun b' g' h => ?_, fun b' hb' => by simp at hb'; subst hb'; exact ⟨_, hbm, by simp⟩, fun b' hb' _ => hsame b' hb', q2.le, q2.size, fun k hk _ => q2.frame k hk (fun b0 h0 => by simp at h0), q2.shape, q2.os, q2.tape, q2.output⟩, q3, fun b' hb' => ?_, q5⟩
          · rcases q2.new b' g' h with h1 | ⟨h1, h2 | ⟨b0, h2, _⟩⟩
            · exact .inl h1
            · exact .inr ⟨h1, .inl h2⟩
            · simp at h2
          · rcases hb' with hb' | hb'
            · simp at hb'
              subst hb'
              have hbn := (G.dom b' g hg).1
              exact q2.row_old G hbn (by simp) R
            · exact q4 b' (.inr hb')
        split at h
        · -- room
          rename_i hroom
          rw [Nat.ble_eq] at hroom
          unfold appRoom at h
          split at h
          case h_2 => cases h
          rename_i hb6
          simp only [Bool.and_eq_true, Bool.not_eq_true', Nat.ble_eq] at hb6
          obtain ⟨hro, hb6⟩ := hb6
          subst hro
          injection h with h; injection h with h1 h2; subst h1 h2
          have hk2 : off + len' * ie.size + new.length ≤ cs.length := by
            rw [hb2, Nat.add_assoc, ← Nat.add_mul]; exact hb6
          obtain ⟨_, h2, h3⟩ := store_row (P := P) R hg hbm hvs hb3 hk2
          have hr : (Builtin.append_ #[T, T] o.type #[.slice (some ⟨g, off', none⟩) len' cc, .slice ad k cx]).run P w = .ok (.slice (some ⟨g, off', none⟩) (len' + k) cc) (w.setCells g (off + len' * ie.size) vs) := by
            by_cases hk0 : k = 0
            · subst hk0
              have : vs = [] := List.eq_nil_of_length_eq_zero (by rw [hvl]; simp)
              subst this
              exact run_append_zero hT hie (Nat.le_trans hl1 hl2)
            · cases ad with
              | none => have := (hnone rfl).1; omega
              | some A =>
                have : off' = off := by rcases hoff with h0 | h0
                                        · omega
                                        · exact h0
                subst this
                refine run_append_room_cells w T o.type e ie hT hie g off' len' cc A k cx vs hvl (hcell A rfl) hone (by omega) (fun j hj => ?_) (fun j hj => ?_)
                · have : off' + len' * ie.size + j < arr.size := by rw [hvl] at hj; rw [← hvl, ← hvs.length] at hj; omega
                  simp [World.cell?, hh, this]
                · have h8 : off' + len' * ie.size + j < arr.size := by rw [hvl] at hj; rw [← hvl, ← hvs.length] at hj; omega
                  have h9 := hfr0 _ h8
                  simp only [World.frozen?, hh]
                  simp
                  omega
          refine done_set G hg hbm rfl h2 (hexec hr) fun L => ⟨h3 L, .inl ⟨_, rfl, ?_⟩⟩
          obtain ⟨h6, h7⟩ := setCells_spec g vs (off + len' * ie.size) w hh
          simp only [VR]
          exact ⟨g, off', cc, _, _, fr, hg, rfl, hoff, hroom, hl2, hl3, hl4, h7, by simp [setL_length]; omega⟩
        · rename_i hroom
          have hroom : ¬ len' + k ≤ cap := by intro e4; rw [← Nat.ble_eq, hroom] at e4; cases e4
          have hk0 : 0 < k := by omega
          cases ad with
          | none => have := (hnone rfl).1; omega
          | some A =>
          obtain ⟨us, hu1, hu2⟩ := row_cells R hg hbm off
          have husl := hu1.length
          rw [List.length_drop] at husl
          -- what it holds
          have holds : ∀ j u, (us.take (len' * ie.size))[j]? = some u → w.cell? ((⟨g, off', none⟩ : Addr).add j) = some u := by
            intro j u hu
            rw [List.getElem?_take] at hu
            split at hu
            · rename_i hj
              have hc0 : cc ≠ 0 := by
                intro e0
                have : len' = 0 := by omega
                rw [this] at hj; simp at hj
              have : off' = off := by rcases hoff with h0 | h0
                                      · exact absurd h0 hc0
                                      · exact h0
              rw [this]
              exact hu2 j u hu
            · cases hu
          have hul : (us.take (len' * ie.size)).length = len' * ie.size := by rw [List.length_take]; omega
          have hgrow : cc < len' + k → ∃ c3, len' + k ≤ c3 ∧ c3 ≤ maxLen ∧ ∃ arr3, c3 * ie.size ≤ arr3.size ∧ arr3.toList.take (us.take (len' * ie.size) ++ vs).length = us.take (len' * ie.size) ++ vs ∧
              (Builtin.append_ #[T, T] o.type #[.slice (some ⟨g, off', none⟩) len' cc, .slice (some A) k cx]).run P w = .ok (.slice (some ⟨w.heap.size, 0, none⟩) (len' + k) c3) (w.drew.alloc (.cells arr3 e)) := by
            intro hlt
            have hr := run_append_grow (P := P) w T o.type e ie zv hT hie hzv ⟨g, off', none⟩ len' cc _ hul holds A k cx vs hvl (hcell A rfl) hlt (by omega) (growslice_fits hlt (by omega))
            have hge := grownCap_ge w (len' + k) cc e
            refine ⟨_, hge, grownCap_le_maxLen w (len' + k) cc e (by omega), _, ?_, ?_, hr⟩
            · simp only [Array.size_append, zeroCells_size, hzs, List.size_toArray, hul, hvl, ← Nat.add_mul]
              exact Nat.mul_le_mul_right _ (by omega)
            · rw [Array.toList_append, Array.toList_append]
              exact List.take_left
          split at h
          · -- none
            rename_i hex
            unfold appNone at h
            injection h with h; injection h with h1 h2; subst h1 h2
            have hcc := hl3 rfl
            obtain ⟨c3, hc1, hc2, arr3, hc3, hc4, hr⟩ := hgrow (by omega)
            have hv3 : VRL ρ N w ((cs.drop off).take (len' * ie.size) ++ new) (us.take (len' * ie.size) ++ vs) := (hu1.take _).append hvs
            refine hdone (app_new G (IsNew.drew w _) hv3 hc4 hc1 hc2 hc3 (hexec hr)) fun x hx => ?_
            rw [PM.get_set_ne _ _ (by omega)]
          · -- nobody knows
            unfold appOpen at h
            split at h
            case h_2 => cases h
            rename_i hb6
            simp only [Bool.and_eq_true, Bool.not_eq_true', Nat.beq_eq] at hb6
            obtain ⟨⟨⟨hro, hb6⟩, hb7⟩, hb8⟩ := hb6
            subst hro hb7 hb8
            injection h with h; injection h with h1 h2; subst h1 h2
            have htk : us.take (len' * ie.size) = us := List.take_of_length_le (by omega)
            rw [List.drop_zero] at hu1
            by_cases hlt : cc < len' + k
            · obtain ⟨c3, hc1, hc2, arr3, hc3, hc4, hr⟩ := hgrow hlt
              rw [htk] at hc4
              obtain ⟨r, ρ', w', q1, q2, q3, q4, q5⟩ := app_new (sz := ie.size) G (IsNew.drew w (.cells arr3 _)) (hu1.append hvs) hc4 hc1 hc2 hc3 (hexec hr)
              have hbn := (G.dom b g hg).1
              refine ⟨r, ρ', w', q1, ⟨q2.ext, fun b' g' h => ?_, fun b' hb' => by simp at hb'; subst hb'; exact ⟨_, hbm, by simp⟩, fun b' hb' hw => ?_, q2.le, q2.size, fun k hk _ => q2.frame k hk (fun b0 h0 => by simp at h0), q2.shape, q2.os, q2.tape, q2.output⟩, ⟨q3.dom, fun b' hb' => ?_, fun b1 b2 g' o1 o2 p1 p2 p3 p4 p5 p6 => ?_, q3.apart, q3.below⟩, fun b' hb' => ?_, q5⟩
              · rcases q2.new b' g' h with h1 | ⟨h1, h2 | ⟨b0, h2, _⟩⟩
                · exact .inl h1
                · exact .inr ⟨h1, .inl h2⟩
                · simp at h2
              · have hne : b' ≠ b := by simpa using hw
                rw [PM.get_set_ne _ _ (Ne.symm hne), PM.get_set_ne _ _ (by omega)]
              · have hb'' : m.n + 1 ≤ b' := hb'
                rw [PM.get_set_ne _ _ (by omega)]
                exact q3.fresh b' hb'
              · have key : ∀ b' o', ((m.h.set m.n (.cells (cs ++ new) e3 false)).set b .dead).get b' = some o' → o' ≠ .dead → (m.h.set m.n (.cells (cs ++ new) e3 false)).get b' = some o' := by
                  intro b' o' h8 h9
                  by_cases e6 : b = b'
                  · subst e6; rw [PM.get_set_same] at h8; injection h8 with h8; exact absurd h8.symm h9
                  · rwa [PM.get_set_ne _ _ e6] at h8
                exact q3.inj b1 b2 g' o1 o2 p1 p2 (key _ _ p3 p5) (key _ _ p4 p6) p5 p6
              · intro g' q hg' hq
                by_cases e6 : b = b'
                · subst e6; rw [PM.get_set_same] at hq; injection hq with hq; subst hq; trivial
                · rw [PM.get_set_ne _ _ e6] at hq
                  have : m.n ≤ b' := by
                    rcases hb' with h | h
                    · simp at h; exact absurd h.symm e6
                    · exact h
                  exact q4 b' (.inr this) g' q hg' hq
            · have hoff0 : off' = 0 := by rcases hoff with h0 | h0
                                          · omega
                                          · exact h0
              subst hoff0
              have hcsz : (len' + k) * ie.size ≤ cc * ie.size := Nat.mul_le_mul_right _ (by omega)
              have hr := run_append_room_cells (P := P) w T o.type _ ie hT hie g 0 len' cc A k cx vs hvl (hcell A rfl) hone (by omega) (fun j hj => by
                have : 0 + len' * ie.size + j < arr.size := by rw [hvl] at hj; rw [Nat.add_mul] at hcsz; omega
                have h7 : arr[0 + len' * ie.size + j]? = some arr[0 + len' * ie.size + j] := Array.getElem?_eq_getElem this
                simp only [World.cell?, hh, h7]; rfl) (fun j hj => by
                have h8 : 0 + len' * ie.size + j < arr.size := by rw [hvl] at hj; rw [Nat.add_mul] at hcsz; omega
                have h9 := hfr0 _ h8
                simp only [World.frozen?, hh, Bool.and_eq_false_iff, decide_eq_false_iff_not]
                omega)
              rw [show 0 + len' * ie.size = cs.length by omega] at hr
              exact app_open_room G hg hbm R hvs (n := cs.length + new.length) rfl hh (by omega) (by omega) (by rw [Nat.add_mul]; omega) hl4 (by rw [hb2, hb6, ← Nat.add_mul]; omega) (hexec hr)
    · cases h
  · cases h
end
end Go.Det
