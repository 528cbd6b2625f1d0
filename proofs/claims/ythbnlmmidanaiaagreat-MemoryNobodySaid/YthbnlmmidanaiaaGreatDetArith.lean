/-
  Whole numbers, texts: the quick forms are the model's.
-/
import Derived.Test.YthbnlmmidanaiaaGreatDetOps
set_option linter.unusedVariables false
set_option linter.unusedSimpArgs false
set_option linter.unusedSectionVars false
namespace Go.Det

theorem fits_range {k : IntKind} {n : Int} (h : fitsK k n = true) : k.min ≤ n ∧ n ≤ k.max := by
  cases n with
  | ofNat a => cases k <;> simp [fitsK, Nat.blt_eq, IntKind.min, IntKind.max, IntKind.signed, IntKind.bits] at h ⊢ <;> omega
  | negSucc a => cases k <;> simp [fitsK, Nat.blt_eq, IntKind.min, IntKind.max, IntKind.signed, IntKind.bits] at h ⊢ <;> omega

theorem wrap_range {k : IntKind} {n : Int} (h1 : k.min ≤ n) (h2 : n ≤ k.max) : k.wrap n = n := by
  cases k <;> simp [IntKind.min, IntKind.max, IntKind.signed, IntKind.bits] at h1 h2 <;> simp [IntKind.wrap, IntKind.signed, IntKind.bits] <;> omega

theorem wrapD_eq (k : IntKind) (n : Int) : wrapD k n = k.wrap n := by
  unfold wrapD
  split
  · rename_i h
    obtain ⟨h1, h2⟩ := fits_range h
    exact (wrap_range h1 h2).symm
  · rfl

theorem nn_of {n : Int} (h : nnB n = true) : ∃ a : Nat, n = Int.ofNat a := by
  cases n with
  | ofNat a => exact ⟨a, rfl⟩
  | negSucc a => simp [nnB] at h

theorem fits_lt {k : IntKind} {a : Nat} (h : fitsK k (Int.ofNat a) = true) : a < 2 ^ k.bits ∧ (k.signed = true → a < 2 ^ (k.bits - 1)) := by
  cases k <;> simp [fitsK, Nat.blt_eq, IntKind.signed, IntKind.bits] at h ⊢ <;> omega

theorem toNat_ofInt (n a : Nat) (h : a < 2 ^ n) : (BitVec.ofInt n (Int.ofNat a)).toNat = a := by
  have : BitVec.ofInt n (Int.ofNat a) = BitVec.ofNat n a := BitVec.ofInt_natCast n a
  rw [this, BitVec.toNat_ofNat, Nat.mod_eq_of_lt h]

theorem wrap_nat {k : IntKind} {a : Nat} (h1 : a < 2 ^ k.bits) (h2 : k.signed = true → a < 2 ^ (k.bits - 1)) : k.wrap (a : Int) = a := by
  refine wrap_range ?_ ?_ <;> cases k <;> simp [IntKind.min, IntKind.max, IntKind.signed, IntKind.bits] at h1 h2 ⊢ <;> omega

theorem bitsD_and (k : IntKind) (x y : Int) : bitsD Nat.land (k.wrap (BitVec.ofInt k.bits x &&& BitVec.ofInt k.bits y).toNat) k x y = k.wrap (BitVec.ofInt k.bits x &&& BitVec.ofInt k.bits y).toNat := by
  unfold bitsD
  split
  · rename_i h
    simp only [Bool.and_eq_true] at h
    obtain ⟨⟨⟨hx, hy⟩, fx⟩, fy⟩ := h
    obtain ⟨a, rfl⟩ := nn_of hx
    obtain ⟨b, rfl⟩ := nn_of hy
    obtain ⟨a1, a2⟩ := fits_lt fx
    obtain ⟨b1, b2⟩ := fits_lt fy
    rw [BitVec.toNat_and, toNat_ofInt _ _ a1, toNat_ofInt _ _ b1]
    exact (wrap_nat (Nat.and_lt_two_pow _ b1) fun hs => Nat.and_lt_two_pow _ (b2 hs)).symm
  · rfl
theorem bitsD_or (k : IntKind) (x y : Int) : bitsD Nat.lor (k.wrap (BitVec.ofInt k.bits x ||| BitVec.ofInt k.bits y).toNat) k x y = k.wrap (BitVec.ofInt k.bits x ||| BitVec.ofInt k.bits y).toNat := by
  unfold bitsD
  split
  · rename_i h
    simp only [Bool.and_eq_true] at h
    obtain ⟨⟨⟨hx, hy⟩, fx⟩, fy⟩ := h
    obtain ⟨a, rfl⟩ := nn_of hx
    obtain ⟨b, rfl⟩ := nn_of hy
    obtain ⟨a1, a2⟩ := fits_lt fx
    obtain ⟨b1, b2⟩ := fits_lt fy
    rw [BitVec.toNat_or, toNat_ofInt _ _ a1, toNat_ofInt _ _ b1]
    exact (wrap_nat (Nat.or_lt_two_pow a1 b1) fun hs => Nat.or_lt_two_pow (a2 hs) (b2 hs)).symm
  · rfl
theorem bitsD_xor (k : IntKind) (x y : Int) : bitsD Nat.xor (k.wrap (BitVec.ofInt k.bits x ^^^ BitVec.ofInt k.bits y).toNat) k x y = k.wrap (BitVec.ofInt k.bits x ^^^ BitVec.ofInt k.bits y).toNat := by
  unfold bitsD
  split
  · rename_i h
    simp only [Bool.and_eq_true] at h
    obtain ⟨⟨⟨hx, hy⟩, fx⟩, fy⟩ := h
    obtain ⟨a, rfl⟩ := nn_of hx
    obtain ⟨b, rfl⟩ := nn_of hy
    obtain ⟨a1, a2⟩ := fits_lt fx
    obtain ⟨b1, b2⟩ := fits_lt fy
    rw [BitVec.toNat_xor, toNat_ofInt _ _ a1, toNat_ofInt _ _ b1]
    exact (wrap_nat (Nat.xor_lt_two_pow a1 b1) fun hs => Nat.xor_lt_two_pow (a2 hs) (b2 hs)).symm
  · rfl

section
variable {ρ : Nm} {N : Nat → Prop} {w : World} {P : Program}
theorem toList_loop (s : ByteArray) : ∀ (k i : Nat) (r : List UInt8), s.size - i = k → ByteArray.toList.loop s i r = r.reverse ++ s.data.toList.drop i := by
  intro k
  induction k with
  | zero =>
    intro i r h
    unfold ByteArray.toList.loop
    rw [if_neg (by omega)]
    have : s.data.toList.length ≤ i := by rw [Array.length_toList]; exact Nat.le_of_sub_eq_zero h
    rw [List.drop_eq_nil_of_le this]; simp
  | succ k ih =>
    intro i r h
    unfold ByteArray.toList.loop
    rw [if_pos (by omega), ih _ _ (by omega)]
    have hi : i < s.data.toList.length := by rw [Array.length_toList]; show i < s.size; omega
    rw [List.drop_eq_getElem_cons hi]
    have hg : s.get! i = s.data.toList[i] := by
      have : s.get! i = s.data[i]! := by cases s; rfl
      rw [this, getElem!_pos s.data i (by simpa using hi)]
      simp
    rw [hg]
    simp
theorem bytes_toList (s : ByteArray) : s.toList = s.data.toList := by
  unfold ByteArray.toList
  rw [toList_loop s _ 0 [] rfl]
  simp

theorem intOp_spec {op : BinOp} {k : IntKind} {x y : Int} {d : DV} (h : intOpD op k x y = some d) (T : TypeId) (w : World) :
    ∃ v, (binOp op T (.int k x) (.int k y)).run P w = .ok v w ∧ VR ρ N w d v := by
  cases op <;> simp only [intOpD] at h
  case quo =>
    split at h
    · cases h
    · rename_i hy
      injection h with h; subst h
      exact ⟨.int k (k.wrap (x.tdiv y)), by simp [binOp, Op.intDiv, hy], by simp only [VR, wrapD_eq]⟩
  case rem =>
    split at h
    · cases h
    · rename_i hy
      injection h with h; subst h
      exact ⟨.int k (x.tmod y), by simp [binOp, Op.intDiv, hy], by simp only [VR]⟩
  case shl => cases h
  case shr => cases h
  case add => injection h with h; subst h; exact ⟨.int k (k.wrap (x + y)), by simp [binOp, Op.intArith], by simp only [VR, wrapD_eq]⟩
  case sub => injection h with h; subst h; exact ⟨.int k (k.wrap (x - y)), by simp [binOp, Op.intArith], by simp only [VR, wrapD_eq]⟩
  case mul => injection h with h; subst h; exact ⟨.int k (k.wrap (x * y)), by simp [binOp, Op.intArith], by simp only [VR, wrapD_eq]⟩
  case and => injection h with h; subst h; exact ⟨.int k (k.wrap (BitVec.ofInt k.bits x &&& BitVec.ofInt k.bits y).toNat), by simp only [binOp, Op.intBits, ne_eq, not_true_eq_false, if_false, Sem.run_pure], by simp only [VR, bitsD_and]⟩
  case or => injection h with h; subst h; exact ⟨.int k (k.wrap (BitVec.ofInt k.bits x ||| BitVec.ofInt k.bits y).toNat), by simp only [binOp, Op.intBits, ne_eq, not_true_eq_false, if_false, Sem.run_pure], by simp only [VR, bitsD_or]⟩
  case xor => injection h with h; subst h; exact ⟨.int k (k.wrap (BitVec.ofInt k.bits x ^^^ BitVec.ofInt k.bits y).toNat), by simp only [binOp, Op.intBits, ne_eq, not_true_eq_false, if_false, Sem.run_pure], by simp only [VR, bitsD_xor]⟩
  case andNot => injection h with h; subst h; exact ⟨.int k (k.wrap (BitVec.ofInt k.bits x &&& ~~~(BitVec.ofInt k.bits y)).toNat), by simp only [binOp, Op.intBits, ne_eq, not_true_eq_false, if_false, Sem.run_pure], by simp only [VR]⟩
  case eql => injection h with h; subst h; exact ⟨.bool (x == y), by simp only [binOp, Op.intCmp, ne_eq, not_true_eq_false, if_false, Sem.run_pure], by simp only [VR]⟩
  case neq => injection h with h; subst h; exact ⟨.bool (x != y), by simp only [binOp, Op.intCmp, ne_eq, not_true_eq_false, if_false, Sem.run_pure], by simp only [VR]⟩
  case lss => injection h with h; subst h; exact ⟨.bool (decide (x < y)), by simp only [binOp, Op.intCmp, ne_eq, not_true_eq_false, if_false, Sem.run_pure], by simp only [VR]⟩
  case leq => injection h with h; subst h; exact ⟨.bool (decide (x ≤ y)), by simp only [binOp, Op.intCmp, ne_eq, not_true_eq_false, if_false, Sem.run_pure], by simp only [VR]⟩
  case gtr => injection h with h; subst h; exact ⟨.bool (decide (x > y)), by simp only [binOp, Op.intCmp, ne_eq, not_true_eq_false, if_false, Sem.run_pure], by simp only [VR]⟩
  case geq => injection h with h; subst h; exact ⟨.bool (decide (x ≥ y)), by simp only [binOp, Op.intCmp, ne_eq, not_true_eq_false, if_false, Sem.run_pure], by simp only [VR]⟩

theorem shift_spec {op : BinOp} {k k' : IntKind} {x y : Int} {d : DV} (h : shiftD op k x y = some d) (T : TypeId) (w : World) :
    ∃ v, (binOp op T (.int k x) (.int k' y)).run P w = .ok v w ∧ VR ρ N w d v := by
  unfold shiftD at h
  split at h
  · cases h
  · rename_i hy
    have e2 : ∀ n : Nat, Int.ofNat (Nat.pow 2 n) = (2 : Int) ^ n := fun n => by
      show ((2 ^ n : Nat) : Int) = _
      rw [Int.natCast_pow]; rfl
    cases op <;> simp only at h <;> first | (cases h; done) | skip
    case shl => injection h with h; subst h; exact ⟨.int k (k.wrap (x * 2 ^ (min y.toNat k.bits))), by simp [binOp, Op.shift, hy], by simp only [VR, wrapD_eq, e2]⟩
    case shr => injection h with h; subst h; exact ⟨.int k (x.fdiv (2 ^ (min y.toNat k.bits))), by simp [binOp, Op.shift, hy], by simp only [VR, e2]⟩

theorem strOp_spec {op : BinOp} {x y : ByteArray} {d : DV} (h : strOpD op x y = some d) (T : TypeId) (w : World) :
    ∃ v, (binOp op T (.string x) (.string y)).run P w = .ok v w ∧ VR ρ N w d v := by
  have ex := bytes_toList x
  have ey := bytes_toList y
  cases op <;> simp only [strOpD] at h
  case add =>
    split at h
    · cases h
    · rename_i hy
      injection h with h; subst h
      exact ⟨.string (x ++ y), by simp only [binOp, Op.stringOp, if_neg hy, Sem.run_pure], by simp only [VR]⟩
  case eql => injection h with h; subst h; exact ⟨.bool (x.data.toList == y.data.toList), by simp only [binOp, Op.stringOp, Sem.run_pure, ex, ey], by simp only [VR]⟩
  case neq => injection h with h; subst h; exact ⟨.bool (!(x.data.toList == y.data.toList)), by simp only [binOp, Op.stringOp, Sem.run_pure, ex, ey], by simp only [VR]⟩
  case lss => injection h with h; subst h; exact ⟨.bool (Op.bytesLess x.data.toList y.data.toList), by simp only [binOp, Op.stringOp, Sem.run_pure, ex, ey], by simp only [VR]⟩
  case leq => injection h with h; subst h; exact ⟨.bool (Op.bytesLess x.data.toList y.data.toList || x.data.toList == y.data.toList), by simp only [binOp, Op.stringOp, Sem.run_pure, ex, ey], by simp only [VR]⟩
  case gtr => injection h with h; subst h; exact ⟨.bool (!(Op.bytesLess x.data.toList y.data.toList || x.data.toList == y.data.toList)), by simp only [binOp, Op.stringOp, Sem.run_pure, ex, ey], by simp only [VR]⟩
  case geq => injection h with h; subst h; exact ⟨.bool (!(Op.bytesLess x.data.toList y.data.toList)), by simp only [binOp, Op.stringOp, Sem.run_pure, ex, ey], by simp only [VR]⟩
  all_goals cases h
end
end Go.Det
