/- Plain lemmas on whole numbers of 64 bits, their bits, and lists that are read and written by index. No program in sight. -/
import Derived.Test.YtceffcfnjjlbkaaWMore
namespace Go.Proofs.Ytceffcfnjjlbkaa.Kit
open Go.RowKit Go.Proofs.YtceffcfnjjlbkaaW.PrintWords
set_option linter.unusedVariables false
set_option linter.unusedSimpArgs false

theorem w64 {n : Int} (h0 : -9223372036854775808 ≤ n) (h1 : n ≤ 9223372036854775807) : wrap64 n = n := IntWalk.wrap64_in n ⟨h0, h1⟩
theorem w64s {i : Nat} (h : i < 9223372036854775807) : wrap64 ((i : Int) + 1) = ((i + 1 : Nat) : Int) := by rw [w64 (by omega) (by omega)]; omega
theorem w64_lo (n : Int) : -9223372036854775808 ≤ wrap64 n := by unfold wrap64; omega
theorem w64_hi (n : Int) : wrap64 n ≤ 9223372036854775807 := by unfold wrap64; omega
theorem wf_i64 {n : Int} (h : (Lit.int .i64 n).wf = true) : -9223372036854775808 ≤ n ∧ n ≤ 9223372036854775807 := by
  simp only [Lit.wf, IntKind.min, IntKind.max, IntKind.signed, IntKind.bits, Bool.and_eq_true, decide_eq_true_eq, if_true] at h
  omega
theorem wf_u8 {n : Int} (h : (Lit.int .u8 n).wf = true) : 0 ≤ n ∧ n ≤ 255 := by
  simp only [Lit.wf, IntKind.min, IntKind.max, IntKind.signed, IntKind.bits, Bool.and_eq_true, decide_eq_true_eq] at h
  simpa using h
theorem rd_nat (xs : List Int) (i : Nat) : rd xs (i : Int) = xs.getD i 0 := by simp [rd]
theorem rd_get {xs : List Int} {i : Nat} (h : i < xs.length) : rd xs (i : Int) = xs[i] := by simp [rd, h]
theorem rdOf_get {α : Type} {d : α} {xs : List α} {i : Nat} (h : i < xs.length) : rdOf d xs (i : Int) = xs[i] := by simp [rdOf, h]
theorem rd_mem {xs : List Int} {i : Int} (h0 : 0 ≤ i) (h : i < (xs.length : Int)) : rd xs i ∈ xs := by
  obtain ⟨n, rfl⟩ := Int.eq_ofNat_of_zero_le h0
  rw [rd_get (by omega)]
  exact List.getElem_mem _

/-! ### bits of 64 -/
theorem bits_xor_eq (x y : Int) : Go.bits .xor .i64 x y = IntKind.i64.wrap ((BitVec.ofInt 64 x ^^^ BitVec.ofInt 64 y).toNat : Int) := rfl
theorem bits_and_eq (x y : Int) : Go.bits .and .i64 x y = IntKind.i64.wrap ((BitVec.ofInt 64 x &&& BitVec.ofInt 64 y).toNat : Int) := rfl
theorem bits_or_eq (x y : Int) : Go.bits .or .i64 x y = IntKind.i64.wrap ((BitVec.ofInt 64 x ||| BitVec.ofInt 64 y).toNat : Int) := rfl
theorem bits_xor_nat (a b : Nat) (ha : a < 2 ^ 63) (hb : b < 2 ^ 63) : Go.bits .xor .i64 a b = ((a ^^^ b : Nat) : Int) := by
  have ha' : a % 2 ^ 64 = a := Nat.mod_eq_of_lt (by omega)
  have hb' : b % 2 ^ 64 = b := Nat.mod_eq_of_lt (by omega)
  have hx : a ^^^ b < 2 ^ 63 := Nat.xor_lt_two_pow ha hb
  rw [bits_xor_eq, BitVec.ofInt_natCast, BitVec.ofInt_natCast, BitVec.toNat_xor, BitVec.toNat_ofNat, BitVec.toNat_ofNat, ha', hb', IntKind.wrap_i64]
  omega
theorem bits_and_nat (a b : Nat) (ha : a < 2 ^ 63) (hb : b < 2 ^ 63) : Go.bits .and .i64 a b = ((a &&& b : Nat) : Int) := by
  have ha' : a % 2 ^ 64 = a := Nat.mod_eq_of_lt (by omega)
  have hb' : b % 2 ^ 64 = b := Nat.mod_eq_of_lt (by omega)
  have hx : a &&& b < 2 ^ 63 := Nat.and_lt_two_pow _ hb
  rw [bits_and_eq, BitVec.ofInt_natCast, BitVec.ofInt_natCast, BitVec.toNat_and, BitVec.toNat_ofNat, BitVec.toNat_ofNat, ha', hb', IntKind.wrap_i64]
  omega
theorem bits_or_nat (a b : Nat) (ha : a < 2 ^ 63) (hb : b < 2 ^ 63) : Go.bits .or .i64 a b = ((a ||| b : Nat) : Int) := by
  have ha' : a % 2 ^ 64 = a := Nat.mod_eq_of_lt (by omega)
  have hb' : b % 2 ^ 64 = b := Nat.mod_eq_of_lt (by omega)
  have hx : a ||| b < 2 ^ 63 := Nat.or_lt_two_pow ha hb
  rw [bits_or_eq, BitVec.ofInt_natCast, BitVec.ofInt_natCast, BitVec.toNat_or, BitVec.toNat_ofNat, BitVec.toNat_ofNat, ha', hb', IntKind.wrap_i64]
  omega
/-- 'x & (2^j - 1)' of any x is x modulo 2^j. -/
theorem bits_and_mask (x : Int) (j : Nat) (hj : j ≤ 62) : Go.bits .and .i64 x (2 ^ j - 1) = x % 2 ^ j := by
  have hm : ((2 : Int) ^ j - 1) = ((2 ^ j - 1 : Nat) : Int) := by
    rw [Int.natCast_sub (Nat.two_pow_pos j)]; simp
  have hp : 2 ^ j ≤ 2 ^ 62 := Nat.pow_le_pow_right (by decide) hj
  have hlt : (2 ^ j - 1 : Nat) < 2 ^ 64 := by have := Nat.two_pow_pos j; omega
  rw [hm, bits_and_eq, BitVec.ofInt_natCast, BitVec.toNat_and, BitVec.toNat_ofNat, Nat.mod_eq_of_lt hlt, Nat.and_two_pow_sub_one_eq_mod, IntKind.wrap_i64]
  have h1 : ((BitVec.ofInt 64 x).toNat : Int) = x % 2 ^ 64 := by rw [BitVec.toNat_ofInt]; simp; omega
  have h2 : (((BitVec.ofInt 64 x).toNat % 2 ^ j : Nat) : Int) = x % 2 ^ j := by
    rw [Int.natCast_emod, h1]
    have hd : ((2 : Int) ^ j) ∣ 2 ^ 64 := ⟨2 ^ (64 - j), by rw [← Int.pow_add]; congr 1; omega⟩
    have := Int.emod_emod_of_dvd x hd
    simpa using this
  rw [h2]
  have h3 : (0 : Int) < 2 ^ j := by have := Nat.two_pow_pos j; exact_mod_cast this
  have h4 := Int.emod_nonneg x (by omega : (2 : Int) ^ j ≠ 0)
  have h5 := Int.emod_lt_of_pos x h3
  have h6 : (2 : Int) ^ j ≤ 2 ^ 62 := by exact_mod_cast hp
  omega
theorem and_15 (x : Int) : Go.bits .and .i64 x 15 = x % 16 := bits_and_mask x 4 (by decide)
theorem and_1 (x : Int) : Go.bits .and .i64 x 1 = x % 2 := bits_and_mask x 1 (by decide)
theorem and_63 (x : Int) : Go.bits .and .i64 x 63 = x % 64 := bits_and_mask x 6 (by decide)
theorem and_255 (x : Int) : Go.bits .and .i64 x 255 = x % 256 := bits_and_mask x 8 (by decide)
theorem and_32767 (x : Int) : Go.bits .and .i64 x 32767 = x % 32768 := bits_and_mask x 15 (by decide)
theorem and_65535 (x : Int) : Go.bits .and .i64 x 65535 = x % 65536 := bits_and_mask x 16 (by decide)
theorem and_524287 (x : Int) : Go.bits .and .i64 x 524287 = x % 524288 := bits_and_mask x 19 (by decide)
theorem and_m30 (x : Int) : Go.bits .and .i64 x 1073741823 = x % 1073741824 := bits_and_mask x 30 (by decide)
theorem and_m31 (x : Int) : Go.bits .and .i64 x 2147483647 = x % 2147483648 := bits_and_mask x 31 (by decide)
/-- Exclusive disjunction of two numbers below 2^j is below 2^j. -/
theorem xor_range {x y : Int} (j : Nat) (hj : j ≤ 62) (hx0 : 0 ≤ x) (hx : x < 2 ^ j) (hy0 : 0 ≤ y) (hy : y < 2 ^ j) : 0 ≤ Go.bits .xor .i64 x y ∧ Go.bits .xor .i64 x y < 2 ^ j := by
  obtain ⟨a, rfl⟩ := Int.eq_ofNat_of_zero_le hx0
  obtain ⟨b, rfl⟩ := Int.eq_ofNat_of_zero_le hy0
  have hp : 2 ^ j ≤ 2 ^ 62 := Nat.pow_le_pow_right (by decide) hj
  have ha : a < 2 ^ j := by exact_mod_cast hx
  have hb : b < 2 ^ j := by exact_mod_cast hy
  rw [bits_xor_nat a b (by omega) (by omega)]
  exact ⟨by omega, by exact_mod_cast Nat.xor_lt_two_pow ha hb⟩
theorem xor_xor {x y : Int} (hx0 : 0 ≤ x) (hx : x < 2 ^ 62) (hy0 : 0 ≤ y) (hy : y < 2 ^ 62) : Go.bits .xor .i64 (Go.bits .xor .i64 x y) y = x := by
  obtain ⟨a, rfl⟩ := Int.eq_ofNat_of_zero_le hx0
  obtain ⟨b, rfl⟩ := Int.eq_ofNat_of_zero_le hy0
  have ha : a < 2 ^ 62 := by exact_mod_cast hx
  have hb : b < 2 ^ 62 := by exact_mod_cast hy
  have hx : a ^^^ b < 2 ^ 62 := Nat.xor_lt_two_pow ha hb
  rw [bits_xor_nat a b (by omega) (by omega), bits_xor_nat _ b (by omega) (by omega), Nat.xor_assoc, Nat.xor_self, Nat.xor_zero]

/-! ### lists -/
theorem take_set {α : Type} {xs ys : List α} {i : Nat} (hi : i < xs.length) (hl : ys.length = xs.length) (h : ys.take i = xs.take i) : (ys.set i xs[i]).take (i + 1) = xs.take (i + 1) := by
  apply List.ext_getElem?
  intro j
  by_cases hj : j < i + 1
  · rw [List.getElem?_take_of_lt hj, List.getElem?_take_of_lt hj]
    by_cases hji : j = i
    · subst hji
      rw [List.getElem?_set_self (by omega), List.getElem?_eq_getElem hi]
    · rw [List.getElem?_set_ne (by omega)]
      have := congrArg (fun l => l[j]?) h
      simpa [List.getElem?_take_of_lt (show j < i by omega)] using this
  · rw [List.getElem?_eq_none (by simp; omega), List.getElem?_eq_none (by simp; omega)]
theorem take_all {α : Type} {xs ys : List α} (hl : ys.length = xs.length) (h : ys.take xs.length = xs.take xs.length) : ys = xs := by
  rw [List.take_of_length_le (by omega), List.take_of_length_le (by omega)] at h
  exact h
end Go.Proofs.Ytceffcfnjjlbkaa.Kit
