/- What the ciphers compute, in the program and in the reference: the same mixing of numbers, the same nibbles. -/
import Derived.Test.YtceffcfnjjlbkaaKitA
import Derived.Test.YtceffcfnjjlbkaaPFnExactCipherx3
namespace Go.Proofs.Ytceffcfnjjlbkaa.Pure
open Go.RowKit Go.Proofs.Ytceffcfnjjlbkaa.PFnExactCipher Go.Proofs.Ytceffcfnjjlbkaa.Kit Go.Proofs.YtceffcfnjjlbkaaW.PrintWords Go.Proofs.YtceffcfnjjlbkaaW.PrintLast
set_option linter.unusedVariables false
set_option linter.unusedSimpArgs false

theorem e01 : wrap64 (0 + 1) = 1 := (w64 (by decide) (by decide)).trans rfl
theorem e12 : wrap64 (1 + 1) = 2 := (w64 (by decide) (by decide)).trans rfl
theorem e23 : wrap64 (2 + 1) = 3 := (w64 (by decide) (by decide)).trans rfl

/-- One step of the mixing. -/
def mstep (y : Int) : Int := Go.bits .xor .i64 (Go.bits .and .i64 (wrap64 ((wrap64 (y * 1103515245)) + 12345)) 2147483647) ((Go.bits .and .i64 (wrap64 ((wrap64 (y * 1103515245)) + 12345)) 2147483647) / 65536)
def mix (a : Int) : Int := mstep (mstep (mstep (Go.bits .and .i64 a 2147483647)))
theorem mstep_range (y : Int) : 0 ≤ mstep y ∧ mstep y < 2 ^ 31 := by
  unfold mstep
  rw [and_m31]
  refine xor_range 31 (by decide) ?_ ?_ ?_ ?_ <;> omega
theorem mix_range (a : Int) : 0 ≤ mix a ∧ mix a < 2 ^ 31 := mstep_range _
theorem impl_Mix_f {k : Nat} (hk : 4 ≤ k) (a : Int) : impl_Mix.f k a = some (mix a) := by
  obtain ⟨m, rfl⟩ : ∃ m, k = m + 4 := ⟨k - 4, by omega⟩
  unfold impl_Mix.f
  rw [impl_Mix.l0, if_pos (by decide), e01, impl_Mix.l0, if_pos (by decide), e12, impl_Mix.l0, if_pos (by decide), e23, impl_Mix.l0, if_neg (by decide)]
  rfl
theorem spec_Mix_f {k : Nat} (hk : 4 ≤ k) (a : Int) : spec_Mix.f k a = some (mix a) := by
  obtain ⟨m, rfl⟩ : ∃ m, k = m + 4 := ⟨k - 4, by omega⟩
  unfold spec_Mix.f
  rw [spec_Mix.l0, if_pos (by decide), e01, spec_Mix.l0, if_pos (by decide), e12, spec_Mix.l0, if_pos (by decide), e23, spec_Mix.l0, if_neg (by decide)]
  rfl
def cnib (key f y j : Int) : Int := Go.bits .and .i64 (mix (Go.bits .xor .i64 (Go.bits .xor .i64 (Go.bits .xor .i64 key (wrap64 (f * 65536))) (wrap64 (y * 4096))) j)) 15
theorem cnib_range (key f y j : Int) : 0 ≤ cnib key f y j ∧ cnib key f y j ≤ 15 := by
  unfold cnib
  rw [and_15]
  omega
theorem impl_CipherNibble_f {k : Nat} (hk : 4 ≤ k) (key f y j : Int) : impl_CipherNibble.f k key f y j = some (cnib key f y j) := by
  unfold impl_CipherNibble.f
  rw [impl_Mix_f hk]
  rfl

/-- Are all of them nibbles? -/
def nibs (xs : List Int) : Bool := xs.all fun x => decide (0 ≤ x) && decide (x ≤ 15)
theorem nibs_drop {xs : List Int} {i : Nat} (h : i < xs.length) : nibs (xs.drop i) = ((decide (0 ≤ xs[i]) && decide (xs[i] ≤ 15)) && nibs (xs.drop (i + 1))) := by
  rw [List.drop_eq_getElem_cons h]
  rfl
theorem nibs_mem {xs : List Int} (h : nibs xs = true) {x : Int} (hx : x ∈ xs) : 0 ≤ x ∧ x ≤ 15 := by
  have := List.all_eq_true.mp h x hx
  simpa using this
theorem impl_isNibble_f (x : Int) : impl_isNibble.f x = some (decide (0 ≤ x) && decide (x ≤ 15)) := by
  unfold impl_isNibble.f impl_within.f
  by_cases h : 0 ≤ x
  · rw [if_pos h]; simp [h]
  · rw [if_neg h]; simp [h]
theorem impl_areNibbles_l {xs : List Int} (hb : xs.length < 9223372036854775807) : ∀ (d k i : Nat), xs.length = i + d → d < k → impl_areNibbles.l0 k xs (xs.length : Int) (i : Int) = some (nibs (xs.drop i)) := by
  intro d
  induction d with
  | zero =>
    intro k i h hk
    obtain ⟨k, rfl⟩ : ∃ m, k = m + 1 := ⟨k - 1, by omega⟩
    simp only [impl_areNibbles.l0]
    rw [if_neg (by omega), List.drop_eq_nil_of_le (by omega)]
    rfl
  | succ d ih =>
    intro k i h hk
    obtain ⟨k, rfl⟩ : ∃ m, k = m + 1 := ⟨k - 1, by omega⟩
    simp only [impl_areNibbles.l0]
    rw [if_pos (by omega), if_pos (by omega), if_pos (by omega), rd_get (by omega), impl_isNibble_f, Option.bind_some, nibs_drop (by omega)]
    by_cases hx : (decide (0 ≤ xs[i]) && decide (xs[i] ≤ 15)) = true
    · rw [if_pos hx, hx, Bool.true_and, w64s (by omega)]
      exact ih k (i + 1) (by omega) (by omega)
    · rw [if_neg hx, Bool.eq_false_iff.mpr hx, Bool.false_and]
theorem impl_areNibbles_f {xs : List Int} {k : Nat} (hb : xs.length < 9223372036854775807) (hk : xs.length < k) : impl_areNibbles.f k xs = some (nibs xs) :=
  impl_areNibbles_l hb xs.length k 0 (by omega) hk

/-- The list with a nibble added to each element. -/
def ciph (g : Int → Int) (xs : List Int) : List Int := (List.range xs.length).map fun (j : Nat) => Go.bits .xor .i64 (rd xs (j : Int)) (g (j : Int))
theorem ciph_length (g : Int → Int) (xs : List Int) : (ciph g xs).length = xs.length := by simp [ciph]
theorem ciph_get {g : Int → Int} {xs : List Int} {i : Nat} (h : i < (ciph g xs).length) : (ciph g xs)[i] = Go.bits .xor .i64 (rd xs (i : Int)) (g (i : Int)) := by simp [ciph]
theorem impl_Cipher_l {xs : List Int} {key f y : Int} (hb : xs.length < 17592186044416) : ∀ (d k i : Nat), xs.length = i + d → d + 5 ≤ k →
    impl_Cipher.l0 k key f y ((List.range i).map fun (j : Nat) => Go.bits .xor .i64 (rd xs (j : Int)) (cnib key f y (j : Int))) xs (xs.length : Int) (i : Int) = some (ciph (cnib key f y) xs) := by
  intro d
  induction d with
  | zero =>
    intro k i h hk
    obtain ⟨k, rfl⟩ : ∃ m, k = m + 1 := ⟨k - 1, by omega⟩
    rw [impl_Cipher.l0, if_neg (by omega), show i = xs.length by omega]
    rfl
  | succ d ih =>
    intro k i h hk
    obtain ⟨k, rfl⟩ : ∃ m, k = m + 1 := ⟨k - 1, by omega⟩
    rw [impl_Cipher.l0, if_pos (by omega), if_pos (by omega), if_pos (by omega), impl_CipherNibble_f (by omega), Option.bind_some, if_pos (by simp; omega), w64s (by omega)]
    have := ih k (i + 1) (by omega) (by omega)
    rw [List.range_succ, List.map_append] at this
    exact this
def goodCipher (xs : List Int) (f y : Int) : Bool := nibs xs && ((decide (0 ≤ f) && decide (f ≤ 255)) && (decide (0 ≤ y) && decide (y ≤ 15)))
def cipher (xs : List Int) (key f y : Int) : List Int := if goodCipher xs f y = true then ciph (cnib key f y) xs else []
theorem within_f (a b c : Int) : impl_within.f a b c = some (decide (b ≤ a) && decide (a ≤ c)) := by
  unfold impl_within.f
  by_cases h : b ≤ a
  · rw [if_pos h]; simp [h]
  · rw [if_neg h]; simp [h]
theorem impl_Cipher_f {xs : List Int} {key f y : Int} {k : Nat} (hb : xs.length < 17592186044416) (hk : xs.length + 10 ≤ k) : impl_Cipher.f k xs key f y = some (cipher xs key f y) := by
  obtain ⟨k, rfl⟩ : ∃ m, k = m + 1 := ⟨k - 1, by omega⟩
  unfold impl_Cipher.f cipher goodCipher
  rw [impl_areNibbles_f (by omega) (by omega), Option.bind_some, within_f, within_f]
  simp only [Option.bind_some, impl_Cipher.j0]
  have hl := impl_Cipher_l (xs := xs) (key := key) (f := f) (y := y) hb xs.length k 0 (by omega) (by omega)
  simp only [List.range_zero, List.map_nil] at hl
  rw [show ((0 : Nat) : Int) = 0 from rfl] at hl
  cases nibs xs <;> cases (decide (0 ≤ f) && decide (f ≤ 255)) <;> cases (decide (0 ≤ y) && decide (y ≤ 15)) <;> simp [hl]
theorem cipher_length (xs : List Int) (key f y : Int) : (cipher xs key f y).length ≤ xs.length := by
  unfold cipher
  split
  · rw [ciph_length]; omega
  · simp
end Go.Proofs.Ytceffcfnjjlbkaa.Pure
