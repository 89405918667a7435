/- The reference's cipher computes what the program's does. -/
import Derived.Test.YtceffcfnjjlbkaaLibCipherFnExactCipher
namespace Go.Proofs.Ytceffcfnjjlbkaa.Pure
open Go.RowKit Go.Proofs.Ytceffcfnjjlbkaa.PFnExactCipher Go.Proofs.Ytceffcfnjjlbkaa.Kit Go.Proofs.YtceffcfnjjlbkaaW.PrintWords Go.Proofs.YtceffcfnjjlbkaaW.PrintLast
set_option linter.unusedVariables false
set_option linter.unusedSimpArgs false
theorem l01In_f (a b c : Int) : spec_l01In.f a b c = some (decide (b ≤ a) && decide (a ≤ c)) := by
  unfold spec_l01In.f
  by_cases h : b ≤ a
  · rw [if_pos h]; simp [h]
  · rw [if_neg h]; simp [h]
theorem spec_CipherNibble_f {k : Nat} (hk : 4 ≤ k) {key f y j : Int} (hf0 : 0 ≤ f) (hf : f ≤ 255) (hy0 : 0 ≤ y) (hy : y ≤ 15) : spec_CipherNibble.f k key f y j = some (cnib key f y j) := by
  unfold spec_CipherNibble.f
  rw [spec_Mix_f hk, and_32767, and_524287, show f % 32768 = f by omega, show y % 524288 = y by omega]
  rfl
theorem spec_l27Nibbles_l {xs : List Int} (hb : xs.length < 9223372036854775807) : ∀ (d k i : Nat), xs.length = i + d → d < k → spec_l27Nibbles.l0 k xs (i : Int) = some (nibs (xs.drop i)) := by
  intro d
  induction d with
  | zero =>
    intro k i h hk
    obtain ⟨k, rfl⟩ : ∃ m, k = m + 1 := ⟨k - 1, by omega⟩
    simp only [spec_l27Nibbles.l0]
    rw [if_neg (by omega), List.drop_eq_nil_of_le (by omega)]
    rfl
  | succ d ih =>
    intro k i h hk
    obtain ⟨k, rfl⟩ : ∃ m, k = m + 1 := ⟨k - 1, by omega⟩
    simp only [spec_l27Nibbles.l0]
    rw [if_pos (by omega), if_pos (by omega), rd_get (by omega), l01In_f, Option.bind_some, nibs_drop (by omega)]
    by_cases hx : (decide (0 ≤ xs[i]) && decide (xs[i] ≤ 15)) = true
    · rw [if_pos hx, hx, Bool.true_and, w64s (by omega)]
      exact ih k (i + 1) (by omega) (by omega)
    · rw [if_neg hx, Bool.eq_false_iff.mpr hx, Bool.false_and]
theorem spec_l27Nibbles_f {xs : List Int} {k : Nat} (hb : xs.length < 9223372036854775807) (hk : xs.length < k) : spec_l27Nibbles.f k xs = some (nibs xs) :=
  spec_l27Nibbles_l hb xs.length k 0 (by omega) hk
theorem spec_Cipher_l {xs : List Int} {key f y : Int} (hb : xs.length < 17592186044416) (hf0 : 0 ≤ f) (hf : f ≤ 255) (hy0 : 0 ≤ y) (hy : y ≤ 15) : ∀ (d k i : Nat), xs.length = i + d → d + 5 ≤ k →
    spec_Cipher.l0 k xs key f y ((List.range i).map fun (j : Nat) => Go.bits .xor .i64 (rd xs (j : Int)) (cnib key f y (j : Int))) (i : Int) = some (ciph (cnib key f y) xs) := by
  intro d
  induction d with
  | zero =>
    intro k i h hk
    obtain ⟨k, rfl⟩ : ∃ m, k = m + 1 := ⟨k - 1, by omega⟩
    rw [spec_Cipher.l0, if_neg (by omega), show i = xs.length by omega]
    rfl
  | succ d ih =>
    intro k i h hk
    obtain ⟨k, rfl⟩ : ∃ m, k = m + 1 := ⟨k - 1, by omega⟩
    rw [spec_Cipher.l0, if_pos (by omega), if_pos (by omega), spec_CipherNibble_f (by omega) hf0 hf hy0 hy, Option.bind_some, if_pos (by simp; omega), w64s (by omega)]
    have := ih k (i + 1) (by omega) (by omega)
    rw [List.range_succ, List.map_append] at this
    exact this
theorem spec_Cipher_f {xs : List Int} {key f y : Int} {k : Nat} (hb : xs.length < 17592186044416) (hk : xs.length + 10 ≤ k) : spec_Cipher.f k xs key f y = some (cipher xs key f y) := by
  obtain ⟨k, rfl⟩ : ∃ m, k = m + 1 := ⟨k - 1, by omega⟩
  unfold spec_Cipher.f cipher goodCipher
  rw [spec_l27Nibbles_f (by omega) (by omega), l01In_f, l01In_f]
  simp only [Option.bind_some, spec_Cipher.j0]
  by_cases hfy : ((decide (0 ≤ f) && decide (f ≤ 255)) && (decide (0 ≤ y) && decide (y ≤ 15))) = true
  · have h := hfy
    simp only [Bool.and_eq_true, decide_eq_true_eq] at h
    have hl := spec_Cipher_l (xs := xs) (key := key) (f := f) (y := y) hb h.1.1 h.1.2 h.2.1 h.2.2 xs.length k 0 (by omega) (by omega)
    simp only [List.range_zero, List.map_nil] at hl
    rw [show ((0 : Nat) : Int) = 0 from rfl] at hl
    cases nibs xs <;> simp [hl, h]
  · cases nibs xs <;> cases h1 : (decide (0 ≤ f) && decide (f ≤ 255)) <;> cases h2 : (decide (0 ≤ y) && decide (y ≤ 15)) <;> simp [h1, h2] at hfy ⊢
end Go.Proofs.Ytceffcfnjjlbkaa.Pure
