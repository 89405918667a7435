/- What the laws' own functions on lists of numbers compute: a copy, a comparison, marks, and whether the marks are held. -/
import Derived.Test.YtceffcfnjjlbkaaKitA
import Derived.Test.YtceffcfnjjlbkaaPFnExactCipherx3
namespace Go.Proofs.Ytceffcfnjjlbkaa.Pure
open Go.RowKit Go.Proofs.Ytceffcfnjjlbkaa.PFnExactCipher Go.Proofs.Ytceffcfnjjlbkaa.Kit Go.Proofs.YtceffcfnjjlbkaaW.PrintWords Go.Proofs.YtceffcfnjjlbkaaW.PrintLast
set_option linter.unusedVariables false
set_option linter.unusedSimpArgs false

theorem toIntS_l {xs : List Int} (hb : xs.length < 9223372036854775807) : ∀ (d k i : Nat) (ys : List Int), xs.length = i + d → d < k → ys.length = xs.length → ys.take i = xs.take i → laws_toIntS.l0 k xs ys (i : Int) = some xs := by
  intro d
  induction d with
  | zero =>
    intro k i ys h hk hl ht
    obtain ⟨k, rfl⟩ : ∃ m, k = m + 1 := ⟨k - 1, by omega⟩
    simp only [laws_toIntS.l0]
    rw [if_neg (by omega), take_all hl (by rw [show xs.length = i by omega]; exact ht)]
  | succ d ih =>
    intro k i ys h hk hl ht
    obtain ⟨k, rfl⟩ : ∃ m, k = m + 1 := ⟨k - 1, by omega⟩
    simp only [laws_toIntS.l0]
    rw [if_pos (by omega), if_pos (by omega), if_pos (by omega), rd_get (by omega), w64s (by omega)]
    refine ih k (i + 1) _ (by omega) (by omega) (by simpa using hl) ?_
    have := take_set (xs := xs) (ys := ys) (i := i) (by omega) hl ht
    simpa using this
theorem toIntS_f {xs : List Int} {k : Nat} (hb : xs.length ≤ 35184372088832) (hk : xs.length < k) : laws_toIntS.f k xs = some xs := by
  unfold laws_toIntS.f
  rw [if_pos (by omega), if_pos (by simpa using hb)]
  exact toIntS_l (by omega) xs.length k 0 _ (by omega) hk (by simp) (by simp)

theorem eqIntS_l {xs ys : List Int} (hb : xs.length < 9223372036854775807) (hl : xs.length = ys.length) : ∀ (d k i : Nat), xs.length = i + d → d < k → xs.take i = ys.take i → laws_eqIntS.l0 k xs ys (i : Int) = some (decide (xs = ys)) := by
  intro d
  induction d with
  | zero =>
    intro k i h hk ht
    obtain ⟨k, rfl⟩ : ∃ m, k = m + 1 := ⟨k - 1, by omega⟩
    simp only [laws_eqIntS.l0]
    rw [if_neg (by omega), decide_eq_true (take_all hl (by rw [show ys.length = i by omega]; exact ht))]
  | succ d ih =>
    intro k i h hk ht
    obtain ⟨k, rfl⟩ : ∃ m, k = m + 1 := ⟨k - 1, by omega⟩
    simp only [laws_eqIntS.l0]
    rw [if_pos (by omega), if_pos (by omega), if_pos (by omega), rd_get (by omega), rd_get (by omega), w64s (by omega)]
    by_cases hx : xs[i] = ys[i]'(by omega)
    · rw [if_pos hx]
      refine ih k (i + 1) (by omega) (by omega) ?_
      rw [List.take_succ_eq_append_getElem (by omega), List.take_succ_eq_append_getElem (by omega), ht, hx]
    · rw [if_neg hx, decide_eq_false (fun he => hx (by subst he; rfl))]
theorem eqIntS_f {xs ys : List Int} {k : Nat} (hb : xs.length < 9223372036854775807) (hk : xs.length < k) : laws_eqIntS.f k xs ys = some (decide (xs = ys)) := by
  unfold laws_eqIntS.f
  by_cases hl : xs.length = ys.length
  · rw [if_pos (by omega)]
    exact eqIntS_l hb hl xs.length k 0 (by omega) hk rfl
  · rw [if_neg (by omega), decide_eq_false (fun he => hl (by rw [he]))]
theorem eqIntS_self {xs : List Int} {k : Nat} (hb : xs.length < 9223372036854775807) (hk : xs.length < k) : laws_eqIntS.f k xs xs = some true := by
  rw [eqIntS_f hb hk, decide_eq_true rfl]

/-- The marks a, a + 1, .. -/
def marks (a : Int) (n : Nat) : List Int := (List.range n).map fun (j : Nat) => a + (j : Int)
theorem marks_length (a : Int) (n : Nat) : (marks a n).length = n := by simp [marks]
theorem marks_get {a : Int} {n i : Nat} (h : i < (marks a n).length) : (marks a n)[i] = a + i := by simp [marks]
theorem markIntS_l {n : Nat} {a : Int} (ha : -9223372036854775808 ≤ a) (hb : a + n ≤ 9223372036854775807) (hn : n < 9223372036854775807) : ∀ (d k i : Nat) (ys : List Int), n = i + d → d < k → ys.length = n → ys.take i = (marks a n).take i → laws_markIntS.l0 k ys (a + i) (i : Int) = some (a + n, marks a n) := by
  intro d
  induction d with
  | zero =>
    intro k i ys h hk hl ht
    obtain ⟨k, rfl⟩ : ∃ m, k = m + 1 := ⟨k - 1, by omega⟩
    simp only [laws_markIntS.l0]
    obtain rfl : n = i := by omega
    have he : ys = marks a n := take_all (by rw [marks_length]; exact hl) (by rw [marks_length]; exact ht)
    rw [if_neg (by omega), he]
  | succ d ih =>
    intro k i ys h hk hl ht
    obtain ⟨k, rfl⟩ : ∃ m, k = m + 1 := ⟨k - 1, by omega⟩
    simp only [laws_markIntS.l0]
    rw [if_pos (by omega), if_pos (by omega), w64s (by omega), w64 (by omega) (by omega), show a + (i : Int) + 1 = a + ((i + 1 : Nat) : Int) by omega]
    refine ih k (i + 1) _ (by omega) (by omega) (by simpa using hl) ?_
    have hm : i < (marks a n).length := by rw [marks_length]; omega
    have := take_set (xs := marks a n) (ys := ys) (i := i) hm (by rw [marks_length]; exact hl) ht
    rw [marks_get] at this
    simpa using this
theorem markIntS_f {xs : List Int} {a : Int} {k : Nat} (ha : -9223372036854775808 ≤ a) (hb : a + xs.length ≤ 9223372036854775807) (hn : xs.length < 9223372036854775807) (hk : xs.length < k) : laws_markIntS.f k xs a = some (a + xs.length, marks a xs.length) := by
  have h := markIntS_l (n := xs.length) ha hb hn xs.length k 0 xs (by omega) hk rfl (by simp)
  unfold laws_markIntS.f
  simpa using h
theorem heldIntS_l {n : Nat} {a : Int} (ha : -9223372036854775808 ≤ a) (hb : a + n ≤ 9223372036854775807) (hn : n < 9223372036854775807) : ∀ (d k i : Nat), n = i + d → d < k → laws_heldIntS.l0 k (marks a n) (a + i) (i : Int) = some (a + n) := by
  intro d
  induction d with
  | zero =>
    intro k i h hk
    obtain ⟨k, rfl⟩ : ∃ m, k = m + 1 := ⟨k - 1, by omega⟩
    simp only [laws_heldIntS.l0]
    rw [if_neg (by rw [marks_length]; omega), show n = i by omega]
  | succ d ih =>
    intro k i h hk
    obtain ⟨k, rfl⟩ : ∃ m, k = m + 1 := ⟨k - 1, by omega⟩
    simp only [laws_heldIntS.l0]
    rw [if_pos (by rw [marks_length]; omega), if_pos (by omega), rd_get (by rw [marks_length]; omega), marks_get, if_pos rfl, w64s (by omega), w64 (by omega) (by omega), show a + (i : Int) + 1 = a + ((i + 1 : Nat) : Int) by omega]
    exact ih k (i + 1) (by omega) (by omega)
theorem heldIntS_f {n : Nat} {a : Int} {k : Nat} (ha : -9223372036854775808 ≤ a) (hb : a + n ≤ 9223372036854775807) (hn : n < 9223372036854775807) (hk : n < k) : laws_heldIntS.f k (marks a n) a = some (a + n) := by
  have h := heldIntS_l (n := n) ha hb hn n k 0 (by omega) hk
  unfold laws_heldIntS.f
  simpa using h
end Go.Proofs.Ytceffcfnjjlbkaa.Pure
