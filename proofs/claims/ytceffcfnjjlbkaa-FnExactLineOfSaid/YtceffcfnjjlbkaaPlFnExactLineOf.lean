/- Plain laws for FnExactLineOf. -/
import Derived.Test.YtceffcfnjjlbkaaE31
import Derived.Test.YtceffcfnjjlbkaaWkFnExactLineOf
namespace Go.Proofs.Ytceffcfnjjlbkaa.E
set_option linter.unusedVariables false
set_option linter.unusedSimpArgs false
/-! ### rows of whole numbers -/
theorem eqIntS_self (xs : List Int) (hm : xs.length < 4611686018427387904) : F_laws_eqIntS (xs, xs, ()) = some ((), true, ()) := by
  rw [F_laws_eqIntS_eq, if_neg (by simp)]
  refine walk_row (H := fun i => H_laws_eqIntS_4 (xs, xs, ()) xs xs i) (n := xs.length) (fun k hk => ?_) ?_
  · show H_laws_eqIntS_4 _ _ _ _ = _
    rw [H_laws_eqIntS_4_eq, if_pos (by simp; omega), if_pos (by omega), if_pos (by omega), if_pos (by omega), if_pos (by omega), if_neg (by simp), wrap_succ (by omega)]
  · show H_laws_eqIntS_4 _ _ _ _ = _
    rw [H_laws_eqIntS_4_eq, if_neg (by simp)]
theorem markIntS_all (xs : List Int) (m : Nat) (hm : m + xs.length < 4611686018427387904) : F_laws_markIntS (xs, (m : Int), ()) = some ((marks id xs.length m, ()), ((m : Int) + (xs.length : Int)), ()) := by
  rw [F_laws_markIntS_eq]
  show H_laws_markIntS_2 (xs, (m : Int), ()) (m : Int) 0 xs = _
  refine mark_row (H := fun q i ys => H_laws_markIntS_2 (xs, (m : Int), ()) q i ys) (fin := fun ys m => some ((ys, ()), m, ())) (f := id) (fun k ys hk hl => ?_) (fun ys hl => ?_) rfl
  · show H_laws_markIntS_2 _ _ _ _ = _
    rw [H_laws_markIntS_2_eq, if_pos (by simp; omega), if_pos (by omega), if_pos (by omega), wrap_succ (by omega), wrap_small (by omega) (by omega)]
    simp only [Int.toNat_natCast, id]
    rw [show (m : Int) + (k : Int) + 1 = (m : Int) + ((k + 1 : Nat) : Int) by omega]
  · show H_laws_markIntS_2 _ _ _ _ = _
    rw [H_laws_markIntS_2_eq, if_neg (by simp; omega)]
theorem heldIntS_all (n m : Nat) (hm : m + n < 4611686018427387904) : F_laws_heldIntS (marks id n m, (m : Int), ()) = some ((), ((m : Int) + (n : Int)), ()) := by
  rw [F_laws_heldIntS_eq]
  have := walk_row (H := fun i => H_laws_heldIntS_2 (marks id n m, (m : Int), ()) (marks id n m) ((m : Int) + i) i) (n := n) (r := some ((), ((m : Int) + (n : Int)), ())) (fun k hk => ?_) ?_
  · simpa using this
  · show H_laws_heldIntS_2 _ _ _ _ = _
    have hl := marks_length (id : Int → Int) n m
    rw [H_laws_heldIntS_2_eq, if_pos (by simp; omega), if_pos (by omega), if_pos (by omega), if_neg (by
      rw [Int.toNat_natCast, getD_at (by omega), marks_get]
      simp), wrap_succ (by omega), wrap_small (by omega) (by omega)]
    rw [show (m : Int) + (k : Int) + 1 = (m : Int) + ((k + 1 : Nat) : Int) by omega]
  · show H_laws_heldIntS_2 _ _ _ _ = _
    have hl := marks_length (id : Int → Int) n m
    rw [H_laws_heldIntS_2_eq, if_neg (by simp; omega)]
theorem toIntS_all (xs : List Int) (hm : xs.length ≤ 1099511627776) : F_laws_toIntS (xs, ()) = some ((), xs, ()) := by
  rw [F_laws_toIntS_eq, if_pos (by simp; omega)]
  refine fill_row (H := fun i ys => H_laws_toIntS_3 (xs, ()) xs i ys) (fin := fun ys => some ((), ys, ())) (fun k ys hk hl => ?_) (fun ys hl => ?_) (by simp)
  · show H_laws_toIntS_3 _ _ _ _ = _
    rw [H_laws_toIntS_3_eq, if_pos (by simp; omega), if_pos (by omega), if_pos (by omega), if_pos (by omega), if_pos (by omega), wrap_succ (by omega), Int.toNat_natCast, getD_at hk]
  · show H_laws_toIntS_3 _ _ _ _ = _
    rw [H_laws_toIntS_3_eq, if_neg (by simp)]
/-! ### between two numbers -/
theorem l01In_all (v lo hi : Int) : F_spec_l01In (v, lo, hi, ()) = some ((), (decide (lo ≤ v) && decide (v ≤ hi)), ()) := by
  rw [F_spec_l01In_eq]
  by_cases h : lo ≤ v <;> simp [h]
theorem within_all (v lo hi : Int) : F_impl_within (v, lo, hi, ()) = some ((), (decide (lo ≤ v) && decide (v ≤ hi)), ()) := by
  rw [F_impl_within_eq]
  by_cases h : lo ≤ v <;> simp [h]
theorem cloneInt_all (xs : List Int) (hm : xs.length ≤ 1099511627776) : F_slices_Clone_int_int (xs, ()) = some ((), xs, ()) := by
  rw [F_slices_Clone_int_int_eq]
  by_cases h : xs = []
  · subst h
    simp [both_self]
  · rw [if_neg (by simpa using h), if_pos (by simp; omega)]
    simp
/-! ### pictures -/
def isDotB (d : Int) : Bool := decide (0 ≤ d) && decide (d ≤ 262143)
def pictureB (xs : List Int) (w h : Int) : Bool := (decide (1 ≤ w) && decide (w ≤ 16)) && ((decide (1 ≤ h) && decide (h ≤ 16)) && (((xs.length : Int) == IntKind.i64.wrap (w * h)) && xs.all isDotB))
theorem isSide_all (n : Int) : F_impl_isSide (n, ()) = some ((), (decide (1 ≤ n) && decide (n ≤ 16)), ()) := by
  rw [F_impl_isSide_eq, within_all]
  rfl
theorem isDot_all (n : Int) : F_impl_isDot (n, ()) = some ((), isDotB n, ()) := by
  rw [F_impl_isDot_eq, within_all]
  rfl
theorem areDots_all (xs : List Int) (hm : xs.length < 4611686018427387904) : F_impl_areDots (xs, ()) = some ((), xs.all isDotB, ()) := by
  rw [F_impl_areDots_eq]
  have := all_row (H := fun i => H_impl_areDots_2 (xs, ()) xs (xs.length : Int) i) (xs := xs) (p := isDotB) (t := some ((), true, ())) (f := some ((), false, ())) (fun k hk => ?_) ?_
  · refine this.trans ?_
    cases xs.all isDotB <;> rfl
  · show H_impl_areDots_2 _ _ _ _ = _
    rw [H_impl_areDots_2_eq, if_pos (by simp; omega), if_pos (by omega), if_pos (by omega), isDot_all, Int.toNat_natCast, getD_at hk, wrap_succ (by omega)]
    cases isDotB xs[k] <;> simp
  · show H_impl_areDots_2 _ _ _ _ = _
    rw [H_impl_areDots_2_eq, if_neg (by simp)]
theorem iPictureOk_all (xs : List Int) (w h : Int) (hm : xs.length < 4611686018427387904) : F_impl_PictureOk (xs, w, h, ()) = some ((), pictureB xs w h, ()) := by
  rw [F_impl_PictureOk_eq]
  simp only [isSide_all, areDots_all xs hm, Option.bind_some]
  unfold pictureB
  cases (decide (1 ≤ w) && decide (w ≤ 16)) <;> cases (decide (1 ≤ h) && decide (h ≤ 16)) <;> cases ((xs.length : Int) == IntKind.i64.wrap (w * h)) <;> simp
theorem sPictureOk_all (xs : List Int) (w h : Int) (hm : xs.length < 4611686018427387904) : F_spec_PictureOk (xs, w, h, ()) = some ((), pictureB xs w h, ()) := by
  have hl : H_spec_PictureOk_4 (xs, w, h, ()) xs 0 = some ((), xs.all isDotB, ()) := by
    have := all_row (H := fun i => H_spec_PictureOk_4 (xs, w, h, ()) xs i) (xs := xs) (p := isDotB) (t := some ((), true, ())) (f := some ((), false, ())) (fun k hk => ?_) ?_
    · refine this.trans ?_
      cases xs.all isDotB <;> rfl
    · show H_spec_PictureOk_4 _ _ _ = _
      rw [H_spec_PictureOk_4_eq, if_pos (by simp; omega), if_pos (by omega), if_pos (by omega), l01In_all, Int.toNat_natCast, getD_at hk, wrap_succ (by omega)]
      show (if (!isDotB xs[k]) = true then _ else _) = _
      cases isDotB xs[k] <;> simp
    · show H_spec_PictureOk_4 _ _ _ = _
      rw [H_spec_PictureOk_4_eq, if_neg (by simp)]
  rw [F_spec_PictureOk_eq]
  simp only [l01In_all, hl, Option.bind_some]
  unfold pictureB
  cases (decide (1 ≤ w) && decide (w ≤ 16)) <;> cases (decide (1 ≤ h) && decide (h ≤ 16)) <;> by_cases he : (xs.length : Int) = IntKind.i64.wrap (w * h) <;> simp [he]
/-! ### lines -/
theorem lineOf_both (xs : List Int) (w h y : Int) (hm : xs.length ≤ 1048576) : ∃ ys : List Int, ys.length ≤ xs.length ∧ F_spec_LineOf (xs, w, h, y, ()) = some ((), ys, ()) ∧ F_impl_LineOf (xs, w, h, y, ()) = some ((), ys, ()) := by
  rw [F_spec_LineOf_eq, F_impl_LineOf_eq]
  simp only [sPictureOk_all xs w h (by omega), iPictureOk_all xs w h (by omega), l01In_all, within_all, Option.bind_some]
  cases hp : pictureB xs w h with
  | false => exact ⟨[], by simp, by simp, by simp⟩
  | true =>
    unfold pictureB at hp
    simp only [Bool.and_eq_true, decide_eq_true_eq, beq_iff_eq] at hp
    obtain ⟨⟨w1, w2⟩, ⟨h1, h2⟩, hlen, _⟩ := hp
    have hwh0 : 0 ≤ w * h := Int.mul_nonneg (by omega) (by omega)
    have hwh1 : w * h ≤ 16 * 16 := Int.mul_le_mul w2 h2 (by omega) (by omega)
    rw [wrap_small (by omega) (by omega)] at hlen
    rw [wrap_small (n := h - 1) (by omega) (by omega)]
    cases hy : (decide (0 ≤ y) && decide (y ≤ h - 1)) with
    | false => exact ⟨[], by simp, by simp, by simp⟩
    | true =>
      simp only [Bool.and_eq_true, decide_eq_true_eq] at hy
      obtain ⟨y0, y1⟩ := hy
      have hyw0 : 0 ≤ y * w := Int.mul_nonneg y0 (by omega)
      have hyw1 : (y + 1) * w ≤ h * w := Int.mul_le_mul_of_nonneg_right (by omega) (by omega)
      have hyw2 : (y + 1) * w = y * w + w := by rw [Int.add_mul, Int.one_mul]
      have hhw : h * w = w * h := Int.mul_comm h w
      rw [wrap_small (n := y * w) (by omega) (by omega), wrap_small (n := y + 1) (by omega) (by omega), hyw2, wrap_small (n := y * w + w) (by omega) (by omega)]
      simp only [Option.getD_some, Bool.not_true, Bool.false_eq_true, if_false]
      have hl : (List.take (y * w + w - y * w).toNat (List.drop (y * w).toNat xs)).length ≤ xs.length := by
        rw [List.length_take, List.length_drop]
        omega
      rw [if_pos (by omega), if_pos (by omega), if_pos (by omega), if_pos (by omega), if_pos (by omega), if_pos (by omega), if_pos (by omega), cloneInt_all _ (by omega)]
      exact ⟨_, hl, by simp, rfl⟩
namespace Law.FnExactLineOf
abbrev ps : List PK := ps_laws_FnExactLineOf
abbrev o0 : outs ps := ()
noncomputable def s : Sig := ⟨ps, rs_laws_FnExactLineOf, F_laws_FnExactLineOf⟩
theorem ok : FnOk Try.prog 7 s := ok_laws_FnExactLineOf
theorem holds (xs : dens ps) (hwf : WfAll Try.prog ps xs) : s.F xs = some (o0, true, ()) := by
  obtain ⟨xs, w, h, y, _⟩ := xs
  show F_laws_FnExactLineOf ((xs, w, h, y, ()) : List Int × Int × Int × Int × Unit) = some ((), true, ())
  clear hwf
  revert xs w h y
  intro (xs : List Int) (w : Int) (h : Int) (y : Int)
  rw [F_laws_FnExactLineOf_eq]
  by_cases hm : xs.length ≤ 1048576
  · rw [if_neg (by simp; omega)]
    obtain ⟨ys, hy, h1, h2⟩ := lineOf_both xs w h y hm
    have hmx : F_laws_markIntS (xs, 1, ()) = some ((marks id xs.length 1, ()), (1 : Int) + (xs.length : Int), ()) := markIntS_all xs 1 (by omega)
    have hmk : F_laws_markIntS (ys, 1, ()) = some ((marks id ys.length 1, ()), (1 : Int) + (ys.length : Int), ()) := markIntS_all ys 1 (by omega)
    have hhd : F_laws_heldIntS (marks id ys.length 1, 1, ()) = some ((), (1 : Int) + (ys.length : Int), ()) := heldIntS_all ys.length 1 (by omega)
    have ht := toIntS_all xs (by omega)
    have he := eqIntS_self xs (by omega)
    have hi := eqIntS_self ys (by omega)
    simp only [ht, h1, h2, he, hi, hmx, hmk, hhd, Option.bind_some, Bool.not_true, Bool.false_eq_true, if_false]
    rw [if_neg (by simp; omega), if_neg (by simp; omega), if_neg (by simp), if_neg (by simp; omega), if_neg (by simp)]
  · rw [if_pos (by simp; omega)]
end Law.FnExactLineOf
end Go.Proofs.Ytceffcfnjjlbkaa.E
