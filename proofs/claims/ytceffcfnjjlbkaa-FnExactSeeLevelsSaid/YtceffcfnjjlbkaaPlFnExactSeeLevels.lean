/- Plain laws for FnExactSeeLevels. -/
import Derived.Test.YtceffcfnjjlbkaaE31
import Derived.Test.YtceffcfnjjlbkaaWkFnExactSeeLevels
namespace Go.Proofs.Ytceffcfnjjlbkaa.E
set_option linter.unusedVariables false
set_option linter.unusedSimpArgs false
/-! ### rows of whole numbers -/
theorem eqIntS_self (xs : List Int) (hm : xs.length < 4611686018427387904) : F_laws_eqIntS (xs, xs, ()) = some ((), true, ()) := by
  rw [F_laws_eqIntS_eq, if_neg (by simp)]
  refine walk_row (H := fun i => H_laws_eqIntS_4 (xs, xs, ()) xs xs i) (n := xs.length) (fun k hk => ?_) ?_
  · show H_laws_eqIntS_4 _ _ _ _ = _
    rw [H_laws_eqIntS_4_eq, if_pos (by simp; omega), if_pos (by omega), if_pos (by omega), if_pos (by omega), if_pos (by omega), if_neg (by simp), wrap_succ (by omega)]
  · show H_laws_eqIntS_4 _ _ _ _ = _
    rw [H_laws_eqIntS_4_eq, if_neg (by simp)]
theorem markIntS_all (xs : List Int) (m : Nat) (hm : m + xs.length < 4611686018427387904) : F_laws_markIntS (xs, (m : Int), ()) = some ((marks id xs.length m, ()), ((m : Int) + (xs.length : Int)), ()) := by
  rw [F_laws_markIntS_eq]
  show H_laws_markIntS_2 (xs, (m : Int), ()) (m : Int) 0 xs = _
  refine mark_row (H := fun q i ys => H_laws_markIntS_2 (xs, (m : Int), ()) q i ys) (fin := fun ys m => some ((ys, ()), m, ())) (f := id) (fun k ys hk hl => ?_) (fun ys hl => ?_) rfl
  · show H_laws_markIntS_2 _ _ _ _ = _
    rw [H_laws_markIntS_2_eq, if_pos (by simp; omega), if_pos (by omega), if_pos (by omega), wrap_succ (by omega), wrap_small (by omega) (by omega)]
    simp only [Int.toNat_natCast, id]
    rw [show (m : Int) + (k : Int) + 1 = (m : Int) + ((k + 1 : Nat) : Int) by omega]
  · show H_laws_markIntS_2 _ _ _ _ = _
    rw [H_laws_markIntS_2_eq, if_neg (by simp; omega)]
theorem heldIntS_all (n m : Nat) (hm : m + n < 4611686018427387904) : F_laws_heldIntS (marks id n m, (m : Int), ()) = some ((), ((m : Int) + (n : Int)), ()) := by
  rw [F_laws_heldIntS_eq]
  have := walk_row (H := fun i => H_laws_heldIntS_2 (marks id n m, (m : Int), ()) (marks id n m) ((m : Int) + i) i) (n := n) (r := some ((), ((m : Int) + (n : Int)), ())) (fun k hk => ?_) ?_
  · simpa using this
  · show H_laws_heldIntS_2 _ _ _ _ = _
    have hl := marks_length (id : Int → Int) n m
    rw [H_laws_heldIntS_2_eq, if_pos (by simp; omega), if_pos (by omega), if_pos (by omega), if_neg (by
      rw [Int.toNat_natCast, getD_at (by omega), marks_get]
      simp), wrap_succ (by omega), wrap_small (by omega) (by omega)]
    rw [show (m : Int) + (k : Int) + 1 = (m : Int) + ((k + 1 : Nat) : Int) by omega]
  · show H_laws_heldIntS_2 _ _ _ _ = _
    have hl := marks_length (id : Int → Int) n m
    rw [H_laws_heldIntS_2_eq, if_neg (by simp; omega)]
/-! ### rows of bools -/
theorem eqBoolS_self (xs : List Bool) (hm : xs.length < 4611686018427387904) : F_laws_eqBoolS (xs, xs, ()) = some ((), true, ()) := by
  rw [F_laws_eqBoolS_eq, if_neg (by simp)]
  refine walk_row (H := fun i => H_laws_eqBoolS_4 (xs, xs, ()) xs xs i) (n := xs.length) (fun k hk => ?_) ?_
  · show H_laws_eqBoolS_4 _ _ _ _ = _
    rw [H_laws_eqBoolS_4_eq, if_pos (by simp; omega), if_pos (by omega), if_pos (by omega), if_pos (by omega), if_pos (by omega), if_neg (by simp), wrap_succ (by omega)]
  · show H_laws_eqBoolS_4 _ _ _ _ = _
    rw [H_laws_eqBoolS_4_eq, if_neg (by simp)]
theorem toBoolS_all (xs : List Bool) (hm : xs.length ≤ 1099511627776) : F_laws_toBoolS (xs, ()) = some ((), xs, ()) := by
  rw [F_laws_toBoolS_eq, if_pos (by simp; omega)]
  refine fill_row (H := fun i ys => H_laws_toBoolS_3 (xs, ()) xs i ys) (fin := fun ys => some ((), ys, ())) (fun k ys hk hl => ?_) (fun ys hl => ?_) (by simp)
  · show H_laws_toBoolS_3 _ _ _ _ = _
    rw [H_laws_toBoolS_3_eq, if_pos (by simp; omega), if_pos (by omega), if_pos (by omega), if_pos (by omega), if_pos (by omega), wrap_succ (by omega), Int.toNat_natCast, getD_at hk]
  · show H_laws_toBoolS_3 _ _ _ _ = _
    rw [H_laws_toBoolS_3_eq, if_neg (by simp)]
theorem markBoolS_all (xs : List Bool) (m : Nat) (hm : m + xs.length < 4611686018427387904) : ∃ ys : List Bool, F_laws_markBoolS (xs, (m : Int), ()) = some ((ys, ()), ((m : Int) + (xs.length : Int)), ()) := by
  refine ⟨marks (fun q => q.tmod 3 == 0) xs.length m, ?_⟩
  rw [F_laws_markBoolS_eq]
  show H_laws_markBoolS_2 (xs, (m : Int), ()) (m : Int) 0 xs = _
  refine mark_row (H := fun q i ys => H_laws_markBoolS_2 (xs, (m : Int), ()) q i ys) (fin := fun ys m => some ((ys, ()), m, ())) (f := fun q => q.tmod 3 == 0) (fun k ys hk hl => ?_) (fun ys hl => ?_) rfl
  · show H_laws_markBoolS_2 _ _ _ _ = _
    rw [H_laws_markBoolS_2_eq, if_pos (by simp; omega), if_pos (by omega), if_pos (by omega), wrap_succ (by omega), wrap_small (by omega) (by omega)]
    simp only [Int.toNat_natCast]
    rw [show (m : Int) + (k : Int) + 1 = (m : Int) + ((k + 1 : Nat) : Int) by omega]
  · show H_laws_markBoolS_2 _ _ _ _ = _
    rw [H_laws_markBoolS_2_eq, if_neg (by simp; omega)]
/-! ### connectors -/
theorem toConnector_all (x : Bool × Bool × Int) : F_laws_toConnector (x, ()) = some ((), x, ()) := by rw [F_laws_toConnector_eq]
theorem eqConnector_self (x : Bool × Bool × Int) : F_laws_eqConnector (x, x, ()) = some ((), true, ()) := by rw [F_laws_eqConnector_eq]; simp
theorem within_l01In (x : Int × Int × Int × Unit) : F_impl_within x = F_spec_l01In x := by
  rw [F_impl_within_eq, F_spec_l01In_eq]
theorem within_some (x : Int × Int × Int × Unit) : ∃ b : Bool, F_spec_l01In x = some ((), b, ()) := by
  rw [F_spec_l01In_eq]
  split <;> exact ⟨_, rfl⟩
theorem connectorOk_same (x : (Bool × Bool × Int) × Unit) : F_impl_ConnectorOk x = F_spec_ConnectorOk x := by
  rw [F_impl_ConnectorOk_eq, F_spec_ConnectorOk_eq, within_l01In]
theorem connectorOk_some (x : (Bool × Bool × Int) × Unit) : ∃ b : Bool, F_spec_ConnectorOk x = some ((), b, ()) := by
  rw [F_spec_ConnectorOk_eq]
  split
  · exact ⟨_, rfl⟩
  · obtain ⟨b, hb⟩ := within_some (x.1.2.2, 1, 1, ())
    exact ⟨b, by rw [hb]; rfl⟩
/-! ### levels -/
theorem seeLevel_same (x : (Bool × Bool × Int) × Bool × Unit) : F_impl_SeeLevel x = F_spec_SeeLevel x := by
  rw [F_impl_SeeLevel_eq, F_spec_SeeLevel_eq, connectorOk_same]
theorem seeLevel_some (x : (Bool × Bool × Int) × Bool × Unit) : ∃ (c : Bool × Bool × Int) (n : Int), F_spec_SeeLevel x = some ((), c, n, ()) := by
  rw [F_spec_SeeLevel_eq]
  obtain ⟨b, hb⟩ := connectorOk_some ((x.1.1, x.1.2.1, x.1.2.2), ())
  rw [hb]
  simp only [Option.bind_some]
  repeat' split
  all_goals exact ⟨_, _, rfl⟩
theorem seeLevels_both (c : Bool × Bool × Int) (xs : List Bool) (hm : xs.length ≤ 1048576) : ∃ (c' : Bool × Bool × Int) (ys : List Int), ys.length = xs.length ∧ F_spec_SeeLevels (c, xs, ()) = some ((), c', ys, ()) ∧ F_impl_SeeLevels (c, xs, ()) = some ((), c', ys, ()) := by
  have key : ∀ (d k : Nat) (a b : Bool) (n : Int) (ys : List Int), k + d = xs.length → ys.length = k → ∃ (c' : Bool × Bool × Int) (zs : List Int), zs.length = xs.length ∧ H_spec_SeeLevels_3 (c, xs, ()) xs k a b n false false 0 ys = some ((), c', zs, ()) ∧ H_impl_SeeLevels_3 (c, xs, ()) xs (xs.length : Int) k a b n false false 0 ys = some ((), c', zs, ()) := fun d => by
    induction d with
    | zero =>
      intro k a b n ys hk hy
      rw [H_spec_SeeLevels_3_eq, H_impl_SeeLevels_3_eq, if_neg (by simp; omega), if_neg (by simp; omega)]
      exact ⟨_, _, by omega, rfl, rfl⟩
    | succ d ih =>
      intro k a b n ys hk hy
      rw [H_spec_SeeLevels_3_eq, H_impl_SeeLevels_3_eq, if_pos (by simp; omega), if_pos (by omega), if_pos (by omega), if_pos (by simp; omega), if_pos (by omega), if_pos (by omega), seeLevel_same]
      obtain ⟨c', q, hq⟩ := seeLevel_some ((a, b, n), xs.getD (k : Int).toNat false, ())
      rw [hq]
      simp only [Option.bind_some]
      rw [if_pos (by simp; omega), if_pos (by simp; omega), wrap_succ (by omega)]
      exact ih (k + 1) _ _ _ _ (by omega) (by simp; omega)
  rw [F_spec_SeeLevels_eq, F_impl_SeeLevels_eq]
  exact key xs.length 0 _ _ _ [] (by omega) rfl
namespace Law.FnExactSeeLevels
abbrev ps : List PK := ps_laws_FnExactSeeLevels
abbrev o0 : outs ps := ()
noncomputable def s : Sig := ⟨ps, rs_laws_FnExactSeeLevels, F_laws_FnExactSeeLevels⟩
theorem ok : FnOk Try.prog 12 s := ok_laws_FnExactSeeLevels
theorem holds (xs : dens ps) (h : WfAll Try.prog ps xs) : s.F xs = some (o0, true, ()) := by
  obtain ⟨c, xs, _⟩ := xs
  show F_laws_FnExactSeeLevels ((c, xs, ()) : (Bool × Bool × Int) × List Bool × Unit) = some ((), true, ())
  clear h
  revert c xs
  intro (c : Bool × Bool × Int) (xs : List Bool)
  rw [F_laws_FnExactSeeLevels_eq]
  by_cases hm : xs.length ≤ 1048576
  · rw [if_neg (by simp; omega)]
    obtain ⟨c', ys, hy, h1, h2⟩ := seeLevels_both c xs hm
    obtain ⟨zs, hz⟩ := markBoolS_all xs 1 (by omega)
    have hz : F_laws_markBoolS (xs, 1, ()) = some ((zs, ()), (1 : Int) + (xs.length : Int), ()) := hz
    have hmk : F_laws_markIntS (ys, 1, ()) = some ((marks id ys.length 1, ()), (1 : Int) + (ys.length : Int), ()) := markIntS_all ys 1 (by omega)
    have hhd : F_laws_heldIntS (marks id ys.length 1, 1, ()) = some ((), (1 : Int) + (ys.length : Int), ()) := heldIntS_all ys.length 1 (by omega)
    have ht := toBoolS_all xs (by omega)
    have he := eqBoolS_self xs (by omega)
    have hi := eqIntS_self ys (by omega)
    simp only [toConnector_all, ht, h1, h2, he, hi, eqConnector_self, hz, hmk, hhd, Option.bind_some, Bool.not_true, Bool.false_eq_true, if_false]
    rw [if_neg (by simp; omega), if_neg (by simp; omega), if_neg (by simp), if_neg (by simp; omega), if_neg (by simp)]
  · rw [if_pos (by simp; omega)]
end Law.FnExactSeeLevels
end Go.Proofs.Ytceffcfnjjlbkaa.E
