/- Plain laws for FnExactRefreshCost. -/
import Derived.Test.YtceffcfnjjlbkaaE31
import Derived.Test.YtceffcfnjjlbkaaWkFnExactRefreshCost
namespace Go.Proofs.Ytceffcfnjjlbkaa.E
set_option linter.unusedVariables false
set_option linter.unusedSimpArgs false
/-! ### rows of whole numbers -/
theorem eqIntS_self (xs : List Int) (hm : xs.length < 4611686018427387904) : F_laws_eqIntS (xs, xs, ()) = some ((), true, ()) := by
  rw [F_laws_eqIntS_eq, if_neg (by simp)]
  refine walk_row (H := fun i => H_laws_eqIntS_4 (xs, xs, ()) xs xs i) (n := xs.length) (fun k hk => ?_) ?_
  · show H_laws_eqIntS_4 _ _ _ _ = _
    rw [H_laws_eqIntS_4_eq, if_pos (by simp; omega), if_pos (by omega), if_pos (by omega), if_pos (by omega), if_pos (by omega), if_neg (by simp), wrap_succ (by omega)]
  · show H_laws_eqIntS_4 _ _ _ _ = _
    rw [H_laws_eqIntS_4_eq, if_neg (by simp)]
theorem toIntS_all (xs : List Int) (hm : xs.length ≤ 1099511627776) : F_laws_toIntS (xs, ()) = some ((), xs, ()) := by
  rw [F_laws_toIntS_eq, if_pos (by simp; omega)]
  refine fill_row (H := fun i ys => H_laws_toIntS_3 (xs, ()) xs i ys) (fin := fun ys => some ((), ys, ())) (fun k ys hk hl => ?_) (fun ys hl => ?_) (by simp)
  · show H_laws_toIntS_3 _ _ _ _ = _
    rw [H_laws_toIntS_3_eq, if_pos (by simp; omega), if_pos (by omega), if_pos (by omega), if_pos (by omega), if_pos (by omega), wrap_succ (by omega), Int.toNat_natCast, getD_at hk]
  · show H_laws_toIntS_3 _ _ _ _ = _
    rw [H_laws_toIntS_3_eq, if_neg (by simp)]
/-! ### between two numbers -/
theorem l01In_all (v lo hi : Int) : F_spec_l01In (v, lo, hi, ()) = some ((), (decide (lo ≤ v) && decide (v ≤ hi)), ()) := by
  rw [F_spec_l01In_eq]
  by_cases h : lo ≤ v <;> simp [h]
theorem within_all (v lo hi : Int) : F_impl_within (v, lo, hi, ()) = some ((), (decide (lo ≤ v) && decide (v ≤ hi)), ()) := by
  rw [F_impl_within_eq]
  by_cases h : lo ≤ v <;> simp [h]
/-! ### sizes -/
theorem szIntS_all (xs : List Int) (l : Int) (h0 : 0 ≤ l) (h1 : l ≤ 1048576) (hm : xs.length < 4611686018427387904) : F_laws_szIntS (xs, l, ()) = some ((), (if (xs.length : Int) ≤ l then l - (xs.length : Int) else -1), ()) := by
  rw [F_laws_szIntS_eq]
  simp only
  rw [wrap_small (by omega) (by omega)]
  by_cases h : (xs.length : Int) ≤ l
  · rw [if_neg (by simp; omega), if_pos h]
  · rw [if_pos (by simp; omega), if_neg h]
    rfl
/-! ### lists of line packets -/
abbrev LP := Int × Int × Int × List Int
theorem szLinePacket_all (x : LP) (l : Int) (h0 : 0 ≤ l) (h1 : l ≤ 1048576) (hm : x.2.2.2.length < 4611686018427387904) : F_laws_szLinePacket (x, l, ()) = some ((), (if (x.2.2.2.length : Int) ≤ l then l - (x.2.2.2.length : Int) else -1), ()) := by
  rw [F_laws_szLinePacket_eq]
  simp only [szIntS_all x.2.2.2 l h0 h1 hm, Option.bind_some]
  by_cases h : (x.2.2.2.length : Int) ≤ l
  · simp only [if_pos h]
    rw [if_neg (by simp; omega)]
  · simp only [if_neg h]
    rfl
theorem szLinePacketS_all (xs : List LP) (l : Int) (h0 : 0 ≤ l) (h1 : l ≤ 1048576) (hm : xs.length < 4611686018427387904) (hx : ∀ x ∈ xs, x.2.2.2.length < 4611686018427387904) :
    ∃ r : Int, F_laws_szLinePacketS (xs, l, ()) = some ((), r, ()) ∧ (0 ≤ r → (xs.length : Int) ≤ l ∧ ∀ x ∈ xs, (x.2.2.2.length : Int) ≤ 1048576) := by
  rw [F_laws_szLinePacketS_eq]
  simp only
  rw [wrap_small (by omega) (by omega)]
  by_cases h : (xs.length : Int) ≤ l
  · rw [if_neg (by simp; omega)]
    have key : ∀ (d k : Nat) (q : Int), k + d = xs.length → 0 ≤ q → q ≤ 1048576 → ∃ r : Int, H_laws_szLinePacketS_5 (xs, l, ()) xs q k = some ((), r, ()) ∧ (0 ≤ r → ∀ x ∈ xs.drop k, (x.2.2.2.length : Int) ≤ 1048576) := fun d => by
      induction d with
      | zero =>
        intro k q hk hq0 hq1
        rw [H_laws_szLinePacketS_5_eq, if_neg (by simp; omega)]
        exact ⟨q, rfl, fun _ x hx => by rw [List.drop_of_length_le (by omega)] at hx; cases hx⟩
      | succ d ih =>
        intro k q hk hq0 hq1
        have hkl : k < xs.length := by omega
        rw [H_laws_szLinePacketS_5_eq, if_pos (by simp; omega), if_pos (by omega), if_pos (by omega), Int.toNat_natCast, getD_at hkl]
        have hb := hx _ (List.getElem_mem hkl)
        rw [show F_laws_szLinePacket (xs[k], q, ()) = _ from szLinePacket_all _ q hq0 hq1 hb]
        simp only [Option.bind_some]
        by_cases hle : (xs[k].2.2.2.length : Int) ≤ q
        · simp only [if_pos hle]
          rw [if_neg (by simp; omega), wrap_succ (by omega)]
          obtain ⟨r, h1, h2⟩ := ih (k + 1) (q - (xs[k].2.2.2.length : Int)) (by omega) (by omega) (by omega)
          refine ⟨r, h1, fun hr x hx => ?_⟩
          rw [List.drop_eq_getElem_cons hkl] at hx
          rcases List.mem_cons.1 hx with rfl | hx
          · omega
          · exact h2 hr x hx
        · simp only [if_neg hle]
          exact ⟨-1, rfl, fun h => absurd h (by decide)⟩
    obtain ⟨r, h2, h3⟩ := key xs.length 0 (l - (xs.length : Int)) (by omega) (by omega) (by omega)
    exact ⟨r, h2, fun hr => ⟨h, h3 hr⟩⟩
  · rw [if_pos (by simp; omega)]
    exact ⟨-1, rfl, fun h => absurd h (by decide)⟩
theorem toLinePacket_all (x : LP) (hm : x.2.2.2.length ≤ 1099511627776) : F_laws_toLinePacket (x, ()) = some ((), x, ()) := by
  rw [F_laws_toLinePacket_eq]
  simp only [toIntS_all x.2.2.2 hm, Option.bind_some]
theorem toLinePacketS_all (xs : List LP) (hm : xs.length ≤ 1099511627776) (hx : ∀ x ∈ xs, x.2.2.2.length ≤ 1099511627776) : F_laws_toLinePacketS (xs, ()) = some ((), xs, ()) := by
  rw [F_laws_toLinePacketS_eq, if_pos (by simp; omega)]
  refine fill_row (H := fun i ys => H_laws_toLinePacketS_3 (xs, ()) xs i ys) (fin := fun ys => some ((), ys, ())) (fun k ys hk hl => ?_) (fun ys hl => ?_) (by simp)
  · show H_laws_toLinePacketS_3 _ _ _ _ = _
    rw [H_laws_toLinePacketS_3_eq, if_pos (by simp; omega), if_pos (by omega), if_pos (by omega), Int.toNat_natCast, getD_at hk, toLinePacket_all _ (hx _ (List.getElem_mem hk))]
    simp only [Option.bind_some]
    rw [if_pos (by omega), if_pos (by omega), wrap_succ (by omega)]
  · show H_laws_toLinePacketS_3 _ _ _ _ = _
    rw [H_laws_toLinePacketS_3_eq, if_neg (by simp)]
theorem eqLinePacket_self (x : LP) (hm : x.2.2.2.length < 4611686018427387904) : F_laws_eqLinePacket (x, x, ()) = some ((), true, ()) := by
  rw [F_laws_eqLinePacket_eq]
  simp only [eqIntS_self x.2.2.2 hm, Option.bind_some]
  simp
theorem eqLinePacketS_self (xs : List LP) (hm : xs.length < 4611686018427387904) (hx : ∀ x ∈ xs, x.2.2.2.length < 4611686018427387904) : F_laws_eqLinePacketS (xs, xs, ()) = some ((), true, ()) := by
  rw [F_laws_eqLinePacketS_eq, if_neg (by simp)]
  refine walk_row (H := fun i => H_laws_eqLinePacketS_4 (xs, xs, ()) xs xs i) (n := xs.length) (fun k hk => ?_) ?_
  · show H_laws_eqLinePacketS_4 _ _ _ _ = _
    rw [H_laws_eqLinePacketS_4_eq, if_pos (by simp; omega), if_pos (by omega), if_pos (by omega), if_pos (by omega), if_pos (by omega), Int.toNat_natCast, getD_at hk, eqLinePacket_self _ (hx _ (List.getElem_mem hk))]
    simp only [Option.bind_some]
    rw [if_neg (by simp), wrap_succ (by omega)]
  · show H_laws_eqLinePacketS_4 _ _ _ _ = _
    rw [H_laws_eqLinePacketS_4_eq, if_neg (by simp)]
/-! ### symbols -/
theorem ceilDiv_13 (n : Int) (h0 : 0 ≤ n) (h1 : n ≤ 1000) : F_impl_ceilDiv (n, 13, ()) = some ((), IntKind.i64.wrap ((IntKind.i64.wrap (IntKind.i64.wrap (n + 13) - 1)).tdiv 13), ()) := by
  rw [F_impl_ceilDiv_eq, if_neg (by simp)]
theorem symbolsFor_same (n : Int) : F_impl_SymbolsFor (n, ()) = F_spec_SymbolsFor (n, ()) := by
  rw [F_impl_SymbolsFor_eq, F_spec_SymbolsFor_eq]
  simp only [F_impl_PacketLength_eq, F_impl_isSide_eq, within_all, l01In_all, Option.bind_some]
  by_cases h0 : n = 0
  · subst h0
    have e0 : IntKind.i64.wrap 0 = 0 := wrap_small (by omega) (by omega)
    have e7 : IntKind.i64.wrap 7 = 7 := wrap_small (by omega) (by omega)
    simp [ceilDiv_13, e0, e7]
  · rw [if_neg (by simpa using h0), if_pos (by simp)]
    by_cases h1 : 1 ≤ n ∧ n ≤ 16
    · obtain ⟨h1, h2⟩ := h1
      have e1 : IntKind.i64.wrap (5 * n) = 5 * n := wrap_small (by omega) (by omega)
      have e2 : IntKind.i64.wrap (7 + 5 * n) = 7 + 5 * n := wrap_small (by omega) (by omega)
      rw [if_pos (by simp [h1, h2])]
      simp only [Option.bind_some, e1, e2]
      rw [if_neg (by simp; omega), ceilDiv_13 _ (by omega) (by omega), if_neg (by simp; omega)]
      simp only [Option.bind_some]
    · rw [if_neg (by simp; omega), if_neg (by simp), if_neg (by simp)]
      simp only [Option.bind_some]
      rw [if_pos (by decide), if_pos (by simp; omega)]
theorem symbolsFor_some (n : Int) : ∃ r : Int, F_spec_SymbolsFor (n, ()) = some ((), r, ()) := by
  rw [F_spec_SymbolsFor_eq]
  simp only [l01In_all, Option.bind_some]
  split <;> exact ⟨_, rfl⟩
/-! ### costs -/
theorem refreshCost_both (xs : List LP) (hm : xs.length < 4611686018427387904) : ∃ r : Int, F_spec_RefreshCost (xs, ()) = some ((), r, ()) ∧ F_impl_RefreshCost (xs, ()) = some ((), r, ()) := by
  rw [F_spec_RefreshCost_eq, F_impl_RefreshCost_eq]
  have key : ∀ (d k : Nat) (q : Int), k + d = xs.length → ∃ r : Int, H_spec_RefreshCost_3 (xs, ()) xs q k = some ((), r, ()) ∧ H_impl_RefreshCost_3 (xs, ()) q xs (xs.length : Int) k = some ((), r, ()) := fun d => by
    induction d with
    | zero =>
      intro k q hk
      rw [H_spec_RefreshCost_3_eq, H_impl_RefreshCost_3_eq, if_neg (by simp; omega), if_neg (by simp; omega)]
      exact ⟨q, rfl, rfl⟩
    | succ d ih =>
      intro k q hk
      rw [H_spec_RefreshCost_3_eq, H_impl_RefreshCost_3_eq, if_pos (by simp; omega), if_pos (by omega), if_pos (by omega), if_pos (by simp; omega), if_pos (by omega), if_pos (by omega), symbolsFor_same]
      obtain ⟨r, hr⟩ := symbolsFor_some ((xs.getD (k : Int).toNat (0, 0, 0, [])).2.2.2.length : Int)
      rw [hr]
      simp only [Option.bind_some]
      rw [wrap_succ (by omega)]
      exact ih (k + 1) _ (by omega)
  exact key xs.length 0 0 (by omega)
namespace Law.FnExactRefreshCost
abbrev ps : List PK := ps_laws_FnExactRefreshCost
abbrev o0 : outs ps := ()
noncomputable def s : Sig := ⟨ps, rs_laws_FnExactRefreshCost, F_laws_FnExactRefreshCost⟩
theorem ok : FnOk Try.prog 11 s := ok_laws_FnExactRefreshCost
theorem holds (xs : dens ps) (hwf : WfAll Try.prog ps xs) : s.F xs = some (o0, true, ()) := by
  obtain ⟨xs, _⟩ := xs
  show F_laws_FnExactRefreshCost ((xs, ()) : List LP × Unit) = some ((), true, ())
  have hb : xs.length < 4611686018427387904 ∧ ∀ x ∈ (xs : List LP), x.2.2.2.length < 4611686018427387904 := by
    obtain ⟨⟨h1, h2⟩, _⟩ := hwf
    have hr : reachBytes < 4611686018427387904 := by decide
    refine ⟨Nat.lt_of_le_of_lt (len_of h1 (by kernel_rfl)) hr, fun x hx => ?_⟩
    obtain ⟨_, _, _, h3, _⟩ := h2 x hx
    exact Nat.lt_of_le_of_lt (len_of h3 (by kernel_rfl)) hr
  clear hwf
  revert xs
  intro (xs : List LP) ⟨hb1, hb2⟩
  rw [F_laws_FnExactRefreshCost_eq]
  obtain ⟨r, h1, h2⟩ := szLinePacketS_all xs 1048576 (by omega) (by omega) hb1 hb2
  simp only [h1, Option.bind_some]
  by_cases hr : 0 ≤ r
  · obtain ⟨q1, q2⟩ := h2 hr
    rw [if_neg (by simp; omega)]
    obtain ⟨c, c1, c2⟩ := refreshCost_both xs hb1
    have ht := toLinePacketS_all xs (by omega) (fun x hx => by have := q2 x hx; omega)
    have he := eqLinePacketS_self xs hb1 hb2
    simp only [ht, c1, c2, he, Option.bind_some]
    simp
  · rw [if_pos (by simp; omega)]
end Law.FnExactRefreshCost
end Go.Proofs.Ytceffcfnjjlbkaa.E
