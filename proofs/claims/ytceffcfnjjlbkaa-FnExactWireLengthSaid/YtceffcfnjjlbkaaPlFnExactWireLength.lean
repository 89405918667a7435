/- Plain laws for FnExactWireLength. -/
import Derived.Test.YtceffcfnjjlbkaaE31
import Derived.Test.YtceffcfnjjlbkaaWkFnExactWireLength
namespace Go.Proofs.Ytceffcfnjjlbkaa.E
set_option linter.unusedVariables false
set_option linter.unusedSimpArgs false
/-! ### rows of whole numbers -/
theorem eqIntS_self (xs : List Int) (hm : xs.length < 4611686018427387904) : F_laws_eqIntS (xs, xs, ()) = some ((), true, ()) := by
  rw [F_laws_eqIntS_eq, if_neg (by simp)]
  refine walk_row (H := fun i => H_laws_eqIntS_4 (xs, xs, ()) xs xs i) (n := xs.length) (fun k hk => ?_) ?_
  · show H_laws_eqIntS_4 _ _ _ _ = _
    rw [H_laws_eqIntS_4_eq, if_pos (by simp; omega), if_pos (by omega), if_pos (by omega), if_pos (by omega), if_pos (by omega), if_neg (by simp), wrap_succ (by omega)]
  · show H_laws_eqIntS_4 _ _ _ _ = _
    rw [H_laws_eqIntS_4_eq, if_neg (by simp)]
theorem toIntS_all (xs : List Int) (hm : xs.length ≤ 1099511627776) : F_laws_toIntS (xs, ()) = some ((), xs, ()) := by
  rw [F_laws_toIntS_eq, if_pos (by simp; omega)]
  refine fill_row (H := fun i ys => H_laws_toIntS_3 (xs, ()) xs i ys) (fin := fun ys => some ((), ys, ())) (fun k ys hk hl => ?_) (fun ys hl => ?_) (by simp)
  · show H_laws_toIntS_3 _ _ _ _ = _
    rw [H_laws_toIntS_3_eq, if_pos (by simp; omega), if_pos (by omega), if_pos (by omega), if_pos (by omega), if_pos (by omega), wrap_succ (by omega), Int.toNat_natCast, getD_at hk]
  · show H_laws_toIntS_3 _ _ _ _ = _
    rw [H_laws_toIntS_3_eq, if_neg (by simp)]
/-! ### between two numbers -/
theorem l01In_all (v lo hi : Int) : F_spec_l01In (v, lo, hi, ()) = some ((), (decide (lo ≤ v) && decide (v ≤ hi)), ()) := by
  rw [F_spec_l01In_eq]
  by_cases h : lo ≤ v <;> simp [h]
theorem within_all (v lo hi : Int) : F_impl_within (v, lo, hi, ()) = some ((), (decide (lo ≤ v) && decide (v ≤ hi)), ()) := by
  rw [F_impl_within_eq]
  by_cases h : lo ≤ v <;> simp [h]
/-! ### sizes -/
theorem szIntS_all (xs : List Int) (l : Int) (h0 : 0 ≤ l) (h1 : l ≤ 1048576) (hm : xs.length < 4611686018427387904) : F_laws_szIntS (xs, l, ()) = some ((), (if (xs.length : Int) ≤ l then l - (xs.length : Int) else -1), ()) := by
  rw [F_laws_szIntS_eq]
  simp only
  rw [wrap_small (by omega) (by omega)]
  by_cases h : (xs.length : Int) ≤ l
  · rw [if_neg (by simp; omega), if_pos h]
  · rw [if_pos (by simp; omega), if_neg h]
    rfl
/-! ### symbols -/
theorem ceilDiv_13 (n : Int) (h0 : 0 ≤ n) (h1 : n ≤ 1000) : F_impl_ceilDiv (n, 13, ()) = some ((), IntKind.i64.wrap ((IntKind.i64.wrap (IntKind.i64.wrap (n + 13) - 1)).tdiv 13), ()) := by
  rw [F_impl_ceilDiv_eq, if_neg (by simp)]
theorem symbolsFor_same (n : Int) : F_impl_SymbolsFor (n, ()) = F_spec_SymbolsFor (n, ()) := by
  rw [F_impl_SymbolsFor_eq, F_spec_SymbolsFor_eq]
  simp only [F_impl_PacketLength_eq, F_impl_isSide_eq, within_all, l01In_all, Option.bind_some]
  by_cases h0 : n = 0
  · subst h0
    have e0 : IntKind.i64.wrap 0 = 0 := wrap_small (by omega) (by omega)
    have e7 : IntKind.i64.wrap 7 = 7 := wrap_small (by omega) (by omega)
    simp [ceilDiv_13, e0, e7]
  · rw [if_neg (by simpa using h0), if_pos (by simp)]
    by_cases h1 : 1 ≤ n ∧ n ≤ 16
    · obtain ⟨h1, h2⟩ := h1
      have e1 : IntKind.i64.wrap (5 * n) = 5 * n := wrap_small (by omega) (by omega)
      have e2 : IntKind.i64.wrap (7 + 5 * n) = 7 + 5 * n := wrap_small (by omega) (by omega)
      rw [if_pos (by simp [h1, h2])]
      simp only [Option.bind_some, e1, e2]
      rw [if_neg (by simp; omega), ceilDiv_13 _ (by omega) (by omega), if_neg (by simp; omega)]
      simp only [Option.bind_some]
    · rw [if_neg (by simp; omega), if_neg (by simp), if_neg (by simp)]
      simp only [Option.bind_some]
      rw [if_pos (by decide), if_pos (by simp; omega)]
theorem symbolsFor_some (n : Int) : ∃ r : Int, F_spec_SymbolsFor (n, ()) = some ((), r, ()) := by
  rw [F_spec_SymbolsFor_eq]
  simp only [l01In_all, Option.bind_some]
  split <;> exact ⟨_, rfl⟩
/-! ### links and channels -/
abbrev Lk := Int × Int × Int
abbrev Ch := Lk × List Int × Int × Bool
def laneB (n : Int) : Bool := n == 1 || (n == 2 || n == 4)
def linkB (l : Lk) : Bool := laneB l.1 && ((decide (1 ≤ l.2.1) && decide (l.2.1 ≤ 4)) && (decide (0 ≤ l.2.2) && decide (l.2.2 ≤ 3)))
def skewB (n : Int) : Bool := decide (0 ≤ n) && decide (n ≤ 8)
def keyB (n : Int) : Bool := decide (0 ≤ n) && decide (n ≤ 2147483647)
def channelB (c : Ch) : Bool := linkB c.1 && (((c.2.1.length : Int) == c.1.1) && (c.2.1.all skewB && keyB c.2.2.1))
theorem sLaneCountOk_all (n : Int) : F_spec_LaneCountOk (n, ()) = some ((), laneB n, ()) := by
  rw [F_spec_LaneCountOk_eq]
  unfold laneB
  by_cases h1 : n = 1
  · simp [h1]
  · by_cases h2 : n = 2
    · simp [h2]
    · simp [show (n == 1) = false by simpa using h1, show (n == 2) = false by simpa using h2]
theorem iLaneCountOk_all (n : Int) : F_impl_LaneCountOk (n, ()) = some ((), laneB n, ()) := by
  rw [F_impl_LaneCountOk_eq]
  unfold laneB
  by_cases h1 : n = 1
  · simp [h1]
  · by_cases h2 : n = 2
    · simp [h2]
    · simp [show (n == 1) = false by simpa using h1, show (n == 2) = false by simpa using h2]
theorem sLinkOk_all (l : Lk) : F_spec_LinkOk (l, ()) = some ((), linkB l, ()) := by
  rw [F_spec_LinkOk_eq]
  simp only [sLaneCountOk_all, l01In_all, Option.bind_some]
  unfold linkB
  cases laneB l.1 <;> cases (decide (1 ≤ l.2.1) && decide (l.2.1 ≤ 4)) <;> simp
theorem iLinkOk_all (l : Lk) : F_impl_LinkOk (l, ()) = some ((), linkB l, ()) := by
  rw [F_impl_LinkOk_eq]
  simp only [iLaneCountOk_all, within_all, Option.bind_some]
  unfold linkB
  cases laneB l.1 <;> cases (decide (1 ≤ l.2.1) && decide (l.2.1 ≤ 4)) <;> simp
theorem indexFunc_all (xs : List Int) (p : Int → Bool) (G : Int × Unit → Option (Bool × Unit)) (hG : ∀ x u, G (x, u) = some (p x, ())) (hm : xs.length < 4611686018427387904) : ∃ r : Int, F_slices_IndexFunc_int_int (xs, G, ()) = some ((), r, ()) ∧ decide (r ≥ 0) = xs.any p := by
  rw [F_slices_IndexFunc_int_int_eq]
  have key : ∀ (d k : Nat), k + d = xs.length → ∃ r : Int, H_slices_IndexFunc_int_int_2 (xs, G, ()) xs G (xs.length : Int) k = some ((), r, ()) ∧ decide (r ≥ 0) = (xs.drop k).any p := fun d => by
    induction d with
    | zero =>
      intro k hk
      rw [H_slices_IndexFunc_int_int_2_eq, if_neg (by simp; omega), List.drop_of_length_le (by omega)]
      exact ⟨_, rfl, rfl⟩
    | succ d ih =>
      intro k hk
      have hkl : k < xs.length := by omega
      rw [H_slices_IndexFunc_int_int_2_eq, if_pos (by simp; omega), if_pos (by omega), if_pos (by omega), Int.toNat_natCast, getD_at hkl, hG, List.drop_eq_getElem_cons hkl, List.any_cons]
      simp only [Option.bind_some]
      cases hp : p xs[k] with
      | true => exact ⟨(k : Int), by simp, by simp⟩
      | false =>
        obtain ⟨r, h1, h2⟩ := ih (k + 1) (by omega)
        refine ⟨r, ?_, by simpa using h2⟩
        rw [if_neg (by simp), wrap_succ (by omega)]
        exact h1
  exact key xs.length 0 (by omega)
theorem areSkews_all (xs : List Int) (hm : xs.length < 4611686018427387904) : F_impl_areSkews (xs, ()) = some ((), xs.all skewB, ()) := by
  rw [F_impl_areSkews_eq, F_slices_ContainsFunc_int_int_eq]
  obtain ⟨r, h1, h2⟩ := indexFunc_all xs (fun x => !skewB x) (fun x => Option.map (fun r => (r.snd.fst, ())) (F_impl_areSkews_1 (x.fst, ()))) (fun x u => by
    rw [F_impl_areSkews_1_eq, within_all]
    rfl) hm

  simp only [h1, Option.bind_some]
  rw [h2, List.all_eq_not_any_not]
theorem isKey_all (n : Int) : F_impl_isKey (n, ()) = some ((), keyB n, ()) := by
  rw [F_impl_isKey_eq, within_all]
  rfl
theorem iChannelOk_all (c : Ch) (hm : c.2.1.length < 4611686018427387904) : F_impl_ChannelOk (c, ()) = some ((), channelB c, ()) := by
  rw [F_impl_ChannelOk_eq]
  simp only [iLinkOk_all, areSkews_all c.2.1 hm, isKey_all, Option.bind_some]
  unfold channelB
  cases linkB c.1 <;> by_cases he : (c.2.1.length : Int) = c.1.1 <;> cases c.2.1.all skewB <;> simp [he]
theorem sChannelOk_all (c : Ch) (hm : c.2.1.length < 4611686018427387904) : F_spec_ChannelOk (c, ()) = some ((), channelB c, ()) := by
  have hl : H_spec_ChannelOk_4 (c, ()) 0 c.1.1 c.1.2.1 c.1.2.2 c.2.1 c.2.2.1 c.2.2.2 = some ((), c.2.1.all skewB, ()) := by
    have := all_row (H := fun i => H_spec_ChannelOk_4 (c, ()) i c.1.1 c.1.2.1 c.1.2.2 c.2.1 c.2.2.1 c.2.2.2) (xs := c.2.1) (p := skewB) (t := some ((), true, ())) (f := some ((), false, ())) (fun k hk => ?_) ?_
    · refine this.trans ?_
      cases c.2.1.all skewB <;> rfl
    · show H_spec_ChannelOk_4 _ _ _ _ _ _ _ _ = _
      rw [H_spec_ChannelOk_4_eq, if_pos (by simp; omega), if_pos (by omega), if_pos (by omega), l01In_all, Int.toNat_natCast, getD_at hk, wrap_succ (by omega)]
      show (if (!skewB c.2.1[k]) = true then _ else _) = _
      cases skewB c.2.1[k] <;> simp
    · show H_spec_ChannelOk_4 _ _ _ _ _ _ _ _ = _
      rw [H_spec_ChannelOk_4_eq, if_neg (by simp)]
  rw [F_spec_ChannelOk_eq]
  simp only [sLinkOk_all, l01In_all, hl, Option.bind_some]
  unfold channelB keyB
  cases linkB c.1 <;> by_cases he : (c.2.1.length : Int) = c.1.1 <;> cases (decide (0 ≤ c.2.2.1) && decide (c.2.2.1 ≤ 2147483647)) <;> simp [he]
theorem toChannel_all (c : Ch) (hm : c.2.1.length ≤ 1099511627776) : F_laws_toChannel (c, ()) = some ((), c, ()) := by
  rw [F_laws_toChannel_eq]
  simp only [F_laws_toLink_eq, toIntS_all c.2.1 hm, Option.bind_some]
theorem eqChannel_self (c : Ch) (hm : c.2.1.length < 4611686018427387904) : F_laws_eqChannel (c, c, ()) = some ((), true, ()) := by
  rw [F_laws_eqChannel_eq]
  simp only [F_laws_eqLink_eq, eqIntS_self c.2.1 hm]
  simp
theorem szChannel_all (c : Ch) (l : Int) (h0 : 0 ≤ l) (h1 : l ≤ 1048576) (hm : c.2.1.length < 4611686018427387904) : F_laws_szChannel (c, l, ()) = some ((), (if (c.2.1.length : Int) ≤ l then l - (c.2.1.length : Int) else -1), ()) := by
  rw [F_laws_szChannel_eq]
  simp only [szIntS_all c.2.1 l h0 h1 hm, Option.bind_some]
  by_cases h : (c.2.1.length : Int) ≤ l
  · simp only [if_pos h]
    rw [if_neg (by simp; omega)]
  · simp only [if_neg h]
    rfl
/-! ### lengths on the wire -/
theorem max_all (xs : List Int) (v : Int) (X : List Int × Unit) (hm : xs.length < 4611686018427387904) : ∀ (d k : Nat) (v : Int), k + d = xs.length → H_slices_Max_int_int_5 X xs v k = some ((), (xs.drop k).foldl mx2 v, ()) := fun d => by
  induction d with
  | zero =>
    intro k v hk
    rw [H_slices_Max_int_int_5_eq, if_neg (by simp; omega), List.drop_of_length_le (by omega)]
    rfl
  | succ d ih =>
    intro k v hk
    have hkl : k < xs.length := by omega
    rw [H_slices_Max_int_int_5_eq, if_pos (by simp; omega), if_pos (by omega), if_pos (by omega), Int.toNat_natCast, getD_at hkl, wrap_succ (by omega), ih (k + 1) _ (by omega), List.drop_eq_getElem_cons hkl]
    rfl
theorem wireLength_both (c : Ch) (n : Int) (hm : c.2.1.length < 4611686018427387904) : ∃ r : Int, F_spec_WireLength (c, n, ()) = some ((), r, ()) ∧ F_impl_WireLength (c, n, ()) = some ((), r, ()) := by
  rw [F_spec_WireLength_eq, F_impl_WireLength_eq]
  simp only [symbolsFor_same, sChannelOk_all c hm, iChannelOk_all c hm]
  obtain ⟨q, hq⟩ := symbolsFor_some n
  simp only [hq, Option.bind_some]
  cases hc : channelB c with
  | false => exact ⟨-1, by simp, by simp⟩
  | true =>
    simp only [Bool.not_true, Bool.false_eq_true, if_false]
    by_cases hn : q < 0
    · rw [if_pos (by simpa using hn), if_pos (by simpa using hn)]
      exact ⟨-1, rfl, rfl⟩
    · rw [if_neg (by simpa using hn), if_neg (by simpa using hn)]
      unfold channelB linkB laneB at hc
      simp only [Bool.and_eq_true, Bool.or_eq_true, beq_iff_eq] at hc
      obtain ⟨⟨h1, _⟩, h2, h3, _⟩ := hc
      have hl : c.1.1 ≠ 0 := by omega
      have hlen : 0 < c.2.1.length := by omega
      have hs : ∀ (d k : Nat) (v : Int), k + d = c.2.1.length → H_spec_WireLength_6 (c, n, ()) q v k c.1.1 c.1.2.1 c.1.2.2 c.2.1 c.2.2.1 c.2.2.2 = some ((), IntKind.i64.wrap (IntKind.i64.wrap ((c.2.1.drop k).foldl mx2 v + 1) + IntKind.i64.wrap ((IntKind.i64.wrap (IntKind.i64.wrap (q + c.1.1) - 1)).tdiv c.1.1)), ()) := fun d => by
        induction d with
        | zero =>
          intro k v hk
          rw [H_spec_WireLength_6_eq, if_neg (by simp; omega), List.drop_of_length_le (by omega), if_neg hl]
          rfl
        | succ d ih =>
          intro k v hk
          have hkl : k < c.2.1.length := by omega
          rw [H_spec_WireLength_6_eq, if_pos (by simp; omega), if_pos (by omega), if_pos (by omega), Int.toNat_natCast, getD_at hkl, wrap_succ (by omega), ih (k + 1) _ (by omega), List.drop_eq_getElem_cons hkl]
          rfl
      have hmax : F_slices_Max_int_int (c.2.1, ()) = some ((), c.2.1.foldl mx2 0, ()) := by
        rw [F_slices_Max_int_int_eq, if_neg (by simp; omega), if_pos (by simp; omega)]
        have := max_all c.2.1 0 (c.2.1, ()) hm (c.2.1.length - 1) 1 (c.2.1.getD 0 0) (by omega)
        refine this.trans ?_
        have h0 : skewB c.2.1[0] = true := List.all_eq_true.1 h3 _ (List.getElem_mem hlen)
        unfold skewB at h0
        simp only [Bool.and_eq_true, decide_eq_true_eq] at h0
        rw [getD_at hlen]
        conv => rhs; rw [← List.drop_zero (l := c.2.1), List.drop_eq_getElem_cons hlen, List.foldl_cons]
        have : mx2 0 c.2.1[0] = c.2.1[0] := by unfold mx2; split <;> omega
        rw [this]
      have hd : F_impl_ceilDiv (q, c.1.1, ()) = some ((), IntKind.i64.wrap ((IntKind.i64.wrap (IntKind.i64.wrap (q + c.1.1) - 1)).tdiv c.1.1), ()) := by
        rw [F_impl_ceilDiv_eq, if_neg hl]
      simp only [hmax, hd, Option.bind_some]
      exact ⟨_, hs c.2.1.length 0 0 (by omega), rfl⟩
namespace Law.FnExactWireLength
abbrev ps : List PK := ps_laws_FnExactWireLength
abbrev o0 : outs ps := ()
noncomputable def s : Sig := ⟨ps, rs_laws_FnExactWireLength, F_laws_FnExactWireLength⟩
theorem ok : FnOk Try.prog 14 s := ok_laws_FnExactWireLength
theorem holds (xs : dens ps) (hwf : WfAll Try.prog ps xs) : s.F xs = some (o0, true, ()) := by
  obtain ⟨c, n, _⟩ := xs
  show F_laws_FnExactWireLength ((c, n, ()) : Ch × Int × Unit) = some ((), true, ())
  have hb : (c : Ch).2.1.length < 4611686018427387904 := by
    obtain ⟨⟨_, ⟨h1, _⟩, _⟩, _⟩ := hwf
    have hr : reachBytes < 4611686018427387904 := by decide
    exact Nat.lt_of_le_of_lt (len_of h1 (by kernel_rfl)) hr
  clear hwf
  revert c n
  intro (c : Ch) (n : Int) hb
  rw [F_laws_FnExactWireLength_eq]
  simp only [szChannel_all c 1048576 (by omega) (by omega) hb, Option.bind_some]
  by_cases h : (c.2.1.length : Int) ≤ 1048576
  · simp only [if_pos h]
    rw [if_neg (by simp; omega)]
    obtain ⟨r, h1, h2⟩ := wireLength_both c n hb
    simp only [toChannel_all c (by omega), h1, h2, eqChannel_self c hb, Option.bind_some]
    simp
  · simp only [if_neg h]
    rfl
end Law.FnExactWireLength
end Go.Proofs.Ytceffcfnjjlbkaa.E
