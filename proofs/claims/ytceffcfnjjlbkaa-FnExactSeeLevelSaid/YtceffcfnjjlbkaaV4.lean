/- A typed evaluator for loaded code, 5: memory: new blocks, loads, stores, addresses. -/
import Derived.Test.YtceffcfnjjlbkaaV3
namespace Go.Proofs.Ytceffcfnjjlbkaa.V
open Go.RowKit Go.Proofs.YtceffcfnjjlbkaaW.PrintWords Go.Proofs.YtceffcfnjjlbkaaW.PrintLast Go.Proofs.YtceffcfnjjlbkaaW.PrintMore
set_option linter.unusedVariables false
set_option linter.unusedSimpArgs false
section
variable {P : Program} {B : Nat} {wE : World} {C : Cx} {st : St} {a : Act}

theorem RC_one {c : CV} {v : Value} (h : RC C c v) (hk : c.known = true) : v.oneCell' = true := by
  cases c with
  | int k n => obtain rfl : v = _ := h; rfl
  | bool b => obtain rfl : v = _ := h; rfl
  | str s => obtain rfl : v = _ := h; rfl
  | bor e t xs => obtain ⟨A, c, rfl, _⟩ := h; rfl
  | own b => obtain ⟨_, _, A, n, c, rfl⟩ := h; rfl
  | nil => obtain rfl : v = _ := h; rfl
  | ptr b off => obtain ⟨_, g, _, rfl⟩ := h; rfl
  | eptr b sz i off => obtain ⟨_, g, n, c, _, rfl⟩ := h; rfl
  | bptr t x off => obtain ⟨ad, c, rfl, _⟩ := h; rfl
  | fn f => obtain rfl : v = _ := h; rfl
  | un => cases hk
theorem RCs_seg {cs : List CV} {vs : List Value} (h : RCs C cs vs) (o n : Nat) : RCs C ((cs.drop o).take n) ((vs.drop o).take n) := by
  refine ⟨by simp [h.1], fun j c v hc hv => ?_⟩
  by_cases hj : j < n
  · rw [List.getElem?_take_of_lt hj, List.getElem?_drop] at hc hv
    exact h.2 _ c v hc hv
  · rw [List.getElem?_eq_none (by simp; omega)] at hc
    cases hc
theorem RCs_append {cs cs' : List CV} {vs vs' : List Value} (h : RCs C cs vs) (h' : RCs C cs' vs') : RCs C (cs ++ cs') (vs ++ vs') := by
  refine ⟨by simp [h.1, h'.1], fun j c v hc hv => ?_⟩
  by_cases hj : j < cs.length
  · rw [List.getElem?_append_left hj] at hc
    rw [List.getElem?_append_left (by rw [← h.1]; exact hj)] at hv
    exact h.2 j c v hc hv
  · rw [List.getElem?_append_right (by omega)] at hc
    rw [List.getElem?_append_right (by rw [← h.1]; omega), ← h.1] at hv
    exact h'.2 _ c v hc hv
theorem RCs_nil : RCs C [] [] := ⟨rfl, fun j c v h => by simp at h⟩
theorem RCs_one {c : CV} {v : Value} (h : RC C c v) : RCs C [c] [v] := ⟨rfl, fun j c' v' hc hv => by
  cases j with
  | zero =>
    simp at hc hv
    subst hc; subst hv
    exact h
  | succ j => simp at hc⟩

/-! ### a new block -/
/-- The context behind a new block at the heap's end. -/
def Cx.grow (C : Cx) (w' : World) (u : Value) (φ' : Nat → Prop) (S' : Nat → Prop) : Cx :=
  { w := w', N := C.N + 1, S := S', ρ := fun b => if b = C.N then u else C.ρ b, φ := fun b => if b = C.N then φ' else C.φ b }
theorem RL_lt {b : Nat} {lb : LB} (hl : lb.alive = true) (h : RL B C b lb) : ∀ k, C.φ b k → k < C.w.heap.size := by
  cases lb with
  | dead => cases hl
  | cells T cs =>
    obtain ⟨g, vs, h1, h2, h3, h4, h5, h6⟩ := h
    intro k hk
    rw [(h4 k).1 hk]
    exact blk_lt h5
  | row e t xs => exact h.2.1
theorem Inv.grow (hI : Inv B wE C st.loc) {w' : World} {u : Value} {φ' S' : Nat → Prop} {lb : LB} (hbelow : Below C.w.heap.size C.w w')
    (hS : ∀ k, C.S k → S' k) (hS' : ∀ k, S' k → C.S k ∨ (C.w.heap.size ≤ k ∧ k < w'.heap.size)) (hφ : ∀ k, φ' k → C.w.heap.size ≤ k) (hnew : RL B (C.grow w' u φ' S') C.N lb) : Inv B wE (C.grow w' u φ' S') (st.loc ++ [lb]) ∧ Ext C (C.grow w' u φ' S') := by
  have hE : Ext C (C.grow w' u φ' S') := ⟨fun k hk => hbelow.block k (hI.S_lt k hk), hS, Nat.le_succ _, fun b hb => by show (if b = C.N then _ else _) = _; rw [if_neg (by omega)]⟩
  refine ⟨⟨by rw [List.length_append, hI.len]; rfl, below_then hI.below hI.base hbelow, Nat.le_trans hI.base hbelow.size, fun k hk => hS k (hI.S_base k hk), fun k hk => ?_, fun b lb' hb => ?_, fun b b' l l' hne hb hb' ha ha' k hk hk' => ?_⟩, hE⟩
  · rcases hS' k hk with h | ⟨_, h⟩
    · exact Nat.lt_of_lt_of_le (hI.S_lt k h) hbelow.size
    · exact h
  · by_cases hlt : b < st.loc.length
    · rw [List.getElem?_append_left hlt] at hb
      have hbN : b < C.N := by rw [← hI.len]; exact hlt
      have hR := hI.ok b lb' hb
      cases hal : lb'.alive with
      | false => cases lb' <;> first | trivial | cases hal
      | true =>
        have hlt' := RL_lt hal hR
        refine RL_ext hE hbN (by show (if b = C.N then _ else _) = _; rw [if_neg (by omega)]) hbelow.size (fun k hk => hbelow.block k (hlt' k hk)) (fun k hk hs => ?_) hR
        rcases hS' k hs with h | ⟨h, _⟩
        · exact h
        · exact absurd (hlt' k hk) (by omega)
    · rw [List.getElem?_append_right (by omega)] at hb
      have h0 : b - st.loc.length = 0 := by
        have := (List.getElem?_eq_some_iff.1 hb).1
        simp at this
        omega
      rw [h0] at hb
      simp at hb
      subst hb
      have : b = C.N := by rw [← hI.len]; omega
      rw [this]
      exact hnew
  · have key : ∀ {b : Nat} {l : LB}, (st.loc ++ [lb])[b]? = some l → l.alive = true → (b < st.loc.length ∧ st.loc[b]? = some l ∧ (C.grow w' u φ' S').φ b = C.φ b) ∨ (b = C.N ∧ (C.grow w' u φ' S').φ b = φ') := by
      intro b l hb ha
      by_cases hlt : b < st.loc.length
      · rw [List.getElem?_append_left hlt] at hb
        exact .inl ⟨hlt, hb, by show (if b = C.N then _ else _) = _; rw [if_neg (by rw [← hI.len]; omega)]⟩
      · have := (List.getElem?_eq_some_iff.1 hb).1
        simp at this
        have hbN : b = C.N := by rw [← hI.len]; omega
        exact .inr ⟨hbN, by show (if b = C.N then _ else _) = _; rw [if_pos hbN]⟩
    rcases key hb ha with ⟨h1, h2, h3⟩ | ⟨h1, h3⟩ <;> rcases key hb' ha' with ⟨h1', h2', h3'⟩ | ⟨h1', h3'⟩
    · rw [h3] at hk
      rw [h3'] at hk'
      exact hI.disj b b' l l' hne h2 h2' ha ha' k hk hk'
    · rw [h3] at hk
      rw [h3'] at hk'
      exact absurd (RL_lt ha (hI.ok b l h2) k hk) (by have := hφ k hk'; omega)
    · rw [h3] at hk
      rw [h3'] at hk'
      exact absurd (RL_lt ha' (hI.ok b' l' h2') k hk') (by have := hφ k hk; omega)
    · exact hne (h1.trans h1'.symm)
theorem Rel.grow (hR : Rel B wE C st a) {w' : World} {u : Value} {φ' S' : Nat → Prop} {lb : LB} (hbelow : Below C.w.heap.size C.w w')
    (hS : ∀ k, C.S k → S' k) (hS' : ∀ k, S' k → C.S k ∨ (C.w.heap.size ≤ k ∧ k < w'.heap.size)) (hφ : ∀ k, φ' k → C.w.heap.size ≤ k) (hnew : RL B (C.grow w' u φ' S') C.N lb) : Rel B wE (C.grow w' u φ' S') (newBlk st lb) a ∧ Ext C (C.grow w' u φ' S') := by
  obtain ⟨h1, h2⟩ := hR.inv.grow hbelow hS hS' hφ hnew
  exact ⟨⟨h1, hR.sz, tm_ext h2 hR.tm, hR.df⟩, h2⟩
theorem below_new (w : World) (o : Obj) : Below w.heap.size w (w.alloc o) := below_alloc (Below.refl _ _) o
/-- A new variable in memory. -/
theorem Rel.newCells (hR : Rel B wE C st a) {T : Nat} {cs : List CV} {vs : List Value} (hcs : RCs C cs vs) :
    ∃ C', Rel B wE C' (newBlk st (.cells T cs)) a ∧ Ext C C' ∧ C'.w = C.w.alloc (.cells vs.toArray T) ∧ C'.N = C.N + 1 ∧ C'.ρ C.N = .pointer (some ⟨C.w.heap.size, 0, none⟩) := by
  have hb := below_new C.w (.cells vs.toArray T)
  have hρ : (C.grow (C.w.alloc (.cells vs.toArray T)) (.pointer (some ⟨C.w.heap.size, 0, none⟩)) (fun k => k = C.w.heap.size) C.S).ρ C.N = .pointer (some ⟨C.w.heap.size, 0, none⟩) := by
    show (if C.N = C.N then _ else _) = _
    rw [if_pos rfl]
  have hE : Ext C (C.grow (C.w.alloc (.cells vs.toArray T)) (.pointer (some ⟨C.w.heap.size, 0, none⟩)) (fun k => k = C.w.heap.size) C.S) :=
    ⟨fun k hk => hb.block k (hR.inv.S_lt k hk), fun _ h => h, Nat.le_succ _, fun b hb => by show (if b = C.N then _ else _) = _; rw [if_neg (by omega)]⟩
  obtain ⟨h1, h2⟩ := hR.grow (u := .pointer (some ⟨C.w.heap.size, 0, none⟩)) (φ' := fun k => k = C.w.heap.size) (S' := C.S) (lb := .cells T cs) hb (fun _ h => h) (fun _ h => .inl h) (fun k hk => by omega)
    ⟨C.w.heap.size, vs, hρ, hR.inv.base, fun hs => Nat.lt_irrefl _ (hR.inv.S_lt _ hs), fun k => by show (if C.N = C.N then (fun k => k = C.w.heap.size) else C.φ C.N) k ↔ _; rw [if_pos rfl], blk_new C.w _, RCs_ext hE hcs⟩
  exact ⟨_, h1, h2, rfl, rfl, hρ⟩

/-! ### types at run time -/
theorem info_of_underlying {T : Nat} {d : TypeDesc} (h : P.underlying T = some d) : ∃ i, P.info? T = some i := by
  unfold Program.underlying at h
  split at h
  · exact ⟨_, by assumption⟩
  · exact ⟨_, by assumption⟩
  · cases h
theorem aggT_ok {T : Nat} {g : Bool} (h : aggT P T = some g) : (∃ i, P.info? T = some i) ∧ ∀ w, (isAgg T).run P w = .ok g w := by
  unfold aggT at h
  split at h <;> cases h
  all_goals
    rename_i hu
    exact ⟨info_of_underlying hu, fun w => by
      unfold isAgg
      rw [Sem.run_bind, run_underlying hu w]
      rfl⟩
theorem size_run {T : Nat} {i : TypeInfo} (h : P.info? T = some i) (w : World) : (sizeOf T).run P w = .ok (P.cellsOf T) w := by
  simp [sizeOf, typeInfo, Sem.run_bind, h, Program.cellsOf]
theorem cvsOf_ok : ∀ {l : List Value} {cs : List CV}, cvsOf l = some cs → RCs C cs l
  | [], cs, h => by
    simp only [cvsOf] at h
    injection h with h
    subst h
    exact RCs_nil
  | v :: l, cs, h => by
    simp only [cvsOf] at h
    split at h
    · rename_i c hc
      split at h
      · rename_i r hr
        injection h with h
        subst h
        exact RCs_append (RCs_one (cvOf_ok hc)) (cvsOf_ok hr)
      · cases h
    · cases h
theorem zeroC_ok {T : Nat} {cs : List CV} (h : zeroC P T = some cs) : ∃ z : Value, RCs C cs z.cells.toList ∧ ∀ w, (zeroValue T).run P w = .ok z w := by
  unfold zeroC at h
  split at h
  · rename_i i hi
    split at h
    · rename_i z hz
      split at h
      · exact ⟨z, cvsOf_ok h, fun w => by simp [zeroValue, typeInfo, Sem.run_bind, hi, hz]⟩
      · cases h
    · cases h
  · cases h

/-! ### loads -/
theorem load_run {T : Nat} {g : Bool} (hg : aggT P T = some g) {ad : Addr} {seg : List Value} (hl : seg.length = P.cellsOf T) {w : World} (hc : ∀ j v, seg[j]? = some v → w.cell? (ad.add j) = some v) {v : Value} (hv : if g = true then v = .agg seg.toArray else seg = [v]) :
    (Instr.loadAt T (.pointer (some ad))).run P w = .ok v w := by
  obtain ⟨⟨i, hi⟩, hag⟩ := aggT_ok hg
  simp only [Instr.loadAt, Instr.sureAddr, Sem.run_bind, Sem.run_pure, Result.andThen_ok, loadVar, hag w]
  cases g with
  | true =>
    simp only [if_true] at hv ⊢
    subst hv
    have := run_loadCells_list (P := P) w ad seg hc
    rw [Sem.run_bind, size_run hi, Result.andThen_ok, Sem.run_bind, ← hl, this]
    rfl
  | false =>
    simp only [Bool.false_eq_true, if_false] at hv ⊢
    subst hv
    have := hc 0 v rfl
    rw [Addr.add_zero'] at this
    simp [load, Sem.run, this]
theorem tvOf_ok {g : Bool} {cs : List CV} {tv : TV} (h : tvOf g cs = some tv) {seg : List Value} (hs : RCs C cs seg) : ∃ v, (if g = true then v = .agg seg.toArray else seg = [v]) ∧ RV C tv v := by
  unfold tvOf at h
  split at h
  · rename_i hg
    injection h with h
    subst h
    exact ⟨.agg seg.toArray, by rw [if_pos hg], seg, hs, rfl⟩
  · rename_i hg
    split at h
    · rename_i c
      injection h with h
      subst h
      obtain ⟨hl, hr⟩ := hs
      match seg, hl with
      | [v], _ => exact ⟨v, by rw [if_neg hg], hr 0 c v rfl rfl⟩
    · cases h
theorem tvCells_ok {g : Bool} {tv : TV} {cs : List CV} (h : tvCells g tv = some cs) {v : Value} (hv : RV C tv v) : ∃ seg, RCs C cs seg ∧ if g = true then v = .agg seg.toArray else seg = [v] := by
  cases tv with
  | agg cs' =>
    simp only [tvCells] at h
    split at h
    · rename_i hg
      injection h with h
      subst h
      obtain ⟨seg, h1, h2⟩ := hv
      exact ⟨seg, h1, by rw [if_pos hg]; exact h2⟩
    · cases h
  | c x =>
    simp only [tvCells] at h
    split at h
    · cases h
    · rename_i hg
      injection h with h
      subst h
      exact ⟨[v], RCs_one hv, by rw [if_neg hg]⟩
  | tup xs => cases h
theorem allCells_ok {tv : TV} {cs : List CV} (h : allCells tv = some cs) {v : Value} (hv : RV C tv v) (hk : cs.all CV.known = true) : ∃ seg, RCs C cs seg ∧ v.cells.toList = seg := by
  cases tv with
  | agg cs' =>
    simp only [allCells] at h
    injection h with h
    subst h
    obtain ⟨seg, h1, rfl⟩ := hv
    exact ⟨seg, h1, by simp [Value.cells]⟩
  | c x =>
    simp only [allCells] at h
    injection h with h
    subst h
    refine ⟨[v], RCs_one hv, ?_⟩
    have := RC_one hv (by simpa using hk)
    cases v <;> first | rfl | cases this
  | tup xs => cases h

/-- The cells of data that is read lie there as they are told. -/
theorem flat_ok {w : World} {S : Nat → Prop} {N : Nat} {ρ : Nat → Value} {φ : Nat → Nat → Prop} : ∀ {t : Ty} {x : t.den} {c : List Value}, Kd.FK t.kd w S x c → RCs ⟨w, N, S, ρ, φ⟩ (flat t x) c
  | .int k, x, c, h => by
    obtain rfl : c = [.int k x] := Kd.FK_now h
    exact RCs_one rfl
  | .bool, x, c, h => by
    obtain rfl : c = [.bool x] := Kd.FK_now h
    exact RCs_one rfl
  | .str, x, c, h => by
    obtain rfl : c = [.string x] := Kd.FK_now h
    exact RCs_one rfl
  | .sl e t, x, c, h => by
    obtain ⟨A, n, rfl, hl, hC⟩ := Kd.FK_now h
    refine RCs_one ⟨A, n, rfl, hl, fun W' hW => ?_⟩
    obtain ⟨A', n', he, hl', hC'⟩ := h W' hW
    injection he with he _
    injection he with he _ _
    subst he
    exact hC'
  | .pair a b, x, c, h => by
    obtain ⟨c0, c1, rfl, h0, h1⟩ := Kd.FK_now h
    have hl0 := a.kd.K_len h0
    refine RCs_append (flat_ok (t := a) (c := c0) fun W' hW => ?_) (flat_ok (t := b) (c := c1) fun W' hW => ?_)
    · obtain ⟨d0, d1, he, k0, k1⟩ := h W' hW
      have := List.append_inj he (by rw [hl0, a.kd.K_len k0])
      rw [this.1]
      exact k0
    · obtain ⟨d0, d1, he, k0, k1⟩ := h W' hW
      have := List.append_inj he (by rw [hl0, a.kd.K_len k0])
      rw [this.2]
      exact k1
theorem FK_of_M {α : Type} {d : Kd α} {w : World} {base : Nat} {ok : Nat → Prop} {x : α} {c : List Value} (h : d.M w base ok x c) : Kd.FK d w ok x c := fun W' hW =>
  d.K_of_M (d.M_move (fun k hk => hW k hk.1 hk.2.2.1) (d.M_bound h))
theorem seg_len {cs : List CV} {vs : List Value} (h : RCs C cs vs) {o n : Nat} (hn : o + n ≤ cs.length) : ((vs.drop o).take n).length = n := by
  have := h.1
  simp
  omega
theorem evLoad_ok (hR : Rel B wE C st a) {T : Nat} {p : CV} {tv : TV} (h : evLoad P st T p = some tv) {u : Value} (hp : RC C p u) : ∃ v, RV C tv v ∧ (Instr.loadAt T u).run P C.w = .ok v C.w := by
  unfold evLoad at h
  split at h
  · rename_i g hg
    split at h
    · rename_i b off
      split at h
      · rename_i T' cs hb
        split at h
        · rename_i hle
          obtain ⟨g', vs, h1, h2, h3, h4, h5, h6⟩ := hR.inv.ok _ _ hb
          obtain ⟨_, g'', hp1, rfl⟩ := hp
          rw [h1] at hp1
          injection hp1 with hp1
          injection hp1 with hp1
          injection hp1 with hp1
          subst hp1
          obtain ⟨v, hv, hrv⟩ := tvOf_ok h (RCs_seg h6 off (P.cellsOf T))
          refine ⟨v, hrv, load_run hg (seg_len h6 hle) (fun j x hj => ?_) hv⟩
          have hjn : j < P.cellsOf T := by
            have := (List.getElem?_eq_some_iff.1 hj).1
            simp at this
            omega
          rw [List.getElem?_take_of_lt hjn, List.getElem?_drop] at hj
          rw [add_at, blk_cell h5]
          simpa using hj
        · cases h
      · cases h
    · rename_i t x off
      split at h
      · rename_i hle
        obtain ⟨ad, c, rfl, hl, hF, hc, hS⟩ := hp
        have hfl : RCs C (flat t x) c := flat_ok hF
        obtain ⟨v, hv, hrv⟩ := tvOf_ok h (RCs_seg hfl off (P.cellsOf T))
        refine ⟨v, hrv, load_run hg (seg_len hfl (by rw [flat_length]; exact hle)) (fun j y hj => ?_) hv⟩
        have hjn : j < P.cellsOf T := by
          have := (List.getElem?_eq_some_iff.1 hj).1
          simp at this
          omega
        rw [List.getElem?_take_of_lt hjn, List.getElem?_drop] at hj
        rw [add_add]
        exact hc _ _ hj
      · cases h
    · rename_i b sz i off
      split at h
      · rename_i e t xs hb
        split at h
        · rename_i h0
          split at h
          · rename_i hi
            split at h
            · rename_i hs
              obtain ⟨hS, hlt, hown, hnest⟩ := hR.inv.ok _ _ hb
              obtain ⟨_, g', n, c, hp1, rfl⟩ := hp
              rw [hp1] at hS hnest
              obtain ⟨hn, _, _⟩ := Kd.S_reads' hS
              obtain ⟨cc, hcl, hM, hcc⟩ := Kd.S_get hS t.z i h0 (by omega)
              have hF : Kd.FK t.kd C.w C.S (xs.getD i.toNat t.z) cc := Kd.FK_mono (FK_of_M hM) (fun k hk => hnest k hk.1 (fun he => hk.2 he.symm))
              have hfl : RCs C (flat t (xs.getD i.toNat t.z)) cc := flat_ok hF
              obtain ⟨v, hv, hrv⟩ := tvOf_ok h (RCs_seg hfl off (P.cellsOf T))
              refine ⟨v, hrv, load_run hg (seg_len hfl (by rw [flat_length]; exact hs.2)) (fun j y hj => ?_) hv⟩
              have hjn : j < P.cellsOf T := by
                have := (List.getElem?_eq_some_iff.1 hj).1
                simp at this
                omega
              rw [List.getElem?_take_of_lt hjn, List.getElem?_drop] at hj
              have := hcc _ _ hj
              rw [add_plain, kd_sz, hs.1] at this
              rw [add_at, Nat.add_assoc]
              exact this
            · cases h
          · cases h
        · cases h
      · cases h
    · cases h
  · cases h
theorem fieldOf_ok {T j o ft : Nat} (h : fieldOf P T j = some (o, ft)) : ∃ fs f, P.underlying T = some (.struct fs) ∧ fs[j]? = some f ∧ f.offset = o ∧ f.type = ft ∧ 0 < P.cellsOf ft := by
  unfold fieldOf at h
  split at h
  · rename_i fs hu
    split at h
    · rename_i f hf
      split at h
      · rename_i hp
        injection h with h
        injection h with h1 h2
        exact ⟨fs, f, hu, hf, h1, h2, h2 ▸ hp⟩
      · cases h
    · cases h
  · cases h
theorem info_of_cells {T : Nat} (h : 0 < P.cellsOf T) : ∃ i, P.info? T = some i := by
  unfold Program.cellsOf at h
  cases hi : P.info? T with
  | none => simp [hi] at h
  | some i => exact ⟨i, rfl⟩
theorem fieldAt_run {T j o ft : Nat} (h : fieldOf P T j = some (o, ft)) (ad : Addr) (w : World) : (Instr.fieldAt T (.pointer (some ad)) j).run P w = .ok (.pointer (some (ad.add o))) w := by
  obtain ⟨fs, f, hu, hf, rfl, rfl, hp⟩ := fieldOf_ok h
  obtain ⟨i, hi⟩ := info_of_cells hp
  simp only [Instr.fieldAt, Sem.run_bind, run_underlying hu w, Result.andThen_ok, hf, Instr.sureAddr, Sem.run_pure, fieldPlace, size_run hi w]
  rw [if_neg (by omega)]
  rfl
theorem evFieldAddr_ok {T j : Nat} {p c : CV} (h : evFieldAddr P T p j = some c) {u : Value} (hp : RC C p u) (w : World) : ∃ v, RC C c v ∧ (Instr.fieldAt T u j).run P w = .ok v w := by
  unfold evFieldAddr at h
  split at h
  · rename_i o ft hf
    split at h
    · injection h with h
      subst h
      obtain ⟨hb, g, h1, rfl⟩ := hp
      exact ⟨_, ⟨hb, g, h1, by rw [add_at]⟩, fieldAt_run hf _ w⟩
    · injection h with h
      subst h
      obtain ⟨ad, c, rfl, hl, hF, hc, hS⟩ := hp
      exact ⟨_, ⟨ad, c, by rw [add_add], hl, hF, hc, hS⟩, fieldAt_run hf _ w⟩
    · injection h with h
      subst h
      obtain ⟨hb, g, n, c, h1, rfl⟩ := hp
      exact ⟨_, ⟨hb, g, n, c, h1, by rw [add_at, Nat.add_assoc]⟩, fieldAt_run hf _ w⟩
    · cases h
  · cases h
theorem evField_ok {T j : Nat} {x tv : TV} (h : evField P T x j = some tv) {u : Value} (hx : RV C x u) (w : World) : ∃ v, RV C tv v ∧ (Instr.field T u j).run P w = .ok v w := by
  unfold evField at h
  split at h
  · rename_i o ft cs hf
    obtain ⟨fs, f, hu, hfj, rfl, rfl, hp⟩ := fieldOf_ok hf
    split at h
    · rename_i g hg
      split at h
      · rename_i hle
        obtain ⟨vs, h1, rfl⟩ := hx
        obtain ⟨v, hv, hrv⟩ := tvOf_ok h (RCs_seg h1 f.offset (P.cellsOf f.type))
        refine ⟨v, hrv, ?_⟩
        obtain ⟨⟨i, hi⟩, hag⟩ := aggT_ok hg
        simp only [Instr.field, Sem.run_bind, run_underlying hu w, Result.andThen_ok, hfj, asAgg, Sem.run_pure, part, hag w]
        cases g with
        | true =>
          simp only [if_true] at hv ⊢
          subst hv
          rw [Sem.run_bind, size_run hi, Result.andThen_ok, Sem.run_pure]
          simp [List.extract_toArray, List.extract_eq_take_drop]
        | false =>
          simp only [Bool.false_eq_true, if_false] at hv ⊢
          have h0 : vs[f.offset]? = some v := by
            have := congrArg (fun l => l[0]?) hv
            rw [List.getElem?_take_of_lt hp, List.getElem?_drop] at this
            simpa using this
          simp [h0]
      · cases h
    · cases h
  · cases h
end
end Go.Proofs.Ytceffcfnjjlbkaa.V
