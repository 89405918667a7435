/- A typed evaluator for loaded code, 12: a function that the evaluator runs keeps its contract. -/
import Derived.Test.YtceffcfnjjlbkaaV10
import Derived.Conc.MuLone
namespace Go.Proofs.Ytceffcfnjjlbkaa.V
open Go.RowKit Go.Proofs.YtceffcfnjjlbkaaW.PrintWords Go.Proofs.YtceffcfnjjlbkaaW.PrintLast Go.Proofs.YtceffcfnjjlbkaaW.PrintMore
set_option linter.unusedVariables false
set_option linter.unusedSimpArgs false
theorem kd_heap : ∀ t : Ty, Kd.Heap t.kd
  | .int k => Kd.heap_int k
  | .bool => Kd.heap_bool
  | .str => Kd.heap_string
  | .sl e t => Kd.heap_slice e (kd_heap t)
  | .pair a b => Kd.heap_pair (kd_heap a) (kd_heap b)
theorem K_FK {t : Ty} {w : World} {x : t.den} {c : List Value} (h : t.kd.K w x c) : Kd.FK t.kd w (fun k => k < w.heap.size) x c := fun W' hW => (kd_heap t).K (fun k hk => hW k hk hk) h
def C0 (w : World) : Cx := { w := w, N := 0, S := fun k => k < w.heap.size, ρ := fun _ => undef, φ := fun _ _ => False }
theorem argTV_ok {w : World} {p : PK} {x : p.2.den} {cs : List Value} {v : Value} (h : Pack p.1 cs v) (hk : p.2.kd.K w x cs) : RV (C0 w) (argTV p (flat p.2 x)) v := by
  obtain ⟨g, t⟩ := p
  have hf : RCs (C0 w) (flat t x) cs := flat_ok (K_FK hk)
  cases g with
  | true => exact ⟨cs, hf, h⟩
  | false =>
    obtain rfl : cs = [v] := h
    show RV _ (argTV (false, t) (flat t x)) v
    match hq : flat t x with
    | [c] =>
      rw [hq] at hf
      exact hf.2 0 c v rfl rfl
    | [] => trivial
    | _ :: _ :: _ => trivial
theorem argTVs_ok {w : World} : ∀ {ps : List PK} {xs : dens ps} {vs : List Value}, ArgsK w ps xs vs → (argTVs ps xs).length = ps.length ∧ vs.length = ps.length ∧ ∀ (j : Nat) tv, (argTVs ps xs)[j]? = some tv → RV (C0 w) tv (vs.getD j undef)
  | [], xs, vs, h => by
    obtain rfl : vs = [] := h
    exact ⟨rfl, rfl, fun j tv hj => by simp [argTVs] at hj⟩
  | p :: ps, xs, vs, h => by
    obtain ⟨v, vs', cs, rfl, h1, h2, h3⟩ := h
    obtain ⟨k1, k2, k3⟩ := argTVs_ok h3
    refine ⟨by simp [argTVs, k1], by simp [k2], fun j tv hj => ?_⟩
    cases j with
    | zero =>
      simp only [argTVs, List.getElem?_cons_zero] at hj
      injection hj with hj
      subst hj
      exact argTV_ok h1 h2
    | succ j =>
      simp only [argTVs, List.getElem?_cons_succ] at hj
      simpa using k3 j tv hj
theorem start_ok {w : World} {fn : Func} {ps : List PK} {xs : dens ps} {vs : List Value} (h : ArgsK w ps xs vs) : Rel w.heap.size w (C0 w) (start fn ps xs) { tmps := vs.toArray ++ Array.replicate (fn.ntmps - vs.toArray.size) undef, defers := [] } := by
  obtain ⟨k1, k2, k3⟩ := argTVs_ok h
  refine ⟨⟨rfl, Below.refl _ _, Nat.le_refl _, fun _ h => h, fun _ h => h, fun b lb hb => by simp [start] at hb, fun b b' lb lb' _ hb => by simp [start] at hb⟩, by simp [start, k1, k2], fun i tv hi => ?_, rfl⟩
  simp only [start] at hi
  by_cases hlt : i < (argTVs ps xs).length
  · rw [List.getElem?_append_left hlt] at hi
    have := k3 i tv hi
    have hv : i < vs.length := by omega
    rw [Array.getD_eq_getD_getElem?, Array.getElem?_append_left (by simpa using hv)]
    rw [List.getD_eq_getElem?_getD] at this
    simpa using this
  · rw [List.getElem?_append_right (by omega), List.getElem?_replicate] at hi
    split at hi
    · injection hi with hi
      subst hi
      trivial
    · cases hi

/-! ### results -/
section
variable {P : Program} {Γ : Nat → Option Sig} {B : Nat} {wE : World} {C : Cx} {st : St} {a : Act}
theorem aggT_desc {T : Nat} (h : aggT P T = some true) : ∃ d, P.underlying T = some d ∧ (match d with | .struct _ | .array _ _ => true | _ => false) = true := by
  unfold aggT at h
  split at h <;> first | cases h | skip
  all_goals
    rename_i hu
    exact ⟨_, hu, rfl⟩
theorem owned_append : ∀ {cs ds : List CV} {ids : List Nat}, owned (cs ++ ds) = some ids → ∃ i j, owned cs = some i ∧ owned ds = some j ∧ ids = i ++ j
  | [], ds, ids, h => ⟨[], ids, rfl, h, rfl⟩
  | c :: cs, ds, ids, h => by
    cases c with
    | own b =>
      simp only [List.cons_append, owned] at h ⊢
      obtain ⟨l, hl, rfl⟩ := Option.map_eq_some_iff.1 h
      obtain ⟨i, j, h1, h2, rfl⟩ := owned_append hl
      exact ⟨b :: i, j, by rw [h1]; rfl, h2, rfl⟩
    | _ =>
      simp only [List.cons_append, owned] at h ⊢
      first
        | exact owned_append h
        | cases h
theorem resCells_ok (hR : Rel B wE C st a) {r : ResultVar} {p : PK} {cs : List CV} (h : resCells P st r p = some cs) :
    ∃ v ucs, RCs C cs ucs ∧ Pack p.1 ucs v ∧ ∀ rs vs, Vals P a.tmps C.w rs vs → Vals P a.tmps C.w (r :: rs) (v :: vs) := by
  cases r with
  | tmp t =>
    simp only [resCells] at h
    split at h
    · rename_i tv htv
      have hv := hR.tm t tv htv
      unfold tvCells at h
      split at h
      · rename_i ds
        split at h
        · rename_i hg
          injection h with h
          subst h
          obtain ⟨us, h1, h2⟩ := hv
          exact ⟨_, us, h1, by rw [Pack, if_pos hg]; exact h2, fun rs vs h => .tmp h⟩
        · cases h
      · rename_i x
        split at h
        · cases h
        · rename_i hg
          injection h with h
          subst h
          exact ⟨_, [_], RCs_one hv, by rw [Pack, if_neg hg], fun rs vs h => .tmp h⟩
      · cases h
    · cases h
  | cell q ty =>
    simp only [resCells] at h
    split at h
    · rename_i b hb
      split at h
      · rename_i T ds hds
        split at h
        · rename_i hc
          obtain ⟨hg, hag, hcs⟩ := hc
          injection h with h
          subst h
          obtain ⟨_, g, h1, h2⟩ := hR.tm _ _ hb
          obtain ⟨g', vs, k1, k2, k3, k4, k5, k6⟩ := hR.inv.ok _ _ hds
          have hgg : g = g' := by
            rw [h1] at k1
            injection k1 with k1
            injection k1 with k1
            injection k1
          subst hgg
          obtain ⟨d, hd, hda⟩ := aggT_desc hag
          obtain ⟨⟨i, hi⟩, _⟩ := aggT_ok hag
          refine ⟨.agg vs.toArray, vs, k6, by rw [Pack, if_pos hg], fun rs us hu => .cell g T vs.toArray (0, 0) d h2 k5 hd (by cases d <;> first | rfl | simp at hda) ?_ hu⟩
          have hcl : P.cellsOf ty = i.size := by simp [Program.cellsOf, hi]
          rw [hi]
          simp only [Option.map_some, List.size_toArray]
          rw [← hcl, hcs, k6.1]
        · cases h
      · cases h
    · cases h
theorem Owned_mono {ids ids' : List Nat} {loc : List LB} (h : ∀ b ∈ ids, b ∈ ids') : ∀ k, OwnedBy C loc ids k → OwnedBy C loc ids' k := fun k ⟨b, hb, h'⟩ => ⟨b, h b hb, h'⟩
theorem res_ok (hR : Rel B wE C st a) : ∀ {rvs : List ResultVar} {rs : List PK} {css : List (List CV)} {r : dens rs} {ids : List Nat}, resAll P st rvs rs = some css → unRes st.loc rs css = some r → owned css.flatten = some ids → ids.Nodup →
    ∃ us, Vals P a.tmps C.w rvs us ∧ Freshs C.w B rs (OwnedBy C st.loc ids) r us ∧ us.length = rvs.length
  | [], [], css, r, ids, h, h1, h2, h3 => by
    simp only [resAll] at h
    injection h with h
    subst h
    exact ⟨[], .nil, rfl, rfl⟩
  | [], p :: rs, css, r, ids, h, h1, h2, h3 => by simp [resAll] at h
  | rv :: rvs, [], css, r, ids, h, h1, h2, h3 => by simp [resAll] at h
  | rv :: rvs, p :: rs, css, r, ids, h, h1, h2, h3 => by
    simp only [resAll] at h
    split at h
    · rename_i cs hcs
      split at h
      · rename_i css' hcss
        injection h with h
        subst h
        simp only [unRes] at h1
        split at h1
        · rename_i x hx
          split at h1
          · rename_i y hy
            injection h1 with h1
            subst h1
            rw [List.flatten_cons] at h2
            obtain ⟨i, j, hi, hj, rfl⟩ := owned_append h2
            have hnd := List.nodup_append.1 h3
            obtain ⟨us, m1, m2, m3⟩ := res_ok hR hcss hy hj hnd.2.1
            obtain ⟨v, ucs, n1, n2, n3⟩ := resCells_ok hR hcs
            obtain ⟨c0, c1, ids0, ids1, rfl, rfl, q1, q2, q3⟩ := fresh_ok hR.inv hx n1 hi hnd.1
            have hc1 : c1 = [] := List.length_eq_zero_iff.1 q2.1.symm
            subst hc1
            rw [List.append_nil] at n2
            refine ⟨v :: us, n3 _ _ m1, ⟨v, us, c0, _, _, rfl, n2, q3, m2, Owned_mono (fun b hb => ?_), Owned_mono (fun b hb => ?_), ?_⟩, by simp [m3]⟩
            · exact List.mem_append.2 (.inl (List.mem_append.2 (.inl hb)))
            · exact List.mem_append.2 (.inr hb)
            · rintro k ⟨b, hb, lb, hlb, ha, hk⟩ ⟨b', hb', lb', hlb', ha', hk'⟩
              exact hR.inv.disj b b' lb lb' (hnd.2.2 b (List.mem_append.2 (.inl hb)) b' hb') hlb hlb' ha ha' k hk hk'
          · cases h1
        · cases h1
      · cases h
    · cases h
theorem fin_ok {fn : Func} {rs : List PK} {r : dens rs} (hR : Rel B wE C st a) (h : fin P fn rs st = some r) :
    Ends P fn (fun e w' => ∃ us φ, Freshs w' B rs φ r us ∧ Ret us e ∧ Below B wE w') a C.w := by
  simp only [fin] at h
  split at h
  · rename_i css hcss
    split at h
    · rename_i ids hids
      split at h
      · rename_i hnd
        obtain ⟨us, h1, h2, h3⟩ := res_ok hR hcss h hids hnd
        refine ⟨hR.df, ?_⟩
        by_cases hl : us.length = 1
        · match us, hl with
          | [u], _ =>
            match hq : fn.results.toList, h3 with
            | [rv], _ =>
              rw [hq] at h1
              have hfr : fn.results = #[rv] := by
                rw [← Array.toArray_toList (xs := fn.results), hq]
              exact ⟨u, results_single hfr h1, [u], _, h2, .inl ⟨u, rfl, rfl⟩, hR.inv.below⟩
        · exact ⟨_, results_list (rs := fn.results.toList) (by simp) hl h1, us, _, h2, .inr ⟨hl, rfl⟩, hR.inv.below⟩
      · cases h
    · cases h
  · cases h
/-- A FUNCTION THAT THE EVALUATOR RUNS KEEPS ITS CONTRACT. -/
theorem fnOk {g : Nat} {fn : Func} {s : Sig} {c : Code} (hΓ : ∀ g s, Γ g = some s → FnOk P g s) (hf : P.funcs[g]? = some fn) (hn : (fn.name == "runtime.NumGoroutine") = false) (hb : fn.body = some c) (cut : Nat → Bool) (keep : Nat → List Nat)
    (h : ∀ xs r, s.F xs = some r → ∃ j, whole P Γ fn cut keep s.ps s.rs j xs = some r) : FnOk P g s := by
  refine ⟨fun args w => Go.MuLone.run_callFunc_enter hf hn hb args w, fun xs r hr w vs hv cs => ?_⟩
  obtain ⟨j, hj⟩ := h xs r hr
  unfold whole at hj
  have hgo := run_ok (Rt := fun e w' => ∃ us φ, Freshs w' w.heap.size s.rs φ r us ∧ Ret us e ∧ Below w.heap.size w w') hΓ hf (fun C st a hR h => fin_ok hR h) j _ _ _ _ (start_ok (fn := fn) hv) hj
  have hbo : bodyOf fn = c := by rw [bodyOf, hb]; rfl
  rw [hbo] at hgo
  let b : Frame := { (default : Frame) with fn := g, kind := .normal }
  have henter : Frame.enter P g vs.toArray .normal = b.at { tmps := vs.toArray ++ Array.replicate (fn.ntmps - vs.toArray.size) undef, defers := [] } [.code c] := by
    simp [Frame.enter, Frame.at, hf, hb, b]
  rw [henter]
  exact hgo b cs rfl rfl
end
end Go.Proofs.Ytceffcfnjjlbkaa.V
