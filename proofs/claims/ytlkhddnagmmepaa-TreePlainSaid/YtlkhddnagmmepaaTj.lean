/-
  The law TreePlain, over trees as data: it answers true.
-/
import Derived.Test.YtlkhddnagmmepaaTc
import Derived.Test.YtlkhddnagmmepaaTg
import Derived.Test.YtlkhddnagmmepaaTh
import Derived.Test.YtlkhddnagmmepaaTi
namespace Go.Proofs.Try
open Go.Gm
set_option maxHeartbeats 8000000
set_option maxRecDepth 20000
set_option linter.unusedSimpArgs false
set_option linter.unusedVariables false

/-! ### the plain law: what a plain tree is -/
theorem few_plain : ∀ (d : Nat) (t : Tr), Few d t → Few d (plainT t)
  | 0, _, h => h.elim
  | d + 1, .mk k kn n tr s b tp kp ps, hf => by
    obtain ⟨f1, f2, f3⟩ := hf
    simp only [plainT]
    split
    · exact ⟨by simp, by simp, by simp⟩
    · refine ⟨by simp, by rw [plainTs_length]; exact f2, ?_⟩
      have key : ∀ l : List Tr, (∀ p ∈ l, Few d p) → ∀ p ∈ plainTs l, Few d p := by
        intro l
        induction l with
        | nil => intro _ p hp; simp [plainTs] at hp
        | cons x r ih =>
          intro h p hp
          simp only [plainTs, List.mem_cons] at hp
          rcases hp with rfl | hp
          · exact few_plain d x (h x (by simp))
          · exact ih (fun p hp => h p (by simp [hp])) p hp
      exact key ps f3
theorem kp_plain {ps : List Tr} : (match ps with | [] => Option.none | _ :: _ => some false : Option Bool) = Option.none → plainTs ps = [] := by
  cases ps with
  | nil => exact fun _ => rfl
  | cons _ _ => exact fun h => by cases h
mutual
theorem ok_plain : ∀ t : Tr, t.Ok → (plainT t).Ok
  | .mk k kn n tr s b tp kp ps, h => by
    obtain ⟨h1, h2, h3, h4, h5, h6⟩ := h
    simp only [plainT]
    split
    · exact ⟨by decide, kOne_fit, by decide, by decide, fun _ => rfl, trivial⟩
    · refine ⟨?_, fit_nil, by decide, h4, kp_plain, oks_plain ps h6⟩
      split <;> first | exact h1 | decide
theorem oks_plain : ∀ l : List Tr, Oks l → Oks (plainTs l)
  | [], _ => trivial
  | t :: r, h => ⟨ok_plain t h.1, oks_plain r h.2⟩
end

/-- What a tree that is right is like, as far as a plain tree is made of it. -/
theorem own_cases {k : Int} {kn : Option Bool} {n : List Nat} {tr : Nat} {s b : Bool} {tp : Nat} {kp : Option Bool} {ps : List Tr} (h : ownB k kn n tr s b tp kp ps = true) :
    (k = 0 ∨ k = 5) ∨ ((k = 1 ∨ k = 2 ∨ k = 3) ∧ b = false ∧ tp = 0) ∨ (k = 4 ∧ ps.length = 1 ∧ (b = true ∨ tp = 0)) := by
  unfold ownB at h
  by_cases k0 : k = 0
  · exact .inl (.inl k0)
  · rw [if_neg k0] at h
    by_cases k2 : k = 2
    · rw [if_pos k2] at h
      simp [sameB] at h
      exact .inr (.inl ⟨.inr (.inl k2), h.1.1.1.2, h.1.1.2⟩)
    · rw [if_neg k2] at h
      by_cases k1 : k = 1
      · rw [if_pos k1] at h
        simp [sameB] at h
        exact .inr (.inl ⟨.inl k1, h.1.1.1.2, h.1.1.2⟩)
      · rw [if_neg k1] at h
        by_cases k3 : k = 3
        · rw [if_pos k3] at h
          simp [sameB] at h
          exact .inr (.inl ⟨.inr (.inr k3), h.1.1.1.2, h.1.1.2⟩)
        · rw [if_neg k3] at h
          by_cases k4 : k = 4
          · rw [if_pos k4] at h
            simp only [Bool.and_eq_true, Bool.or_eq_true, decide_eq_true_eq] at h
            exact .inr (.inr ⟨k4, h.1.1.1, h.1.2⟩)
          · rw [if_neg k4] at h
            by_cases k5 : k = 5
            · exact .inl (.inr k5)
            · rw [if_neg k5] at h
              cases h

mutual
theorem pl_plain : ∀ t : Tr, rightB t = true → Pl (plainT t) ∧ rightB (plainT t) = true
  | .mk k kn n tr s b tp kp ps, h => by
    simp only [rightB, Bool.and_eq_true] at h
    obtain ⟨hp, hr⟩ := pls_plain ps h.1
    have hl := plainTs_length ps
    simp only [plainT]
    rcases own_cases h.2 with hk | ⟨hk, rfl, rfl⟩ | ⟨rfl, hlen, hb⟩
    · rw [if_pos hk]
      refine ⟨.inl ⟨rfl, rfl, rfl⟩, ?_⟩
      simp [rightB, rightL, ownB, sameB_refl]
    · have h05 : ¬ (k = 0 ∨ k = 5) := by omega
      rw [if_neg h05]
      rcases hk with rfl | rfl | rfl
      · exact ⟨.inr (.inl ⟨.inl rfl, hp⟩), by simp [rightB, ownB, hr, sameB_refl]⟩
      · exact ⟨.inr (.inl ⟨.inr rfl, hp⟩), by simp [rightB, ownB, hr, sameB_refl]⟩
      · exact ⟨.inr (.inl ⟨.inr rfl, hp⟩), by simp [rightB, ownB, hr, sameB_refl]⟩
    · rw [if_neg (by decide)]
      refine ⟨.inr (.inr ⟨rfl, rfl, by rw [hl]; exact hlen, hp⟩), ?_⟩
      have hb' : (b || decide (tp = 0)) = true := by simpa using hb
      simp [rightB, ownB, hr, sameB_refl, hl, hlen]
      simpa using hb
theorem pls_plain : ∀ l : List Tr, rightL l = true → Pls (plainTs l) ∧ rightL (plainTs l) = true
  | [], _ => ⟨trivial, rfl⟩
  | t :: r, h => by
    simp only [rightL, Bool.and_eq_true] at h
    obtain ⟨a1, a2⟩ := pl_plain t h.1
    obtain ⟨b1, b2⟩ := pls_plain r h.2
    exact ⟨⟨a1, b1⟩, by simp [plainTs, rightL, a2, b2]⟩
end

/-! ### the walk of the law -/
theorem cells_takeG {t : Tr} {i : Nat} (h : 7 ≤ i) : List.take i t.cells = t.cells := List.take_of_length_le (by rw [cells_length]; exact h)
theorem cells_takeGV {t : Tr} {i : Nat} (h : 7 ≤ i) : List.take i (t.cells.map V.d) = t.cells.map V.d := List.take_of_length_le (by rw [List.length_map, cells_length]; exact h)
theorem cells_dropG {t : Tr} {i : Nat} (h : 7 ≤ i) : List.drop i t.cells = [] := List.drop_eq_nil_of_le (by rw [cells_length]; exact h)
theorem cells_dropGV {t : Tr} {i : Nat} (h : 7 ≤ i) : List.drop i (t.cells.map V.d) = [] := List.drop_eq_nil_of_le (by rw [List.length_map, cells_length]; exact h)
theorem allD_three (a b c : List D) : allD (a.map V.d ++ (b.map V.d ++ c.map V.d)) = some (a ++ (b ++ c)) := by
  rw [← List.map_append, ← List.map_append, allD_map]

theorem r_law (hworks : Ret table 7 [] (.bool true)) {lim0 : Int} {t : Tr} (ht : t.Ok) : Ret table 3 [.int .i64 lim0, t.d] (.bool true) := by
  have e5 := (r_few ht).c2
  have e7 := hworks.c0
  by_cases hf : cnt 30 t ≤ 60
  · rw [decide_eq_true hf] at e5
    have hfew := few_of_cnt 30 t hf
    have e6 := (r_right 30 t hfew ht).c1
    cases hr : rightB t with
    | false =>
      rw [hr] at e6
      refine Ret.ofD 1 (g := g3) rfl ⟨[], ?_⟩
      simp [body, g_seq, g_ops, g_cond, g_block, g_scope, g_skip, g_label, g_ret, g_exit, steps, step1, run1, o, u, og, ug, put, Opd.ev, cl_int, cl_bool, cl_nil, cl_sl, cl_agg, cl_vagg, cl_rs, cl_sp, cl_lp, cl_dfn, cl_nilFn, cl_fn, cl_str, cells_S, noLps, noLp, addP, St.load, St.store, splice, cut, mkV, allD, V.astray, V.far, V.near, answer, resAll, resOne, una, intOf?, fnOf, maxD_int, minD_int, foldD, fillG, canon, keepBoxes, keepLive, List.getElem?_cons_zero, List.getElem?_cons_succ, Option.getD_some, g3, cells_length, cells_take, cells_takeV, allD_map, noLps_map, e5, e6, e7]
    | true =>
      rw [hr] at e6
      obtain ⟨c, hc1, hc6, hcm⟩ : ∃ c : Nat, 1 ≤ c ∧ c ≤ 6 ∧ max 1 (min lim0 6) = (c : Int) := ⟨(max 1 (min lim0 6)).toNat, by omega, by omega, by omega⟩
      have e8 := (r_plain 30 t hfew ht).c1
      obtain ⟨hpl, hpr⟩ := pl_plain t hr
      have pfew := few_plain 30 t hfew
      have pok := ok_plain t ht
      have e9 := (r_right 30 _ pfew pok).c1
      rw [hpr] at e9
      obtain ⟨ap, dp, q1, q2, q3⟩ := r_eval hc1 hc6 30 _ pfew pok
      obtain rfl := q3 hpl
      obtain ⟨a, dy, y1, y2, y3⟩ := r_eval hc1 hc6 30 _ hfew ht
      obtain ⟨w, ⟨kK, kT, kQ, q, rfl, w1, w2, w3⟩, w4⟩ := r_weigh hc1 hc6 30 _ pfew pok hpl
      have has : ∀ (i : Nat) (p : Tr) (b : Option (Nat × Nat)), [plainT t, t, plainT t][i]? = some p → [some (1, 0), a, some (1, 0)][i]? = some b → EvalOf c p b := by
        intro i p b h1 h2
        rcases i with _ | _ | _ | i
        · simp at h1 h2; subst h1 h2; exact ⟨dp, q1, q2, fun _ => rfl⟩
        · simp at h1 h2; subst h1 h2; exact ⟨dy, y1, y2, y3⟩
        · simp at h1 h2; subst h1 h2; exact ⟨dp, q1, q2, fun _ => rfl⟩
        · simp at h1
      obtain ⟨dz, z1, z2⟩ := r_seq (k := 1) (kn := Option.none) (n := []) (tr := 0) (s := false) (b := false) (tp := 0) (kp := some true) hc1 hc6 nofun (by simp) (as := [some (1, 0), a, some (1, 0)]) rfl has
      rw [run_beside hc1 y1.held] at z1
      have ez := (eval_kind z1 (.inr (.inl ⟨rfl, rfl⟩)) z2).c2
      obtain ⟨kn, n, kt, tt, rfl, f1, f2, l1, l2, m1, v1, v2⟩ := q1
      obtain rfl := norm_nil m1 v2
      have e10 := q2.c2
      have e11 := y2.c2
      have e12 := w4.c2
      have e13 := r_kOne.c1
      have e14 := (r_cmp f1 kOne_fit (by omega) (by decide)).c2
      have e15 := (r_cmp w1 kOne_fit (by omega) (by decide)).c2
      have hcv1 : cmpV n [1] = 0 := by rw [cmpV_eq, v1]; rfl
      have hcv2 : cmpV q [1] = 0 := by rw [cmpV_eq, w3]; rfl
      rw [hcv1] at e14
      rw [hcv2] at e15
      have e16 : ∀ (k : Option Bool) (s : St), dataCall (lim table) s 13 [.d (N k [])] = some (.d (.int .i64 0), s) := fun k => (r_len fit_empty).c1
      have z0 : ((0 : Nat) : Int) = 0 := rfl
      simp only [Tr.d, Tr.cells, S_nil, z0, Pt, cellss] at ez
      generalize hP : plainT t = P at *
      cases a with
      | none =>
        obtain rfl : dy = CtTop := y1
        obtain rfl : dz = CtTop := z1
        have e17 := (r_cmp (k := Option.none) (k' := Option.none) fit_nil fit_nil (by decide) (by decide)).c2
        have hcv : cmpV [] [] = 0 := rfl
        rw [hcv] at e17
        refine Ret.ofD 1 (g := g3) rfl ⟨[], ?_⟩
        simp [body, g_seq, g_ops, g_cond, g_block, g_scope, g_skip, g_label, g_ret, g_exit, steps, step1, run1, o, u, og, ug, put, Opd.ev, cl_int, cl_bool, cl_nil, cl_sl, cl_agg, cl_vagg, cl_rs, cl_sp, cl_lp, cl_dfn, cl_nilFn, cl_fn, cl_str, cells_S, noLps, noLp, addP, St.load, St.store, splice, cut, mkV, allD, V.astray, V.far, V.near, answer, resAll, resOne, una, intOf?, fnOf, maxD_int, minD_int, foldD, fillG, canon, keepBoxes, keepLive, List.getElem?_cons_zero, List.getElem?_cons_succ, Option.getD_some, g3, cells_length, cells_take, cells_takeV, allD_map, noLps_map, e5, e6, e7, e8, e9, e10, e11, e12, e13, e14, e15, e16, e17, ez, hcm, b_neq, b_eql, chunk, List.take_append, List.drop_append, cells_takeG, cells_takeGV, cells_dropG, cells_dropGV, allD_three]
      | some p =>
        obtain ⟨v, w'⟩ := p
        obtain ⟨kn1, n1, kt1, t1, rfl, g1, g2, g3', g4, g5, rfl, rfl⟩ := y1
        obtain ⟨kn2, n2, kt2, t2, rfl, g1', g2', g3'', g4', g5', hv1, hv2⟩ := z1
        have e17 := (r_cmp g1 g1' (by omega) (by omega)).c2
        have e18 := (r_cmp g2 g2' (by omega) (by omega)).c2
        have hcva : cmpV n1 n2 = 0 := by rw [cmpV_eq, hv1]
        have hcvb : cmpV t1 t2 = 0 := by rw [cmpV_eq, hv2]
        rw [hcva] at e17
        rw [hcvb] at e18
        refine Ret.ofD 1 (g := g3) rfl ⟨[], ?_⟩
        simp [body, g_seq, g_ops, g_cond, g_block, g_scope, g_skip, g_label, g_ret, g_exit, steps, step1, run1, o, u, og, ug, put, Opd.ev, cl_int, cl_bool, cl_nil, cl_sl, cl_agg, cl_vagg, cl_rs, cl_sp, cl_lp, cl_dfn, cl_nilFn, cl_fn, cl_str, cells_S, noLps, noLp, addP, St.load, St.store, splice, cut, mkV, allD, V.astray, V.far, V.near, answer, resAll, resOne, una, intOf?, fnOf, maxD_int, minD_int, foldD, fillG, canon, keepBoxes, keepLive, List.getElem?_cons_zero, List.getElem?_cons_succ, Option.getD_some, g3, cells_length, cells_take, cells_takeV, allD_map, noLps_map, e5, e6, e7, e8, e9, e10, e11, e12, e13, e14, e15, e16, e17, e18, ez, hcm, b_neq, b_eql, chunk, List.take_append, List.drop_append, cells_takeG, cells_takeGV, cells_dropG, cells_dropGV, allD_three]
  · rw [decide_eq_false hf] at e5
    refine Ret.ofD 1 (g := g3) rfl ⟨[], ?_⟩
    simp [body, g_seq, g_ops, g_cond, g_block, g_scope, g_skip, g_label, g_ret, g_exit, steps, step1, run1, o, u, og, ug, put, Opd.ev, cl_int, cl_bool, cl_nil, cl_sl, cl_agg, cl_vagg, cl_rs, cl_sp, cl_lp, cl_dfn, cl_nilFn, cl_fn, cl_str, cells_S, noLps, noLp, addP, St.load, St.store, splice, cut, mkV, allD, V.astray, V.far, V.near, answer, resAll, resOne, una, intOf?, fnOf, maxD_int, minD_int, foldD, fillG, canon, keepBoxes, keepLive, List.getElem?_cons_zero, List.getElem?_cons_succ, Option.getD_some, g3, cells_length, cells_take, cells_takeV, allD_map, noLps_map, e5, e7]
end Go.Proofs.Try
