/-
  Package tree, function by function (3): whether a tree is right.
-/
import Derived.Test.YtlkhddnagmmepaaTb
namespace Go.Proofs.Try
open Go.Gm
set_option maxHeartbeats 4000000
set_option maxRecDepth 10000
set_option linter.unusedSimpArgs false
set_option linter.unusedVariables false

/-- Has a tree just what its kind names? (Its parts beside.) -/
def ownB (k : Int) (kn : Option Bool) (n : List Nat) (tr : Nat) (s b : Bool) (tp : Nat) (kp : Option Bool) (ps : List Tr) : Bool :=
  if k = 0 then !decide (n.length = 0) && sameB (.mk k kn n tr s b tp kp ps) (.mk 0 kn n tr false false 0 Option.none [])
  else if k = 2 then sameB (.mk k kn n tr s b tp kp ps) (.mk 2 Option.none [] tr false false 0 kp ps)
  else if k = 1 then sameB (.mk k kn n tr s b tp kp ps) (.mk 1 Option.none [] 0 false false 0 kp ps)
  else if k = 3 then sameB (.mk k kn n tr s b tp kp ps) (.mk 3 Option.none [] 0 false false 0 kp ps)
  else if k = 4 then decide (ps.length = 1) && (s || decide (tr = 0)) && (b || decide (tp = 0)) && sameB (.mk k kn n tr s b tp kp ps) (.mk 4 Option.none [] tr s b tp kp ps)
  else if k = 5 then sameB (.mk k kn n tr s b tp kp ps) (.mk 5 Option.none [] 0 false false 0 Option.none [])
  else false
mutual
def rightB : Tr → Bool
  | .mk k kn n tr s b tp kp ps => rightL ps && ownB k kn n tr s b tp kp ps
def rightL : List Tr → Bool
  | [] => true
  | t :: r => rightB t && rightL r
end
theorem rightL_at : ∀ {l : List Tr} {p : Tr}, rightL l = true → p ∈ l → rightB p = true
  | t :: r, p, h, hp => by
    simp only [rightL, Bool.and_eq_true] at h
    rcases List.mem_cons.1 hp with rfl | hp
    · exact h.1
    · exact rightL_at h.2 hp

/-- At the head of the loop that looks for what is not right. -/
def idxAt (kp : Option Bool) (ps : List Tr) (i : Nat) : St :=
  ⟨rg 19 [(0, .d (Pt kp (cellss ps))), (1, .d (.fn (.func 21) [] [])), (7, .d (.int .i64 (ps.length : Int))), (8, .d (.int .i64 (i : Int)))], [], []⟩

theorem r_notright {t : Tr} (h : Ret table 6 [t.d] (.bool (rightB t))) : Ret table 21 [t.d] (.bool (!rightB t)) := by
  refine Ret.ofD 1 (g := g21) rfl ⟨[], ?_⟩
  simp [body, g_seq, g_ops, g_cond, g_block, g_scope, g_skip, g_label, g_ret, g_exit, steps, step1, run1, o, u, og, ug, put, Opd.ev, cl_int, cl_bool, cl_nil, cl_sl, cl_agg, cl_vagg, cl_rs, cl_sp, cl_lp, cl_dfn, cl_nilFn, cl_fn, cl_str, cells_S, noLps, noLp, addP, St.load, St.store, splice, cut, mkV, allD, V.astray, V.far, V.near, answer, resAll, resOne, una, intOf?, fnOf, maxD_int, minD_int, foldD, fillG, canon, keepBoxes, keepLive, List.getElem?_cons_zero, List.getElem?_cons_succ, Option.getD_some, g21, cells_length, cells_take, cells_takeV, allD_map, noLps_map, h.c1]

theorem r_contains {kp : Option Bool} {ps : List Tr} (h : kp = Option.none → ps = []) (hl : ps.length < 60) (ih : ∀ x ∈ ps, Ret table 6 [x.d] (.bool (rightB x))) :
    Ret table 20 [Pt kp (cellss ps), .fn (.func 21) [] []] (.bool (!rightL ps)) := by
  have hidx : ∃ r : Int, decide (r ≥ 0) = !rightL ps ∧ Ret table 43 [Pt kp (cellss ps), .fn (.func 21) [] []] (.int .i64 r) := by
    have hloop : ∃ e s', ((e = .brk 0 ∧ rightL ps = true ∧ s' = ⟨rg 19 [], [], []⟩) ∨ (e = .ret ∧ rightL ps = false ∧ ∃ i : Nat, s' = ⟨rg 19 [(4, .d (.int .i64 (i : Int)))], [], []⟩)) ∧
        ∀ s, canon [] [0, 1, 7, 8] s = some (idxAt kp ps 0) → gcode (lim table) 100 g43_l0 s = some (e, s') := by
      refine loop_rule (lf := 100) (idxAt kp ps) (fun i => ps.length - i) (fun i => i ≤ ps.length ∧ rightL (ps.drop i) = rightL ps) _ ?_ (x := 0) ⟨by simp, by simp⟩ (show ps.length - 0 < 100 by omega)
      intro i ⟨q1, q2⟩
      by_cases hi : i < ps.length
      · have hp : ps[i]? = some ps[i] := List.getElem?_eq_getElem hi
        have e1 := (r_notright (ih _ (List.getElem_mem hi))).c1
        rw [List.drop_eq_getElem_cons hi] at q2
        simp only [rightL] at q2
        generalize ps[i] = p at *
        have hi' : (i : Int) < ps.length := by omega
        cases hs : rightB p with
        | true =>
          left
          rw [hs] at e1 q2
          exact ⟨_, i + 1, by
            simp [body, g_seq, g_ops, g_cond, g_block, g_scope, g_skip, g_label, g_ret, g_exit, steps, step1, run1, o, u, og, ug, put, Opd.ev, cl_int, cl_bool, cl_nil, cl_sl, cl_agg, cl_vagg, cl_rs, cl_sp, cl_lp, cl_dfn, cl_nilFn, cl_fn, cl_str, cells_S, noLps, noLp, addP, St.load, St.store, splice, cut, mkV, allD, V.astray, V.far, V.near, answer, resAll, resOne, una, intOf?, fnOf, maxD_int, minD_int, foldD, fillG, canon, keepBoxes, keepLive, List.getElem?_cons_zero, List.getElem?_cons_succ, Option.getD_some, g43_b0, rg, idxAt, b_lss, hi', hi, elemP_P h hp, cells_length, cells_take, cells_takeV, allD_map, noLps_map, e1]
            rfl, by simp (disch := omega) [body, g_seq, g_ops, g_cond, g_block, g_scope, g_skip, g_label, g_ret, g_exit, steps, step1, run1, o, u, og, ug, put, Opd.ev, cl_int, cl_bool, cl_nil, cl_sl, cl_agg, cl_vagg, cl_rs, cl_sp, cl_lp, cl_dfn, cl_nilFn, cl_fn, cl_str, cells_S, noLps, noLp, addP, St.load, St.store, splice, cut, mkV, allD, V.astray, V.far, V.near, answer, resAll, resOne, una, intOf?, fnOf, maxD_int, minD_int, foldD, fillG, canon, keepBoxes, keepLive, List.getElem?_cons_zero, List.getElem?_cons_succ, Option.getD_some, rg, idxAt, b_add64, w64], ⟨by omega, by simpa using q2⟩, by omega⟩
        | false =>
          right
          rw [hs] at e1 q2
          exact ⟨.ret, _, ⟨rg 19 [(4, .d (.int .i64 (i : Int)))], [], []⟩, by
            simp [body, g_seq, g_ops, g_cond, g_block, g_scope, g_skip, g_label, g_ret, g_exit, steps, step1, run1, o, u, og, ug, put, Opd.ev, cl_int, cl_bool, cl_nil, cl_sl, cl_agg, cl_vagg, cl_rs, cl_sp, cl_lp, cl_dfn, cl_nilFn, cl_fn, cl_str, cells_S, noLps, noLp, addP, St.load, St.store, splice, cut, mkV, allD, V.astray, V.far, V.near, answer, resAll, resOne, una, intOf?, fnOf, maxD_int, minD_int, foldD, fillG, canon, keepBoxes, keepLive, List.getElem?_cons_zero, List.getElem?_cons_succ, Option.getD_some, g43_b0, rg, idxAt, b_lss, hi', hi, elemP_P h hp, cells_length, cells_take, cells_takeV, allD_map, noLps_map, e1]
            rfl, by simp, by simp [body, g_seq, g_ops, g_cond, g_block, g_scope, g_skip, g_label, g_ret, g_exit, steps, step1, run1, o, u, og, ug, put, Opd.ev, cl_int, cl_bool, cl_nil, cl_sl, cl_agg, cl_vagg, cl_rs, cl_sp, cl_lp, cl_dfn, cl_nilFn, cl_fn, cl_str, cells_S, noLps, noLp, addP, St.load, St.store, splice, cut, mkV, allD, V.astray, V.far, V.near, answer, resAll, resOne, una, intOf?, fnOf, maxD_int, minD_int, foldD, fillG, canon, keepBoxes, keepLive, List.getElem?_cons_zero, List.getElem?_cons_succ, Option.getD_some, rg], .inr ⟨rfl, by simpa using q2.symm, i, rfl⟩⟩
      · right
        have hi' : ¬ (i : Int) < ps.length := by omega
        rw [List.drop_eq_nil_of_le (by omega)] at q2
        exact ⟨.brk 0, _, ⟨rg 19 [], [], []⟩, by simp [body, g_seq, g_ops, g_cond, g_block, g_scope, g_skip, g_label, g_ret, g_exit, steps, step1, run1, o, u, og, ug, put, Opd.ev, cl_int, cl_bool, cl_nil, cl_sl, cl_agg, cl_vagg, cl_rs, cl_sp, cl_lp, cl_dfn, cl_nilFn, cl_fn, cl_str, cells_S, noLps, noLp, addP, St.load, St.store, splice, cut, mkV, allD, V.astray, V.far, V.near, answer, resAll, resOne, una, intOf?, fnOf, maxD_int, minD_int, foldD, fillG, canon, keepBoxes, keepLive, List.getElem?_cons_zero, List.getElem?_cons_succ, Option.getD_some, g43_b0, rg, idxAt, b_lss, hi', hi]; rfl, by simp, by simp [body, g_seq, g_ops, g_cond, g_block, g_scope, g_skip, g_label, g_ret, g_exit, steps, step1, run1, o, u, og, ug, put, Opd.ev, cl_int, cl_bool, cl_nil, cl_sl, cl_agg, cl_vagg, cl_rs, cl_sp, cl_lp, cl_dfn, cl_nilFn, cl_fn, cl_str, cells_S, noLps, noLp, addP, St.load, St.store, splice, cut, mkV, allD, V.astray, V.far, V.near, answer, resAll, resOne, una, intOf?, fnOf, maxD_int, minD_int, foldD, fillG, canon, keepBoxes, keepLive, List.getElem?_cons_zero, List.getElem?_cons_succ, Option.getD_some, rg], .inl ⟨rfl, q2.symm, rfl⟩⟩
    obtain ⟨e, s', h2, h3⟩ := hloop
    rcases h2 with ⟨rfl, h4, rfl⟩ | ⟨rfl, h4, i, rfl⟩
    · refine ⟨-1, by rw [h4]; rfl, Ret.ofD 100 (g := g43) rfl ⟨[], ?_⟩⟩
      simp [body, g_seq, g_ops, g_cond, g_block, g_scope, g_skip, g_label, g_ret, g_exit, steps, step1, run1, o, u, og, ug, put, Opd.ev, cl_int, cl_bool, cl_nil, cl_sl, cl_agg, cl_vagg, cl_rs, cl_sp, cl_lp, cl_dfn, cl_nilFn, cl_fn, cl_str, cells_S, noLps, noLp, addP, St.load, St.store, splice, cut, mkV, allD, V.astray, V.far, V.near, answer, resAll, resOne, una, intOf?, fnOf, maxD_int, minD_int, foldD, fillG, canon, keepBoxes, keepLive, List.getElem?_cons_zero, List.getElem?_cons_succ, Option.getD_some, g43, lenV_P h]
      rw [h3]
      · simp [body, g_seq, g_ops, g_cond, g_block, g_scope, g_skip, g_label, g_ret, g_exit, steps, step1, run1, o, u, og, ug, put, Opd.ev, cl_int, cl_bool, cl_nil, cl_sl, cl_agg, cl_vagg, cl_rs, cl_sp, cl_lp, cl_dfn, cl_nilFn, cl_fn, cl_str, cells_S, noLps, noLp, addP, St.load, St.store, splice, cut, mkV, allD, V.astray, V.far, V.near, answer, resAll, resOne, una, intOf?, fnOf, maxD_int, minD_int, foldD, fillG, canon, keepBoxes, keepLive, List.getElem?_cons_zero, List.getElem?_cons_succ, Option.getD_some, rg]
      · simp [body, g_seq, g_ops, g_cond, g_block, g_scope, g_skip, g_label, g_ret, g_exit, steps, step1, run1, o, u, og, ug, put, Opd.ev, cl_int, cl_bool, cl_nil, cl_sl, cl_agg, cl_vagg, cl_rs, cl_sp, cl_lp, cl_dfn, cl_nilFn, cl_fn, cl_str, cells_S, noLps, noLp, addP, St.load, St.store, splice, cut, mkV, allD, V.astray, V.far, V.near, answer, resAll, resOne, una, intOf?, fnOf, maxD_int, minD_int, foldD, fillG, canon, keepBoxes, keepLive, List.getElem?_cons_zero, List.getElem?_cons_succ, Option.getD_some, rg, idxAt]
    · refine ⟨i, by rw [h4]; simp, Ret.ofD 100 (g := g43) rfl ⟨[], ?_⟩⟩
      simp [body, g_seq, g_ops, g_cond, g_block, g_scope, g_skip, g_label, g_ret, g_exit, steps, step1, run1, o, u, og, ug, put, Opd.ev, cl_int, cl_bool, cl_nil, cl_sl, cl_agg, cl_vagg, cl_rs, cl_sp, cl_lp, cl_dfn, cl_nilFn, cl_fn, cl_str, cells_S, noLps, noLp, addP, St.load, St.store, splice, cut, mkV, allD, V.astray, V.far, V.near, answer, resAll, resOne, una, intOf?, fnOf, maxD_int, minD_int, foldD, fillG, canon, keepBoxes, keepLive, List.getElem?_cons_zero, List.getElem?_cons_succ, Option.getD_some, g43, lenV_P h]
      rw [h3]
      · simp [body, g_seq, g_ops, g_cond, g_block, g_scope, g_skip, g_label, g_ret, g_exit, steps, step1, run1, o, u, og, ug, put, Opd.ev, cl_int, cl_bool, cl_nil, cl_sl, cl_agg, cl_vagg, cl_rs, cl_sp, cl_lp, cl_dfn, cl_nilFn, cl_fn, cl_str, cells_S, noLps, noLp, addP, St.load, St.store, splice, cut, mkV, allD, V.astray, V.far, V.near, answer, resAll, resOne, una, intOf?, fnOf, maxD_int, minD_int, foldD, fillG, canon, keepBoxes, keepLive, List.getElem?_cons_zero, List.getElem?_cons_succ, Option.getD_some, rg]
      · simp [body, g_seq, g_ops, g_cond, g_block, g_scope, g_skip, g_label, g_ret, g_exit, steps, step1, run1, o, u, og, ug, put, Opd.ev, cl_int, cl_bool, cl_nil, cl_sl, cl_agg, cl_vagg, cl_rs, cl_sp, cl_lp, cl_dfn, cl_nilFn, cl_fn, cl_str, cells_S, noLps, noLp, addP, St.load, St.store, splice, cut, mkV, allD, V.astray, V.far, V.near, answer, resAll, resOne, una, intOf?, fnOf, maxD_int, minD_int, foldD, fillG, canon, keepBoxes, keepLive, List.getElem?_cons_zero, List.getElem?_cons_succ, Option.getD_some, rg, idxAt]
  obtain ⟨r, h1, h2⟩ := hidx
  refine Ret.ofD 100 (g := g20) rfl ⟨[], ?_⟩
  simp [body, g_seq, g_ops, g_cond, g_block, g_scope, g_skip, g_label, g_ret, g_exit, steps, step1, run1, o, u, og, ug, put, Opd.ev, cl_int, cl_bool, cl_nil, cl_sl, cl_agg, cl_vagg, cl_rs, cl_sp, cl_lp, cl_dfn, cl_nilFn, cl_fn, cl_str, cells_S, noLps, noLp, addP, St.load, St.store, splice, cut, mkV, allD, V.astray, V.far, V.near, answer, resAll, resOne, una, intOf?, fnOf, maxD_int, minD_int, foldD, fillG, canon, keepBoxes, keepLive, List.getElem?_cons_zero, List.getElem?_cons_succ, Option.getD_some, g20, h2.c2, b_geq, h1]

theorem P_nil : Pt Option.none (cellss []) = .nilSl := rfl
theorem P_nil' : Pt Option.none [] = .nilSl := rfl
theorem few_nil {d : Nat} {k : Int} {tr : Nat} {s b : Bool} {tp : Nat} : Few (d + 1) (.mk k Option.none [] tr s b tp Option.none []) := by simp [Few]

theorem r_right : ∀ (d : Nat) (t : Tr), Few d t → t.Ok → Ret table 6 [t.d] (.bool (rightB t))
  | 0, _, h, _ => h.elim
  | d + 1, .mk k kn n tr s b tp kp ps, hf, hx => by
    have hf0 := hf
    have hx0 := hx
    obtain ⟨f1, f2, f3⟩ := hf
    obtain ⟨h1, h2, h3, h4, h5, h6⟩ := hx
    have e0 := (r_contains h5 f2 (fun p hp => r_right d p (f3 p hp) (h6.at_ hp))).c2
    have e1 := (r_len h2).c1
    refine Ret.ofD 1 (g := g6) rfl ⟨[⟨[.d (.int .i64 k), .d (S kn n), .d (.int .u64 (tr : Int)), .d (.bool s), .d (.bool b), .d (.int .u64 (tp : Int)), .d (Pt kp (cellss ps))], 1, 29, false⟩], ?_⟩
    cases hr : rightL ps with
    | false =>
      rw [hr] at e0
      simp [body, g_seq, g_ops, g_cond, g_block, g_scope, g_skip, g_label, g_ret, g_exit, steps, step1, run1, o, u, og, ug, put, Opd.ev, cl_int, cl_bool, cl_nil, cl_sl, cl_agg, cl_vagg, cl_rs, cl_sp, cl_lp, cl_dfn, cl_nilFn, cl_fn, cl_str, cells_S, noLps, noLp, addP, St.load, St.store, splice, cut, mkV, allD, V.astray, V.far, V.near, answer, resAll, resOne, una, intOf?, fnOf, maxD_int, minD_int, foldD, fillG, canon, keepBoxes, keepLive, List.getElem?_cons_zero, List.getElem?_cons_succ, Option.getD_some, g6, Tr.cells, cells_P, e0, rightB, hr]
    | true =>
      rw [hr] at e0
      simp only [rightB, hr, Bool.true_and, ownB]
      by_cases k0 : k = 0
      · subst k0
        by_cases hn : n.length = 0
        · have hz : bin .eql (.int .i64 (n.length : Int)) (.int .i64 0) = some (.bool true) := by rw [b_eql, hn]; rfl
          simp [body, g_seq, g_ops, g_cond, g_block, g_scope, g_skip, g_label, g_ret, g_exit, steps, step1, run1, o, u, og, ug, put, Opd.ev, cl_int, cl_bool, cl_nil, cl_sl, cl_agg, cl_vagg, cl_rs, cl_sp, cl_lp, cl_dfn, cl_nilFn, cl_fn, cl_str, cells_S, noLps, noLp, addP, St.load, St.store, splice, cut, mkV, allD, V.astray, V.far, V.near, answer, resAll, resOne, una, intOf?, fnOf, maxD_int, minD_int, foldD, fillG, canon, keepBoxes, keepLive, List.getElem?_cons_zero, List.getElem?_cons_succ, Option.getD_some, g6, Tr.cells, cells_P, e0, e1, b_eql, hz, hn]
        · have hz := b_ne (k := .i64) (x := (n.length : Int)) (y := 0) (by omega)
          have e2 := (r_same (d + 1) _ (.mk 0 kn n tr false false 0 Option.none []) hf0 (by simp [Few]; omega) hx0 (by simp [Tr.Ok, Oks]; exact ⟨h2, h3⟩)).c2
          simp [Tr.d, Tr.cells, P_nil] at e2
          simp [body, g_seq, g_ops, g_cond, g_block, g_scope, g_skip, g_label, g_ret, g_exit, steps, step1, run1, o, u, og, ug, put, Opd.ev, cl_int, cl_bool, cl_nil, cl_sl, cl_agg, cl_vagg, cl_rs, cl_sp, cl_lp, cl_dfn, cl_nilFn, cl_fn, cl_str, cells_S, noLps, noLp, addP, St.load, St.store, splice, cut, mkV, allD, V.astray, V.far, V.near, answer, resAll, resOne, una, intOf?, fnOf, maxD_int, minD_int, foldD, fillG, canon, keepBoxes, keepLive, List.getElem?_cons_zero, List.getElem?_cons_succ, Option.getD_some, g6, Tr.cells, cells_P, e0, e1, b_eql, hz, hn, e2]
      · have k0' := b_ne (k := .i64) k0
        by_cases k2 : k = 2
        · subst k2
          have e2 := (r_same (d + 1) _ (.mk 2 Option.none [] tr false false 0 kp ps) hf0 (by simp [Few]; exact ⟨f2, f3⟩) hx0 (by simp [Tr.Ok, fit_nil]; exact ⟨h3, h5, h6⟩)).c2
          simp [Tr.d, Tr.cells, S_nil] at e2
          simp [body, g_seq, g_ops, g_cond, g_block, g_scope, g_skip, g_label, g_ret, g_exit, steps, step1, run1, o, u, og, ug, put, Opd.ev, cl_int, cl_bool, cl_nil, cl_sl, cl_agg, cl_vagg, cl_rs, cl_sp, cl_lp, cl_dfn, cl_nilFn, cl_fn, cl_str, cells_S, noLps, noLp, addP, St.load, St.store, splice, cut, mkV, allD, V.astray, V.far, V.near, answer, resAll, resOne, una, intOf?, fnOf, maxD_int, minD_int, foldD, fillG, canon, keepBoxes, keepLive, List.getElem?_cons_zero, List.getElem?_cons_succ, Option.getD_some, g6, Tr.cells, cells_P, e0, e1, b_eql, e2]
        · have k2' := b_ne (k := .i64) k2
          by_cases k1 : k = 1
          · subst k1
            have e2 := (r_same (d + 1) _ (.mk 1 Option.none [] 0 false false 0 kp ps) hf0 (by simp [Few]; exact ⟨f2, f3⟩) hx0 (by simp [Tr.Ok, fit_nil]; exact ⟨h5, h6⟩)).c2
            simp [Tr.d, Tr.cells, S_nil] at e2
            simp [body, g_seq, g_ops, g_cond, g_block, g_scope, g_skip, g_label, g_ret, g_exit, steps, step1, run1, o, u, og, ug, put, Opd.ev, cl_int, cl_bool, cl_nil, cl_sl, cl_agg, cl_vagg, cl_rs, cl_sp, cl_lp, cl_dfn, cl_nilFn, cl_fn, cl_str, cells_S, noLps, noLp, addP, St.load, St.store, splice, cut, mkV, allD, V.astray, V.far, V.near, answer, resAll, resOne, una, intOf?, fnOf, maxD_int, minD_int, foldD, fillG, canon, keepBoxes, keepLive, List.getElem?_cons_zero, List.getElem?_cons_succ, Option.getD_some, g6, Tr.cells, cells_P, e0, e1, b_eql, e2]
          · have k1' := b_ne (k := .i64) k1
            by_cases k3 : k = 3
            · subst k3
              have e2 := (r_same (d + 1) _ (.mk 3 Option.none [] 0 false false 0 kp ps) hf0 (by simp [Few]; exact ⟨f2, f3⟩) hx0 (by simp [Tr.Ok, fit_nil]; exact ⟨h5, h6⟩)).c2
              simp [Tr.d, Tr.cells, S_nil] at e2
              simp [body, g_seq, g_ops, g_cond, g_block, g_scope, g_skip, g_label, g_ret, g_exit, steps, step1, run1, o, u, og, ug, put, Opd.ev, cl_int, cl_bool, cl_nil, cl_sl, cl_agg, cl_vagg, cl_rs, cl_sp, cl_lp, cl_dfn, cl_nilFn, cl_fn, cl_str, cells_S, noLps, noLp, addP, St.load, St.store, splice, cut, mkV, allD, V.astray, V.far, V.near, answer, resAll, resOne, una, intOf?, fnOf, maxD_int, minD_int, foldD, fillG, canon, keepBoxes, keepLive, List.getElem?_cons_zero, List.getElem?_cons_succ, Option.getD_some, g6, Tr.cells, cells_P, e0, e1, b_eql, e2]
            · have k3' := b_ne (k := .i64) k3
              by_cases k4 : k = 4
              · subst k4
                have e2 := (r_same (d + 1) _ (.mk 4 Option.none [] tr s b tp kp ps) hf0 (by simp [Few]; exact ⟨f2, f3⟩) hx0 (by simp [Tr.Ok, fit_nil]; exact ⟨h3, h4, h5, h6⟩)).c2
                simp [Tr.d, Tr.cells, S_nil] at e2
                have hg : ∀ x : Nat, bin .gtr (.int .u64 (x : Int)) (.int .u64 0) = some (.bool (!decide (x = 0))) := fun x => by
                  rw [b_gtr]
                  by_cases hx : x = 0
                  · subst hx; rfl
                  · have : (x : Int) > 0 := by omega
                    simp [hx]; omega
                by_cases hl : ps.length = 1
                · have hz : bin .neq (.int .i64 (ps.length : Int)) (.int .i64 1) = some (.bool false) := by rw [b_neq, hl]; rfl
                  have g1 := hg tr
                  have g2 := hg tp
                  have hld : decide (ps.length = 1) = true := by simp [hl]
                  rw [hld]
                  generalize decide (tr = 0) = z1 at *
                  generalize decide (tp = 0) = z2 at *
                  cases s <;> cases b <;> cases z1 <;> cases z2 <;> simp [body, g_seq, g_ops, g_cond, g_block, g_scope, g_skip, g_label, g_ret, g_exit, steps, step1, run1, o, u, og, ug, put, Opd.ev, cl_int, cl_bool, cl_nil, cl_sl, cl_agg, cl_vagg, cl_rs, cl_sp, cl_lp, cl_dfn, cl_nilFn, cl_fn, cl_str, cells_S, noLps, noLp, addP, St.load, St.store, splice, cut, mkV, allD, V.astray, V.far, V.near, answer, resAll, resOne, una, intOf?, fnOf, maxD_int, minD_int, foldD, fillG, canon, keepBoxes, keepLive, List.getElem?_cons_zero, List.getElem?_cons_succ, Option.getD_some, g6, Tr.cells, cells_P, e0, e1, b_eql, lenV_P h5, hz, g1, g2, e2]
                · have hz : bin .neq (.int .i64 (ps.length : Int)) (.int .i64 1) = some (.bool true) := by rw [b_neq]; simp; omega
                  simp [body, g_seq, g_ops, g_cond, g_block, g_scope, g_skip, g_label, g_ret, g_exit, steps, step1, run1, o, u, og, ug, put, Opd.ev, cl_int, cl_bool, cl_nil, cl_sl, cl_agg, cl_vagg, cl_rs, cl_sp, cl_lp, cl_dfn, cl_nilFn, cl_fn, cl_str, cells_S, noLps, noLp, addP, St.load, St.store, splice, cut, mkV, allD, V.astray, V.far, V.near, answer, resAll, resOne, una, intOf?, fnOf, maxD_int, minD_int, foldD, fillG, canon, keepBoxes, keepLive, List.getElem?_cons_zero, List.getElem?_cons_succ, Option.getD_some, g6, Tr.cells, cells_P, e0, e1, b_eql, lenV_P h5, hz, hl]
              · have k4' := b_ne (k := .i64) k4
                by_cases k5 : k = 5
                · subst k5
                  have e2 := (r_same (d + 1) _ (.mk 5 Option.none [] 0 false false 0 Option.none []) hf0 (by simp [Few]) hx0 (by simp [Tr.Ok, Oks, fit_nil])).c2
                  simp [Tr.d, Tr.cells, S_nil, P_nil] at e2
                  simp [body, g_seq, g_ops, g_cond, g_block, g_scope, g_skip, g_label, g_ret, g_exit, steps, step1, run1, o, u, og, ug, put, Opd.ev, cl_int, cl_bool, cl_nil, cl_sl, cl_agg, cl_vagg, cl_rs, cl_sp, cl_lp, cl_dfn, cl_nilFn, cl_fn, cl_str, cells_S, noLps, noLp, addP, St.load, St.store, splice, cut, mkV, allD, V.astray, V.far, V.near, answer, resAll, resOne, una, intOf?, fnOf, maxD_int, minD_int, foldD, fillG, canon, keepBoxes, keepLive, List.getElem?_cons_zero, List.getElem?_cons_succ, Option.getD_some, g6, Tr.cells, cells_P, e0, e1, b_eql, e2]
                · have k5' := b_ne (k := .i64) k5
                  simp [body, g_seq, g_ops, g_cond, g_block, g_scope, g_skip, g_label, g_ret, g_exit, steps, step1, run1, o, u, og, ug, put, Opd.ev, cl_int, cl_bool, cl_nil, cl_sl, cl_agg, cl_vagg, cl_rs, cl_sp, cl_lp, cl_dfn, cl_nilFn, cl_fn, cl_str, cells_S, noLps, noLp, addP, St.load, St.store, splice, cut, mkV, allD, V.astray, V.far, V.near, answer, resAll, resOne, una, intOf?, fnOf, maxD_int, minD_int, foldD, fillG, canon, keepBoxes, keepLive, List.getElem?_cons_zero, List.getElem?_cons_succ, Option.getD_some, g6, Tr.cells, cells_P, e0, e1, k0, k0', k1, k1', k2, k2', k3, k3', k4, k4', k5, k5']
end Go.Proofs.Try
