/-
  Package tree, function by function (2): trees compared.
-/
import Derived.Test.YtlkhddnagmmepaaTa
namespace Go.Proofs.Try
open Go.Gm
set_option maxHeartbeats 4000000
set_option maxRecDepth 10000
set_option linter.unusedSimpArgs false
set_option linter.unusedVariables false

mutual
def sameB : Tr → Tr → Bool
  | .mk k _ n tr s b tp _ ps, .mk k' _ n' tr' s' b' tp' _ ps' => (k == k' && tr == tr' && s == s' && b == b' && tp == tp') && decide (val n = val n') && sameL ps ps'
def sameL : List Tr → List Tr → Bool
  | [], [] => true
  | x :: r, y :: r' => sameB x y && sameL r r'
  | _, _ => false
end
mutual
theorem sameB_refl : ∀ t : Tr, sameB t t = true
  | .mk k _ n tr s b tp _ ps => by simp [sameB, sameL_refl ps]
theorem sameL_refl : ∀ l : List Tr, sameL l l = true
  | [] => rfl
  | t :: r => by simp [sameL, sameB_refl t, sameL_refl r]
end
theorem sameL_length : ∀ {l m : List Tr}, sameL l m = true → l.length = m.length
  | [], [], _ => rfl
  | _ :: r, _ :: r', h => by simp [sameL] at h; simp [sameL_length h.2]
  | [], _ :: _, h => by simp [sameL] at h
  | _ :: _, [], h => by simp [sameL] at h

/-- At the head of the loop that compares. -/
def eqAt (kp' : Option Bool) (qs : List Tr) (kp : Option Bool) (ps : List Tr) (i : Nat) : St :=
  ⟨rg 32 [(1, .d (Pt kp' (cellss qs))), (2, .d (.fn (.func 22) [] [])), (15, .d (Pt kp (cellss ps))), (16, .d (.int .i64 (ps.length : Int))), (17, .d (.int .i64 (i : Int)))], [], []⟩

theorem r_equal {kp kp' : Option Bool} {ps qs : List Tr} (h : kp = Option.none → ps = []) (h' : kp' = Option.none → qs = []) (hl : ps.length < 60)
    (ih : ∀ x ∈ ps, ∀ y ∈ qs, Ret table 22 [x.d, y.d] (.bool (sameB x y))) : Ret table 44 [Pt kp (cellss ps), Pt kp' (cellss qs), .fn (.func 22) [] []] (.bool (sameL ps qs)) := by
  by_cases hlen : ps.length = qs.length
  · have hloop : ∃ e s', ((e = .brk 0 ∧ sameL ps qs = true ∧ s' = ⟨rg 32 [], [], []⟩) ∨ (e = .ret ∧ sameL ps qs = false ∧ s' = ⟨rg 32 [(6, .d (.bool false))], [], []⟩)) ∧
        ∀ s, canon [] [1, 2, 15, 16, 17] s = some (eqAt kp' qs kp ps 0) → gcode (lim table) 100 g44_l0 s = some (e, s') := by
      refine loop_rule (lf := 100) (eqAt kp' qs kp ps) (fun i => ps.length - i) (fun i => i ≤ ps.length ∧ sameL (ps.drop i) (qs.drop i) = sameL ps qs) _ ?_ (x := 0) ⟨by simp, by simp⟩ (show ps.length - 0 < 100 by omega)
      intro i ⟨q1, q2⟩
      by_cases hi : i < ps.length
      · have hi2 : i < qs.length := by omega
        have hp : ps[i]? = some ps[i] := List.getElem?_eq_getElem hi
        have hq : qs[i]? = some qs[i] := List.getElem?_eq_getElem hi2
        have e1 := (ih _ (List.getElem_mem hi) _ (List.getElem_mem hi2)).c2
        rw [List.drop_eq_getElem_cons hi, List.drop_eq_getElem_cons hi2] at q2
        simp only [sameL] at q2
        generalize ps[i] = p at *
        generalize qs[i] = q at *
        have hi' : (i : Int) < ps.length := by omega
        cases hs : sameB p q with
        | true =>
          left
          rw [hs] at e1 q2
          exact ⟨_, i + 1, by
            simp [body, g_seq, g_ops, g_cond, g_block, g_scope, g_skip, g_label, g_ret, g_exit, steps, step1, run1, o, u, og, ug, put, Opd.ev, cl_int, cl_bool, cl_nil, cl_sl, cl_agg, cl_vagg, cl_rs, cl_sp, cl_lp, cl_dfn, cl_nilFn, cl_fn, cl_str, cells_S, noLps, noLp, addP, St.load, St.store, splice, cut, mkV, allD, V.astray, V.far, V.near, answer, resAll, resOne, una, intOf?, fnOf, maxD_int, minD_int, foldD, fillG, canon, keepBoxes, keepLive, List.getElem?_cons_zero, List.getElem?_cons_succ, Option.getD_some, g44_b0, rg, eqAt, b_lss, hi', hi, elemP_P h hp, elemP_P h' hq, cells_length, cells_take, cells_takeV, allD_map, noLps_map, e1]
            rfl, by simp (disch := omega) [body, g_seq, g_ops, g_cond, g_block, g_scope, g_skip, g_label, g_ret, g_exit, steps, step1, run1, o, u, og, ug, put, Opd.ev, cl_int, cl_bool, cl_nil, cl_sl, cl_agg, cl_vagg, cl_rs, cl_sp, cl_lp, cl_dfn, cl_nilFn, cl_fn, cl_str, cells_S, noLps, noLp, addP, St.load, St.store, splice, cut, mkV, allD, V.astray, V.far, V.near, answer, resAll, resOne, una, intOf?, fnOf, maxD_int, minD_int, foldD, fillG, canon, keepBoxes, keepLive, List.getElem?_cons_zero, List.getElem?_cons_succ, Option.getD_some, rg, eqAt, b_add64, w64], ⟨by omega, by simpa using q2⟩, by omega⟩
        | false =>
          right
          rw [hs] at e1 q2
          exact ⟨.ret, _, ⟨rg 32 [(6, .d (.bool false))], [], []⟩, by
            simp [body, g_seq, g_ops, g_cond, g_block, g_scope, g_skip, g_label, g_ret, g_exit, steps, step1, run1, o, u, og, ug, put, Opd.ev, cl_int, cl_bool, cl_nil, cl_sl, cl_agg, cl_vagg, cl_rs, cl_sp, cl_lp, cl_dfn, cl_nilFn, cl_fn, cl_str, cells_S, noLps, noLp, addP, St.load, St.store, splice, cut, mkV, allD, V.astray, V.far, V.near, answer, resAll, resOne, una, intOf?, fnOf, maxD_int, minD_int, foldD, fillG, canon, keepBoxes, keepLive, List.getElem?_cons_zero, List.getElem?_cons_succ, Option.getD_some, g44_b0, rg, eqAt, b_lss, hi', hi, elemP_P h hp, elemP_P h' hq, cells_length, cells_take, cells_takeV, allD_map, noLps_map, e1]
            rfl, by simp, by simp [body, g_seq, g_ops, g_cond, g_block, g_scope, g_skip, g_label, g_ret, g_exit, steps, step1, run1, o, u, og, ug, put, Opd.ev, cl_int, cl_bool, cl_nil, cl_sl, cl_agg, cl_vagg, cl_rs, cl_sp, cl_lp, cl_dfn, cl_nilFn, cl_fn, cl_str, cells_S, noLps, noLp, addP, St.load, St.store, splice, cut, mkV, allD, V.astray, V.far, V.near, answer, resAll, resOne, una, intOf?, fnOf, maxD_int, minD_int, foldD, fillG, canon, keepBoxes, keepLive, List.getElem?_cons_zero, List.getElem?_cons_succ, Option.getD_some, rg], .inr ⟨rfl, by simpa using q2.symm, rfl⟩⟩
      · right
        have hi' : ¬ (i : Int) < ps.length := by omega
        rw [List.drop_eq_nil_of_le (by omega), List.drop_eq_nil_of_le (by omega)] at q2
        exact ⟨.brk 0, _, ⟨rg 32 [], [], []⟩, by simp [body, g_seq, g_ops, g_cond, g_block, g_scope, g_skip, g_label, g_ret, g_exit, steps, step1, run1, o, u, og, ug, put, Opd.ev, cl_int, cl_bool, cl_nil, cl_sl, cl_agg, cl_vagg, cl_rs, cl_sp, cl_lp, cl_dfn, cl_nilFn, cl_fn, cl_str, cells_S, noLps, noLp, addP, St.load, St.store, splice, cut, mkV, allD, V.astray, V.far, V.near, answer, resAll, resOne, una, intOf?, fnOf, maxD_int, minD_int, foldD, fillG, canon, keepBoxes, keepLive, List.getElem?_cons_zero, List.getElem?_cons_succ, Option.getD_some, g44_b0, rg, eqAt, b_lss, hi', hi]; rfl, by simp, by simp [body, g_seq, g_ops, g_cond, g_block, g_scope, g_skip, g_label, g_ret, g_exit, steps, step1, run1, o, u, og, ug, put, Opd.ev, cl_int, cl_bool, cl_nil, cl_sl, cl_agg, cl_vagg, cl_rs, cl_sp, cl_lp, cl_dfn, cl_nilFn, cl_fn, cl_str, cells_S, noLps, noLp, addP, St.load, St.store, splice, cut, mkV, allD, V.astray, V.far, V.near, answer, resAll, resOne, una, intOf?, fnOf, maxD_int, minD_int, foldD, fillG, canon, keepBoxes, keepLive, List.getElem?_cons_zero, List.getElem?_cons_succ, Option.getD_some, rg], .inl ⟨rfl, q2.symm, rfl⟩⟩
    obtain ⟨e, s', h2, h3⟩ := hloop
    refine Ret.ofD 100 (g := g44) rfl ⟨[], ?_⟩
    simp [body, g_seq, g_ops, g_cond, g_block, g_scope, g_skip, g_label, g_ret, g_exit, steps, step1, run1, o, u, og, ug, put, Opd.ev, cl_int, cl_bool, cl_nil, cl_sl, cl_agg, cl_vagg, cl_rs, cl_sp, cl_lp, cl_dfn, cl_nilFn, cl_fn, cl_str, cells_S, noLps, noLp, addP, St.load, St.store, splice, cut, mkV, allD, V.astray, V.far, V.near, answer, resAll, resOne, una, intOf?, fnOf, maxD_int, minD_int, foldD, fillG, canon, keepBoxes, keepLive, List.getElem?_cons_zero, List.getElem?_cons_succ, Option.getD_some, g44, lenV_P h, lenV_P h', b_neq, hlen]
    rw [h3]
    · rcases h2 with ⟨rfl, h4, rfl⟩ | ⟨rfl, h4, rfl⟩
      · simp [body, g_seq, g_ops, g_cond, g_block, g_scope, g_skip, g_label, g_ret, g_exit, steps, step1, run1, o, u, og, ug, put, Opd.ev, cl_int, cl_bool, cl_nil, cl_sl, cl_agg, cl_vagg, cl_rs, cl_sp, cl_lp, cl_dfn, cl_nilFn, cl_fn, cl_str, cells_S, noLps, noLp, addP, St.load, St.store, splice, cut, mkV, allD, V.astray, V.far, V.near, answer, resAll, resOne, una, intOf?, fnOf, maxD_int, minD_int, foldD, fillG, canon, keepBoxes, keepLive, List.getElem?_cons_zero, List.getElem?_cons_succ, Option.getD_some, rg, h4]
      · simp [body, g_seq, g_ops, g_cond, g_block, g_scope, g_skip, g_label, g_ret, g_exit, steps, step1, run1, o, u, og, ug, put, Opd.ev, cl_int, cl_bool, cl_nil, cl_sl, cl_agg, cl_vagg, cl_rs, cl_sp, cl_lp, cl_dfn, cl_nilFn, cl_fn, cl_str, cells_S, noLps, noLp, addP, St.load, St.store, splice, cut, mkV, allD, V.astray, V.far, V.near, answer, resAll, resOne, una, intOf?, fnOf, maxD_int, minD_int, foldD, fillG, canon, keepBoxes, keepLive, List.getElem?_cons_zero, List.getElem?_cons_succ, Option.getD_some, rg, h4]
    · simp [body, g_seq, g_ops, g_cond, g_block, g_scope, g_skip, g_label, g_ret, g_exit, steps, step1, run1, o, u, og, ug, put, Opd.ev, cl_int, cl_bool, cl_nil, cl_sl, cl_agg, cl_vagg, cl_rs, cl_sp, cl_lp, cl_dfn, cl_nilFn, cl_fn, cl_str, cells_S, noLps, noLp, addP, St.load, St.store, splice, cut, mkV, allD, V.astray, V.far, V.near, answer, resAll, resOne, una, intOf?, fnOf, maxD_int, minD_int, foldD, fillG, canon, keepBoxes, keepLive, List.getElem?_cons_zero, List.getElem?_cons_succ, Option.getD_some, rg, eqAt, hlen]
  · have hs : sameL ps qs = false := by
      cases hs : sameL ps qs with
      | false => rfl
      | true => exact absurd (sameL_length hs) hlen
    have hlen' : ¬ (ps.length : Int) = qs.length := by omega
    refine Ret.ofD 100 (g := g44) rfl ⟨[], ?_⟩
    simp [body, g_seq, g_ops, g_cond, g_block, g_scope, g_skip, g_label, g_ret, g_exit, steps, step1, run1, o, u, og, ug, put, Opd.ev, cl_int, cl_bool, cl_nil, cl_sl, cl_agg, cl_vagg, cl_rs, cl_sp, cl_lp, cl_dfn, cl_nilFn, cl_fn, cl_str, cells_S, noLps, noLp, addP, St.load, St.store, splice, cut, mkV, allD, V.astray, V.far, V.near, answer, resAll, resOne, una, intOf?, fnOf, maxD_int, minD_int, foldD, fillG, canon, keepBoxes, keepLive, List.getElem?_cons_zero, List.getElem?_cons_succ, Option.getD_some, g44, lenV_P h, lenV_P h', b_neq, hlen, hlen', hs]

theorem r_same : ∀ (d : Nat) (x y : Tr), Few d x → Few d y → x.Ok → y.Ok → Ret table 22 [x.d, y.d] (.bool (sameB x y))
  | 0, _, _, h, _, _, _ => h.elim
  | d + 1, .mk k kn n tr s b tp kp ps, .mk k' kn' n' tr' s' b' tp' kp' ps', hf, hf', hx, hy => by
    obtain ⟨f1, f2, f3⟩ := hf
    obtain ⟨f1', f2', f3'⟩ := hf'
    obtain ⟨h1, h2, h3, h4, h5, h6⟩ := hx
    obtain ⟨h1', h2', h3', h4', h5', h6'⟩ := hy
    have e1 := (r_cmp h2 h2' (by omega) (by omega)).c2
    have e2 := (r_equal h5 h5' f2 (fun p hp q hq => r_same d p q (f3 p hp) (f3' q hq) (h6.at_ hp) (h6'.at_ hq))).c3
    refine Ret.ofD 1 (g := g22) rfl ⟨[], ?_⟩
    by_cases a1 : k = k'
    · subst a1
      by_cases a2 : tr = tr'
      · subst a2
        by_cases a3 : s = s'
        · subst a3
          by_cases a4 : b = b'
          · subst a4
            by_cases a5 : tp = tp'
            · subst a5
              by_cases a6 : val n = val n'
              · have a6' : cmpV n n' = 0 := by rw [cmpV_eq]; exact a6
                simp [body, g_seq, g_ops, g_cond, g_block, g_scope, g_skip, g_label, g_ret, g_exit, steps, step1, run1, o, u, og, ug, put, Opd.ev, cl_int, cl_bool, cl_nil, cl_sl, cl_agg, cl_vagg, cl_rs, cl_sp, cl_lp, cl_dfn, cl_nilFn, cl_fn, cl_str, cells_S, noLps, noLp, addP, St.load, St.store, splice, cut, mkV, allD, V.astray, V.far, V.near, answer, resAll, resOne, una, intOf?, fnOf, maxD_int, minD_int, foldD, fillG, canon, keepBoxes, keepLive, List.getElem?_cons_zero, List.getElem?_cons_succ, Option.getD_some, g22, Tr.cells, cells_P, b_eql, sameB, a6, a6', e1, e2]
              · have a6' : ¬ cmpV n n' = 0 := by rw [cmpV_eq]; exact a6
                simp [body, g_seq, g_ops, g_cond, g_block, g_scope, g_skip, g_label, g_ret, g_exit, steps, step1, run1, o, u, og, ug, put, Opd.ev, cl_int, cl_bool, cl_nil, cl_sl, cl_agg, cl_vagg, cl_rs, cl_sp, cl_lp, cl_dfn, cl_nilFn, cl_fn, cl_str, cells_S, noLps, noLp, addP, St.load, St.store, splice, cut, mkV, allD, V.astray, V.far, V.near, answer, resAll, resOne, una, intOf?, fnOf, maxD_int, minD_int, foldD, fillG, canon, keepBoxes, keepLive, List.getElem?_cons_zero, List.getElem?_cons_succ, Option.getD_some, g22, Tr.cells, cells_P, b_ne (k := .i64) (x := cmpV n n') (y := 0) a6', b_eql, sameB, a6, a6', e1]
            · have a5' := b_ne (k := .u64) (x := (tp : Int)) (y := tp') (by omega)
              have a5'' : (tp == tp') = false := by simp [a5]
              simp [body, g_seq, g_ops, g_cond, g_block, g_scope, g_skip, g_label, g_ret, g_exit, steps, step1, run1, o, u, og, ug, put, Opd.ev, cl_int, cl_bool, cl_nil, cl_sl, cl_agg, cl_vagg, cl_rs, cl_sp, cl_lp, cl_dfn, cl_nilFn, cl_fn, cl_str, cells_S, noLps, noLp, addP, St.load, St.store, splice, cut, mkV, allD, V.astray, V.far, V.near, answer, resAll, resOne, una, intOf?, fnOf, maxD_int, minD_int, foldD, fillG, canon, keepBoxes, keepLive, List.getElem?_cons_zero, List.getElem?_cons_succ, Option.getD_some, g22, Tr.cells, cells_P, a5', b_eql, sameB, a5, a5'']
          · have a4' : (b == b') = false := by cases b <;> cases b' <;> simp_all
            simp [body, g_seq, g_ops, g_cond, g_block, g_scope, g_skip, g_label, g_ret, g_exit, steps, step1, run1, o, u, og, ug, put, Opd.ev, cl_int, cl_bool, cl_nil, cl_sl, cl_agg, cl_vagg, cl_rs, cl_sp, cl_lp, cl_dfn, cl_nilFn, cl_fn, cl_str, cells_S, noLps, noLp, addP, St.load, St.store, splice, cut, mkV, allD, V.astray, V.far, V.near, answer, resAll, resOne, una, intOf?, fnOf, maxD_int, minD_int, foldD, fillG, canon, keepBoxes, keepLive, List.getElem?_cons_zero, List.getElem?_cons_succ, Option.getD_some, g22, Tr.cells, cells_P, b_eql, sameB, a4']
        · have a3' : (s == s') = false := by cases s <;> cases s' <;> simp_all
          simp [body, g_seq, g_ops, g_cond, g_block, g_scope, g_skip, g_label, g_ret, g_exit, steps, step1, run1, o, u, og, ug, put, Opd.ev, cl_int, cl_bool, cl_nil, cl_sl, cl_agg, cl_vagg, cl_rs, cl_sp, cl_lp, cl_dfn, cl_nilFn, cl_fn, cl_str, cells_S, noLps, noLp, addP, St.load, St.store, splice, cut, mkV, allD, V.astray, V.far, V.near, answer, resAll, resOne, una, intOf?, fnOf, maxD_int, minD_int, foldD, fillG, canon, keepBoxes, keepLive, List.getElem?_cons_zero, List.getElem?_cons_succ, Option.getD_some, g22, Tr.cells, cells_P, b_eql, sameB, a3']
      · have a2' := b_ne (k := .u64) (x := (tr : Int)) (y := tr') (by omega)
        simp [body, g_seq, g_ops, g_cond, g_block, g_scope, g_skip, g_label, g_ret, g_exit, steps, step1, run1, o, u, og, ug, put, Opd.ev, cl_int, cl_bool, cl_nil, cl_sl, cl_agg, cl_vagg, cl_rs, cl_sp, cl_lp, cl_dfn, cl_nilFn, cl_fn, cl_str, cells_S, noLps, noLp, addP, St.load, St.store, splice, cut, mkV, allD, V.astray, V.far, V.near, answer, resAll, resOne, una, intOf?, fnOf, maxD_int, minD_int, foldD, fillG, canon, keepBoxes, keepLive, List.getElem?_cons_zero, List.getElem?_cons_succ, Option.getD_some, g22, Tr.cells, cells_P, a2', b_eql, sameB, a2]
    · simp [body, g_seq, g_ops, g_cond, g_block, g_scope, g_skip, g_label, g_ret, g_exit, steps, step1, run1, o, u, og, ug, put, Opd.ev, cl_int, cl_bool, cl_nil, cl_sl, cl_agg, cl_vagg, cl_rs, cl_sp, cl_lp, cl_dfn, cl_nilFn, cl_fn, cl_str, cells_S, noLps, noLp, addP, St.load, St.store, splice, cut, mkV, allD, V.astray, V.far, V.near, answer, resAll, resOne, una, intOf?, fnOf, maxD_int, minD_int, foldD, fillG, canon, keepBoxes, keepLive, List.getElem?_cons_zero, List.getElem?_cons_succ, Option.getD_some, g22, Tr.cells, cells_P, b_ne (k := .i64) a1, sameB, a1]
end Go.Proofs.Try
