/-
  The chapter's examples, as the law runs them: true.
-/
import Derived.Test.YtlkhddnagmmepaaNa
import Derived.KernelRfl
namespace Go.Proofs.Try
open Go.Gm
set_option maxHeartbeats 8000000
set_option maxRecDepth 100000
set_option linter.unusedSimpArgs false
set_option linter.unusedVariables false

/-- A limb; a leaf of it. -/
abbrev wN (n : Int) : D := .sl false 1 [[.int .u64 n]]
abbrev wLeaf (n : Int) : List D := [.int .i64 0, wN n, .int .u64 0, .bool false, .bool false, .int .u64 0, .nilSl]
abbrev wChoice : List D := [.int .i64 2, .nilSl, .int .u64 1, .bool false, .bool false, .int .u64 0, .sl true 7 [wLeaf 1, wLeaf 1]]
abbrev wTop : List D := [.int .i64 4, .nilSl, .int .u64 0, .bool false, .bool false, .int .u64 0, .sl true 7 [wChoice]]
abbrev wTrees : D := .sl true 7 [wChoice, [.int .i64 1, .nilSl, .int .u64 0, .bool false, .bool false, .int .u64 0, .sl true 7 [wChoice, wChoice]],
  [.int .i64 4, .nilSl, .int .u64 0, .bool true, .bool true, .int .u64 3, .sl true 7 [wLeaf 1]],
  [.int .i64 4, .nilSl, .int .u64 0, .bool false, .bool true, .int .u64 3, .sl true 7 [wLeaf 5]],
  [.int .i64 4, .nilSl, .int .u64 0, .bool false, .bool false, .int .u64 0, .sl true 7 [wLeaf 1]]]
abbrev wRow (a b c d e : Int) : D := .sl true 1 [[.int .u64 a], [.int .u64 b], [.int .u64 c], [.int .u64 d], [.int .u64 e]]
abbrev wWant : D := .sl true 1 [[wRow 2 1 1 1 1], [wRow 4 3 2 2 1], [wRow 4 0 3 0 1], [wRow 125 0 0 0 125], [wRow 1 0 0 0 1]]
/-- At the head of the loop over the examples. -/
def wHead (i : Nat) : St := ⟨rg 111 [(2, .lp 0 0), (3, .d wTrees), (4, .d wWant), (5, .d (.int .i64 (i : Int)))], [wChoice.map V.d], []⟩

def wStep (i : Nat) : Option St := match gcode (gcall table 30) 30 g7_b1 (wHead i) with
  | some (.normal, s) => canon [2] [3, 4, 5] s
  | _ => Option.none
theorem w_step0 : wStep 0 = some (wHead 1) := by kernel_rfl
theorem w_step1 : wStep 1 = some (wHead 2) := by kernel_rfl
theorem w_step2 : wStep 2 = some (wHead 3) := by kernel_rfl
theorem w_step3 : wStep 3 = some (wHead 4) := by kernel_rfl
theorem w_step4 : wStep 4 = some (wHead 5) := by kernel_rfl

theorem ret_run {f : FuncId} {args : List D} {x : D} (n : Nat) (h : (gcall table n f (args.map V.d) []).map (fun r => r.1) = some (.d x)) : Ret table f args x := by
  cases hr : gcall table n f (args.map V.d) [] with
  | none => rw [hr] at h; cases h
  | some r =>
    rw [hr] at h
    obtain ⟨v, sh⟩ := r
    cases h
    exact ⟨_, sh, [], lim_iff.2 ⟨n, hr⟩, toD_d⟩
theorem w_of1 : Ret table 12 [.int .u64 1] (.agg [wN 1]) := ret_run 30 (by kernel_rfl)
theorem w_of5 : Ret table 12 [.int .u64 5] (.agg [wN 5]) := ret_run 30 (by kernel_rfl)
theorem w_eval : Ret table 9 [.int .i64 9, .agg wTop] (.agg [.bool true, .nilSl, .nilSl]) := ret_run 30 (by kernel_rfl)
theorem w_weigh : Ret table 10 [.int .i64 9, .agg wTop] (.tup [.agg [.nilSl, .nilSl, .nilSl], .bool false]) := ret_run 30 (by kernel_rfl)

theorem w_loop : ∃ e s', (e = .brk 0 ∧ s' = ⟨rg 111 [(2, .lp 0 0)], [wChoice.map V.d], []⟩) ∧ ∀ s, canon [2] [3, 4, 5] s = some (wHead 0) → gcode (lim table) 100 g7_l1 s = some (e, s') := by
  refine loop_rule (lf := 100) wHead (fun i => 5 - i) (fun i => i ≤ 5) _ ?_ (x := 0) (by decide) (by decide)
  have up : ∀ i j : Nat, wStep i = some (wHead j) → ∃ s2, gcode (lim table) 100 g7_b1 (wHead i) = some (.normal, s2) ∧ canon [2] [3, 4, 5] s2 = some (wHead j) := by
    intro i j h
    unfold wStep at h
    split at h
    · rename_i s hs
      exact ⟨s, gcode_mono (cle_lim 30) (by decide) hs, h⟩
    · cases h
  intro i hi
  have hcases : i = 0 ∨ i = 1 ∨ i = 2 ∨ i = 3 ∨ i = 4 ∨ i = 5 := by omega
  rcases hcases with rfl | rfl | rfl | rfl | rfl | rfl
  · obtain ⟨s2, h1, h2⟩ := up 0 1 w_step0; exact .inl ⟨s2, 1, h1, h2, by decide, by decide⟩
  · obtain ⟨s2, h1, h2⟩ := up 1 2 w_step1; exact .inl ⟨s2, 2, h1, h2, by decide, by decide⟩
  · obtain ⟨s2, h1, h2⟩ := up 2 3 w_step2; exact .inl ⟨s2, 3, h1, h2, by decide, by decide⟩
  · obtain ⟨s2, h1, h2⟩ := up 3 4 w_step3; exact .inl ⟨s2, 4, h1, h2, by decide, by decide⟩
  · obtain ⟨s2, h1, h2⟩ := up 4 5 w_step4; exact .inl ⟨s2, 5, h1, h2, by decide, by decide⟩
  · exact .inr ⟨.brk 0, _, ⟨rg 111 [(2, .lp 0 0)], [wChoice.map V.d], []⟩, by simp [body, g_seq, g_ops, g_cond, g_block, g_scope, g_skip, g_label, g_ret, g_exit, steps, step1, run1, o, u, og, ug, put, Opd.ev, cl_int, cl_bool, cl_nil, cl_sl, cl_agg, cl_vagg, cl_rs, cl_sp, cl_lp, cl_dfn, cl_nilFn, cl_fn, cl_str, cells_S, noLps, noLp, addP, St.load, St.store, splice, cut, mkV, allD, V.astray, V.far, V.near, answer, resAll, resOne, bin, una, intOf?, fnOf, maxD_int, minD_int, foldD, fillG, canon, keepBoxes, keepLive, List.getElem?_cons_zero, List.getElem?_cons_succ, Option.getD_some, g7_b1, wHead, rg, lenV]; rfl, by simp, by simp [body, g_seq, g_ops, g_cond, g_block, g_scope, g_skip, g_label, g_ret, g_exit, steps, step1, run1, o, u, og, ug, put, Opd.ev, cl_int, cl_bool, cl_nil, cl_sl, cl_agg, cl_vagg, cl_rs, cl_sp, cl_lp, cl_dfn, cl_nilFn, cl_fn, cl_str, cells_S, noLps, noLp, addP, St.load, St.store, splice, cut, mkV, allD, V.astray, V.far, V.near, answer, resAll, resOne, bin, una, intOf?, fnOf, maxD_int, minD_int, foldD, fillG, canon, keepBoxes, keepLive, List.getElem?_cons_zero, List.getElem?_cons_succ, Option.getD_some, rg], rfl, rfl⟩

theorem r_works : Ret table 7 [] (.bool true) := by
  obtain ⟨e, s', ⟨rfl, rfl⟩, h2⟩ := w_loop
  refine Ret.ofD 100 (g := g7) rfl ⟨[], ?_⟩
  simp [body, g_seq, g_ops, g_cond, g_block, g_scope, g_skip, g_label, g_ret, g_exit, steps, step1, run1, o, u, og, ug, put, Opd.ev, cl_int, cl_bool, cl_nil, cl_sl, cl_agg, cl_vagg, cl_rs, cl_sp, cl_lp, cl_dfn, cl_nilFn, cl_fn, cl_str, cells_S, noLps, noLp, addP, St.load, St.store, splice, cut, mkV, allD, V.astray, V.far, V.near, answer, resAll, resOne, bin, una, intOf?, fnOf, maxD_int, minD_int, foldD, fillG, canon, keepBoxes, keepLive, List.getElem?_cons_zero, List.getElem?_cons_succ, Option.getD_some, g7, w_of1.c1, w_of5.c1, chunk]
  rw [h2]
  · simp [body, g_seq, g_ops, g_cond, g_block, g_scope, g_skip, g_label, g_ret, g_exit, steps, step1, run1, o, u, og, ug, put, Opd.ev, cl_int, cl_bool, cl_nil, cl_sl, cl_agg, cl_vagg, cl_rs, cl_sp, cl_lp, cl_dfn, cl_nilFn, cl_fn, cl_str, cells_S, noLps, noLp, addP, St.load, St.store, splice, cut, mkV, allD, V.astray, V.far, V.near, answer, resAll, resOne, bin, una, intOf?, fnOf, maxD_int, minD_int, foldD, fillG, canon, keepBoxes, keepLive, List.getElem?_cons_zero, List.getElem?_cons_succ, Option.getD_some, rg, w_eval.c2, w_weigh.c2, chunk]
  · simp [body, g_seq, g_ops, g_cond, g_block, g_scope, g_skip, g_label, g_ret, g_exit, steps, step1, run1, o, u, og, ug, put, Opd.ev, cl_int, cl_bool, cl_nil, cl_sl, cl_agg, cl_vagg, cl_rs, cl_sp, cl_lp, cl_dfn, cl_nilFn, cl_fn, cl_str, cells_S, noLps, noLp, addP, St.load, St.store, splice, cut, mkV, allD, V.astray, V.far, V.near, answer, resAll, resOne, bin, una, intOf?, fnOf, maxD_int, minD_int, foldD, fillG, canon, keepBoxes, keepLive, List.getElem?_cons_zero, List.getElem?_cons_succ, Option.getD_some, rg, wHead]
end Go.Proofs.Try
