/-
  Packages nat and power, function by function (7): what fits, the greatest, one, powers, sums of powers.
-/
import Derived.Test.YtlkhddnagmmepaaNf
namespace Go.Proofs.Try
open Go.Gm
set_option maxHeartbeats 4000000
set_option linter.unusedSimpArgs false
set_option linter.unusedVariables false

theorem cmpV_eq (a b : List Nat) : (cmpV a b = 0) = (val a = val b) := by
  unfold cmpV
  apply propext
  split
  · constructor <;> intro h <;> omega
  · split
    · constructor <;> intro h <;> omega
    · constructor <;> intro h <;> omega
theorem cmpV_gt (a b : List Nat) : (0 < cmpV a b) = (val b < val a) := by
  unfold cmpV
  apply propext
  split
  · constructor <;> intro h <;> omega
  · split
    · constructor <;> intro h <;> omega
    · constructor <;> intro h <;> omega
theorem trim_one : trim [1] = [1] := rfl
theorem val_one : val [1] = 1 := rfl

section
variable {k k' : Option Bool} {a b : List Nat}
theorem r_of1 : ∃ k', Fit k' [1] ∧ Ret table 12 [.int .u64 1] (N k' [1]) := r_of (n := 1) (by decide)
theorem r_one : ∃ k', Fit k' [1] ∧ Ret table 32 [] (N k' [1]) := by
  obtain ⟨k1, h1, h2⟩ := r_of1
  refine ⟨k1, h1, Ret.ofD 1 (g := g32) rfl ⟨[], ?_⟩⟩
  simp [body, g_seq, g_ops, g_cond, g_block, g_scope, g_skip, g_label, g_ret, g_exit, steps, step1, run1, o, u, og, ug, put, Opd.ev, cl_int, cl_bool, cl_nil, cl_sl, cl_agg, cl_vagg, cl_rs, cl_sp, cl_lp, cl_dfn, cl_nilFn, cl_fn, cl_str, cells_S, noLps, noLp, addP, St.load, St.store, splice, cut, mkV, allD, V.astray, V.far, V.near, answer, resAll, resOne, bin, una, intOf?, fnOf, maxD_int, minD_int, foldD, fillG, canon, keepBoxes, keepLive, List.getElem?_cons_zero, List.getElem?_cons_succ, Option.getD_some, g32, h2.c1]
theorem r_is1 (h : Fit k a) (hl : a.length < 1000) : Ret table 52 [N k a] (.bool (decide (val a = 1))) := by
  obtain ⟨k1, h1, h2⟩ := r_one
  refine Ret.ofD 1 (g := g52) rfl ⟨[], ?_⟩
  simp [body, g_seq, g_ops, g_cond, g_block, g_scope, g_skip, g_label, g_ret, g_exit, steps, step1, run1, o, u, og, ug, put, Opd.ev, cl_int, cl_bool, cl_nil, cl_sl, cl_agg, cl_vagg, cl_rs, cl_sp, cl_lp, cl_dfn, cl_nilFn, cl_fn, cl_str, cells_S, noLps, noLp, addP, St.load, St.store, splice, cut, mkV, allD, V.astray, V.far, V.near, answer, resAll, resOne, bin, una, intOf?, fnOf, maxD_int, minD_int, foldD, fillG, canon, keepBoxes, keepLive, List.getElem?_cons_zero, List.getElem?_cons_succ, Option.getD_some, g52, h2.c0, (r_cmp h h1 hl (by decide)).c2]
  rw [Bool.eq_iff_iff]
  simp [cmpV_eq, val_one]
theorem r_great (h : Fit k a) (hl : a.length < 1000) : Ret table 66 [N k a] (.bool (decide (1 < val a))) := by
  obtain ⟨k1, h1, h2⟩ := r_of1
  refine Ret.ofD 1 (g := g66) rfl ⟨[], ?_⟩
  simp [body, g_seq, g_ops, g_cond, g_block, g_scope, g_skip, g_label, g_ret, g_exit, steps, step1, run1, o, u, og, ug, put, Opd.ev, cl_int, cl_bool, cl_nil, cl_sl, cl_agg, cl_vagg, cl_rs, cl_sp, cl_lp, cl_dfn, cl_nilFn, cl_fn, cl_str, cells_S, noLps, noLp, addP, St.load, St.store, splice, cut, mkV, allD, V.astray, V.far, V.near, answer, resAll, resOne, bin, una, intOf?, fnOf, maxD_int, minD_int, foldD, fillG, canon, keepBoxes, keepLive, List.getElem?_cons_zero, List.getElem?_cons_succ, Option.getD_some, g66, h2.c1, (r_cmp h h1 hl (by decide)).c2]
  simp [cmpV_gt, val_one]
theorem r_most {c : Int} (h0 : 0 < c) (h1 : c < 1000) : Ret table 40 [.int .i64 c] (.int .u64 (c * 64)) := by
  have p1 : ¬ c ≤ 0 := by omega
  have p2 : ¬ c > 288230376151711743 := by omega
  refine Ret.ofD 1 (g := g40) rfl ⟨[], ?_⟩
  simp (disch := omega) [body, g_seq, g_ops, g_cond, g_block, g_scope, g_skip, g_label, g_ret, g_exit, steps, step1, run1, o, u, og, ug, put, Opd.ev, cl_int, cl_bool, cl_nil, cl_sl, cl_agg, cl_vagg, cl_rs, cl_sp, cl_lp, cl_dfn, cl_nilFn, cl_fn, cl_str, cells_S, noLps, noLp, addP, St.load, St.store, splice, cut, mkV, allD, V.astray, V.far, V.near, answer, resAll, resOne, bin, una, intOf?, fnOf, maxD_int, minD_int, foldD, fillG, canon, keepBoxes, keepLive, List.getElem?_cons_zero, List.getElem?_cons_succ, Option.getD_some, g40, p1, p2, h0, wu64]
/-- A product that fits, or nothing. -/
theorem r_cmul (h : Fit k a) (h' : Fit k' b) (hl : a.length < 1000) (hl' : b.length < 1000) {c : Int} : ∃ k'' l ok, Fit k'' l ∧ (l.length : Int) ≤ max 0 c ∧ Ret table 61 [.int .i64 c, N k a, N k' b] (.tup [N k'' l, .bool ok]) := by
  obtain ⟨k1, l, h1, _, _, h2⟩ := r_mul h h' hl hl'
  by_cases hc : (l.length : Int) ≤ max 0 c
  · refine ⟨k1, l, true, h1, hc, Ret.ofD 1 (g := g61) rfl ⟨[], ?_⟩⟩
    simp [body, g_seq, g_ops, g_cond, g_block, g_scope, g_skip, g_label, g_ret, g_exit, steps, step1, run1, o, u, og, ug, put, Opd.ev, cl_int, cl_bool, cl_nil, cl_sl, cl_agg, cl_vagg, cl_rs, cl_sp, cl_lp, cl_dfn, cl_nilFn, cl_fn, cl_str, cells_S, noLps, noLp, addP, St.load, St.store, splice, cut, mkV, allD, V.astray, V.far, V.near, answer, resAll, resOne, bin, una, intOf?, fnOf, maxD_int, minD_int, foldD, fillG, canon, keepBoxes, keepLive, List.getElem?_cons_zero, List.getElem?_cons_succ, Option.getD_some, g61, h2.c2, (r_cfit_yes h1 hc).c2]
  · refine ⟨Option.none, [], false, fit_nil, by simp; omega, Ret.ofD 1 (g := g61) rfl ⟨[], ?_⟩⟩
    simp [body, g_seq, g_ops, g_cond, g_block, g_scope, g_skip, g_label, g_ret, g_exit, steps, step1, run1, o, u, og, ug, put, Opd.ev, cl_int, cl_bool, cl_nil, cl_sl, cl_agg, cl_vagg, cl_rs, cl_sp, cl_lp, cl_dfn, cl_nilFn, cl_fn, cl_str, cells_S, noLps, noLp, addP, St.load, St.store, splice, cut, mkV, allD, V.astray, V.far, V.near, answer, resAll, resOne, bin, una, intOf?, fnOf, maxD_int, minD_int, foldD, fillG, canon, keepBoxes, keepLive, List.getElem?_cons_zero, List.getElem?_cons_succ, Option.getD_some, g61, h2.c2, (r_cfit_no h1 hc).c2]
theorem r_cadd (h : Fit k a) (h' : Fit k' b) (hl : a.length < 1000) (hl' : b.length < 1000) {c : Int} : ∃ k'' l ok, Fit k'' l ∧ (l.length : Int) ≤ max 0 c ∧ Ret table 39 [.int .i64 c, N k a, N k' b] (.tup [N k'' l, .bool ok]) := by
  obtain ⟨k1, l, h1, _, _, h2⟩ := r_add h h' hl hl'
  by_cases hc : (l.length : Int) ≤ max 0 c
  · refine ⟨k1, l, true, h1, hc, Ret.ofD 1 (g := g39) rfl ⟨[], ?_⟩⟩
    simp [body, g_seq, g_ops, g_cond, g_block, g_scope, g_skip, g_label, g_ret, g_exit, steps, step1, run1, o, u, og, ug, put, Opd.ev, cl_int, cl_bool, cl_nil, cl_sl, cl_agg, cl_vagg, cl_rs, cl_sp, cl_lp, cl_dfn, cl_nilFn, cl_fn, cl_str, cells_S, noLps, noLp, addP, St.load, St.store, splice, cut, mkV, allD, V.astray, V.far, V.near, answer, resAll, resOne, bin, una, intOf?, fnOf, maxD_int, minD_int, foldD, fillG, canon, keepBoxes, keepLive, List.getElem?_cons_zero, List.getElem?_cons_succ, Option.getD_some, g39, h2.c2, (r_cfit_yes h1 hc).c2]
  · refine ⟨Option.none, [], false, fit_nil, by simp; omega, Ret.ofD 1 (g := g39) rfl ⟨[], ?_⟩⟩
    simp [body, g_seq, g_ops, g_cond, g_block, g_scope, g_skip, g_label, g_ret, g_exit, steps, step1, run1, o, u, og, ug, put, Opd.ev, cl_int, cl_bool, cl_nil, cl_sl, cl_agg, cl_vagg, cl_rs, cl_sp, cl_lp, cl_dfn, cl_nilFn, cl_fn, cl_str, cells_S, noLps, noLp, addP, St.load, St.store, splice, cut, mkV, allD, V.astray, V.far, V.near, answer, resAll, resOne, bin, una, intOf?, fnOf, maxD_int, minD_int, foldD, fillG, canon, keepBoxes, keepLive, List.getElem?_cons_zero, List.getElem?_cons_succ, Option.getD_some, g39, h2.c2, (r_cfit_no h1 hc).c2]

/-- At the head of the loop for the greatest. -/
def maxAt (q : D) (p : Nat × Option Bool × List Nat) : St :=
  ⟨rg 21 [(2, .lp 0 0), (3, .lp 1 0), (6, .d q), (7, .d (.int .i64 2)), (8, .d (.int .i64 (p.1 : Int)))], [[.d .nilSl], [.d (S p.2.1 p.2.2)]], []⟩
theorem r_max (h : Fit k a) (h' : Fit k' b) (hl : a.length < 1000) (hl' : b.length < 1000) : ∃ k'' l, Fit k'' l ∧ Norm l ∧ val l = max (val a) (val b) ∧ Ret table 50 [.sl true 1 [[S k a], [S k' b]]] (N k'' l) := by
  have hloop : ∃ e s', (e = .brk 0 ∧ ∃ k1 l, Fit k1 l ∧ l.length < 1000 ∧ val l = max (val a) (val b) ∧ s' = ⟨rg 21 [(2, .lp 0 0), (3, .lp 1 0)], [[.d .nilSl], [.d (S k1 l)]], []⟩) ∧
      ∀ s, canon [2, 3] [6, 7, 8] s = some (maxAt (.sl true 1 [[S k a], [S k' b]]) (0, Option.none, [])) → gcode (lim table) 10 g50_l0 s = some (e, s') := by
    refine loop_rule (lf := 10) (maxAt (.sl true 1 [[S k a], [S k' b]])) (fun p => 2 - p.1)
      (fun p => Fit p.2.1 p.2.2 ∧ p.2.2.length < 1000 ∧ ((p.1 = 0 ∧ val p.2.2 = 0) ∨ (p.1 = 1 ∧ val p.2.2 = val a) ∨ (p.1 = 2 ∧ val p.2.2 = max (val a) (val b)))) _ ?_ (x := (0, Option.none, []))
      ⟨fit_nil, by simp, .inl ⟨rfl, rfl⟩⟩ (by decide)
    intro ⟨i, k1, l⟩ ⟨h1, h2, h3⟩
    simp only at h1 h2 h3
    rcases h3 with ⟨rfl, h3⟩ | ⟨rfl, h3⟩ | ⟨rfl, h3⟩
    · left
      have e1 := (r_cmp h h1 hl h2).c2
      by_cases hg : val l < val a
      · have hg' : 0 < cmpV a l := by rw [cmpV_gt]; exact hg
        exact ⟨_, (1, k, a), by simp [body, g_seq, g_ops, g_cond, g_block, g_scope, g_skip, g_label, g_ret, g_exit, steps, step1, run1, o, u, og, ug, put, Opd.ev, cl_int, cl_bool, cl_nil, cl_sl, cl_agg, cl_vagg, cl_rs, cl_sp, cl_lp, cl_dfn, cl_nilFn, cl_fn, cl_str, cells_S, noLps, noLp, addP, St.load, St.store, splice, cut, mkV, allD, V.astray, V.far, V.near, answer, resAll, resOne, bin, una, intOf?, fnOf, maxD_int, minD_int, foldD, fillG, canon, keepBoxes, keepLive, List.getElem?_cons_zero, List.getElem?_cons_succ, Option.getD_some, g50_b0, rg, maxAt, elemP, e1, hg']; rfl, by simp (disch := omega) [body, g_seq, g_ops, g_cond, g_block, g_scope, g_skip, g_label, g_ret, g_exit, steps, step1, run1, o, u, og, ug, put, Opd.ev, cl_int, cl_bool, cl_nil, cl_sl, cl_agg, cl_vagg, cl_rs, cl_sp, cl_lp, cl_dfn, cl_nilFn, cl_fn, cl_str, cells_S, noLps, noLp, addP, St.load, St.store, splice, cut, mkV, allD, V.astray, V.far, V.near, answer, resAll, resOne, bin, una, intOf?, fnOf, maxD_int, minD_int, foldD, fillG, canon, keepBoxes, keepLive, List.getElem?_cons_zero, List.getElem?_cons_succ, Option.getD_some, rg, maxAt, w64], ⟨h, hl, .inr (.inl ⟨rfl, rfl⟩)⟩, (by decide : 2 - 1 < 2 - 0)⟩
      · have hg' : ¬ 0 < cmpV a l := by rw [cmpV_gt]; exact hg
        exact ⟨_, (1, k1, l), by simp [body, g_seq, g_ops, g_cond, g_block, g_scope, g_skip, g_label, g_ret, g_exit, steps, step1, run1, o, u, og, ug, put, Opd.ev, cl_int, cl_bool, cl_nil, cl_sl, cl_agg, cl_vagg, cl_rs, cl_sp, cl_lp, cl_dfn, cl_nilFn, cl_fn, cl_str, cells_S, noLps, noLp, addP, St.load, St.store, splice, cut, mkV, allD, V.astray, V.far, V.near, answer, resAll, resOne, bin, una, intOf?, fnOf, maxD_int, minD_int, foldD, fillG, canon, keepBoxes, keepLive, List.getElem?_cons_zero, List.getElem?_cons_succ, Option.getD_some, g50_b0, rg, maxAt, elemP, e1, hg']; rfl, by simp (disch := omega) [body, g_seq, g_ops, g_cond, g_block, g_scope, g_skip, g_label, g_ret, g_exit, steps, step1, run1, o, u, og, ug, put, Opd.ev, cl_int, cl_bool, cl_nil, cl_sl, cl_agg, cl_vagg, cl_rs, cl_sp, cl_lp, cl_dfn, cl_nilFn, cl_fn, cl_str, cells_S, noLps, noLp, addP, St.load, St.store, splice, cut, mkV, allD, V.astray, V.far, V.near, answer, resAll, resOne, bin, una, intOf?, fnOf, maxD_int, minD_int, foldD, fillG, canon, keepBoxes, keepLive, List.getElem?_cons_zero, List.getElem?_cons_succ, Option.getD_some, rg, maxAt, w64], ⟨h1, h2, .inr (.inl ⟨rfl, show val l = val a by omega⟩)⟩, (by decide : 2 - 1 < 2 - 0)⟩
    · left
      have e1 := (r_cmp h' h1 hl' h2).c2
      by_cases hg : val l < val b
      · have hg' : 0 < cmpV b l := by rw [cmpV_gt]; exact hg
        exact ⟨_, (2, k', b), by simp [body, g_seq, g_ops, g_cond, g_block, g_scope, g_skip, g_label, g_ret, g_exit, steps, step1, run1, o, u, og, ug, put, Opd.ev, cl_int, cl_bool, cl_nil, cl_sl, cl_agg, cl_vagg, cl_rs, cl_sp, cl_lp, cl_dfn, cl_nilFn, cl_fn, cl_str, cells_S, noLps, noLp, addP, St.load, St.store, splice, cut, mkV, allD, V.astray, V.far, V.near, answer, resAll, resOne, bin, una, intOf?, fnOf, maxD_int, minD_int, foldD, fillG, canon, keepBoxes, keepLive, List.getElem?_cons_zero, List.getElem?_cons_succ, Option.getD_some, g50_b0, rg, maxAt, elemP, e1, hg']; rfl, by simp (disch := omega) [body, g_seq, g_ops, g_cond, g_block, g_scope, g_skip, g_label, g_ret, g_exit, steps, step1, run1, o, u, og, ug, put, Opd.ev, cl_int, cl_bool, cl_nil, cl_sl, cl_agg, cl_vagg, cl_rs, cl_sp, cl_lp, cl_dfn, cl_nilFn, cl_fn, cl_str, cells_S, noLps, noLp, addP, St.load, St.store, splice, cut, mkV, allD, V.astray, V.far, V.near, answer, resAll, resOne, bin, una, intOf?, fnOf, maxD_int, minD_int, foldD, fillG, canon, keepBoxes, keepLive, List.getElem?_cons_zero, List.getElem?_cons_succ, Option.getD_some, rg, maxAt, w64], ⟨h', hl', .inr (.inr ⟨rfl, show val b = max (val a) (val b) by omega⟩)⟩, (by decide : 2 - 2 < 2 - 1)⟩
      · have hg' : ¬ 0 < cmpV b l := by rw [cmpV_gt]; exact hg
        exact ⟨_, (2, k1, l), by simp [body, g_seq, g_ops, g_cond, g_block, g_scope, g_skip, g_label, g_ret, g_exit, steps, step1, run1, o, u, og, ug, put, Opd.ev, cl_int, cl_bool, cl_nil, cl_sl, cl_agg, cl_vagg, cl_rs, cl_sp, cl_lp, cl_dfn, cl_nilFn, cl_fn, cl_str, cells_S, noLps, noLp, addP, St.load, St.store, splice, cut, mkV, allD, V.astray, V.far, V.near, answer, resAll, resOne, bin, una, intOf?, fnOf, maxD_int, minD_int, foldD, fillG, canon, keepBoxes, keepLive, List.getElem?_cons_zero, List.getElem?_cons_succ, Option.getD_some, g50_b0, rg, maxAt, elemP, e1, hg']; rfl, by simp (disch := omega) [body, g_seq, g_ops, g_cond, g_block, g_scope, g_skip, g_label, g_ret, g_exit, steps, step1, run1, o, u, og, ug, put, Opd.ev, cl_int, cl_bool, cl_nil, cl_sl, cl_agg, cl_vagg, cl_rs, cl_sp, cl_lp, cl_dfn, cl_nilFn, cl_fn, cl_str, cells_S, noLps, noLp, addP, St.load, St.store, splice, cut, mkV, allD, V.astray, V.far, V.near, answer, resAll, resOne, bin, una, intOf?, fnOf, maxD_int, minD_int, foldD, fillG, canon, keepBoxes, keepLive, List.getElem?_cons_zero, List.getElem?_cons_succ, Option.getD_some, rg, maxAt, w64], ⟨h1, h2, .inr (.inr ⟨rfl, show val l = max (val a) (val b) by omega⟩)⟩, (by decide : 2 - 2 < 2 - 1)⟩
    · right
      exact ⟨.brk 0, _, ⟨rg 21 [(2, .lp 0 0), (3, .lp 1 0)], [[.d .nilSl], [.d (S k1 l)]], []⟩, by simp [body, g_seq, g_ops, g_cond, g_block, g_scope, g_skip, g_label, g_ret, g_exit, steps, step1, run1, o, u, og, ug, put, Opd.ev, cl_int, cl_bool, cl_nil, cl_sl, cl_agg, cl_vagg, cl_rs, cl_sp, cl_lp, cl_dfn, cl_nilFn, cl_fn, cl_str, cells_S, noLps, noLp, addP, St.load, St.store, splice, cut, mkV, allD, V.astray, V.far, V.near, answer, resAll, resOne, bin, una, intOf?, fnOf, maxD_int, minD_int, foldD, fillG, canon, keepBoxes, keepLive, List.getElem?_cons_zero, List.getElem?_cons_succ, Option.getD_some, g50_b0, rg, maxAt]; rfl, by simp, by simp [body, g_seq, g_ops, g_cond, g_block, g_scope, g_skip, g_label, g_ret, g_exit, steps, step1, run1, o, u, og, ug, put, Opd.ev, cl_int, cl_bool, cl_nil, cl_sl, cl_agg, cl_vagg, cl_rs, cl_sp, cl_lp, cl_dfn, cl_nilFn, cl_fn, cl_str, cells_S, noLps, noLp, addP, St.load, St.store, splice, cut, mkV, allD, V.astray, V.far, V.near, answer, resAll, resOne, bin, una, intOf?, fnOf, maxD_int, minD_int, foldD, fillG, canon, keepBoxes, keepLive, List.getElem?_cons_zero, List.getElem?_cons_succ, Option.getD_some, rg], rfl, k1, l, h1, h2, h3, rfl⟩
  obtain ⟨e, s', ⟨rfl, k1, l, h1, h2, h3, rfl⟩, h4⟩ := hloop
  obtain ⟨k2, h5, h6⟩ := r_limbs h1 (by omega)
  refine ⟨k2, trim l, h5, trim_trim _, by rw [val_trim, h3], Ret.ofD 10 (g := g50) rfl ⟨[], ?_⟩⟩
  simp [body, g_seq, g_ops, g_cond, g_block, g_scope, g_skip, g_label, g_ret, g_exit, steps, step1, run1, o, u, og, ug, put, Opd.ev, cl_int, cl_bool, cl_nil, cl_sl, cl_agg, cl_vagg, cl_rs, cl_sp, cl_lp, cl_dfn, cl_nilFn, cl_fn, cl_str, cells_S, noLps, noLp, addP, St.load, St.store, splice, cut, mkV, allD, V.astray, V.far, V.near, answer, resAll, resOne, bin, una, intOf?, fnOf, maxD_int, minD_int, foldD, fillG, canon, keepBoxes, keepLive, List.getElem?_cons_zero, List.getElem?_cons_succ, Option.getD_some, g50, lenV]
  rw [h4]
  · simp [body, g_seq, g_ops, g_cond, g_block, g_scope, g_skip, g_label, g_ret, g_exit, steps, step1, run1, o, u, og, ug, put, Opd.ev, cl_int, cl_bool, cl_nil, cl_sl, cl_agg, cl_vagg, cl_rs, cl_sp, cl_lp, cl_dfn, cl_nilFn, cl_fn, cl_str, cells_S, noLps, noLp, addP, St.load, St.store, splice, cut, mkV, allD, V.astray, V.far, V.near, answer, resAll, resOne, bin, una, intOf?, fnOf, maxD_int, minD_int, foldD, fillG, canon, keepBoxes, keepLive, List.getElem?_cons_zero, List.getElem?_cons_succ, Option.getD_some, rg, h6.c1]
  · simp [body, g_seq, g_ops, g_cond, g_block, g_scope, g_skip, g_label, g_ret, g_exit, steps, step1, run1, o, u, og, ug, put, Opd.ev, cl_int, cl_bool, cl_nil, cl_sl, cl_agg, cl_vagg, cl_rs, cl_sp, cl_lp, cl_dfn, cl_nilFn, cl_fn, cl_str, cells_S, noLps, noLp, addP, St.load, St.store, splice, cut, mkV, allD, V.astray, V.far, V.near, answer, resAll, resOne, bin, una, intOf?, fnOf, maxD_int, minD_int, foldD, fillG, canon, keepBoxes, keepLive, List.getElem?_cons_zero, List.getElem?_cons_succ, Option.getD_some, rg, maxAt, S_nil]
end
end Go.Proofs.Try
