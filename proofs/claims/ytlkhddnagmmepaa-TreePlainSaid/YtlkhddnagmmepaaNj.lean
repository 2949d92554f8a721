/-
  Package power, function by function (10): Pow.
-/
import Derived.Test.YtlkhddnagmmepaaNi
namespace Go.Proofs.Try
open Go.Gm
set_option maxHeartbeats 4000000
set_option maxRecDepth 10000
set_option linter.unusedSimpArgs false
set_option linter.unusedVariables false

section
variable {k k' : Option Bool} {a b : List Nat}
theorem r_pow (h : Fit k a) (hl : a.length < 1000) {c : Int} (hc0 : 1 ≤ c) (hc : c ≤ 6) {n : Nat} (hn : n < 18446744073709551616) :
    ∃ k3 l ok, Fit k3 l ∧ (l.length : Int) ≤ c ∧ (val a = 1 → (a.length : Int) ≤ c → ok = true ∧ val l = 1) ∧ Ret table 54 [.int .i64 c, N k a, .int .u64 (n : Int)] (.tup [N k3 l, .bool ok]) := by
  obtain ⟨k1, h1, e1⟩ := r_of1
  have hmax : max 0 c = c := by omega
  have hone : (([1] : List Nat).length : Int) ≤ max 0 c := by simp; omega
  obtain ⟨k2, h2, e2⟩ := r_fit_yes h1 hone (by decide)
  rw [trim_one] at h2 e2
  have eg := (r_great h hl).c1
  have em := (r_most (c := c) (by omega) (by omega)).c1
  by_cases hA : n = 0
  · subst hA
    have pz2 : bin .eql (.int .u64 ((0 : Nat) : Int)) (.int .u64 0) = some (.bool true) := rfl
    generalize ((0 : Nat) : Int) = q at *
    refine ⟨k2, [1], true, h2, by simpa using hc0, fun _ _ => ⟨rfl, rfl⟩, Ret.ofD 1 (g := g54) rfl ⟨[⟨[.d (.int .i64 c)], 1, 33, false⟩], ?_⟩⟩
    simp [body, g_seq, g_ops, g_cond, g_block, g_scope, g_skip, g_label, g_ret, g_exit, steps, step1, run1, o, u, og, ug, put, Opd.ev, cl_int, cl_bool, cl_nil, cl_sl, cl_agg, cl_vagg, cl_rs, cl_sp, cl_lp, cl_dfn, cl_nilFn, cl_fn, cl_str, cells_S, noLps, noLp, addP, St.load, St.store, splice, cut, mkV, allD, V.astray, V.far, V.near, answer, resAll, resOne, una, intOf?, fnOf, maxD_int, minD_int, foldD, fillG, canon, keepBoxes, keepLive, List.getElem?_cons_zero, List.getElem?_cons_succ, Option.getD_some, g54, e1.c1, e2.c2, pz2]
  · have pz2 := b_ne (k := .u64) (x := n) (y := 0) (by omega)
    by_cases hB : 1 < val a
    · by_cases hC : n < 400 ∧ (n : Int) ≤ c * 64
      · obtain ⟨hC0, hC1⟩ := hC
        have hC2 : ¬ (n : Int) > c * 64 := by omega
        obtain ⟨r, hr, e3⟩ := r_len64 hC0
        obtain ⟨e, s', ⟨rfl, k3, l, ok, q1, q2, rfl⟩, q3⟩ := pow_loop (k := k) h hl hc0 hc (n := n) (i0 := (r : Int) - 1) (by omega) (by omega) h1
        refine ⟨k3, l, ok, q1, q2, fun q => by omega, Ret.ofD 1000 (g := g54) rfl ⟨powSh c k3 l ok, ?_⟩⟩
        simp (disch := omega) [body, g_seq, g_ops, g_cond, g_block, g_scope, g_skip, g_label, g_ret, g_exit, steps, step1, run1, o, u, og, ug, put, Opd.ev, cl_int, cl_bool, cl_nil, cl_sl, cl_agg, cl_vagg, cl_rs, cl_sp, cl_lp, cl_dfn, cl_nilFn, cl_fn, cl_str, cells_S, noLps, noLp, addP, St.load, St.store, splice, cut, mkV, allD, V.astray, V.far, V.near, answer, resAll, resOne, una, intOf?, fnOf, maxD_int, minD_int, foldD, fillG, canon, keepBoxes, keepLive, List.getElem?_cons_zero, List.getElem?_cons_succ, Option.getD_some, g54, pz2, eg, hB, em, hC2, hC1, e1.c1, e3.c1, b_gtr, b_sub64, w64]
        rw [q3]
        · simp [body, g_seq, g_ops, g_cond, g_block, g_scope, g_skip, g_label, g_ret, g_exit, steps, step1, run1, o, u, og, ug, put, Opd.ev, cl_int, cl_bool, cl_nil, cl_sl, cl_agg, cl_vagg, cl_rs, cl_sp, cl_lp, cl_dfn, cl_nilFn, cl_fn, cl_str, cells_S, noLps, noLp, addP, St.load, St.store, splice, cut, mkV, allD, V.astray, V.far, V.near, answer, resAll, resOne, una, intOf?, fnOf, maxD_int, minD_int, foldD, fillG, canon, keepBoxes, keepLive, List.getElem?_cons_zero, List.getElem?_cons_succ, Option.getD_some, rg, powSh]
        · simp [body, g_seq, g_ops, g_cond, g_block, g_scope, g_skip, g_label, g_ret, g_exit, steps, step1, run1, o, u, og, ug, put, Opd.ev, cl_int, cl_bool, cl_nil, cl_sl, cl_agg, cl_vagg, cl_rs, cl_sp, cl_lp, cl_dfn, cl_nilFn, cl_fn, cl_str, cells_S, noLps, noLp, addP, St.load, St.store, splice, cut, mkV, allD, V.astray, V.far, V.near, answer, resAll, resOne, una, intOf?, fnOf, maxD_int, minD_int, foldD, fillG, canon, keepBoxes, keepLive, List.getElem?_cons_zero, List.getElem?_cons_succ, Option.getD_some, rg, powAt, powSh]
      · have hC2 : (n : Int) > c * 64 := by omega
        refine ⟨Option.none, [], false, fit_nil, by simp; omega, fun q => by omega, Ret.ofD 1 (g := g54) rfl ⟨[⟨[.d (.int .i64 c)], 1, 33, false⟩], ?_⟩⟩
        simp [body, g_seq, g_ops, g_cond, g_block, g_scope, g_skip, g_label, g_ret, g_exit, steps, step1, run1, o, u, og, ug, put, Opd.ev, cl_int, cl_bool, cl_nil, cl_sl, cl_agg, cl_vagg, cl_rs, cl_sp, cl_lp, cl_dfn, cl_nilFn, cl_fn, cl_str, cells_S, noLps, noLp, addP, St.load, St.store, splice, cut, mkV, allD, V.astray, V.far, V.near, answer, resAll, resOne, una, intOf?, fnOf, maxD_int, minD_int, foldD, fillG, canon, keepBoxes, keepLive, List.getElem?_cons_zero, List.getElem?_cons_succ, Option.getD_some, g54, pz2, eg, hB, em, hC2, b_gtr, S_nil]
    · by_cases hD : (a.length : Int) ≤ max 0 c
      · obtain ⟨k5, h7, e5⟩ := r_fit_yes h hD (by omega)
        refine ⟨k5, trim a, true, h7, ?_, fun q _ => ⟨rfl, by rw [val_trim, q]⟩, Ret.ofD 1 (g := g54) rfl ⟨[⟨[.d (.int .i64 c)], 1, 33, false⟩], ?_⟩⟩
        · have := trim_length a
          rw [hmax] at hD
          omega
        · simp [body, g_seq, g_ops, g_cond, g_block, g_scope, g_skip, g_label, g_ret, g_exit, steps, step1, run1, o, u, og, ug, put, Opd.ev, cl_int, cl_bool, cl_nil, cl_sl, cl_agg, cl_vagg, cl_rs, cl_sp, cl_lp, cl_dfn, cl_nilFn, cl_fn, cl_str, cells_S, noLps, noLp, addP, St.load, St.store, splice, cut, mkV, allD, V.astray, V.far, V.near, answer, resAll, resOne, una, intOf?, fnOf, maxD_int, minD_int, foldD, fillG, canon, keepBoxes, keepLive, List.getElem?_cons_zero, List.getElem?_cons_succ, Option.getD_some, g54, pz2, eg, hB, e5.c2]
      · refine ⟨Option.none, [], false, fit_nil, by simp; omega, fun _ q => by omega, Ret.ofD 1 (g := g54) rfl ⟨[⟨[.d (.int .i64 c)], 1, 33, false⟩], ?_⟩⟩
        simp [body, g_seq, g_ops, g_cond, g_block, g_scope, g_skip, g_label, g_ret, g_exit, steps, step1, run1, o, u, og, ug, put, Opd.ev, cl_int, cl_bool, cl_nil, cl_sl, cl_agg, cl_vagg, cl_rs, cl_sp, cl_lp, cl_dfn, cl_nilFn, cl_fn, cl_str, cells_S, noLps, noLp, addP, St.load, St.store, splice, cut, mkV, allD, V.astray, V.far, V.near, answer, resAll, resOne, una, intOf?, fnOf, maxD_int, minD_int, foldD, fillG, canon, keepBoxes, keepLive, List.getElem?_cons_zero, List.getElem?_cons_succ, Option.getD_some, g54, pz2, eg, hB, (r_fit_no h hD).c2, S_nil]
end
end Go.Proofs.Try
