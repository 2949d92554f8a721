/-
  Package power, function by function (8): sums of powers, powers.
-/
import Derived.Test.YtlkhddnagmmepaaNg
namespace Go.Proofs.Try
open Go.Gm
set_option maxHeartbeats 4000000
set_option linter.unusedSimpArgs false
set_option linter.unusedVariables false

theorem b_ne {k : IntKind} {x y : Int} (h : x ≠ y) : bin .eql (.int k x) (.int k y) = some (.bool false) := by rw [b_eql]; simp [h]
theorem norm_len {l : List Nat} (hn : Norm l) (hv : val l < 18446744073709551616) : l.length ≤ 1 := by
  rcases Nat.lt_or_ge 1 l.length with h | h
  · exfalso
    obtain ⟨r, x, rfl⟩ : ∃ r x, l = r ++ [x] := ⟨l.dropLast, l.getLast (by intro e; simp [e] at h), (List.dropLast_concat_getLast _).symm⟩
    have hx : x ≠ 0 := by
      rintro rfl
      have := trim_zero (l := r ++ [0]) (by simp) (by simp)
      rw [hn] at this
      simp at this
      have h2 := trim_length r
      rw [this] at h2
      simp at h2
      omega
    rw [val_append] at hv
    simp only [List.length_append, List.length_cons, List.length_nil] at h
    have h1 : 18446744073709551616 ^ 1 ≤ 18446744073709551616 ^ r.length := Nat.pow_le_pow_right (by decide) (by omega)
    have h2 : 18446744073709551616 ^ r.length * 1 ≤ 18446744073709551616 ^ r.length * val [x] := Nat.mul_le_mul_left _ (by simp [val]; omega)
    omega
  · exact h

section
variable {k k' : Option Bool} {a b : List Nat}
/-- At the head of the loop of sums of powers. -/
def sumAt (c : Int) (n : Nat) (k k1 : Option Bool) (a : List Nat) (p : Nat × Bool × Option Bool × List Nat) : St :=
  ⟨rg 75 [(0, .d (.int .i64 c)), (2, .d (.int .u64 (n : Int))), (4, .lp 0 0), (6, .lp 1 0), (8, .lp 2 0), (9, .lp 3 0), (10, .d (.bool p.2.1)), (11, .d (.int .u64 (p.1 : Int)))], [[.d (S k a)], [.d .nilSl], [.d (S k1 [1])], [.d (S p.2.2.1 p.2.2.2)]], []⟩

theorem sum_loop (h : Fit k a) (hl : a.length < 1000) {k1 : Option Bool} (h1 : Fit k1 [1]) {c : Int} (hc0 : 1 ≤ c) (hc : c ≤ 6) {n : Nat} (hn : n < 400) {k2 : Option Bool} (h2 : Fit k2 [1]) :
    ∃ e s', (e = .brk 1 ∧ ∃ k3 l ok, Fit k3 l ∧ (l.length : Int) ≤ c ∧ s' = ⟨rg 75 [(6, .lp 0 0), (9, .lp 1 0), (10, .d (.bool ok))], [[.d .nilSl], [.d (S k3 l)]], []⟩) ∧
      ∀ s, canon [4, 6, 8, 9] [0, 2, 10, 11] s = some (sumAt c n k k1 a (0, true, k2, [1])) → gcode (lim table) 1000 g65_l0 s = some (e, s') := by
  refine loop_rule (lf := 1000) (sumAt c n k k1 a) (fun p => n - p.1) (fun p => p.1 ≤ n ∧ Fit p.2.2.1 p.2.2.2 ∧ (p.2.2.2.length : Int) ≤ c) _ ?_ (x := (0, true, k2, [1])) ⟨by simp, h2, by simpa using hc0⟩ (show n - 0 < 1000 by omega)
  intro ⟨i, ok, k3, l⟩ ⟨q1, q2, q3⟩
  simp only at q1 q2 q3
  have hmax : max 0 c = c := by omega
  by_cases h0 : i < n ∧ ok = true
  · left
    obtain ⟨h0, rfl⟩ := h0
    have hi : (i : Int) < n := by omega
    obtain ⟨k4, l4, ok4, r1, r2, r3⟩ := r_cmul q2 h (by omega) hl (c := c)
    have e1 := r3.c3
    rw [hmax] at r2
    cases ok4 with
    | false => exact ⟨_, (i + 1, false, k4, l4), by simp (disch := omega) [body, g_seq, g_ops, g_cond, g_block, g_scope, g_skip, g_label, g_ret, g_exit, steps, step1, run1, o, u, og, ug, put, Opd.ev, cl_int, cl_bool, cl_nil, cl_sl, cl_agg, cl_vagg, cl_rs, cl_sp, cl_lp, cl_dfn, cl_nilFn, cl_fn, cl_str, cells_S, noLps, noLp, addP, St.load, St.store, splice, cut, mkV, allD, V.astray, V.far, V.near, answer, resAll, resOne, bin, una, intOf?, fnOf, maxD_int, minD_int, foldD, fillG, canon, keepBoxes, keepLive, List.getElem?_cons_zero, List.getElem?_cons_succ, Option.getD_some, g65_b0, rg, sumAt, hi, h0, e1]; rfl, by simp (disch := omega) [body, g_seq, g_ops, g_cond, g_block, g_scope, g_skip, g_label, g_ret, g_exit, steps, step1, run1, o, u, og, ug, put, Opd.ev, cl_int, cl_bool, cl_nil, cl_sl, cl_agg, cl_vagg, cl_rs, cl_sp, cl_lp, cl_dfn, cl_nilFn, cl_fn, cl_str, cells_S, noLps, noLp, addP, St.load, St.store, splice, cut, mkV, allD, V.astray, V.far, V.near, answer, resAll, resOne, bin, una, intOf?, fnOf, maxD_int, minD_int, foldD, fillG, canon, keepBoxes, keepLive, List.getElem?_cons_zero, List.getElem?_cons_succ, Option.getD_some, rg, sumAt, wu64], ⟨show i + 1 ≤ n by omega, r1, r2⟩, show n - (i + 1) < n - i by omega⟩
    | true =>
      obtain ⟨k5, l5, ok5, t1, t2, t3⟩ := r_cadd r1 h1 (by omega) (by decide) (c := c)
      have e2 := t3.c3
      rw [hmax] at t2
      exact ⟨_, (i + 1, ok5, k5, l5), by simp (disch := omega) [body, g_seq, g_ops, g_cond, g_block, g_scope, g_skip, g_label, g_ret, g_exit, steps, step1, run1, o, u, og, ug, put, Opd.ev, cl_int, cl_bool, cl_nil, cl_sl, cl_agg, cl_vagg, cl_rs, cl_sp, cl_lp, cl_dfn, cl_nilFn, cl_fn, cl_str, cells_S, noLps, noLp, addP, St.load, St.store, splice, cut, mkV, allD, V.astray, V.far, V.near, answer, resAll, resOne, bin, una, intOf?, fnOf, maxD_int, minD_int, foldD, fillG, canon, keepBoxes, keepLive, List.getElem?_cons_zero, List.getElem?_cons_succ, Option.getD_some, g65_b0, rg, sumAt, hi, h0, e1, e2]; rfl, by simp (disch := omega) [body, g_seq, g_ops, g_cond, g_block, g_scope, g_skip, g_label, g_ret, g_exit, steps, step1, run1, o, u, og, ug, put, Opd.ev, cl_int, cl_bool, cl_nil, cl_sl, cl_agg, cl_vagg, cl_rs, cl_sp, cl_lp, cl_dfn, cl_nilFn, cl_fn, cl_str, cells_S, noLps, noLp, addP, St.load, St.store, splice, cut, mkV, allD, V.astray, V.far, V.near, answer, resAll, resOne, bin, una, intOf?, fnOf, maxD_int, minD_int, foldD, fillG, canon, keepBoxes, keepLive, List.getElem?_cons_zero, List.getElem?_cons_succ, Option.getD_some, rg, sumAt, wu64], ⟨show i + 1 ≤ n by omega, t1, t2⟩, show n - (i + 1) < n - i by omega⟩
  · right
    by_cases hi : i < n
    · have hok : ok = false := by cases ok <;> simp_all
      subst hok
      have hi' : (i : Int) < n := by omega
      exact ⟨.brk 1, _, ⟨rg 75 [(6, .lp 0 0), (9, .lp 1 0), (10, .d (.bool false))], [[.d .nilSl], [.d (S k3 l)]], []⟩, by simp [body, g_seq, g_ops, g_cond, g_block, g_scope, g_skip, g_label, g_ret, g_exit, steps, step1, run1, o, u, og, ug, put, Opd.ev, cl_int, cl_bool, cl_nil, cl_sl, cl_agg, cl_vagg, cl_rs, cl_sp, cl_lp, cl_dfn, cl_nilFn, cl_fn, cl_str, cells_S, noLps, noLp, addP, St.load, St.store, splice, cut, mkV, allD, V.astray, V.far, V.near, answer, resAll, resOne, bin, una, intOf?, fnOf, maxD_int, minD_int, foldD, fillG, canon, keepBoxes, keepLive, List.getElem?_cons_zero, List.getElem?_cons_succ, Option.getD_some, g65_b0, rg, sumAt, hi, hi']; rfl, by simp, by simp [body, g_seq, g_ops, g_cond, g_block, g_scope, g_skip, g_label, g_ret, g_exit, steps, step1, run1, o, u, og, ug, put, Opd.ev, cl_int, cl_bool, cl_nil, cl_sl, cl_agg, cl_vagg, cl_rs, cl_sp, cl_lp, cl_dfn, cl_nilFn, cl_fn, cl_str, cells_S, noLps, noLp, addP, St.load, St.store, splice, cut, mkV, allD, V.astray, V.far, V.near, answer, resAll, resOne, bin, una, intOf?, fnOf, maxD_int, minD_int, foldD, fillG, canon, keepBoxes, keepLive, List.getElem?_cons_zero, List.getElem?_cons_succ, Option.getD_some, rg], rfl, k3, l, false, q2, q3, rfl⟩
    · have hi' : ¬ (i : Int) < n := by omega
      exact ⟨.brk 1, _, ⟨rg 75 [(6, .lp 0 0), (9, .lp 1 0), (10, .d (.bool ok))], [[.d .nilSl], [.d (S k3 l)]], []⟩, by simp [body, g_seq, g_ops, g_cond, g_block, g_scope, g_skip, g_label, g_ret, g_exit, steps, step1, run1, o, u, og, ug, put, Opd.ev, cl_int, cl_bool, cl_nil, cl_sl, cl_agg, cl_vagg, cl_rs, cl_sp, cl_lp, cl_dfn, cl_nilFn, cl_fn, cl_str, cells_S, noLps, noLp, addP, St.load, St.store, splice, cut, mkV, allD, V.astray, V.far, V.near, answer, resAll, resOne, bin, una, intOf?, fnOf, maxD_int, minD_int, foldD, fillG, canon, keepBoxes, keepLive, List.getElem?_cons_zero, List.getElem?_cons_succ, Option.getD_some, g65_b0, rg, sumAt, hi, hi']; rfl, by simp, by simp [body, g_seq, g_ops, g_cond, g_block, g_scope, g_skip, g_label, g_ret, g_exit, steps, step1, run1, o, u, og, ug, put, Opd.ev, cl_int, cl_bool, cl_nil, cl_sl, cl_agg, cl_vagg, cl_rs, cl_sp, cl_lp, cl_dfn, cl_nilFn, cl_fn, cl_str, cells_S, noLps, noLp, addP, St.load, St.store, splice, cut, mkV, allD, V.astray, V.far, V.near, answer, resAll, resOne, bin, una, intOf?, fnOf, maxD_int, minD_int, foldD, fillG, canon, keepBoxes, keepLive, List.getElem?_cons_zero, List.getElem?_cons_succ, Option.getD_some, rg], rfl, k3, l, ok, q2, q3, rfl⟩

theorem r_sum (h : Fit k a) (hl : a.length < 1000) {c : Int} (hc0 : 1 ≤ c) (hc : c ≤ 6) {n : Nat} (hn : n < 18446744073709551616) :
    ∃ k3 l ok, Fit k3 l ∧ (l.length : Int) ≤ c ∧ (val a ≤ 1 → n + 1 < 18446744073709551616 → ok = true) ∧ Ret table 65 [.int .i64 c, N k a, .int .u64 (n : Int)] (.tup [N k3 l, .bool ok]) := by
  obtain ⟨k1, h1, e1⟩ := r_of1
  have hmax : max 0 c = c := by omega
  have hone : (([1] : List Nat).length : Int) ≤ max 0 c := by simp; omega
  obtain ⟨k2, h2, e2⟩ := r_fit_yes h1 hone (by decide)
  rw [trim_one] at h2 e2
  have elen := (r_len h).c1
  have eg := (r_great h hl).c1
  have em := (r_most (c := c) (by omega) (by omega)).c1
  by_cases hA : a.length = 0 ∨ n = 0
  · refine ⟨k2, [1], true, h2, by simpa using hc0, fun _ _ => rfl, Ret.ofD 1 (g := g65) rfl ⟨[], ?_⟩⟩
    by_cases hA0 : a.length = 0
    · rw [hA0] at elen
      simp [body, g_seq, g_ops, g_cond, g_block, g_scope, g_skip, g_label, g_ret, g_exit, steps, step1, run1, o, u, og, ug, put, Opd.ev, cl_int, cl_bool, cl_nil, cl_sl, cl_agg, cl_vagg, cl_rs, cl_sp, cl_lp, cl_dfn, cl_nilFn, cl_fn, cl_str, cells_S, noLps, noLp, addP, St.load, St.store, splice, cut, mkV, allD, V.astray, V.far, V.near, answer, resAll, resOne, bin, una, intOf?, fnOf, maxD_int, minD_int, foldD, fillG, canon, keepBoxes, keepLive, List.getElem?_cons_zero, List.getElem?_cons_succ, Option.getD_some, g65, elen, e1.c1, e2.c2]
    · have hA1 : ¬ a = [] := by simpa using hA0
      have hn0 : n = 0 := by omega
      subst hn0
      have pz := b_ne (k := .i64) (x := a.length) (y := 0) (by omega)
      have pz2 : bin .eql (.int .u64 ((0 : Nat) : Int)) (.int .u64 0) = some (.bool true) := rfl
      generalize ((0 : Nat) : Int) = q at *
      simp [body, g_seq, g_ops, g_cond, g_block, g_scope, g_skip, g_label, g_ret, g_exit, steps, step1, run1, o, u, og, ug, put, Opd.ev, cl_int, cl_bool, cl_nil, cl_sl, cl_agg, cl_vagg, cl_rs, cl_sp, cl_lp, cl_dfn, cl_nilFn, cl_fn, cl_str, cells_S, noLps, noLp, addP, St.load, St.store, splice, cut, mkV, allD, V.astray, V.far, V.near, answer, resAll, resOne, una, intOf?, fnOf, maxD_int, minD_int, foldD, fillG, canon, keepBoxes, keepLive, List.getElem?_cons_zero, List.getElem?_cons_succ, Option.getD_some, g65, elen, e1.c1, e2.c2, pz, pz2]
  · have hA0 : ¬ a.length = 0 := by omega
    have hA1 : ¬ a = [] := by simpa using hA0
    have hn0 : ¬ n = 0 := by omega
    have hn1 : ¬ (n : Int) = 0 := by omega
    have pz := b_ne (k := .i64) (x := a.length) (y := 0) (by omega)
    have pz2 := b_ne (k := .u64) (x := n) (y := 0) (by omega)
    by_cases hB : 1 < val a
    · by_cases hC : n < 400 ∧ (n : Int) < c * 64
      · obtain ⟨hC0, hC1⟩ := hC
        have hC2 : ¬ (n : Int) ≥ c * 64 := by omega
        obtain ⟨e, s', ⟨rfl, k3, l, ok, q1, q2, rfl⟩, q3⟩ := sum_loop h hl h1 hc0 hc hC0 h2
        refine ⟨k3, l, ok, q1, q2, fun q => by omega, Ret.ofD 1000 (g := g65) rfl ⟨[], ?_⟩⟩
        simp [body, g_seq, g_ops, g_cond, g_block, g_scope, g_skip, g_label, g_ret, g_exit, steps, step1, run1, o, u, og, ug, put, Opd.ev, cl_int, cl_bool, cl_nil, cl_sl, cl_agg, cl_vagg, cl_rs, cl_sp, cl_lp, cl_dfn, cl_nilFn, cl_fn, cl_str, cells_S, noLps, noLp, addP, St.load, St.store, splice, cut, mkV, allD, V.astray, V.far, V.near, answer, resAll, resOne, una, intOf?, fnOf, maxD_int, minD_int, foldD, fillG, canon, keepBoxes, keepLive, List.getElem?_cons_zero, List.getElem?_cons_succ, Option.getD_some, g65, elen, pz, pz2, eg, hB, em, hC2, hC1, e1.c1, e2.c2, b_geq]
        rw [q3]
        · simp [body, g_seq, g_ops, g_cond, g_block, g_scope, g_skip, g_label, g_ret, g_exit, steps, step1, run1, o, u, og, ug, put, Opd.ev, cl_int, cl_bool, cl_nil, cl_sl, cl_agg, cl_vagg, cl_rs, cl_sp, cl_lp, cl_dfn, cl_nilFn, cl_fn, cl_str, cells_S, noLps, noLp, addP, St.load, St.store, splice, cut, mkV, allD, V.astray, V.far, V.near, answer, resAll, resOne, una, intOf?, fnOf, maxD_int, minD_int, foldD, fillG, canon, keepBoxes, keepLive, List.getElem?_cons_zero, List.getElem?_cons_succ, Option.getD_some, rg]
        · simp [body, g_seq, g_ops, g_cond, g_block, g_scope, g_skip, g_label, g_ret, g_exit, steps, step1, run1, o, u, og, ug, put, Opd.ev, cl_int, cl_bool, cl_nil, cl_sl, cl_agg, cl_vagg, cl_rs, cl_sp, cl_lp, cl_dfn, cl_nilFn, cl_fn, cl_str, cells_S, noLps, noLp, addP, St.load, St.store, splice, cut, mkV, allD, V.astray, V.far, V.near, answer, resAll, resOne, una, intOf?, fnOf, maxD_int, minD_int, foldD, fillG, canon, keepBoxes, keepLive, List.getElem?_cons_zero, List.getElem?_cons_succ, Option.getD_some, rg, sumAt]
      · have hC2 : (n : Int) ≥ c * 64 := by omega
        refine ⟨Option.none, [], false, fit_nil, by simp; omega, fun q => by omega, Ret.ofD 1 (g := g65) rfl ⟨[], ?_⟩⟩
        simp [body, g_seq, g_ops, g_cond, g_block, g_scope, g_skip, g_label, g_ret, g_exit, steps, step1, run1, o, u, og, ug, put, Opd.ev, cl_int, cl_bool, cl_nil, cl_sl, cl_agg, cl_vagg, cl_rs, cl_sp, cl_lp, cl_dfn, cl_nilFn, cl_fn, cl_str, cells_S, noLps, noLp, addP, St.load, St.store, splice, cut, mkV, allD, V.astray, V.far, V.near, answer, resAll, resOne, una, intOf?, fnOf, maxD_int, minD_int, foldD, fillG, canon, keepBoxes, keepLive, List.getElem?_cons_zero, List.getElem?_cons_succ, Option.getD_some, g65, elen, pz, pz2, eg, hB, em, hC2, e1.c1, e2.c2, b_geq, S_nil]
    · obtain ⟨k3, h3, e3⟩ := r_of hn
      have hl3 := trim_length [n]
      simp only [List.length_cons, List.length_nil] at hl3
      obtain ⟨k4, l4, h4, h5, h6, e4⟩ := r_add h3 h1 (by omega) (by decide)
      have hv : val l4 = n + 1 := by rw [h6, val_trim]; simp [val]
      by_cases hD : (l4.length : Int) ≤ max 0 c
      · obtain ⟨k5, h7, e5⟩ := r_fit_yes h4 hD (by rw [hmax] at hD; omega)
        refine ⟨k5, trim l4, true, h7, ?_, fun _ _ => rfl, Ret.ofD 1 (g := g65) rfl ⟨[], ?_⟩⟩
        · have := trim_length l4
          rw [hmax] at hD
          omega
        · simp [body, g_seq, g_ops, g_cond, g_block, g_scope, g_skip, g_label, g_ret, g_exit, steps, step1, run1, o, u, og, ug, put, Opd.ev, cl_int, cl_bool, cl_nil, cl_sl, cl_agg, cl_vagg, cl_rs, cl_sp, cl_lp, cl_dfn, cl_nilFn, cl_fn, cl_str, cells_S, noLps, noLp, addP, St.load, St.store, splice, cut, mkV, allD, V.astray, V.far, V.near, answer, resAll, resOne, una, intOf?, fnOf, maxD_int, minD_int, foldD, fillG, canon, keepBoxes, keepLive, List.getElem?_cons_zero, List.getElem?_cons_succ, Option.getD_some, g65, elen, pz, pz2, eg, hB, e1.c1, e3.c1, e4.c2, e5.c2]
      · refine ⟨Option.none, [], false, fit_nil, by simp; omega, fun _ q => ?_, Ret.ofD 1 (g := g65) rfl ⟨[], ?_⟩⟩
        · have := norm_len h5 (by omega)
          rw [hmax] at hD
          omega
        · simp [body, g_seq, g_ops, g_cond, g_block, g_scope, g_skip, g_label, g_ret, g_exit, steps, step1, run1, o, u, og, ug, put, Opd.ev, cl_int, cl_bool, cl_nil, cl_sl, cl_agg, cl_vagg, cl_rs, cl_sp, cl_lp, cl_dfn, cl_nilFn, cl_fn, cl_str, cells_S, noLps, noLp, addP, St.load, St.store, splice, cut, mkV, allD, V.astray, V.far, V.near, answer, resAll, resOne, una, intOf?, fnOf, maxD_int, minD_int, foldD, fillG, canon, keepBoxes, keepLive, List.getElem?_cons_zero, List.getElem?_cons_succ, Option.getD_some, g65, elen, pz, pz2, eg, hB, e1.c1, e3.c1, e4.c2, (r_fit_no h4 hD).c2, S_nil]

theorem r_before (h : Fit k a) (hl : a.length < 1000) {c : Int} (hc0 : 1 ≤ c) (hc : c ≤ 6) {n : Nat} (hn : n < 18446744073709551616) :
    ∃ k3 l ok, Fit k3 l ∧ (l.length : Int) ≤ c ∧ (val a ≤ 1 → ok = true) ∧ Ret table 53 [.int .i64 c, N k a, .int .u64 (n : Int)] (.tup [N k3 l, .bool ok]) := by
  by_cases h0 : n = 0
  · subst h0
    refine ⟨Option.none, [], true, fit_nil, by simp; omega, fun _ => rfl, Ret.ofD 1 (g := g53) rfl ⟨[], ?_⟩⟩
    simp [body, g_seq, g_ops, g_cond, g_block, g_scope, g_skip, g_label, g_ret, g_exit, steps, step1, run1, o, u, og, ug, put, Opd.ev, cl_int, cl_bool, cl_nil, cl_sl, cl_agg, cl_vagg, cl_rs, cl_sp, cl_lp, cl_dfn, cl_nilFn, cl_fn, cl_str, cells_S, noLps, noLp, addP, St.load, St.store, splice, cut, mkV, allD, V.astray, V.far, V.near, answer, resAll, resOne, bin, una, intOf?, fnOf, maxD_int, minD_int, foldD, fillG, canon, keepBoxes, keepLive, List.getElem?_cons_zero, List.getElem?_cons_succ, Option.getD_some, g53, S_nil]
  · obtain ⟨m, rfl⟩ : ∃ m, n = m + 1 := ⟨n - 1, by omega⟩
    obtain ⟨k3, l, ok, h1, h2, h3, h4⟩ := r_sum h hl hc0 hc (n := m) (by omega)
    refine ⟨k3, l, ok, h1, h2, fun q => h3 q hn, Ret.ofD 1 (g := g53) rfl ⟨[], ?_⟩⟩
    have p1 : ¬ ((m + 1 : Nat) : Int) = 0 := by omega
    have p2 : bin .sub (.int .u64 ((m + 1 : Nat) : Int)) (.int .u64 1) = some (.int .u64 (m : Int)) := by
      have : IntKind.u64.wrap (((m + 1 : Nat) : Int) - 1) = (m : Int) := by rw [wu64 (by omega) (by omega)]; omega
      simp only [bin, ne_eq, not_true_eq_false, if_false, this]
    have p3 : bin .eql (.int .u64 ((m + 1 : Nat) : Int)) (.int .u64 0) = some (.bool false) := by
      rw [b_eql]; simp; omega
    generalize ((m + 1 : Nat) : Int) = q at *
    simp [body, g_seq, g_ops, g_cond, g_block, g_scope, g_skip, g_label, g_ret, g_exit, steps, step1, run1, o, u, og, ug, put, Opd.ev, cl_int, cl_bool, cl_nil, cl_sl, cl_agg, cl_vagg, cl_rs, cl_sp, cl_lp, cl_dfn, cl_nilFn, cl_fn, cl_str, cells_S, noLps, noLp, addP, St.load, St.store, splice, cut, mkV, allD, V.astray, V.far, V.near, answer, resAll, resOne, una, intOf?, fnOf, maxD_int, minD_int, foldD, fillG, canon, keepBoxes, keepLive, List.getElem?_cons_zero, List.getElem?_cons_succ, Option.getD_some, g53, p1, p2, p3, h4.c3]
end
end Go.Proofs.Try
