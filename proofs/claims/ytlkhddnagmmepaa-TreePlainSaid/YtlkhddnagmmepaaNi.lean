/-
  Package power, function by function (9): powers.
-/
import Derived.Test.YtlkhddnagmmepaaNh
namespace Go.Proofs.Try
open Go.Gm
set_option maxHeartbeats 4000000
set_option maxRecDepth 10000
set_option linter.unusedSimpArgs false
set_option linter.unusedVariables false

/-- The digits' lengths that Len64 looks up. -/
theorem tab_at (b : ByteArray) (hb : b.size = 256) (i : Nat) (hi : i < 256) : ∃ x : UInt8, b[i]? = some x := by
  exact ⟨b[i]'(by omega), getElem?_pos b i (by omega)⟩
theorem r_len64 {n : Nat} (hn : n < 400) : ∃ r : Nat, r < 300 ∧ Ret table 68 [.int .u64 (n : Int)] (.int .i64 (r : Int)) := by
  have p1 : ¬ (n : Int) ≥ 4294967296 := by omega
  have p2 : ¬ (n : Int) ≥ 65536 := by omega
  by_cases h : n < 256
  · have p3 : ¬ (n : Int) ≥ 256 := by omega
    have p4 : IntKind.u8.wrap (n : Int) = n := by rw [IntKind.wrap_u8]; omega
    have p5 : (0 : Int) ≤ n := by omega
    have p6 : ((n : Int)).toNat = n := by omega
    obtain ⟨x, hx⟩ := tab_at g68_s0 rfl n h
    have hx2 : x.toNat < 256 := UInt8.toNat_lt x
    refine ⟨x.toNat, by omega, Ret.ofD 1 (g := g68) rfl ⟨[], ?_⟩⟩
    simp (disch := omega) [body, g_seq, g_ops, g_cond, g_block, g_scope, g_skip, g_label, g_ret, g_exit, steps, step1, run1, o, u, og, ug, put, Opd.ev, cl_int, cl_bool, cl_nil, cl_sl, cl_agg, cl_vagg, cl_rs, cl_sp, cl_lp, cl_dfn, cl_nilFn, cl_fn, cl_str, cells_S, noLps, noLp, addP, St.load, St.store, splice, cut, mkV, allD, V.astray, V.far, V.near, answer, resAll, resOne, una, intOf?, fnOf, maxD_int, minD_int, foldD, fillG, canon, keepBoxes, keepLive, List.getElem?_cons_zero, List.getElem?_cons_succ, Option.getD_some, g68, b_geq, b_add64, p1, p2, p3, p4, p5, p6, hx, w64]
  · have p3 : (n : Int) ≥ 256 := by omega
    have p3' : bin .shr (.int .u64 (n : Int)) (.int .u64 8) = some (.int .u64 ((n / 256 : Nat) : Int)) := by
      have : (n : Int).fdiv 256 = ((n / 256 : Nat) : Int) := by rw [Int.fdiv_eq_ediv_of_nonneg _ (by decide)]; rfl
      simp [bin, IntKind.bits, this]
    have hm : n / 256 < 256 := by omega
    generalize n / 256 = m at *
    have p4 : IntKind.u8.wrap (m : Int) = m := by rw [IntKind.wrap_u8]; omega
    have p5 : (0 : Int) ≤ m := by omega
    have p6 : ((m : Int)).toNat = m := by omega
    obtain ⟨x, hx⟩ := tab_at g68_s0 rfl m hm
    have hx2 : x.toNat < 256 := UInt8.toNat_lt x
    refine ⟨8 + x.toNat, by omega, Ret.ofD 1 (g := g68) rfl ⟨[], ?_⟩⟩
    simp (disch := omega) [body, g_seq, g_ops, g_cond, g_block, g_scope, g_skip, g_label, g_ret, g_exit, steps, step1, run1, o, u, og, ug, put, Opd.ev, cl_int, cl_bool, cl_nil, cl_sl, cl_agg, cl_vagg, cl_rs, cl_sp, cl_lp, cl_dfn, cl_nilFn, cl_fn, cl_str, cells_S, noLps, noLp, addP, St.load, St.store, splice, cut, mkV, allD, V.astray, V.far, V.near, answer, resAll, resOne, una, intOf?, fnOf, maxD_int, minD_int, foldD, fillG, canon, keepBoxes, keepLive, List.getElem?_cons_zero, List.getElem?_cons_succ, Option.getD_some, g68, b_geq, b_add64, p1, p2, p3, p3', p4, p5, p6, hx, w64]

section
variable {k k' : Option Bool} {a b : List Nat}
/-- The memory that the loop of powers shares with its closure. -/
def powSh (c : Int) (k : Option Bool) (l : List Nat) (ok : Bool) : List Blk := [⟨[.d (.int .i64 c)], 1, 33, false⟩, ⟨[.d (S k l)], 1, 25, false⟩, ⟨[.d (.bool ok)], 1, 4, false⟩]

theorem r_square (h : Fit k a) (hl : a.length < 1000) {c : Int} {ok : Bool} : ∃ k1 l ok1, Fit k1 l ∧ (l.length : Int) ≤ max 0 c ∧
    lim table 67 [.sp 0 1 0, .sp 1 1 0, .sp 2 1 0] (powSh c k a ok) = some (.d (.tup []), powSh c k1 l ok1) := by
  obtain ⟨k1, l, ok1, h1, h2, h3⟩ := r_cmul h h hl hl (c := c)
  refine ⟨k1, l, ok1, h1, h2, lim_body 1 (g := g67) rfl ?_⟩
  simp [body, g_seq, g_ops, g_cond, g_block, g_scope, g_skip, g_label, g_ret, g_exit, steps, step1, run1, o, u, og, ug, put, Opd.ev, cl_int, cl_bool, cl_nil, cl_sl, cl_agg, cl_vagg, cl_rs, cl_sp, cl_lp, cl_dfn, cl_nilFn, cl_fn, cl_str, cells_S, noLps, noLp, addP, St.load, St.store, splice, cut, mkV, allD, V.astray, V.far, V.near, answer, resAll, resOne, bin, una, intOf?, fnOf, maxD_int, minD_int, foldD, fillG, canon, keepBoxes, keepLive, List.getElem?_cons_zero, List.getElem?_cons_succ, Option.getD_some, g67, powSh, h3.c3]

/-- At the head of the loop of powers. -/
def powAt (c : Int) (n : Nat) (k : Option Bool) (a : List Nat) (p : Int × Option Bool × List Nat × Bool) : St :=
  ⟨rg 65 [(2, .d (.int .u64 (n : Int))), (3, .sp 0 1 0), (4, .lp 0 0), (6, .lp 1 0), (8, .sp 1 1 0), (9, .sp 2 1 0), (10, .fn (.func 67) [] [.sp 0 1 0, .sp 1 1 0, .sp 2 1 0]), (11, .d (.int .i64 p.1))],
    [[.d (S k a)], [.d .nilSl]], powSh c p.2.1 p.2.2.1 p.2.2.2⟩

theorem pow_loop (h : Fit k a) (hl : a.length < 1000) {c : Int} (hc0 : 1 ≤ c) (hc : c ≤ 6) {n : Nat} {i0 : Int} (hi1 : -1 ≤ i0) (hi2 : i0 < 400) {k2 : Option Bool} (h2 : Fit k2 [1]) :
    ∃ e s', (e = .brk 1 ∧ ∃ k3 l ok, Fit k3 l ∧ (l.length : Int) ≤ c ∧ s' = ⟨rg 65 [(6, .lp 0 0), (8, .sp 1 1 0), (9, .sp 2 1 0)], [[.d .nilSl]], powSh c k3 l ok⟩) ∧
      ∀ s, canon [4, 6] [2, 3, 8, 9, 10, 11] s = some (powAt c n k a (i0, k2, [1], true)) → gcode (lim table) 1000 g54_l0 s = some (e, s') := by
  refine loop_rule (lf := 1000) (powAt c n k a) (fun p => (p.1 + 1).toNat) (fun p => -1 ≤ p.1 ∧ p.1 < 400 ∧ Fit p.2.1 p.2.2.1 ∧ (p.2.2.1.length : Int) ≤ c) _ ?_ (x := (i0, k2, [1], true)) ⟨hi1, hi2, h2, by simpa using hc0⟩ (show (i0 + 1).toNat < 1000 by omega)
  intro ⟨i, k3, l, ok⟩ ⟨q1, q2, q3, q4⟩
  simp only at q1 q2 q3 q4
  have hmax : max 0 c = c := by omega
  by_cases h0 : 0 ≤ i
  · obtain ⟨k4, l4, ok4, r1, r2, r3⟩ := r_square q3 (by omega) (c := c) (ok := ok)
    rw [hmax] at r2
    have hge : i ≥ 0 := h0
    cases ok4 with
    | false =>
      right
      exact ⟨.brk 1, _, ⟨rg 65 [(6, .lp 0 0), (8, .sp 1 1 0), (9, .sp 2 1 0)], [[.d .nilSl]], powSh c k4 l4 false⟩, by
          simp [body, g_seq, g_ops, g_cond, g_block, g_scope, g_skip, g_label, g_ret, g_exit, steps, step1, run1, o, u, og, ug, put, Opd.ev, cl_int, cl_bool, cl_nil, cl_sl, cl_agg, cl_vagg, cl_rs, cl_sp, cl_lp, cl_dfn, cl_nilFn, cl_fn, cl_str, cells_S, noLps, noLp, addP, St.load, St.store, splice, cut, mkV, allD, V.astray, V.far, V.near, answer, resAll, resOne, una, intOf?, fnOf, maxD_int, minD_int, foldD, fillG, canon, keepBoxes, keepLive, List.getElem?_cons_zero, List.getElem?_cons_succ, Option.getD_some, g54_b0, rg, powAt, b_geq, hge, h0, sharedCall, r3]
          simp [powSh]
          rfl, by simp, by simp [body, g_seq, g_ops, g_cond, g_block, g_scope, g_skip, g_label, g_ret, g_exit, steps, step1, run1, o, u, og, ug, put, Opd.ev, cl_int, cl_bool, cl_nil, cl_sl, cl_agg, cl_vagg, cl_rs, cl_sp, cl_lp, cl_dfn, cl_nilFn, cl_fn, cl_str, cells_S, noLps, noLp, addP, St.load, St.store, splice, cut, mkV, allD, V.astray, V.far, V.near, answer, resAll, resOne, una, intOf?, fnOf, maxD_int, minD_int, foldD, fillG, canon, keepBoxes, keepLive, List.getElem?_cons_zero, List.getElem?_cons_succ, Option.getD_some, rg, powSh], rfl, k4, l4, false, r1, r2, rfl⟩
    | true =>
      obtain ⟨x, hx⟩ : ∃ x, bin .shr (.int .u64 (n : Int)) (.int .i64 i) = some (.int .u64 x) := ⟨(n : Int).fdiv (2 ^ min i.toNat IntKind.u64.bits), by simp only [bin, if_neg (show ¬ i < 0 by omega)]⟩
      obtain ⟨y, hy⟩ : ∃ y, bin .and (.int .u64 x) (.int .u64 1) = some (.int .u64 y) := ⟨_, rfl⟩
      by_cases hz : y = 1
      · obtain ⟨k5, l5, ok5, t1, t2, t3⟩ := r_cmul r1 h (by omega) hl (c := c)
        rw [hmax] at t2
        have e5 := t3.c3
        cases ok5 with
        | false =>
          right
          exact ⟨.brk 1, _, ⟨rg 65 [(6, .lp 0 0), (8, .sp 1 1 0), (9, .sp 2 1 0)], [[.d .nilSl]], powSh c k5 l5 false⟩, by
              simp [body, g_seq, g_ops, g_cond, g_block, g_scope, g_skip, g_label, g_ret, g_exit, steps, step1, run1, o, u, og, ug, put, Opd.ev, cl_int, cl_bool, cl_nil, cl_sl, cl_agg, cl_vagg, cl_rs, cl_sp, cl_lp, cl_dfn, cl_nilFn, cl_fn, cl_str, cells_S, noLps, noLp, addP, St.load, St.store, splice, cut, mkV, allD, V.astray, V.far, V.near, answer, resAll, resOne, una, intOf?, fnOf, maxD_int, minD_int, foldD, fillG, canon, keepBoxes, keepLive, List.getElem?_cons_zero, List.getElem?_cons_succ, Option.getD_some, g54_b0, rg, powAt, b_geq, hge, h0, sharedCall, r3]
              simp [body, g_seq, g_ops, g_cond, g_block, g_scope, g_skip, g_label, g_ret, g_exit, steps, step1, run1, o, u, og, ug, put, Opd.ev, cl_int, cl_bool, cl_nil, cl_sl, cl_agg, cl_vagg, cl_rs, cl_sp, cl_lp, cl_dfn, cl_nilFn, cl_fn, cl_str, cells_S, noLps, noLp, addP, St.load, St.store, splice, cut, mkV, allD, V.astray, V.far, V.near, answer, resAll, resOne, una, intOf?, fnOf, maxD_int, minD_int, foldD, fillG, canon, keepBoxes, keepLive, List.getElem?_cons_zero, List.getElem?_cons_succ, Option.getD_some, powSh, hx, hy, b_eql, hz, e5]
              rfl, by simp, by simp [body, g_seq, g_ops, g_cond, g_block, g_scope, g_skip, g_label, g_ret, g_exit, steps, step1, run1, o, u, og, ug, put, Opd.ev, cl_int, cl_bool, cl_nil, cl_sl, cl_agg, cl_vagg, cl_rs, cl_sp, cl_lp, cl_dfn, cl_nilFn, cl_fn, cl_str, cells_S, noLps, noLp, addP, St.load, St.store, splice, cut, mkV, allD, V.astray, V.far, V.near, answer, resAll, resOne, una, intOf?, fnOf, maxD_int, minD_int, foldD, fillG, canon, keepBoxes, keepLive, List.getElem?_cons_zero, List.getElem?_cons_succ, Option.getD_some, rg, powSh], rfl, k5, l5, false, t1, t2, rfl⟩
        | true =>
          left
          exact ⟨_, (i - 1, k5, l5, true), by
              simp [body, g_seq, g_ops, g_cond, g_block, g_scope, g_skip, g_label, g_ret, g_exit, steps, step1, run1, o, u, og, ug, put, Opd.ev, cl_int, cl_bool, cl_nil, cl_sl, cl_agg, cl_vagg, cl_rs, cl_sp, cl_lp, cl_dfn, cl_nilFn, cl_fn, cl_str, cells_S, noLps, noLp, addP, St.load, St.store, splice, cut, mkV, allD, V.astray, V.far, V.near, answer, resAll, resOne, una, intOf?, fnOf, maxD_int, minD_int, foldD, fillG, canon, keepBoxes, keepLive, List.getElem?_cons_zero, List.getElem?_cons_succ, Option.getD_some, g54_b0, rg, powAt, b_geq, hge, h0, sharedCall, r3]
              simp [body, g_seq, g_ops, g_cond, g_block, g_scope, g_skip, g_label, g_ret, g_exit, steps, step1, run1, o, u, og, ug, put, Opd.ev, cl_int, cl_bool, cl_nil, cl_sl, cl_agg, cl_vagg, cl_rs, cl_sp, cl_lp, cl_dfn, cl_nilFn, cl_fn, cl_str, cells_S, noLps, noLp, addP, St.load, St.store, splice, cut, mkV, allD, V.astray, V.far, V.near, answer, resAll, resOne, una, intOf?, fnOf, maxD_int, minD_int, foldD, fillG, canon, keepBoxes, keepLive, List.getElem?_cons_zero, List.getElem?_cons_succ, Option.getD_some, powSh, hx, hy, b_eql, hz, e5, b_sub64]
              rfl, by simp (disch := omega) [body, g_seq, g_ops, g_cond, g_block, g_scope, g_skip, g_label, g_ret, g_exit, steps, step1, run1, o, u, og, ug, put, Opd.ev, cl_int, cl_bool, cl_nil, cl_sl, cl_agg, cl_vagg, cl_rs, cl_sp, cl_lp, cl_dfn, cl_nilFn, cl_fn, cl_str, cells_S, noLps, noLp, addP, St.load, St.store, splice, cut, mkV, allD, V.astray, V.far, V.near, answer, resAll, resOne, una, intOf?, fnOf, maxD_int, minD_int, foldD, fillG, canon, keepBoxes, keepLive, List.getElem?_cons_zero, List.getElem?_cons_succ, Option.getD_some, rg, powAt, powSh, w64], ⟨show -1 ≤ i - 1 by omega, show i - 1 < 400 by omega, t1, t2⟩, show (i - 1 + 1).toNat < (i + 1).toNat by omega⟩
      · left
        exact ⟨_, (i - 1, k4, l4, true), by
            simp [body, g_seq, g_ops, g_cond, g_block, g_scope, g_skip, g_label, g_ret, g_exit, steps, step1, run1, o, u, og, ug, put, Opd.ev, cl_int, cl_bool, cl_nil, cl_sl, cl_agg, cl_vagg, cl_rs, cl_sp, cl_lp, cl_dfn, cl_nilFn, cl_fn, cl_str, cells_S, noLps, noLp, addP, St.load, St.store, splice, cut, mkV, allD, V.astray, V.far, V.near, answer, resAll, resOne, una, intOf?, fnOf, maxD_int, minD_int, foldD, fillG, canon, keepBoxes, keepLive, List.getElem?_cons_zero, List.getElem?_cons_succ, Option.getD_some, g54_b0, rg, powAt, b_geq, hge, h0, sharedCall, r3]
            simp [body, g_seq, g_ops, g_cond, g_block, g_scope, g_skip, g_label, g_ret, g_exit, steps, step1, run1, o, u, og, ug, put, Opd.ev, cl_int, cl_bool, cl_nil, cl_sl, cl_agg, cl_vagg, cl_rs, cl_sp, cl_lp, cl_dfn, cl_nilFn, cl_fn, cl_str, cells_S, noLps, noLp, addP, St.load, St.store, splice, cut, mkV, allD, V.astray, V.far, V.near, answer, resAll, resOne, una, intOf?, fnOf, maxD_int, minD_int, foldD, fillG, canon, keepBoxes, keepLive, List.getElem?_cons_zero, List.getElem?_cons_succ, Option.getD_some, powSh, hx, hy, b_eql, hz, b_sub64]
            rfl, by simp (disch := omega) [body, g_seq, g_ops, g_cond, g_block, g_scope, g_skip, g_label, g_ret, g_exit, steps, step1, run1, o, u, og, ug, put, Opd.ev, cl_int, cl_bool, cl_nil, cl_sl, cl_agg, cl_vagg, cl_rs, cl_sp, cl_lp, cl_dfn, cl_nilFn, cl_fn, cl_str, cells_S, noLps, noLp, addP, St.load, St.store, splice, cut, mkV, allD, V.astray, V.far, V.near, answer, resAll, resOne, una, intOf?, fnOf, maxD_int, minD_int, foldD, fillG, canon, keepBoxes, keepLive, List.getElem?_cons_zero, List.getElem?_cons_succ, Option.getD_some, rg, powAt, powSh, w64], ⟨show -1 ≤ i - 1 by omega, show i - 1 < 400 by omega, r1, r2⟩, show (i - 1 + 1).toNat < (i + 1).toNat by omega⟩
  · right
    have hge : ¬ i ≥ 0 := h0
    exact ⟨.brk 1, _, ⟨rg 65 [(6, .lp 0 0), (8, .sp 1 1 0), (9, .sp 2 1 0)], [[.d .nilSl]], powSh c k3 l ok⟩, by simp [body, g_seq, g_ops, g_cond, g_block, g_scope, g_skip, g_label, g_ret, g_exit, steps, step1, run1, o, u, og, ug, put, Opd.ev, cl_int, cl_bool, cl_nil, cl_sl, cl_agg, cl_vagg, cl_rs, cl_sp, cl_lp, cl_dfn, cl_nilFn, cl_fn, cl_str, cells_S, noLps, noLp, addP, St.load, St.store, splice, cut, mkV, allD, V.astray, V.far, V.near, answer, resAll, resOne, una, intOf?, fnOf, maxD_int, minD_int, foldD, fillG, canon, keepBoxes, keepLive, List.getElem?_cons_zero, List.getElem?_cons_succ, Option.getD_some, g54_b0, rg, powAt, b_geq, hge, h0]; rfl, by simp, by simp [body, g_seq, g_ops, g_cond, g_block, g_scope, g_skip, g_label, g_ret, g_exit, steps, step1, run1, o, u, og, ug, put, Opd.ev, cl_int, cl_bool, cl_nil, cl_sl, cl_agg, cl_vagg, cl_rs, cl_sp, cl_lp, cl_dfn, cl_nilFn, cl_fn, cl_str, cells_S, noLps, noLp, addP, St.load, St.store, splice, cut, mkV, allD, V.astray, V.far, V.near, answer, resAll, resOne, una, intOf?, fnOf, maxD_int, minD_int, foldD, fillG, canon, keepBoxes, keepLive, List.getElem?_cons_zero, List.getElem?_cons_succ, Option.getD_some, rg, powSh], rfl, k3, l, ok, q3, q4, rfl⟩
end
end Go.Proofs.Try
