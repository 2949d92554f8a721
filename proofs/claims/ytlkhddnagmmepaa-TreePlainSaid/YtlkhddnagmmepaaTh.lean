/-
  Package tree, function by function (8): the weights of a tree in which nothing is secret.
-/
import Derived.Test.YtlkhddnagmmepaaTf
namespace Go.Proofs.Try
open Go.Gm
set_option maxHeartbeats 4000000
set_option maxRecDepth 10000
set_option linter.unusedSimpArgs false
set_option linter.unusedVariables false

/-- Weights 0, 0 and q. -/
abbrev Wt (kK kT kQ : Option Bool) (q : List Nat) : D := .agg [S kK [], S kT [], S kQ q]
/-- Weights 0, 0 and 1. -/
def WRep (c : Nat) (d : D) : Prop := ∃ kK kT kQ q, d = Wt kK kT kQ q ∧ Fit kQ q ∧ q.length ≤ c ∧ val q = 1
theorem fit_empty {k : Option Bool} : Fit k [] := ⟨fun _ => rfl, by simp⟩

section
variable {c : Nat} {k : Int} {kn : Option Bool} {n : List Nat} {tr : Nat} {s b : Bool} {tp : Nat} {kp : Option Bool} {ps : List Tr}
theorem r_weighed {d : D} (hc : 1 ≤ c) (h : WRep c d) : Ret table 30 [.int .i64 (c : Int), d] (.tup [d, .bool true]) := by
  obtain ⟨kK, kT, kQ, q, rfl, h1, h2, h3⟩ := h
  have e1 := (r_fits h1 (c := (c : Int))).c2
  have hm : max 0 (c : Int) = c := by omega
  rw [hm, decide_eq_true (by omega)] at e1
  refine Ret.ofD 1 (g := g30) rfl ⟨[], ?_⟩
  simp [body, g_seq, g_ops, g_cond, g_block, g_scope, g_skip, g_label, g_ret, g_exit, steps, step1, run1, o, u, og, ug, put, Opd.ev, cl_int, cl_bool, cl_nil, cl_sl, cl_agg, cl_vagg, cl_rs, cl_sp, cl_lp, cl_dfn, cl_nilFn, cl_fn, cl_str, cells_S, noLps, noLp, addP, St.load, St.store, splice, cut, mkV, allD, V.astray, V.far, V.near, answer, resAll, resOne, una, intOf?, fnOf, maxD_int, minD_int, foldD, fillG, canon, keepBoxes, keepLive, List.getElem?_cons_zero, List.getElem?_cons_succ, Option.getD_some, g30, e1]

/-- What Weigh says of a part. -/
def WeighOf (c : Nat) (p : Tr) (d : D) : Prop := WRep c d ∧ Ret table 10 [.int .i64 (c : Int), p.d] (.tup [d, .bool true])

/-- At the head of the loop over parts. -/
def rowAt (c : Nat) (kp : Option Bool) (ps : List Tr) (p : Nat × D) : St :=
  ⟨rg 63 [(1, .d (.int .i64 (c : Int))), (5, .lp 0 0), (6, .lp 1 0), (8, .d (.bool true)), (20, .d (Pt kp (cellss ps))), (21, .d (.int .i64 (ps.length : Int))), (22, .d (.int .i64 (p.1 : Int)))],
    [cellsOf p.2, [.d .nilSl, .d .nilSl, .d .nilSl]], []⟩

theorem row_loop (hc : 1 ≤ c) (hc' : c ≤ 6) (hkp : kp = Option.none → ps = []) (hl : ps.length < 60) (ih : ∀ p ∈ ps, ∃ d, WeighOf c p d) {d0 : D} (h0 : WRep c d0) :
    ∃ e s', (e = .brk 0 ∧ ∃ d, WRep c d ∧ s' = ⟨rg 63 [(5, .lp 0 0), (6, .lp 1 0), (8, .d (.bool true))], [cellsOf d, [.d .nilSl, .d .nilSl, .d .nilSl]], []⟩) ∧
      ∀ s, canon [5, 6] [1, 8, 20, 21, 22] s = some (rowAt c kp ps (0, d0)) → gcode (lim table) 100 g31_l0 s = some (e, s') := by
  refine loop_rule (lf := 100) (rowAt c kp ps) (fun p => ps.length - p.1) (fun p => p.1 ≤ ps.length ∧ WRep c p.2) _ ?_ (x := (0, d0)) ⟨by simp, h0⟩ (show ps.length - 0 < 100 by omega)
  intro ⟨i, d⟩ ⟨q1, kK, kT, kQ, q, hd, q2, q3, q4⟩
  simp only at q1 hd
  subst hd
  by_cases hi : i < ps.length
  · left
    have hp : ps[i]? = some ps[i] := List.getElem?_eq_getElem hi
    obtain ⟨dy, ⟨kK', kT', kQ', q', rfl, w1, w2, w3⟩, w4⟩ := ih _ (List.getElem_mem hi)
    generalize ps[i] = p at *
    have hi' : (i : Int) < ps.length := by omega
    obtain ⟨k1, l1, f1, m1, v1, e1⟩ := r_add (fit_empty (k := kK)) (fit_empty (k := kK')) (by decide) (by decide)
    obtain ⟨k2, l2, f2, m2, v2, e2⟩ := r_add (fit_empty (k := kT)) (fit_empty (k := kT')) (by decide) (by decide)
    obtain ⟨k3, l3, f3, m3, v3, e3⟩ := r_mul q2 w1 (by omega) (by omega)
    obtain rfl := norm_nil m1 v1
    obtain rfl := norm_nil m2 v2
    have hv : val l3 = 1 := by rw [v3, q4, w3]
    have hl3 := norm_len m3 (by omega)
    have hw : WRep c (Wt k1 k2 k3 l3) := ⟨k1, k2, k3, l3, rfl, f3, by omega, hv⟩
    have e4 := (r_weighed hc hw).c2
    exact ⟨_, (i + 1, Wt k1 k2 k3 l3), by
      simp [body, g_seq, g_ops, g_cond, g_block, g_scope, g_skip, g_label, g_ret, g_exit, steps, step1, run1, o, u, og, ug, put, Opd.ev, cl_int, cl_bool, cl_nil, cl_sl, cl_agg, cl_vagg, cl_rs, cl_sp, cl_lp, cl_dfn, cl_nilFn, cl_fn, cl_str, cells_S, noLps, noLp, addP, St.load, St.store, splice, cut, mkV, allD, V.astray, V.far, V.near, answer, resAll, resOne, una, intOf?, fnOf, maxD_int, minD_int, foldD, fillG, canon, keepBoxes, keepLive, List.getElem?_cons_zero, List.getElem?_cons_succ, Option.getD_some, g31_b0, rg, rowAt, cellsOf, b_lss, hi', hi, elemP_P hkp hp, cells_length, cells_take, cells_takeV, allD_map, noLps_map, w4.c2, e1.c2, e2.c2, e3.c2, e4]
      rfl, by simp (disch := omega) [body, g_seq, g_ops, g_cond, g_block, g_scope, g_skip, g_label, g_ret, g_exit, steps, step1, run1, o, u, og, ug, put, Opd.ev, cl_int, cl_bool, cl_nil, cl_sl, cl_agg, cl_vagg, cl_rs, cl_sp, cl_lp, cl_dfn, cl_nilFn, cl_fn, cl_str, cells_S, noLps, noLp, addP, St.load, St.store, splice, cut, mkV, allD, V.astray, V.far, V.near, answer, resAll, resOne, una, intOf?, fnOf, maxD_int, minD_int, foldD, fillG, canon, keepBoxes, keepLive, List.getElem?_cons_zero, List.getElem?_cons_succ, Option.getD_some, rg, rowAt, cellsOf, b_add64, w64], ⟨show i + 1 ≤ ps.length by omega, hw⟩, show ps.length - (i + 1) < ps.length - i by omega⟩
  · right
    have hi' : ¬ (i : Int) < ps.length := by omega
    exact ⟨.brk 0, _, ⟨rg 63 [(5, .lp 0 0), (6, .lp 1 0), (8, .d (.bool true))], [cellsOf (Wt kK kT kQ q), [.d .nilSl, .d .nilSl, .d .nilSl]], []⟩, by
      simp [body, g_seq, g_ops, g_cond, g_block, g_scope, g_skip, g_label, g_ret, g_exit, steps, step1, run1, o, u, og, ug, put, Opd.ev, cl_int, cl_bool, cl_nil, cl_sl, cl_agg, cl_vagg, cl_rs, cl_sp, cl_lp, cl_dfn, cl_nilFn, cl_fn, cl_str, cells_S, noLps, noLp, addP, St.load, St.store, splice, cut, mkV, allD, V.astray, V.far, V.near, answer, resAll, resOne, una, intOf?, fnOf, maxD_int, minD_int, foldD, fillG, canon, keepBoxes, keepLive, List.getElem?_cons_zero, List.getElem?_cons_succ, Option.getD_some, g31_b0, rg, rowAt, b_lss, hi', hi]
      rfl, by simp, by simp [body, g_seq, g_ops, g_cond, g_block, g_scope, g_skip, g_label, g_ret, g_exit, steps, step1, run1, o, u, og, ug, put, Opd.ev, cl_int, cl_bool, cl_nil, cl_sl, cl_agg, cl_vagg, cl_rs, cl_sp, cl_lp, cl_dfn, cl_nilFn, cl_fn, cl_str, cells_S, noLps, noLp, addP, St.load, St.store, splice, cut, mkV, allD, V.astray, V.far, V.near, answer, resAll, resOne, una, intOf?, fnOf, maxD_int, minD_int, foldD, fillG, canon, keepBoxes, keepLive, List.getElem?_cons_zero, List.getElem?_cons_succ, Option.getD_some, rg, cellsOf], rfl, _, ⟨kK, kT, kQ, q, rfl, q2, q3, q4⟩, rfl⟩

theorem r_row (hc : 1 ≤ c) (hc' : c ≤ 6) (hkp : kp = Option.none → ps = []) (hl : ps.length < 60) (ih : ∀ p ∈ ps, ∃ d, WeighOf c p d) {d0 : D} (h0 : WRep c d0) :
    ∃ d, WRep c d ∧ Ret table 31 [(Tr.mk k kn n tr s b tp kp ps).d, .int .i64 (c : Int), d0] (.tup [d, .bool true]) := by
  obtain ⟨e, s', ⟨rfl, d, h1, rfl⟩, h2⟩ := row_loop hc hc' hkp hl ih h0
  have e0 := (r_weighed hc h0).c2
  refine ⟨d, h1, ?_⟩
  obtain ⟨kK, kT, kQ, q, rfl, _⟩ := h0
  obtain ⟨kK', kT', kQ', q', rfl, _⟩ := h1
  refine Ret.ofD 100 (g := g31) rfl ⟨[], ?_⟩
  simp [body, g_seq, g_ops, g_cond, g_block, g_scope, g_skip, g_label, g_ret, g_exit, steps, step1, run1, o, u, og, ug, put, Opd.ev, cl_int, cl_bool, cl_nil, cl_sl, cl_agg, cl_vagg, cl_rs, cl_sp, cl_lp, cl_dfn, cl_nilFn, cl_fn, cl_str, cells_S, noLps, noLp, addP, St.load, St.store, splice, cut, mkV, allD, V.astray, V.far, V.near, answer, resAll, resOne, una, intOf?, fnOf, maxD_int, minD_int, foldD, fillG, canon, keepBoxes, keepLive, List.getElem?_cons_zero, List.getElem?_cons_succ, Option.getD_some, g31, Tr.cells, cells_P, lenV_P hkp, e0]
  rw [h2]
  · simp [body, g_seq, g_ops, g_cond, g_block, g_scope, g_skip, g_label, g_ret, g_exit, steps, step1, run1, o, u, og, ug, put, Opd.ev, cl_int, cl_bool, cl_nil, cl_sl, cl_agg, cl_vagg, cl_rs, cl_sp, cl_lp, cl_dfn, cl_nilFn, cl_fn, cl_str, cells_S, noLps, noLp, addP, St.load, St.store, splice, cut, mkV, allD, V.astray, V.far, V.near, answer, resAll, resOne, una, intOf?, fnOf, maxD_int, minD_int, foldD, fillG, canon, keepBoxes, keepLive, List.getElem?_cons_zero, List.getElem?_cons_succ, Option.getD_some, rg, cellsOf]
  · simp [body, g_seq, g_ops, g_cond, g_block, g_scope, g_skip, g_label, g_ret, g_exit, steps, step1, run1, o, u, og, ug, put, Opd.ev, cl_int, cl_bool, cl_nil, cl_sl, cl_agg, cl_vagg, cl_rs, cl_sp, cl_lp, cl_dfn, cl_nilFn, cl_fn, cl_str, cells_S, noLps, noLp, addP, St.load, St.store, splice, cut, mkV, allD, V.astray, V.far, V.near, answer, resAll, resOne, una, intOf?, fnOf, maxD_int, minD_int, foldD, fillG, canon, keepBoxes, keepLive, List.getElem?_cons_zero, List.getElem?_cons_succ, Option.getD_some, rg, rowAt, cellsOf]

theorem w_one (hc : 1 ≤ c) : ∃ k1, Ret table 32 [] (N k1 [1]) ∧ WRep c (Wt Option.none Option.none k1 [1]) := by
  obtain ⟨k1, h1, h2⟩ := r_one
  exact ⟨k1, h2, Option.none, Option.none, k1, [1], rfl, h1, by simpa using hc, rfl⟩

theorem r_looped (hc : 1 ≤ c) (hc' : c ≤ 6) (hkp : kp = Option.none → ps = []) (htp : tp < 18446744073709551616) {p : Tr} (hp : ps[0]? = some p) {dy : D} (ih : WeighOf c p dy) :
    ∃ d, WRep c d ∧ Ret table 33 [(Tr.mk k kn n tr false b tp kp ps).d, .int .i64 (c : Int)] (.tup [d, .bool true]) := by
  obtain ⟨k1, h1, h2⟩ := w_one hc
  obtain ⟨k2, h3, h4⟩ := r_of htp
  have e1 := (r_weighed hc h2).c2
  simp only [Wt, S_nil] at e1
  have hel := fun s => elemP_P (s := s) hkp hp
  have hz0 : ((0 : Nat) : Int) = 0 := rfl
  rw [hz0] at hel
  have hg : bin .gtr (.int .u64 (tp : Int)) (.int .u64 0) = some (.bool (!decide (tp = 0))) := by
    rw [b_gtr]
    by_cases hx : tp = 0
    · subst hx; rfl
    · simp [hx]; omega
  obtain ⟨⟨kK, kT, kQ, q, rfl, w1, w2, w3⟩, w4⟩ := ih
  have e2 := (r_len (fit_empty (k := kK))).c1
  have e3 := (r_len (fit_empty (k := kT))).c1
  have e4 := (r_is1 w1 (by omega)).c1
  rw [w3] at e4
  simp only [List.length_nil, Int.natCast_zero] at e2 e3
  obtain ⟨k4, l4, ok4, t1, t2, t3, t4⟩ := r_pow w1 (by omega) (c := (c : Int)) (by omega) (by omega) htp
  obtain ⟨rfl, t5⟩ := t3 w3 (by omega)
  cases b with
  | false =>
    refine ⟨_, h2, Ret.ofD 1 (g := g33) rfl ⟨[], ?_⟩⟩
    simp [body, g_seq, g_ops, g_cond, g_block, g_scope, g_skip, g_label, g_ret, g_exit, steps, step1, run1, o, u, og, ug, put, Opd.ev, cl_int, cl_bool, cl_nil, cl_sl, cl_agg, cl_vagg, cl_rs, cl_sp, cl_lp, cl_dfn, cl_nilFn, cl_fn, cl_str, cells_S, noLps, noLp, addP, St.load, St.store, splice, cut, mkV, allD, V.astray, V.far, V.near, answer, resAll, resOne, una, intOf?, fnOf, maxD_int, minD_int, foldD, fillG, canon, keepBoxes, keepLive, List.getElem?_cons_zero, List.getElem?_cons_succ, Option.getD_some, g33, Tr.cells, cells_P, h4.c1, h1.c0, hel, cells_length, cells_take, cells_takeV, allD_map, w4.c2, e2, e3, e4, t4.c3, e1, b_eql, S_nil]
  | true =>
    cases hd : decide (tp = 0) with
    | true =>
      rw [hd] at hg
      refine ⟨_, h2, Ret.ofD 1 (g := g33) rfl ⟨[], ?_⟩⟩
      simp [body, g_seq, g_ops, g_cond, g_block, g_scope, g_skip, g_label, g_ret, g_exit, steps, step1, run1, o, u, og, ug, put, Opd.ev, cl_int, cl_bool, cl_nil, cl_sl, cl_agg, cl_vagg, cl_rs, cl_sp, cl_lp, cl_dfn, cl_nilFn, cl_fn, cl_str, cells_S, noLps, noLp, addP, St.load, St.store, splice, cut, mkV, allD, V.astray, V.far, V.near, answer, resAll, resOne, una, intOf?, fnOf, maxD_int, minD_int, foldD, fillG, canon, keepBoxes, keepLive, List.getElem?_cons_zero, List.getElem?_cons_succ, Option.getD_some, g33, Tr.cells, cells_P, h4.c1, h1.c0, hg, e1, S_nil]
    | false =>
      rw [hd] at hg
      have hlt := trim_length [tp]
      simp only [List.length_cons, List.length_nil] at hlt
      obtain ⟨k5, l5, f5, m5, v5, e5⟩ := r_mul h3 (fit_empty (k := kK)) (by omega) (by decide)
      obtain ⟨k6, l6, f6, m6, v6, e6⟩ := r_mul h3 (fit_empty (k := kT)) (by omega) (by decide)
      obtain rfl := norm_nil m5 v5
      obtain rfl := norm_nil m6 v6
      have hw : WRep c (Wt k5 k6 k4 l4) := ⟨k5, k6, k4, l4, rfl, t1, by omega, t5⟩
      have e7 := (r_weighed hc hw).c2
      refine ⟨_, hw, Ret.ofD 1 (g := g33) rfl ⟨[], ?_⟩⟩
      simp [body, g_seq, g_ops, g_cond, g_block, g_scope, g_skip, g_label, g_ret, g_exit, steps, step1, run1, o, u, og, ug, put, Opd.ev, cl_int, cl_bool, cl_nil, cl_sl, cl_agg, cl_vagg, cl_rs, cl_sp, cl_lp, cl_dfn, cl_nilFn, cl_fn, cl_str, cells_S, noLps, noLp, addP, St.load, St.store, splice, cut, mkV, allD, V.astray, V.far, V.near, answer, resAll, resOne, una, intOf?, fnOf, maxD_int, minD_int, foldD, fillG, canon, keepBoxes, keepLive, List.getElem?_cons_zero, List.getElem?_cons_succ, Option.getD_some, g33, Tr.cells, cells_P, h4.c1, h1.c0, hg, hel, cells_length, cells_take, cells_takeV, allD_map, w4.c2, e2, e3, e4, t4.c3, b_eql, e5.c2, e6.c2, e7]

theorem r_weigh (hc : 1 ≤ c) (hc' : c ≤ 6) : ∀ (d : Nat) (t : Tr), Few d t → t.Ok → Pl t → ∃ w, WeighOf c t w
  | 0, _, h, _, _ => h.elim
  | d + 1, .mk k kn n tr s b tp kp ps, hf, hx, hp => by
    obtain ⟨f1, f2, f3⟩ := hf
    obtain ⟨h1, h2, h3, h4, h5, h6⟩ := hx
    have ih : Pls ps → ∀ p ∈ ps, ∃ w, WeighOf c p w := fun h p hp => r_weigh hc hc' d p (f3 p hp) (h6.at_ hp) (h.at_ hp)
    obtain ⟨k1, u1, u2⟩ := w_one hc
    rcases hp with ⟨rfl, rfl, rfl⟩ | ⟨hk, hpl⟩ | ⟨rfl, rfl, hl, hpl⟩
    · obtain ⟨k2, q1, q2⟩ := r_of (n := 0) (by decide)
      have hw : WRep c (Wt Option.none k2 kn [1]) := ⟨Option.none, k2, kn, [1], rfl, h2, by simpa using hc, rfl⟩
      have e1 := (r_weighed hc hw).c2
      have ht : trim [0] = [] := rfl
      have e0 : ((0 : Nat) : Int) = 0 := rfl
      have e2 := q2.c1
      rw [ht, e0] at e2
      simp only [Wt, S_nil] at e1
      refine ⟨_, hw, Ret.ofD 1 (g := g10) rfl ⟨[], ?_⟩⟩
      simp [body, g_seq, g_ops, g_cond, g_block, g_scope, g_skip, g_label, g_ret, g_exit, steps, step1, run1, o, u, og, ug, put, Opd.ev, cl_int, cl_bool, cl_nil, cl_sl, cl_agg, cl_vagg, cl_rs, cl_sp, cl_lp, cl_dfn, cl_nilFn, cl_fn, cl_str, cells_S, noLps, noLp, addP, St.load, St.store, splice, cut, mkV, allD, V.astray, V.far, V.near, answer, resAll, resOne, una, intOf?, fnOf, maxD_int, minD_int, foldD, fillG, canon, keepBoxes, keepLive, List.getElem?_cons_zero, List.getElem?_cons_succ, Option.getD_some, g10, Tr.cells, cells_P, b_eql, e2, e1, S_nil]
    · obtain ⟨w, q1, q2⟩ := r_row (k := k) (kn := kn) (n := n) (tr := tr) (s := s) (b := b) (tp := tp) hc hc' h5 f2 (ih hpl) u2
      have e2 := q2.c3
      simp only [Tr.d, Tr.cells, Wt, S_nil] at e2
      refine ⟨w, q1, ?_⟩
      obtain ⟨kK, kT, kQ, q, rfl, _⟩ := q1
      refine Ret.ofD 1 (g := g10) rfl ⟨[], ?_⟩
      rcases hk with rfl | rfl
      · simp [body, g_seq, g_ops, g_cond, g_block, g_scope, g_skip, g_label, g_ret, g_exit, steps, step1, run1, o, u, og, ug, put, Opd.ev, cl_int, cl_bool, cl_nil, cl_sl, cl_agg, cl_vagg, cl_rs, cl_sp, cl_lp, cl_dfn, cl_nilFn, cl_fn, cl_str, cells_S, noLps, noLp, addP, St.load, St.store, splice, cut, mkV, allD, V.astray, V.far, V.near, answer, resAll, resOne, una, intOf?, fnOf, maxD_int, minD_int, foldD, fillG, canon, keepBoxes, keepLive, List.getElem?_cons_zero, List.getElem?_cons_succ, Option.getD_some, g10, Tr.cells, cells_P, b_eql, u1.c0, e2, S_nil]
      · simp [body, g_seq, g_ops, g_cond, g_block, g_scope, g_skip, g_label, g_ret, g_exit, steps, step1, run1, o, u, og, ug, put, Opd.ev, cl_int, cl_bool, cl_nil, cl_sl, cl_agg, cl_vagg, cl_rs, cl_sp, cl_lp, cl_dfn, cl_nilFn, cl_fn, cl_str, cells_S, noLps, noLp, addP, St.load, St.store, splice, cut, mkV, allD, V.astray, V.far, V.near, answer, resAll, resOne, una, intOf?, fnOf, maxD_int, minD_int, foldD, fillG, canon, keepBoxes, keepLive, List.getElem?_cons_zero, List.getElem?_cons_succ, Option.getD_some, g10, Tr.cells, cells_P, b_eql, u1.c0, e2, S_nil]
    · have hp0 : 0 < ps.length := by omega
      obtain ⟨dy, q0⟩ := ih hpl _ (List.getElem_mem hp0)
      obtain ⟨w, q1, q2⟩ := r_looped (k := 4) (kn := kn) (n := n) (tr := tr) (b := b) (tp := tp) hc hc' h5 h4 (List.getElem?_eq_getElem hp0) q0
      have e2 := q2.c2
      simp only [Tr.d, Tr.cells] at e2
      refine ⟨w, q1, ?_⟩
      obtain ⟨kK, kT, kQ, q, rfl, _⟩ := q1
      have hgt : bin .gtr (.int .i64 (ps.length : Int)) (.int .i64 0) = some (.bool true) := by rw [b_gtr, hl]; rfl
      refine Ret.ofD 1 (g := g10) rfl ⟨[], ?_⟩
      simp [body, g_seq, g_ops, g_cond, g_block, g_scope, g_skip, g_label, g_ret, g_exit, steps, step1, run1, o, u, og, ug, put, Opd.ev, cl_int, cl_bool, cl_nil, cl_sl, cl_agg, cl_vagg, cl_rs, cl_sp, cl_lp, cl_dfn, cl_nilFn, cl_fn, cl_str, cells_S, noLps, noLp, addP, St.load, St.store, splice, cut, mkV, allD, V.astray, V.far, V.near, answer, resAll, resOne, una, intOf?, fnOf, maxD_int, minD_int, foldD, fillG, canon, keepBoxes, keepLive, List.getElem?_cons_zero, List.getElem?_cons_succ, Option.getD_some, g10, Tr.cells, cells_P, b_eql, lenV_P h5, hgt, e2]
end
end Go.Proofs.Try
