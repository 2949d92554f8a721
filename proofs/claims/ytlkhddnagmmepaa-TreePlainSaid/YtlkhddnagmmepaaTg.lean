/-
  Package tree, function by function (7): a loop's count, and Eval.
-/
import Derived.Test.YtlkhddnagmmepaaTf
namespace Go.Proofs.Try
open Go.Gm
set_option maxHeartbeats 4000000
set_option maxRecDepth 10000
set_option linter.unusedSimpArgs false
set_option linter.unusedVariables false

theorem pow6 {l : List Nat} {k : Option Bool} (h : Fit k l) {c : Nat} (hc : c ≤ 6) (hl : (l.length : Int) ≤ c) : val l < 18446744073709551616 ^ 6 := val_len h (by omega)

section
variable {c : Nat} {k : Int} {kn : Option Bool} {n : List Nat} {tr : Nat} {s b : Bool} {tp : Nat} {kp : Option Bool} {ps : List Tr}
theorem r_loop (hc : 1 ≤ c) (hc' : c ≤ 6) (htr : tr < 18446744073709551616) (htp : tp < 18446744073709551616) (hkp : kp = Option.none → ps = []) (ih : ∀ p ∈ ps, ∃ a, EvalOf c p a) :
    ∃ a d, Rep c a d ∧ Ret table 28 [(Tr.mk k kn n tr s b tp kp ps).d, .int .i64 (c : Int)] d ∧ (s = false → ps.length = 1 → Pls ps → a = some (1, 0)) := by
  by_cases h0 : ps.length = 0
  · have hz : bin .eql (.int .i64 (ps.length : Int)) (.int .i64 0) = some (.bool true) := by rw [b_eql, h0]; rfl
    refine ⟨Option.none, CtTop, rfl, Ret.ofD 1 (g := g28) rfl ⟨[], ?_⟩, fun _ h => by omega⟩
    simp [body, g_seq, g_ops, g_cond, g_block, g_scope, g_skip, g_label, g_ret, g_exit, steps, step1, run1, o, u, og, ug, put, Opd.ev, cl_int, cl_bool, cl_nil, cl_sl, cl_agg, cl_vagg, cl_rs, cl_sp, cl_lp, cl_dfn, cl_nilFn, cl_fn, cl_str, cells_S, noLps, noLp, addP, St.load, St.store, splice, cut, mkV, allD, V.astray, V.far, V.near, answer, resAll, resOne, una, intOf?, fnOf, maxD_int, minD_int, foldD, fillG, canon, keepBoxes, keepLive, List.getElem?_cons_zero, List.getElem?_cons_succ, Option.getD_some, g28, Tr.cells, cells_P, lenV_P hkp, hz, r_top.c0]
  · have hz := b_ne (k := .i64) (x := (ps.length : Int)) (y := 0) (by omega)
    have hp0 : 0 < ps.length := by omega
    have hp : ps[0]? = some ps[0] := List.getElem?_eq_getElem hp0
    obtain ⟨a0, ha0⟩ := ih _ (List.getElem_mem hp0)
    obtain ⟨a, dx, h1, h2, h3⟩ := r_body (k := k) (kn := kn) (n := n) (tr := tr) (s := s) (b := b) (tp := tp) hc hkp hp ha0
    have hpl : Pls ps → a = some (1, 0) := fun h => h3 (h.at_ (List.getElem_mem hp0))
    have e2 := h2.c2
    simp only [Tr.d, Tr.cells] at e2
    cases a with
    | none =>
      obtain rfl : dx = CtTop := h1
      refine ⟨Option.none, CtTop, rfl, Ret.ofD 1 (g := g28) rfl ⟨[], ?_⟩, fun _ _ h => by cases hpl h⟩
      simp [body, g_seq, g_ops, g_cond, g_block, g_scope, g_skip, g_label, g_ret, g_exit, steps, step1, run1, o, u, og, ug, put, Opd.ev, cl_int, cl_bool, cl_nil, cl_sl, cl_agg, cl_vagg, cl_rs, cl_sp, cl_lp, cl_dfn, cl_nilFn, cl_fn, cl_str, cells_S, noLps, noLp, addP, St.load, St.store, splice, cut, mkV, allD, V.astray, V.far, V.near, answer, resAll, resOne, una, intOf?, fnOf, maxD_int, minD_int, foldD, fillG, canon, keepBoxes, keepLive, List.getElem?_cons_zero, List.getElem?_cons_succ, Option.getD_some, g28, Tr.cells, cells_P, lenV_P hkp, hz, e2]
    | some p =>
      obtain ⟨v, w⟩ := p
      obtain ⟨kx, nx, kt, t, rfl, f1, f2, l1, l2, m1, rfl, rfl⟩ := h1
      have e3 := (r_is1 f1 (by omega)).c1
      have e4 := (r_len f2).c1
      have e9 : bin .gtr (.int .i64 (t.length : Int)) (.int .i64 0) = some (.bool (!decide (t.length = 0))) := by
        rw [b_gtr]
        by_cases hx : t.length = 0
        · rw [hx]; rfl
        · have : (t.length : Int) > 0 := by omega
          simp [hx]; omega
      have hpl' : Pls ps → decide (val nx = 1) = true ∧ decide (t.length = 0) = true := fun h => by
        have := hpl h
        simp only [Option.some.injEq, Prod.mk.injEq] at this
        rw [norm_nil m1 this.2]
        simp [this.1]
      cases b with
      | false =>
        have hrx : Rep c (some (val nx, val t)) (Ct false kx nx kt t) := ⟨kx, nx, kt, t, rfl, f1, f2, l1, l2, m1, rfl, rfl⟩
        cases s with
        | true =>
          refine ⟨Option.none, CtTop, rfl, Ret.ofD 1 (g := g28) rfl ⟨[], ?_⟩, fun h => by cases h⟩
          simp [body, g_seq, g_ops, g_cond, g_block, g_scope, g_skip, g_label, g_ret, g_exit, steps, step1, run1, o, u, og, ug, put, Opd.ev, cl_int, cl_bool, cl_nil, cl_sl, cl_agg, cl_vagg, cl_rs, cl_sp, cl_lp, cl_dfn, cl_nilFn, cl_fn, cl_str, cells_S, noLps, noLp, addP, St.load, St.store, splice, cut, mkV, allD, V.astray, V.far, V.near, answer, resAll, resOne, una, intOf?, fnOf, maxD_int, minD_int, foldD, fillG, canon, keepBoxes, keepLive, List.getElem?_cons_zero, List.getElem?_cons_succ, Option.getD_some, g28, Tr.cells, cells_P, lenV_P hkp, hz, e2, r_top.c0]
        | false =>
          cases hv : decide (val nx = 1) with
          | false =>
            rw [hv] at e3 hpl'
            refine ⟨Option.none, CtTop, rfl, Ret.ofD 1 (g := g28) rfl ⟨[], ?_⟩, fun _ _ h => by cases (hpl' h).1⟩
            simp [body, g_seq, g_ops, g_cond, g_block, g_scope, g_skip, g_label, g_ret, g_exit, steps, step1, run1, o, u, og, ug, put, Opd.ev, cl_int, cl_bool, cl_nil, cl_sl, cl_agg, cl_vagg, cl_rs, cl_sp, cl_lp, cl_dfn, cl_nilFn, cl_fn, cl_str, cells_S, noLps, noLp, addP, St.load, St.store, splice, cut, mkV, allD, V.astray, V.far, V.near, answer, resAll, resOne, una, intOf?, fnOf, maxD_int, minD_int, foldD, fillG, canon, keepBoxes, keepLive, List.getElem?_cons_zero, List.getElem?_cons_succ, Option.getD_some, g28, Tr.cells, cells_P, lenV_P hkp, hz, e2, e3, r_top.c0]
          | true =>
            rw [hv] at e3 hpl'
            cases hw : decide (t.length = 0) with
            | false =>
              rw [hw] at e9 hpl'
              refine ⟨Option.none, CtTop, rfl, Ret.ofD 1 (g := g28) rfl ⟨[], ?_⟩, fun _ _ h => by cases (hpl' h).2⟩
              simp [body, g_seq, g_ops, g_cond, g_block, g_scope, g_skip, g_label, g_ret, g_exit, steps, step1, run1, o, u, og, ug, put, Opd.ev, cl_int, cl_bool, cl_nil, cl_sl, cl_agg, cl_vagg, cl_rs, cl_sp, cl_lp, cl_dfn, cl_nilFn, cl_fn, cl_str, cells_S, noLps, noLp, addP, St.load, St.store, splice, cut, mkV, allD, V.astray, V.far, V.near, answer, resAll, resOne, una, intOf?, fnOf, maxD_int, minD_int, foldD, fillG, canon, keepBoxes, keepLive, List.getElem?_cons_zero, List.getElem?_cons_succ, Option.getD_some, g28, Tr.cells, cells_P, lenV_P hkp, hz, e2, e3, e4, e9, r_top.c0]
            | true =>
              rw [hw] at e9
              refine ⟨some (val nx, val t), _, hrx, Ret.ofD 1 (g := g28) rfl ⟨[], ?_⟩, fun _ _ h => hpl h⟩
              simp [body, g_seq, g_ops, g_cond, g_block, g_scope, g_skip, g_label, g_ret, g_exit, steps, step1, run1, o, u, og, ug, put, Opd.ev, cl_int, cl_bool, cl_nil, cl_sl, cl_agg, cl_vagg, cl_rs, cl_sp, cl_lp, cl_dfn, cl_nilFn, cl_fn, cl_str, cells_S, noLps, noLp, addP, St.load, St.store, splice, cut, mkV, allD, V.astray, V.far, V.near, answer, resAll, resOne, una, intOf?, fnOf, maxD_int, minD_int, foldD, fillG, canon, keepBoxes, keepLive, List.getElem?_cons_zero, List.getElem?_cons_succ, Option.getD_some, g28, Tr.cells, cells_P, lenV_P hkp, hz, e2, e3, e4, e9, r_top.c0]
      | true =>
        have hc0 : (1 : Int) ≤ c := by omega
        have hc1 : (c : Int) ≤ 6 := by omega
        obtain ⟨k3, l3, ok3, q1, q2, q3, q4⟩ := r_before f1 (by omega) hc0 hc1 htp
        obtain ⟨k4, l4, ok4, t1, t2, t3, t4⟩ := r_pow f1 (by omega) hc0 hc1 htp
        have e5 := q4.c3
        have e6 := t4.c3
        cases ok3 with
        | false =>
          refine ⟨Option.none, CtTop, rfl, Ret.ofD 1 (g := g28) rfl ⟨[], ?_⟩, fun _ _ h => ?_⟩
          · simp [body, g_seq, g_ops, g_cond, g_block, g_scope, g_skip, g_label, g_ret, g_exit, steps, step1, run1, o, u, og, ug, put, Opd.ev, cl_int, cl_bool, cl_nil, cl_sl, cl_agg, cl_vagg, cl_rs, cl_sp, cl_lp, cl_dfn, cl_nilFn, cl_fn, cl_str, cells_S, noLps, noLp, addP, St.load, St.store, splice, cut, mkV, allD, V.astray, V.far, V.near, answer, resAll, resOne, una, intOf?, fnOf, maxD_int, minD_int, foldD, fillG, canon, keepBoxes, keepLive, List.getElem?_cons_zero, List.getElem?_cons_succ, Option.getD_some, g28, Tr.cells, cells_P, lenV_P hkp, hz, e2, e5, e6, r_top.c0]
          · have := hpl h
            simp only [Option.some.injEq, Prod.mk.injEq] at this
            cases q3 (by omega)
        | true =>
          cases ok4 with
          | false =>
            refine ⟨Option.none, CtTop, rfl, Ret.ofD 1 (g := g28) rfl ⟨[], ?_⟩, fun _ _ h => ?_⟩
            · simp [body, g_seq, g_ops, g_cond, g_block, g_scope, g_skip, g_label, g_ret, g_exit, steps, step1, run1, o, u, og, ug, put, Opd.ev, cl_int, cl_bool, cl_nil, cl_sl, cl_agg, cl_vagg, cl_rs, cl_sp, cl_lp, cl_dfn, cl_nilFn, cl_fn, cl_str, cells_S, noLps, noLp, addP, St.load, St.store, splice, cut, mkV, allD, V.astray, V.far, V.near, answer, resAll, resOne, una, intOf?, fnOf, maxD_int, minD_int, foldD, fillG, canon, keepBoxes, keepLive, List.getElem?_cons_zero, List.getElem?_cons_succ, Option.getD_some, g28, Tr.cells, cells_P, lenV_P hkp, hz, e2, e5, e6, r_top.c0]
            · have := hpl h
              simp only [Option.some.injEq, Prod.mk.injEq] at this
              cases (t3 this.1 (by omega)).1
          | true =>
            obtain ⟨k5, l5, u1, u2, u3, u4⟩ := r_mul q1 f2 (by omega) (by omega)
            have e7 := u4.c2
            have hl5 : l5.length ≤ 12 := by
              refine norm_le u2 ?_
              rw [u3, show (12 : Nat) = 6 + 6 from rfl, Nat.pow_add]
              exact Nat.mul_lt_mul'' (pow6 q1 hc' q2) (val_len f2 (by omega))
            cases s with
            | false =>
              by_cases hpp : val nx = 1 ∧ val t = 0
              · have h7 := t3 hpp.1 (by omega)
                have hl50 : l5 = [] := norm_nil u2 (by rw [u3, hpp.2, Nat.mul_zero])
                subst hl50
                have h8 := r_held t1 u1 hc
                rw [if_pos ⟨by omega, by simp⟩] at h8
                have e8 := h8.c3
                refine ⟨some (1, 0), _, ⟨k4, l4, k5, [], rfl, t1, u1, by omega, by simp, rfl, h7.2, rfl⟩, Ret.ofD 1 (g := g28) rfl ⟨[], ?_⟩, fun _ _ _ => rfl⟩
                simp [body, g_seq, g_ops, g_cond, g_block, g_scope, g_skip, g_label, g_ret, g_exit, steps, step1, run1, o, u, og, ug, put, Opd.ev, cl_int, cl_bool, cl_nil, cl_sl, cl_agg, cl_vagg, cl_rs, cl_sp, cl_lp, cl_dfn, cl_nilFn, cl_fn, cl_str, cells_S, noLps, noLp, addP, St.load, St.store, splice, cut, mkV, allD, V.astray, V.far, V.near, answer, resAll, resOne, una, intOf?, fnOf, maxD_int, minD_int, foldD, fillG, canon, keepBoxes, keepLive, List.getElem?_cons_zero, List.getElem?_cons_succ, Option.getD_some, g28, Tr.cells, cells_P, lenV_P hkp, hz, e2, e5, e6, e7, e8]
              · obtain ⟨a, d, h7, h8⟩ := held_any t1 u1 u2 hc
                have e8 := h8.c3
                refine ⟨a, d, h7, Ret.ofD 1 (g := g28) rfl ⟨[], ?_⟩, fun _ _ h => absurd (by have := hpl h; simpa using this) hpp⟩
                cases a with
                | none =>
                  obtain rfl : d = CtTop := h7
                  simp [body, g_seq, g_ops, g_cond, g_block, g_scope, g_skip, g_label, g_ret, g_exit, steps, step1, run1, o, u, og, ug, put, Opd.ev, cl_int, cl_bool, cl_nil, cl_sl, cl_agg, cl_vagg, cl_rs, cl_sp, cl_lp, cl_dfn, cl_nilFn, cl_fn, cl_str, cells_S, noLps, noLp, addP, St.load, St.store, splice, cut, mkV, allD, V.astray, V.far, V.near, answer, resAll, resOne, una, intOf?, fnOf, maxD_int, minD_int, foldD, fillG, canon, keepBoxes, keepLive, List.getElem?_cons_zero, List.getElem?_cons_succ, Option.getD_some, g28, Tr.cells, cells_P, lenV_P hkp, hz, e2, e5, e6, e7, e8]
                | some z =>
                  obtain ⟨kn2, n2, kt2, t2, rfl, _⟩ := h7
                  simp [body, g_seq, g_ops, g_cond, g_block, g_scope, g_skip, g_label, g_ret, g_exit, steps, step1, run1, o, u, og, ug, put, Opd.ev, cl_int, cl_bool, cl_nil, cl_sl, cl_agg, cl_vagg, cl_rs, cl_sp, cl_lp, cl_dfn, cl_nilFn, cl_fn, cl_str, cells_S, noLps, noLp, addP, St.load, St.store, splice, cut, mkV, allD, V.astray, V.far, V.near, answer, resAll, resOne, una, intOf?, fnOf, maxD_int, minD_int, foldD, fillG, canon, keepBoxes, keepLive, List.getElem?_cons_zero, List.getElem?_cons_succ, Option.getD_some, g28, Tr.cells, cells_P, lenV_P hkp, hz, e2, e5, e6, e7, e8]
            | true =>
              obtain ⟨k6, l6, w1, w2, w3, w4⟩ := r_add q1 t1 (by omega) (by omega)
              obtain ⟨k7, x1, x2⟩ := r_of htr
              have hl6 : l6.length ≤ 7 := by
                refine norm_le w2 ?_
                rw [w3]
                exact Nat.lt_of_lt_of_le (Nat.add_lt_add (pow6 q1 hc' q2) (pow6 t1 hc' t2)) (by decide)
              have hl7 := trim_length [tr]
              simp only [List.length_cons, List.length_nil] at hl7
              obtain ⟨k8, l8, y1, y2, y3, y4⟩ := r_mul w1 x1 (by omega) (by omega)
              have hl8 : l8.length ≤ 8 := by
                refine norm_le y2 ?_
                rw [y3, show (8 : Nat) = 7 + 1 from rfl, Nat.pow_add]
                exact Nat.mul_lt_mul'' (val_len w1 hl6) (val_len x1 (by omega))
              obtain ⟨k9, l9, z1, z2, z3, z4⟩ := r_add u1 y1 (by omega) (by omega)
              obtain ⟨a, d, h7, h8⟩ := held_any w1 z1 z2 hc
              have e8 := h8.c3
              have f4 := w4.c2
              have f5 := x2.c1
              have f6 := y4.c2
              have f7 := z4.c2
              refine ⟨a, d, h7, Ret.ofD 1 (g := g28) rfl ⟨[], ?_⟩, fun h => by cases h⟩
              cases a with
              | none =>
                obtain rfl : d = CtTop := h7
                simp [body, g_seq, g_ops, g_cond, g_block, g_scope, g_skip, g_label, g_ret, g_exit, steps, step1, run1, o, u, og, ug, put, Opd.ev, cl_int, cl_bool, cl_nil, cl_sl, cl_agg, cl_vagg, cl_rs, cl_sp, cl_lp, cl_dfn, cl_nilFn, cl_fn, cl_str, cells_S, noLps, noLp, addP, St.load, St.store, splice, cut, mkV, allD, V.astray, V.far, V.near, answer, resAll, resOne, una, intOf?, fnOf, maxD_int, minD_int, foldD, fillG, canon, keepBoxes, keepLive, List.getElem?_cons_zero, List.getElem?_cons_succ, Option.getD_some, g28, Tr.cells, cells_P, lenV_P hkp, hz, e2, e5, e6, e7, e8, f4, f5, f6, f7]
              | some z =>
                obtain ⟨kn2, n2, kt2, t2, rfl, _⟩ := h7
                simp [body, g_seq, g_ops, g_cond, g_block, g_scope, g_skip, g_label, g_ret, g_exit, steps, step1, run1, o, u, og, ug, put, Opd.ev, cl_int, cl_bool, cl_nil, cl_sl, cl_agg, cl_vagg, cl_rs, cl_sp, cl_lp, cl_dfn, cl_nilFn, cl_fn, cl_str, cells_S, noLps, noLp, addP, St.load, St.store, splice, cut, mkV, allD, V.astray, V.far, V.near, answer, resAll, resOne, una, intOf?, fnOf, maxD_int, minD_int, foldD, fillG, canon, keepBoxes, keepLive, List.getElem?_cons_zero, List.getElem?_cons_succ, Option.getD_some, g28, Tr.cells, cells_P, lenV_P hkp, hz, e2, e5, e6, e7, e8, f4, f5, f6, f7]
end

/-- A result that is a count, put where Eval puts it. -/
theorem eval_kind {c : Nat} {k : Int} {kn : Option Bool} {n : List Nat} {tr : Nat} {s b : Bool} {tp : Nat} {kp : Option Bool} {ps : List Tr} {a : Option (Nat × Nat)} {d : D} (hr : Rep c a d) {f : FuncId}
    (hk : (k = 0 ∧ f = 24) ∨ (k = 1 ∧ f = 25) ∨ (k = 2 ∧ f = 26) ∨ (k = 3 ∧ f = 27) ∨ (k = 4 ∧ f = 28) ∨ (k = 5 ∧ f = 29)) (h : Ret table f [(Tr.mk k kn n tr s b tp kp ps).d, .int .i64 (c : Int)] d) :
    Ret table 9 [.int .i64 (c : Int), (Tr.mk k kn n tr s b tp kp ps).d] d := by
  have e := h.c2
  simp only [Tr.d, Tr.cells] at e
  refine Ret.ofD 1 (g := g9) rfl ⟨[], ?_⟩
  cases a with
  | none =>
    obtain rfl : d = CtTop := hr
    rcases hk with ⟨rfl, rfl⟩ | ⟨rfl, rfl⟩ | ⟨rfl, rfl⟩ | ⟨rfl, rfl⟩ | ⟨rfl, rfl⟩ | ⟨rfl, rfl⟩ <;> simp [body, g_seq, g_ops, g_cond, g_block, g_scope, g_skip, g_label, g_ret, g_exit, steps, step1, run1, o, u, og, ug, put, Opd.ev, cl_int, cl_bool, cl_nil, cl_sl, cl_agg, cl_vagg, cl_rs, cl_sp, cl_lp, cl_dfn, cl_nilFn, cl_fn, cl_str, cells_S, noLps, noLp, addP, St.load, St.store, splice, cut, mkV, allD, V.astray, V.far, V.near, answer, resAll, resOne, una, intOf?, fnOf, maxD_int, minD_int, foldD, fillG, canon, keepBoxes, keepLive, List.getElem?_cons_zero, List.getElem?_cons_succ, Option.getD_some, g9, Tr.cells, cells_P, b_lss, b_geq, e]
  | some z =>
    obtain ⟨kn2, n2, kt2, t2, rfl, _⟩ := hr
    rcases hk with ⟨rfl, rfl⟩ | ⟨rfl, rfl⟩ | ⟨rfl, rfl⟩ | ⟨rfl, rfl⟩ | ⟨rfl, rfl⟩ | ⟨rfl, rfl⟩ <;> simp [body, g_seq, g_ops, g_cond, g_block, g_scope, g_skip, g_label, g_ret, g_exit, steps, step1, run1, o, u, og, ug, put, Opd.ev, cl_int, cl_bool, cl_nil, cl_sl, cl_agg, cl_vagg, cl_rs, cl_sp, cl_lp, cl_dfn, cl_nilFn, cl_fn, cl_str, cells_S, noLps, noLp, addP, St.load, St.store, splice, cut, mkV, allD, V.astray, V.far, V.near, answer, resAll, resOne, una, intOf?, fnOf, maxD_int, minD_int, foldD, fillG, canon, keepBoxes, keepLive, List.getElem?_cons_zero, List.getElem?_cons_succ, Option.getD_some, g9, Tr.cells, cells_P, b_lss, b_geq, e]

theorem r_eval {c : Nat} (hc : 1 ≤ c) (hc' : c ≤ 6) : ∀ (d : Nat) (t : Tr), Few d t → t.Ok → ∃ a, EvalOf c t a
  | 0, _, h, _ => h.elim
  | d + 1, .mk k kn n tr s b tp kp ps, hf, hx => by
    obtain ⟨f1, f2, f3⟩ := hf
    obtain ⟨h1, h2, h3, h4, h5, h6⟩ := hx
    have ih : ∀ p ∈ ps, ∃ a, EvalOf c p a := fun p hp => r_eval hc hc' d p (f3 p hp) (h6.at_ hp)
    obtain ⟨as, hal, has⟩ := exists_list ps ih
    have hones : Pls ps → ∀ a ∈ as, a = some (1, 0) := fun hpl a ha => by
      obtain ⟨i, hi, rfl⟩ := List.mem_iff_getElem.1 ha
      have hi' : i < ps.length := by omega
      obtain ⟨dy, _, _, q⟩ := has i ps[i] as[i] (List.getElem?_eq_getElem hi') (List.getElem?_eq_getElem hi)
      exact q (hpl.at_ (List.getElem_mem hi'))
    by_cases k0 : k = 0
    · subst k0
      obtain ⟨a, dd, q1, q2, q3⟩ := r_leaf (k := 0) (tr := tr) (s := s) (b := b) (tp := tp) (kp := kp) (ps := ps) hc h2 h3
      refine ⟨a, dd, q1, eval_kind q1 (.inl ⟨rfl, rfl⟩) q2, fun h => ?_⟩
      simp [Pl] at h
      exact q3 h.1 h.2
    · by_cases k1 : k = 1
      · subst k1
        obtain ⟨dd, q1, q2⟩ := r_seq (k := 1) (kn := kn) (n := n) (tr := tr) (s := s) (b := b) (tp := tp) hc hc' h5 f2 hal has
        refine ⟨_, dd, q1, eval_kind q1 (.inr (.inl ⟨rfl, rfl⟩)) q2, fun h => ?_⟩
        simp [Pl] at h
        exact run_mul hc as (hones h)
      · by_cases k2 : k = 2
        · subst k2
          obtain ⟨a, dd, q1, q2⟩ := r_choice (k := 2) (kn := kn) (n := n) (tr := tr) (s := s) (b := b) (tp := tp) hc hc' h3 h5 f2 hal has
          refine ⟨a, dd, q1, eval_kind q1 (.inr (.inr (.inl ⟨rfl, rfl⟩))) q2, fun h => ?_⟩
          simp [Pl] at h
        · by_cases k3 : k = 3
          · subst k3
            obtain ⟨dd, q1, q2⟩ := r_either (k := 3) (kn := kn) (n := n) (tr := tr) (s := s) (b := b) (tp := tp) hc hc' h5 f2 hal has
            refine ⟨_, dd, q1, eval_kind q1 (.inr (.inr (.inr (.inl ⟨rfl, rfl⟩)))) q2, fun h => ?_⟩
            simp [Pl] at h
            exact run_max hc as (hones h)
          · by_cases k4 : k = 4
            · subst k4
              obtain ⟨a, dd, q1, q2, q3⟩ := r_loop (k := 4) (kn := kn) (n := n) (tr := tr) (s := s) (b := b) (tp := tp) hc hc' h3 h4 h5 ih
              refine ⟨a, dd, q1, eval_kind q1 (.inr (.inr (.inr (.inr (.inl ⟨rfl, rfl⟩))))) q2, fun h => ?_⟩
              simp [Pl] at h
              exact q3 h.1 h.2.1 h.2.2
            · by_cases k5 : k = 5
              · subst k5
                have q1 : Rep c Option.none CtTop := rfl
                refine ⟨Option.none, CtTop, q1, eval_kind q1 (.inr (.inr (.inr (.inr (.inr ⟨rfl, rfl⟩))))) (r_ttop (d := 0)), fun h => ?_⟩
                simp [Pl] at h
              · refine ⟨Option.none, CtTop, rfl, ?_, fun h => ?_⟩
                · refine Ret.ofD 1 (g := g9) rfl ⟨[], ?_⟩
                  by_cases hlt : k < 0
                  · simp [body, g_seq, g_ops, g_cond, g_block, g_scope, g_skip, g_label, g_ret, g_exit, steps, step1, run1, o, u, og, ug, put, Opd.ev, cl_int, cl_bool, cl_nil, cl_sl, cl_agg, cl_vagg, cl_rs, cl_sp, cl_lp, cl_dfn, cl_nilFn, cl_fn, cl_str, cells_S, noLps, noLp, addP, St.load, St.store, splice, cut, mkV, allD, V.astray, V.far, V.near, answer, resAll, resOne, una, intOf?, fnOf, maxD_int, minD_int, foldD, fillG, canon, keepBoxes, keepLive, List.getElem?_cons_zero, List.getElem?_cons_succ, Option.getD_some, g9, Tr.cells, cells_P, b_lss, b_geq, hlt, r_top.c0]
                  · have hge : k ≥ 6 := by omega
                    simp [body, g_seq, g_ops, g_cond, g_block, g_scope, g_skip, g_label, g_ret, g_exit, steps, step1, run1, o, u, og, ug, put, Opd.ev, cl_int, cl_bool, cl_nil, cl_sl, cl_agg, cl_vagg, cl_rs, cl_sp, cl_lp, cl_dfn, cl_nilFn, cl_fn, cl_str, cells_S, noLps, noLp, addP, St.load, St.store, splice, cut, mkV, allD, V.astray, V.far, V.near, answer, resAll, resOne, una, intOf?, fnOf, maxD_int, minD_int, foldD, fillG, canon, keepBoxes, keepLive, List.getElem?_cons_zero, List.getElem?_cons_succ, Option.getD_some, g9, Tr.cells, cells_P, b_lss, b_geq, hlt, hge, r_top.c0]
                · simp [Pl] at h
                  omega
end Go.Proofs.Try
