/-
  Package nat, function by function (6): the product.
-/
import Derived.Test.YtlkhddnagmmepaaNe
namespace Go.Proofs.Try
open Go.Gm
set_option maxHeartbeats 4000000
set_option linter.unusedSimpArgs false
set_option linter.unusedVariables false

section
variable {k k' : Option Bool} {a b : List Nat}
/-- At the head of the outer loop. -/
def mulOut (k k' : Option Bool) (a b : List Nat) (n : Nat) (p : List Nat × Nat) : St :=
  ⟨rg 82 [(3, .lp 0 0), (4, .lp 1 0), (5, .rs 0 0 n), (21, .d (S k a)), (22, .d (.int .i64 (a.length : Int))), (23, .d (.int .i64 (p.2 : Int)))],
    [[.d (S k' b)], [.d .nilSl]], [⟨p.1.map fun n : Nat => V.d (.int .u64 (n : Int)), 1, 26, false⟩]⟩

theorem val_zeros (n : Nat) : val (List.replicate n 0) = 0 := by
  induction n with
  | zero => rfl
  | succ n ih => simp [List.replicate_succ, val, ih]

theorem mul_outer (h : Fit k a) (h' : Fit k' b) {n : Nat} (hn : n = a.length + b.length) (hla : a.length < 1000) (hlb : b.length < 1000) :
    ∃ e s', (e = .brk 0 ∧ ∃ l, l.length = n ∧ (∀ m ∈ l, m < 18446744073709551616) ∧ val l = val a * val b ∧
        s' = ⟨rg 82 [(4, .lp 0 0), (5, .rs 0 0 n)], [[.d .nilSl]], [⟨l.map fun n : Nat => V.d (.int .u64 (n : Int)), 1, 26, false⟩]⟩) ∧
      ∀ s, canon [3, 4] [5, 21, 22, 23] s = some (mulOut k k' a b n (List.replicate n 0, 0)) → gcode (lim table) 3000 g18_l1 s = some (e, s') := by
  refine loop_rule (lf := 3000) (mulOut k k' a b n) (fun p => a.length - p.2)
    (fun p => p.2 ≤ a.length ∧ p.1.length = n ∧ (∀ m ∈ p.1, m < 18446744073709551616) ∧ (∀ q, p.2 + b.length ≤ q → p.1.getD q 0 = 0) ∧ val p.1 = val (a.take p.2) * val b) _ ?_ (x := (List.replicate n 0, 0))
    ⟨by simp, by simp, by simp, ?_, by simp [val, val_zeros]⟩ (show a.length - 0 < 3000 by omega)
  · intro ⟨l, i⟩ ⟨h1, h2, h3, h4, h5⟩
    simp only at h1 h2 h3 h4 h5
    by_cases h0 : i < a.length
    · left
      have hi : (0 : Int) ≤ i := by omega
      have hi' : (i : Int) < a.length := by omega
      have hel := fun s => elemP_S (s := s) h hi hi'
      have hto : ((i : Int)).toNat = i := by omega
      rw [hto] at hel
      have hx := h.getD i
      have htk := getD_take_val a i
      generalize a.getD i 0 = x at *
      obtain ⟨e, s', ⟨rfl, l', c, q1, q2, q3, q4, q5, rfl⟩, q6⟩ := mul_inner (k := k) (a := a) h' hn h0 hx hla hlb h2 h3 h4
      have hpl : i + b.length < l'.length := by omega
      have hput := val_put (v := c) hpl
      rw [q4 _ (Nat.le_refl _)] at hput
      have hlen := length_put (v := c) hpl
      have e1 := (r_len h').c1
      have p5 : (0 : Int) ≤ (i : Int) + b.length := by omega
      have p6 : (i : Int) + b.length < n := by omega
      have p7 : ((i : Int) + (b.length : Int)).toNat = i + b.length := by omega
      have p8 : i + b.length + 1 ≤ n := by omega
      have hval : val (l'.take (i + b.length) ++ c :: l'.drop (i + b.length + 1)) = val (a.take (i + 1)) * val b := by
        rw [htk, Nat.add_mul, ← h5, Nat.mul_assoc]
        omega
      refine ⟨_, (l'.take (i + b.length) ++ c :: l'.drop (i + b.length + 1), i + 1), by
          simp (disch := omega) [body, g_seq, g_ops, g_cond, g_block, g_scope, g_skip, g_label, g_ret, g_exit, steps, step1, run1, o, u, og, ug, put, Opd.ev, cl_int, cl_bool, cl_nil, cl_sl, cl_agg, cl_vagg, cl_rs, cl_sp, cl_lp, cl_dfn, cl_nilFn, cl_fn, cl_str, cells_S, noLps, noLp, addP, St.load, St.store, splice, cut, mkV, allD, V.astray, V.far, V.near, answer, resAll, resOne, una, intOf?, fnOf, maxD_int, minD_int, foldD, fillG, canon, keepBoxes, keepLive, List.getElem?_cons_zero, List.getElem?_cons_succ, Option.getD_some, g18_b1, rg, mulOut, hel, b_lss, hi', h0, lenV_S h']
          rw [q6]
          · simp (disch := omega) [body, g_seq, g_ops, g_cond, g_block, g_scope, g_skip, g_label, g_ret, g_exit, steps, step1, run1, o, u, og, ug, put, Opd.ev, cl_int, cl_bool, cl_nil, cl_sl, cl_agg, cl_vagg, cl_rs, cl_sp, cl_lp, cl_dfn, cl_nilFn, cl_fn, cl_str, cells_S, noLps, noLp, addP, St.load, St.store, splice, cut, mkV, allD, V.astray, V.far, V.near, answer, resAll, resOne, una, intOf?, fnOf, maxD_int, minD_int, foldD, fillG, canon, keepBoxes, keepLive, List.getElem?_cons_zero, List.getElem?_cons_succ, Option.getD_some, rg, mulEnd, e1, p5, p6, p7, p8, b_lss, b_add64, w64, elemP_rs, q1]
            rfl
          · simp [body, g_seq, g_ops, g_cond, g_block, g_scope, g_skip, g_label, g_ret, g_exit, steps, step1, run1, o, u, og, ug, put, Opd.ev, cl_int, cl_bool, cl_nil, cl_sl, cl_agg, cl_vagg, cl_rs, cl_sp, cl_lp, cl_dfn, cl_nilFn, cl_fn, cl_str, cells_S, noLps, noLp, addP, St.load, St.store, splice, cut, mkV, allD, V.astray, V.far, V.near, answer, resAll, resOne, una, intOf?, fnOf, maxD_int, minD_int, foldD, fillG, canon, keepBoxes, keepLive, List.getElem?_cons_zero, List.getElem?_cons_succ, Option.getD_some, rg, mulAt], by simp (disch := omega) [body, g_seq, g_ops, g_cond, g_block, g_scope, g_skip, g_label, g_ret, g_exit, steps, step1, run1, o, u, og, ug, put, Opd.ev, cl_int, cl_bool, cl_nil, cl_sl, cl_agg, cl_vagg, cl_rs, cl_sp, cl_lp, cl_dfn, cl_nilFn, cl_fn, cl_str, cells_S, noLps, noLp, addP, St.load, St.store, splice, cut, mkV, allD, V.astray, V.far, V.near, answer, resAll, resOne, una, intOf?, fnOf, maxD_int, minD_int, foldD, fillG, canon, keepBoxes, keepLive, List.getElem?_cons_zero, List.getElem?_cons_succ, Option.getD_some, rg, mulOut, w64],
        ⟨show i + 1 ≤ a.length by omega, hlen.trans q1, mem_put q2 q3, ?_, hval⟩, show a.length - (i + 1) < a.length - i by omega⟩
      intro q hq
      have hq2 : i + 1 + b.length ≤ q := hq
      rw [getD_put hpl]
      split
      · omega
      · exact q4 q (by omega)
    · right
      have hia : i = a.length := by omega
      subst hia
      refine ⟨.brk 0, _, ⟨rg 82 [(4, .lp 0 0), (5, .rs 0 0 n)], [[.d .nilSl]], [⟨l.map fun n : Nat => V.d (.int .u64 (n : Int)), 1, 26, false⟩]⟩, by simp [body, g_seq, g_ops, g_cond, g_block, g_scope, g_skip, g_label, g_ret, g_exit, steps, step1, run1, o, u, og, ug, put, Opd.ev, cl_int, cl_bool, cl_nil, cl_sl, cl_agg, cl_vagg, cl_rs, cl_sp, cl_lp, cl_dfn, cl_nilFn, cl_fn, cl_str, cells_S, noLps, noLp, addP, St.load, St.store, splice, cut, mkV, allD, V.astray, V.far, V.near, answer, resAll, resOne, una, intOf?, fnOf, maxD_int, minD_int, foldD, fillG, canon, keepBoxes, keepLive, List.getElem?_cons_zero, List.getElem?_cons_succ, Option.getD_some, g18_b1, rg, mulOut, b_lss]; rfl, by simp, by simp [body, g_seq, g_ops, g_cond, g_block, g_scope, g_skip, g_label, g_ret, g_exit, steps, step1, run1, o, u, og, ug, put, Opd.ev, cl_int, cl_bool, cl_nil, cl_sl, cl_agg, cl_vagg, cl_rs, cl_sp, cl_lp, cl_dfn, cl_nilFn, cl_fn, cl_str, cells_S, noLps, noLp, addP, St.load, St.store, splice, cut, mkV, allD, V.astray, V.far, V.near, answer, resAll, resOne, una, intOf?, fnOf, maxD_int, minD_int, foldD, fillG, canon, keepBoxes, keepLive, List.getElem?_cons_zero, List.getElem?_cons_succ, Option.getD_some, rg], rfl, l, h2, h3, ?_, rfl⟩
      rw [h5, List.take_length]
  · intro q hq
    simp only [List.getD_eq_getElem?_getD, List.getElem?_replicate]
    split <;> rfl

theorem r_mul (h : Fit k a) (h' : Fit k' b) (hl : a.length < 1000) (hl' : b.length < 1000) : ∃ k'' l, Fit k'' l ∧ Norm l ∧ val l = val a * val b ∧ Ret table 18 [N k a, N k' b] (N k'' l) := by
  obtain ⟨e, s', ⟨rfl, l, h1, h2, h3, rfl⟩, h4⟩ := mul_outer h h' rfl hl hl'
  obtain ⟨k2, h6, h7⟩ := r_limbs (k := some false) (a := l) ⟨nofun, h2⟩ (by omega)
  refine ⟨k2, trim l, h6, trim_trim _, by rw [val_trim, h3], ?_⟩
  have e1 := (r_len h).c1
  have e2 := (r_len h').c1
  have h8 : ∀ (tm : List V) (ph : List (List V)) (n : Nat) (ety : TypeId), n = l.length →
      pureCall (lim table) ⟨tm, ph, [⟨l.map fun n : Nat => V.d (.int .u64 (n : Int)), 1, ety, false⟩]⟩ 36 [.rs 0 0 n] = some (.d (N k2 (trim l)), ⟨tm, ph, [⟨l.map fun n : Nat => V.d (.int .u64 (n : Int)), 1, ety, true⟩]⟩) := by
    intro tm ph n ety hn
    subst hn
    refine (h7.pure (l := [0]) ?_).trans rfl
    have := toD_block (sh := [⟨l.map fun n : Nat => V.d (.int .u64 (n : Int)), 1, ety, false⟩]) (b := 0) (n := 99) rfl
    simp only [toDs, allBy, deepest, this, List.append_nil]
  have p1 : (0 : Int) ≤ (a.length : Int) + b.length := by omega
  have p2 : 8 * ((a.length : Int) + b.length) ≤ 281474976710656 := by omega
  have p3 : (a.length : Int) + b.length ≤ 9223372036854775807 := by omega
  have p4 : ((a.length : Int) + (b.length : Int)).toNat = a.length + b.length := by omega
  refine Ret.ofD 3000 (g := g18) rfl ⟨?_, ?_⟩
  rotate_left
  · simp (disch := omega) [body, g_seq, g_ops, g_cond, g_block, g_scope, g_skip, g_label, g_ret, g_exit, steps, step1, run1, o, u, og, ug, put, Opd.ev, cl_int, cl_bool, cl_nil, cl_sl, cl_agg, cl_vagg, cl_rs, cl_sp, cl_lp, cl_dfn, cl_nilFn, cl_fn, cl_str, cells_S, noLps, noLp, addP, St.load, St.store, splice, cut, mkV, allD, V.astray, V.far, V.near, answer, resAll, resOne, una, intOf?, fnOf, maxD_int, minD_int, foldD, fillG, canon, keepBoxes, keepLive, List.getElem?_cons_zero, List.getElem?_cons_succ, Option.getD_some, g18, e1, e2, b_add64, w64, p1, p2, p3, p4, lenV_S h]
    rw [h4]
    · simp [body, g_seq, g_ops, g_cond, g_block, g_scope, g_skip, g_label, g_ret, g_exit, steps, step1, run1, o, u, og, ug, put, Opd.ev, cl_int, cl_bool, cl_nil, cl_sl, cl_agg, cl_vagg, cl_rs, cl_sp, cl_lp, cl_dfn, cl_nilFn, cl_fn, cl_str, cells_S, noLps, noLp, addP, St.load, St.store, splice, cut, mkV, allD, V.astray, V.far, V.near, answer, resAll, resOne, una, intOf?, fnOf, maxD_int, minD_int, foldD, fillG, canon, keepBoxes, keepLive, List.getElem?_cons_zero, List.getElem?_cons_succ, Option.getD_some, rg, h8, h1]
      rfl
    · simp [body, g_seq, g_ops, g_cond, g_block, g_scope, g_skip, g_label, g_ret, g_exit, steps, step1, run1, o, u, og, ug, put, Opd.ev, cl_int, cl_bool, cl_nil, cl_sl, cl_agg, cl_vagg, cl_rs, cl_sp, cl_lp, cl_dfn, cl_nilFn, cl_fn, cl_str, cells_S, noLps, noLp, addP, St.load, St.store, splice, cut, mkV, allD, V.astray, V.far, V.near, answer, resAll, resOne, una, intOf?, fnOf, maxD_int, minD_int, foldD, fillG, canon, keepBoxes, keepLive, List.getElem?_cons_zero, List.getElem?_cons_succ, Option.getD_some, rg, mulOut]
end
end Go.Proofs.Try
