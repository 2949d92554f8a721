/-
  Package nat, function by function (1): lengths, limbs, comparisons.
-/
import Derived.Test.YtlkhddnagmmepaaGmT
import Derived.Test.YtlkhddnagmmepaaGmW
namespace Go.Proofs.Try
open Go.Gm
set_option maxHeartbeats 2000000
set_option linter.unusedSimpArgs false
set_option linter.unusedVariables false

/-- What limbs are worth. -/
def val : List Nat → Nat
  | [] => 0
  | x :: r => x + 18446744073709551616 * val r
theorem val_drop (a : List Nat) (i : Nat) : val (a.drop i) = a.getD i 0 + 18446744073709551616 * val (a.drop (i + 1)) := by
  by_cases h : i < a.length
  · rw [List.drop_eq_getElem_cons h]
    simp [val, h]
  · have h1 : a.drop i = [] := List.drop_eq_nil_of_le (by omega)
    have h2 : a.drop (i + 1) = [] := List.drop_eq_nil_of_le (by omega)
    simp [h1, h2, val, h]
theorem val_lt {a b : List Nat} (ha : ∀ i, a.getD i 0 < 18446744073709551616) : ∀ i : Nat, val (a.drop i) < val (b.drop i) → val a < val b
  | 0, h => by simpa using h
  | i + 1, h => val_lt ha i (by
    have h1 := val_drop a i
    have h2 := val_drop b i
    have h3 := ha i
    omega)

/-- The order of numbers, as Cmp tells it. -/
def cmpV (a b : List Nat) : Int := if val a < val b then -1 else if val b < val a then 1 else 0

section
variable {k k' : Option Bool} {a b : List Nat}
theorem r_len (h : Fit k a) : Ret table 13 [N k a] (.int .i64 a.length) := by
  refine Ret.ofD 1 (g := g13) rfl ⟨[], ?_⟩
  simp [body, g_seq, g_ops, g_cond, g_block, g_scope, g_skip, g_label, g_ret, g_exit, steps, step1, run1, o, u, og, ug, put, Opd.ev, cl_int, cl_bool, cl_nil, cl_sl, cl_agg, cl_vagg, cl_rs, cl_sp, cl_lp, cl_dfn, cl_nilFn, cl_fn, cl_str, cells_S, noLps, noLp, addP, St.load, St.store, splice, cut, mkV, allD, V.astray, V.far, V.near, answer, resAll, resOne, bin, una, intOf?, fnOf, maxD_int, minD_int, foldD, fillG, canon, keepBoxes, keepLive, List.getElem?_cons_zero, List.getElem?_cons_succ, Option.getD_some, g13, cells_S, lenV_S h]
theorem r_nan {x : Int} : Ret table 56 [.int .u64 x] (.bool false) := by
  refine Ret.ofD 1 (g := g56) rfl ⟨[], ?_⟩
  simp [body, g_seq, g_ops, g_cond, g_block, g_scope, g_skip, g_label, g_ret, g_exit, steps, step1, run1, o, u, og, ug, put, Opd.ev, cl_int, cl_bool, cl_nil, cl_sl, cl_agg, cl_vagg, cl_rs, cl_sp, cl_lp, cl_dfn, cl_nilFn, cl_fn, cl_str, cells_S, noLps, noLp, addP, St.load, St.store, splice, cut, mkV, allD, V.astray, V.far, V.near, answer, resAll, resOne, bin, una, intOf?, fnOf, maxD_int, minD_int, foldD, fillG, canon, keepBoxes, keepLive, List.getElem?_cons_zero, List.getElem?_cons_succ, Option.getD_some, g56]
theorem r_compare {x y : Int} : Ret table 34 [.int .u64 x, .int .u64 y] (.int .i64 (if x < y then -1 else if y < x then 1 else 0)) := by
  refine Ret.ofD 1 (g := g34) rfl ⟨[], ?_⟩
  by_cases h1 : x < y
  · simp [body, g_seq, g_ops, g_cond, g_block, g_scope, g_skip, g_label, g_ret, g_exit, steps, step1, run1, o, u, og, ug, put, Opd.ev, cl_int, cl_bool, cl_nil, cl_sl, cl_agg, cl_vagg, cl_rs, cl_sp, cl_lp, cl_dfn, cl_nilFn, cl_fn, cl_str, cells_S, noLps, noLp, addP, St.load, St.store, splice, cut, mkV, allD, V.astray, V.far, V.near, answer, resAll, resOne, bin, una, intOf?, fnOf, maxD_int, minD_int, foldD, fillG, canon, keepBoxes, keepLive, List.getElem?_cons_zero, List.getElem?_cons_succ, Option.getD_some, g34, r_nan.c1, h1]
  · by_cases h2 : y < x
    · simp [body, g_seq, g_ops, g_cond, g_block, g_scope, g_skip, g_label, g_ret, g_exit, steps, step1, run1, o, u, og, ug, put, Opd.ev, cl_int, cl_bool, cl_nil, cl_sl, cl_agg, cl_vagg, cl_rs, cl_sp, cl_lp, cl_dfn, cl_nilFn, cl_fn, cl_str, cells_S, noLps, noLp, addP, St.load, St.store, splice, cut, mkV, allD, V.astray, V.far, V.near, answer, resAll, resOne, bin, una, intOf?, fnOf, maxD_int, minD_int, foldD, fillG, canon, keepBoxes, keepLive, List.getElem?_cons_zero, List.getElem?_cons_succ, Option.getD_some, g34, r_nan.c1, h1, h2]
    · simp [body, g_seq, g_ops, g_cond, g_block, g_scope, g_skip, g_label, g_ret, g_exit, steps, step1, run1, o, u, og, ug, put, Opd.ev, cl_int, cl_bool, cl_nil, cl_sl, cl_agg, cl_vagg, cl_rs, cl_sp, cl_lp, cl_dfn, cl_nilFn, cl_fn, cl_str, cells_S, noLps, noLp, addP, St.load, St.store, splice, cut, mkV, allD, V.astray, V.far, V.near, answer, resAll, resOne, bin, una, intOf?, fnOf, maxD_int, minD_int, foldD, fillG, canon, keepBoxes, keepLive, List.getElem?_cons_zero, List.getElem?_cons_succ, Option.getD_some, g34, r_nan.c1, h1, h2]
theorem r_limb (h : Fit k a) {i : Int} (hi : 0 ≤ i) : Ret table 35 [N k a, .int .i64 i] (.int .u64 ((a.getD i.toNat 0 : Nat) : Int)) := by
  refine Ret.ofD 1 (g := g35) rfl ⟨[], ?_⟩
  by_cases h1 : i ≥ a.length
  · have : a.length ≤ i.toNat := by omega
    simp [body, g_seq, g_ops, g_cond, g_block, g_scope, g_skip, g_label, g_ret, g_exit, steps, step1, run1, o, u, og, ug, put, Opd.ev, cl_int, cl_bool, cl_nil, cl_sl, cl_agg, cl_vagg, cl_rs, cl_sp, cl_lp, cl_dfn, cl_nilFn, cl_fn, cl_str, cells_S, noLps, noLp, addP, St.load, St.store, splice, cut, mkV, allD, V.astray, V.far, V.near, answer, resAll, resOne, bin, una, intOf?, fnOf, maxD_int, minD_int, foldD, fillG, canon, keepBoxes, keepLive, List.getElem?_cons_zero, List.getElem?_cons_succ, Option.getD_some, g35, (r_len h).c1, cells_S, h1, this]
  · have h2 : i < a.length := by omega
    simp [body, g_seq, g_ops, g_cond, g_block, g_scope, g_skip, g_label, g_ret, g_exit, steps, step1, run1, o, u, og, ug, put, Opd.ev, cl_int, cl_bool, cl_nil, cl_sl, cl_agg, cl_vagg, cl_rs, cl_sp, cl_lp, cl_dfn, cl_nilFn, cl_fn, cl_str, cells_S, noLps, noLp, addP, St.load, St.store, splice, cut, mkV, allD, V.astray, V.far, V.near, answer, resAll, resOne, bin, una, intOf?, fnOf, maxD_int, minD_int, foldD, fillG, canon, keepBoxes, keepLive, List.getElem?_cons_zero, List.getElem?_cons_succ, Option.getD_some, g35, (r_len h).c1, cells_S, h1, elemP_S h hi h2]

theorem r_cmp (h : Fit k a) (h' : Fit k' b) (hl : a.length < 1000) (hl' : b.length < 1000) : Ret table 11 [N k a, N k' b] (.int .i64 (cmpV a b)) := by
  have hloop : ∃ e s', ((e = .brk 0 ∧ val a = val b ∧ s' = ⟨rg 27 [], [], []⟩) ∨ (e = .ret ∧ s' = ⟨rg 27 [(4, .d (.int .i64 (cmpV a b)))], [], []⟩)) ∧
      ∀ s, canon [2, 3] [5] s = some ⟨rg 27 [(2, .lp 0 0), (3, .lp 1 0), (5, .d (.int .i64 (max (a.length : Int) b.length - 1)))], [[.d (S k a)], [.d (S k' b)]], []⟩ → gcode (lim table) 2000 g11_l0 s = some (e, s') := by
    refine loop_rule (fun i : Int => ⟨rg 27 [(2, .lp 0 0), (3, .lp 1 0), (5, .d (.int .i64 i))], [[.d (S k a)], [.d (S k' b)]], []⟩) (fun i => (i + 1).toNat)
      (fun i => -1 ≤ i ∧ i < 1000 ∧ val (a.drop (i + 1).toNat) = val (b.drop (i + 1).toNat)) _ ?_ ?_ ?_
    · intro i ⟨h1, h2, h3⟩
      by_cases h0 : 0 ≤ i
      · have e1 := fun s => (r_limb h h0).c2 s
        have e2 := fun s => (r_limb h' h0).c2 s
        have e3 := fun s => (r_compare (x := ((a.getD i.toNat 0 : Nat) : Int)) (y := ((b.getD i.toNat 0 : Nat) : Int))).c2 s
        have hda := val_drop a i.toNat
        have hdb := val_drop b i.toNat
        have hi1 : i.toNat + 1 = (i + 1).toNat := by omega
        rw [hi1] at hda hdb
        generalize a.getD i.toNat 0 = x at *
        generalize b.getD i.toNat 0 = y at *
        by_cases hxy : x = y
        · left
          subst hxy
          refine ⟨_, i - 1, by simp [body, g_seq, g_ops, g_cond, g_block, g_scope, g_skip, g_label, g_ret, g_exit, steps, step1, run1, o, u, og, ug, put, Opd.ev, cl_int, cl_bool, cl_nil, cl_sl, cl_agg, cl_vagg, cl_rs, cl_sp, cl_lp, cl_dfn, cl_nilFn, cl_fn, cl_str, cells_S, noLps, noLp, addP, St.load, St.store, splice, cut, mkV, allD, V.astray, V.far, V.near, answer, resAll, resOne, bin, una, intOf?, fnOf, maxD_int, minD_int, foldD, fillG, canon, keepBoxes, keepLive, List.getElem?_cons_zero, List.getElem?_cons_succ, Option.getD_some, g11_b0, rg, e1, e2, e3, h0]; rfl, by simp (disch := omega) [body, g_seq, g_ops, g_cond, g_block, g_scope, g_skip, g_label, g_ret, g_exit, steps, step1, run1, o, u, og, ug, put, Opd.ev, cl_int, cl_bool, cl_nil, cl_sl, cl_agg, cl_vagg, cl_rs, cl_sp, cl_lp, cl_dfn, cl_nilFn, cl_fn, cl_str, cells_S, noLps, noLp, addP, St.load, St.store, splice, cut, mkV, allD, V.astray, V.far, V.near, answer, resAll, resOne, bin, una, intOf?, fnOf, maxD_int, minD_int, foldD, fillG, canon, keepBoxes, keepLive, List.getElem?_cons_zero, List.getElem?_cons_succ, Option.getD_some, rg, w64], ⟨by omega, by omega, ?_⟩, by omega⟩
          have : (i - 1 + 1).toNat = i.toNat := by omega
          rw [this]
          omega
        · right
          have hne : (if (x : Int) < y then (-1 : Int) else if (y : Int) < x then 1 else 0) ≠ 0 := by split <;> first | omega | (split <;> omega)
          have hc : (if (x : Int) < y then (-1 : Int) else if (y : Int) < x then 1 else 0) = cmpV a b := by
            unfold cmpV
            by_cases hlt : x < y
            · have := val_lt (a := a) (b := b) h.getD i.toNat (by omega)
              simp [hlt, this]
            · have := val_lt (a := b) (b := a) h'.getD i.toNat (by omega)
              have h4 : ¬ val a < val b := by omega
              have h5 : (y : Int) < x := by omega
              have h6 : ¬ (x : Int) < y := by omega
              rw [if_neg h6, if_pos h5, if_neg h4, if_pos this]
          rw [hc] at e3 hne
          refine ⟨.ret, _, ⟨rg 27 [(4, .d (.int .i64 (cmpV a b)))], [], []⟩, by simp [body, g_seq, g_ops, g_cond, g_block, g_scope, g_skip, g_label, g_ret, g_exit, steps, step1, run1, o, u, og, ug, put, Opd.ev, cl_int, cl_bool, cl_nil, cl_sl, cl_agg, cl_vagg, cl_rs, cl_sp, cl_lp, cl_dfn, cl_nilFn, cl_fn, cl_str, cells_S, noLps, noLp, addP, St.load, St.store, splice, cut, mkV, allD, V.astray, V.far, V.near, answer, resAll, resOne, bin, una, intOf?, fnOf, maxD_int, minD_int, foldD, fillG, canon, keepBoxes, keepLive, List.getElem?_cons_zero, List.getElem?_cons_succ, Option.getD_some, g11_b0, rg, e1, e2, e3, h0, hne]; rfl, by simp, by simp [body, g_seq, g_ops, g_cond, g_block, g_scope, g_skip, g_label, g_ret, g_exit, steps, step1, run1, o, u, og, ug, put, Opd.ev, cl_int, cl_bool, cl_nil, cl_sl, cl_agg, cl_vagg, cl_rs, cl_sp, cl_lp, cl_dfn, cl_nilFn, cl_fn, cl_str, cells_S, noLps, noLp, addP, St.load, St.store, splice, cut, mkV, allD, V.astray, V.far, V.near, answer, resAll, resOne, bin, una, intOf?, fnOf, maxD_int, minD_int, foldD, fillG, canon, keepBoxes, keepLive, List.getElem?_cons_zero, List.getElem?_cons_succ, Option.getD_some, rg], .inr ⟨rfl, rfl⟩⟩
      · right
        have : i = -1 := by omega
        subst this
        exact ⟨.brk 0, _, ⟨rg 27 [], [], []⟩, by simp [body, g_seq, g_ops, g_cond, g_block, g_scope, g_skip, g_label, g_ret, g_exit, steps, step1, run1, o, u, og, ug, put, Opd.ev, cl_int, cl_bool, cl_nil, cl_sl, cl_agg, cl_vagg, cl_rs, cl_sp, cl_lp, cl_dfn, cl_nilFn, cl_fn, cl_str, cells_S, noLps, noLp, addP, St.load, St.store, splice, cut, mkV, allD, V.astray, V.far, V.near, answer, resAll, resOne, bin, una, intOf?, fnOf, maxD_int, minD_int, foldD, fillG, canon, keepBoxes, keepLive, List.getElem?_cons_zero, List.getElem?_cons_succ, Option.getD_some, g11_b0, rg]; rfl, by simp, by simp [body, g_seq, g_ops, g_cond, g_block, g_scope, g_skip, g_label, g_ret, g_exit, steps, step1, run1, o, u, og, ug, put, Opd.ev, cl_int, cl_bool, cl_nil, cl_sl, cl_agg, cl_vagg, cl_rs, cl_sp, cl_lp, cl_dfn, cl_nilFn, cl_fn, cl_str, cells_S, noLps, noLp, addP, St.load, St.store, splice, cut, mkV, allD, V.astray, V.far, V.near, answer, resAll, resOne, bin, una, intOf?, fnOf, maxD_int, minD_int, foldD, fillG, canon, keepBoxes, keepLive, List.getElem?_cons_zero, List.getElem?_cons_succ, Option.getD_some, rg], .inl ⟨rfl, by simpa using h3, rfl⟩⟩
    · refine ⟨by omega, by omega, ?_⟩
      rw [List.drop_eq_nil_of_le (by omega), List.drop_eq_nil_of_le (by omega)]
    · omega
  obtain ⟨e, s', h2, h1⟩ := hloop
  have e1 := fun s => (r_len h).c1 s
  have e2 := fun s => (r_len h').c1 s
  refine Ret.ofD 2000 (g := g11) rfl ⟨[], ?_⟩
  simp (disch := omega) [body, g_seq, g_ops, g_cond, g_block, g_scope, g_skip, g_label, g_ret, g_exit, steps, step1, run1, o, u, og, ug, put, Opd.ev, cl_int, cl_bool, cl_nil, cl_sl, cl_agg, cl_vagg, cl_rs, cl_sp, cl_lp, cl_dfn, cl_nilFn, cl_fn, cl_str, cells_S, noLps, noLp, addP, St.load, St.store, splice, cut, mkV, allD, V.astray, V.far, V.near, answer, resAll, resOne, bin, una, intOf?, fnOf, maxD_int, minD_int, foldD, fillG, canon, keepBoxes, keepLive, List.getElem?_cons_zero, List.getElem?_cons_succ, Option.getD_some, g11, cells_S, e1, e2, w64]
  rw [h1]
  · rcases h2 with ⟨rfl, h2, rfl⟩ | ⟨rfl, rfl⟩
    · simp [body, g_seq, g_ops, g_cond, g_block, g_scope, g_skip, g_label, g_ret, g_exit, steps, step1, run1, o, u, og, ug, put, Opd.ev, cl_int, cl_bool, cl_nil, cl_sl, cl_agg, cl_vagg, cl_rs, cl_sp, cl_lp, cl_dfn, cl_nilFn, cl_fn, cl_str, cells_S, noLps, noLp, addP, St.load, St.store, splice, cut, mkV, allD, V.astray, V.far, V.near, answer, resAll, resOne, bin, una, intOf?, fnOf, maxD_int, minD_int, foldD, fillG, canon, keepBoxes, keepLive, List.getElem?_cons_zero, List.getElem?_cons_succ, Option.getD_some, rg, cmpV, h2]
    · simp [body, g_seq, g_ops, g_cond, g_block, g_scope, g_skip, g_label, g_ret, g_exit, steps, step1, run1, o, u, og, ug, put, Opd.ev, cl_int, cl_bool, cl_nil, cl_sl, cl_agg, cl_vagg, cl_rs, cl_sp, cl_lp, cl_dfn, cl_nilFn, cl_fn, cl_str, cells_S, noLps, noLp, addP, St.load, St.store, splice, cut, mkV, allD, V.astray, V.far, V.near, answer, resAll, resOne, bin, una, intOf?, fnOf, maxD_int, minD_int, foldD, fillG, canon, keepBoxes, keepLive, List.getElem?_cons_zero, List.getElem?_cons_succ, Option.getD_some, rg]
  · simp [body, g_seq, g_ops, g_cond, g_block, g_scope, g_skip, g_label, g_ret, g_exit, steps, step1, run1, o, u, og, ug, put, Opd.ev, cl_int, cl_bool, cl_nil, cl_sl, cl_agg, cl_vagg, cl_rs, cl_sp, cl_lp, cl_dfn, cl_nilFn, cl_fn, cl_str, cells_S, noLps, noLp, addP, St.load, St.store, splice, cut, mkV, allD, V.astray, V.far, V.near, answer, resAll, resOne, bin, una, intOf?, fnOf, maxD_int, minD_int, foldD, fillG, canon, keepBoxes, keepLive, List.getElem?_cons_zero, List.getElem?_cons_succ, Option.getD_some, rg]
end
end Go.Proofs.Try
