/-
  Package nat, function by function (3): small numbers, caps, sums.
-/
import Derived.Test.YtlkhddnagmmepaaNb
namespace Go.Proofs.Try
open Go.Gm
set_option maxHeartbeats 2000000
set_option linter.unusedSimpArgs false
set_option linter.unusedVariables false

theorem getD_take_val (a : List Nat) (i : Nat) : val (a.take (i + 1)) = val (a.take i) + 18446744073709551616 ^ i * a.getD i 0 := by
  by_cases h : i < a.length
  · rw [List.take_succ_eq_append_getElem h, val_append]
    simp [val, h, Nat.min_eq_left (Nat.le_of_lt h)]
  · have h1 : a.take (i + 1) = a := List.take_of_length_le (by omega)
    have h2 : a.take i = a := List.take_of_length_le (by omega)
    simp [h1, h2, h]
theorem val_bound {l : List Nat} (h : ∀ n ∈ l, n < 18446744073709551616) : val l < 18446744073709551616 ^ l.length := by
  induction l with
  | nil => simp [val]
  | cons x r ih =>
    have h1 := h x (by simp)
    have h2 := ih fun n hn => h n (by simp [hn])
    simp only [val, List.length_cons, Nat.pow_succ]
    generalize 18446744073709551616 ^ r.length = q at *
    have : 18446744073709551616 * (val r + 1) ≤ 18446744073709551616 * q := Nat.mul_le_mul_left _ h2
    omega

section
variable {k k' : Option Bool} {a b : List Nat}
theorem r_of {n : Nat} (hn : n < 18446744073709551616) : ∃ k', Fit k' (trim [n]) ∧ Ret table 12 [.int .u64 (n : Int)] (N k' (trim [n])) := by
  obtain ⟨k', h1, h2⟩ := r_limbs (k := some true) (a := [n]) ⟨nofun, by simpa using hn⟩ (by simp)
  refine ⟨k', h1, Ret.ofD 1 (g := g12) rfl ⟨[], ?_⟩⟩
  have h3 := h2.c1
  simp only [S, List.map_cons, List.map_nil] at h3
  simp [body, g_seq, g_ops, g_cond, g_block, g_scope, g_skip, g_label, g_ret, g_exit, steps, step1, run1, o, u, og, ug, put, Opd.ev, cl_int, cl_bool, cl_nil, cl_sl, cl_agg, cl_vagg, cl_rs, cl_sp, cl_lp, cl_dfn, cl_nilFn, cl_fn, cl_str, cells_S, noLps, noLp, addP, St.load, St.store, splice, cut, mkV, allD, V.astray, V.far, V.near, answer, resAll, resOne, bin, una, intOf?, fnOf, maxD_int, minD_int, foldD, fillG, canon, keepBoxes, keepLive, List.getElem?_cons_zero, List.getElem?_cons_succ, Option.getD_some, g12, chunk, h3]
theorem r_fits (h : Fit k a) {c : Int} : Ret table 55 [.int .i64 c, N k a] (.bool (decide ((a.length : Int) ≤ max 0 c))) := by
  refine Ret.ofD 1 (g := g55) rfl ⟨[], ?_⟩
  simp [body, g_seq, g_ops, g_cond, g_block, g_scope, g_skip, g_label, g_ret, g_exit, steps, step1, run1, o, u, og, ug, put, Opd.ev, cl_int, cl_bool, cl_nil, cl_sl, cl_agg, cl_vagg, cl_rs, cl_sp, cl_lp, cl_dfn, cl_nilFn, cl_fn, cl_str, cells_S, noLps, noLp, addP, St.load, St.store, splice, cut, mkV, allD, V.astray, V.far, V.near, answer, resAll, resOne, bin, una, intOf?, fnOf, maxD_int, minD_int, foldD, fillG, canon, keepBoxes, keepLive, List.getElem?_cons_zero, List.getElem?_cons_succ, Option.getD_some, g55, (r_len h).c1]
theorem r_fit_yes (h : Fit k a) {c : Int} (hc : (a.length : Int) ≤ max 0 c) (hl : a.length < 1000000) : ∃ k', Fit k' (trim a) ∧ Ret table 58 [.int .i64 c, N k a] (.tup [N k' (trim a), .bool true]) := by
  obtain ⟨k1, h1, h2⟩ := r_all h hl
  obtain ⟨k2, h3, h4⟩ := r_limbs h1 hl
  have e := (r_fits h (c := c)).c2
  rw [decide_eq_true hc] at e
  refine ⟨k2, h3, Ret.ofD 1 (g := g58) rfl ⟨[], ?_⟩⟩
  simp [body, g_seq, g_ops, g_cond, g_block, g_scope, g_skip, g_label, g_ret, g_exit, steps, step1, run1, o, u, og, ug, put, Opd.ev, cl_int, cl_bool, cl_nil, cl_sl, cl_agg, cl_vagg, cl_rs, cl_sp, cl_lp, cl_dfn, cl_nilFn, cl_fn, cl_str, cells_S, noLps, noLp, addP, St.load, St.store, splice, cut, mkV, allD, V.astray, V.far, V.near, answer, resAll, resOne, bin, una, intOf?, fnOf, maxD_int, minD_int, foldD, fillG, canon, keepBoxes, keepLive, List.getElem?_cons_zero, List.getElem?_cons_succ, Option.getD_some, g58, e, h2.c1, h4.c1]
theorem r_fit_no (h : Fit k a) {c : Int} (hc : ¬ (a.length : Int) ≤ max 0 c) : Ret table 58 [.int .i64 c, N k a] (.tup [N Option.none [], .bool false]) := by
  have e := (r_fits h (c := c)).c2
  rw [decide_eq_false hc] at e
  refine Ret.ofD 1 (g := g58) rfl ⟨[], ?_⟩
  simp [body, g_seq, g_ops, g_cond, g_block, g_scope, g_skip, g_label, g_ret, g_exit, steps, step1, run1, o, u, og, ug, put, Opd.ev, cl_int, cl_bool, cl_nil, cl_sl, cl_agg, cl_vagg, cl_rs, cl_sp, cl_lp, cl_dfn, cl_nilFn, cl_fn, cl_str, cells_S, noLps, noLp, addP, St.load, St.store, splice, cut, mkV, allD, V.astray, V.far, V.near, answer, resAll, resOne, bin, una, intOf?, fnOf, maxD_int, minD_int, foldD, fillG, canon, keepBoxes, keepLive, List.getElem?_cons_zero, List.getElem?_cons_succ, Option.getD_some, g58, e, S_nil]
theorem r_cfit_yes (h : Fit k a) {c : Int} (hc : (a.length : Int) ≤ max 0 c) : Ret table 63 [.int .i64 c, N k a] (.tup [N k a, .bool true]) := by
  have e := (r_fits h (c := c)).c2
  rw [decide_eq_true hc] at e
  refine Ret.ofD 1 (g := g63) rfl ⟨[], ?_⟩
  simp [body, g_seq, g_ops, g_cond, g_block, g_scope, g_skip, g_label, g_ret, g_exit, steps, step1, run1, o, u, og, ug, put, Opd.ev, cl_int, cl_bool, cl_nil, cl_sl, cl_agg, cl_vagg, cl_rs, cl_sp, cl_lp, cl_dfn, cl_nilFn, cl_fn, cl_str, cells_S, noLps, noLp, addP, St.load, St.store, splice, cut, mkV, allD, V.astray, V.far, V.near, answer, resAll, resOne, bin, una, intOf?, fnOf, maxD_int, minD_int, foldD, fillG, canon, keepBoxes, keepLive, List.getElem?_cons_zero, List.getElem?_cons_succ, Option.getD_some, g63, e]
theorem r_cfit_no (h : Fit k a) {c : Int} (hc : ¬ (a.length : Int) ≤ max 0 c) : Ret table 63 [.int .i64 c, N k a] (.tup [N Option.none [], .bool false]) := by
  have e := (r_fits h (c := c)).c2
  rw [decide_eq_false hc] at e
  refine Ret.ofD 1 (g := g63) rfl ⟨[], ?_⟩
  simp [body, g_seq, g_ops, g_cond, g_block, g_scope, g_skip, g_label, g_ret, g_exit, steps, step1, run1, o, u, og, ug, put, Opd.ev, cl_int, cl_bool, cl_nil, cl_sl, cl_agg, cl_vagg, cl_rs, cl_sp, cl_lp, cl_dfn, cl_nilFn, cl_fn, cl_str, cells_S, noLps, noLp, addP, St.load, St.store, splice, cut, mkV, allD, V.astray, V.far, V.near, answer, resAll, resOne, bin, una, intOf?, fnOf, maxD_int, minD_int, foldD, fillG, canon, keepBoxes, keepLive, List.getElem?_cons_zero, List.getElem?_cons_succ, Option.getD_some, g63, e, S_nil]
end

/-! ### sums -/
/-- The closure that adds two limbs, and the carry that it keeps. -/
theorem r_next {x y c : Nat} {es : Nat} {ety : TypeId} {rest : List Blk} (hc : c ≤ 1) :
    lim table 62 [.d (.int .u64 (x : Int)), .d (.int .u64 (y : Int)), .sp 0 1 0] (⟨[.d (.int .u64 (c : Int))], es, ety, false⟩ :: rest) =
      some (.d (.int .u64 (((x + y + c) % 18446744073709551616 : Nat) : Int)), ⟨[.d (.int .u64 (((x + y + c) / 18446744073709551616 : Nat) : Int))], es, ety, false⟩ :: rest) := by
  refine lim_body 1 (g := g62) rfl ?_
  have h1 : (0 : Int) ≤ x := by omega
  have h2 : (0 : Int) ≤ y := by omega
  have h3 : (0 : Int) ≤ c := by omega
  have h4 : (c : Int) ≤ 1 := by omega
  simp [body, g_seq, g_ops, g_cond, g_block, g_scope, g_skip, g_label, g_ret, g_exit, steps, step1, run1, o, u, og, ug, put, Opd.ev, cl_int, cl_bool, cl_nil, cl_sl, cl_agg, cl_vagg, cl_rs, cl_sp, cl_lp, cl_dfn, cl_nilFn, cl_fn, cl_str, cells_S, noLps, noLp, addP, St.load, St.store, splice, cut, mkV, allD, V.astray, V.far, V.near, answer, resAll, resOne, bin, una, intOf?, fnOf, maxD_int, minD_int, foldD, fillG, canon, keepBoxes, keepLive, List.getElem?_cons_zero, List.getElem?_cons_succ, Option.getD_some, g62, h1, h2, h3, h4]

/-- The sum so far. -/
def addSh (c : Nat) (ls : List Nat) : List Blk :=
  ⟨[.d (.int .u64 (c : Int))], 1, 26, false⟩ :: match ls with
    | [] => []
    | x :: r => [⟨(x :: r).map fun n : Nat => V.d (.int .u64 (n : Int)), 1, 26, false⟩]
def addL (n : Nat) (ls : List Nat) : V := match ls with
  | [] => .d .nilSl
  | _ :: _ => .rs 1 0 n

section
variable {k k' : Option Bool} {a b : List Nat}
/-- At the head of the sum's loop. -/
def addAt (k k' : Option Bool) (a b : List Nat) (M : Int) (p : Nat × List Nat × Nat) : St :=
  ⟨rg 35 [(2, .lp 0 0), (3, .lp 1 0), (4, .lp 2 0), (5, addL p.2.2 p.2.1), (6, .sp 0 1 0), (7, .fn (.func 62) [] [.sp 0 1 0]), (14, .d (.int .i64 M)), (15, .d (.int .i64 (p.2.2 : Int)))], [[.d (S k a)], [.d (S k' b)], [.d .nilSl]], addSh p.1 p.2.1⟩

theorem add_loop (h : Fit k a) (h' : Fit k' b) (hl : a.length < 1000) (hl' : b.length < 1000) {M : Int} (hM : M = max (a.length : Int) b.length) :
    ∃ e s', (e = .brk 0 ∧ ∃ c ls, c ≤ 1 ∧ ls.length = max a.length b.length ∧ (∀ n ∈ ls, n < 18446744073709551616) ∧ val ls + 18446744073709551616 ^ ls.length * c = val a + val b ∧
        s' = ⟨rg 35 [(4, .lp 0 0), (5, addL ls.length ls), (6, .sp 0 1 0)], [[.d .nilSl]], addSh c ls⟩) ∧
      ∀ s, canon [2, 3, 4] [5, 6, 7, 14, 15] s = some (addAt k k' a b M (0, [], 0)) → gcode (lim table) 2000 g38_l0 s = some (e, s') := by
  refine loop_rule (addAt k k' a b M) (fun p => max a.length b.length - p.2.2)
    (fun p => p.1 ≤ 1 ∧ p.2.1.length = p.2.2 ∧ p.2.2 ≤ max a.length b.length ∧ (∀ n ∈ p.2.1, n < 18446744073709551616) ∧ val p.2.1 + 18446744073709551616 ^ p.2.2 * p.1 = val (a.take p.2.2) + val (b.take p.2.2)) _ ?_ (x := (0, [], 0))
    ⟨by simp, by simp, by simp, by simp, by simp [val]⟩ (by simp; omega)
  intro ⟨c, ls, i⟩ ⟨h1, hlen, h2, h3, h4⟩
  simp only at h1 h2 h3 h4 hlen
  by_cases h0 : i < max a.length b.length
  · left
    have hi : (0 : Int) ≤ i := by omega
    have e1 := (r_limb h hi).c2
    have e2 := (r_limb h' hi).c2
    have hto : ((i : Int)).toNat = i := by omega
    rw [hto] at e1 e2
    have t1 := getD_take_val a i
    have t2 := getD_take_val b i
    have hA := h.getD i
    have hB := h'.getD i
    generalize a.getD i 0 = x at *
    generalize b.getD i 0 = y at *
    have hlt : (i : Int) < M := by omega
    have hsum : (x + y + c) = (x + y + c) % 18446744073709551616 + 18446744073709551616 * ((x + y + c) / 18446744073709551616) := by omega
    have hcc : (x + y + c) / 18446744073709551616 ≤ 1 := by omega
    have hr := fun rest => r_next (x := x) (y := y) (c := c) (es := 1) (ety := 26) (rest := rest) h1
    have hmod : (x + y + c) % 18446744073709551616 < 18446744073709551616 := by omega
    generalize (x + y + c) % 18446744073709551616 = r at *
    generalize (x + y + c) / 18446744073709551616 = c' at *
    have hval : val (ls ++ [r]) + 18446744073709551616 ^ (i + 1) * c' = val (a.take (i + 1)) + val (b.take (i + 1)) := by
      rw [val_append, t1, t2, Nat.pow_succ, hlen]
      simp only [val, Nat.mul_zero, Nat.add_zero]
      generalize 18446744073709551616 ^ i = q at *
      have e3 : q * (x + y + c) = q * (r + 18446744073709551616 * c') := by rw [hsum]
      simp only [Nat.mul_add, ← Nat.mul_assoc] at e3
      omega
    have hinv : c' ≤ 1 ∧ (ls ++ [r]).length = i + 1 ∧ i + 1 ≤ max a.length b.length ∧ (∀ n ∈ ls ++ [r], n < 18446744073709551616) ∧ val (ls ++ [r]) + 18446744073709551616 ^ (i + 1) * c' = val (a.take (i + 1)) + val (b.take (i + 1)) := by
      refine ⟨hcc, by simp [hlen], by omega, fun n hn => ?_, hval⟩
      rcases List.mem_append.1 hn with q | q
      · exact h3 n q
      · simp at q; omega
    have hlong : i ≤ 2000 := by omega
    have hm1 : (i + 1) * 8 ≤ 140737488355328 := by omega
    have hm2 : (i + 1) ≤ 9223372036854775807 := by omega
    rcases ls with _ | ⟨z, t⟩
    · simp at hlen
      subst hlen
      simp only [Int.natCast_zero] at e1 e2 hlt
      exact ⟨_, (c', [r], 1), by simp (disch := omega) [body, g_seq, g_ops, g_cond, g_block, g_scope, g_skip, g_label, g_ret, g_exit, steps, step1, run1, o, u, og, ug, put, Opd.ev, cl_int, cl_bool, cl_nil, cl_sl, cl_agg, cl_vagg, cl_rs, cl_sp, cl_lp, cl_dfn, cl_nilFn, cl_fn, cl_str, cells_S, noLps, noLp, addP, St.load, St.store, splice, cut, mkV, allD, V.astray, V.far, V.near, answer, resAll, resOne, bin, una, intOf?, fnOf, maxD_int, minD_int, foldD, fillG, canon, keepBoxes, keepLive, List.getElem?_cons_zero, List.getElem?_cons_succ, Option.getD_some, g38_b0, rg, addAt, addL, addSh, e1, e2, hlt, sharedCall, hr, chunk, rowOf, lenV, appendV]; rfl, by simp (disch := omega) [body, g_seq, g_ops, g_cond, g_block, g_scope, g_skip, g_label, g_ret, g_exit, steps, step1, run1, o, u, og, ug, put, Opd.ev, cl_int, cl_bool, cl_nil, cl_sl, cl_agg, cl_vagg, cl_rs, cl_sp, cl_lp, cl_dfn, cl_nilFn, cl_fn, cl_str, cells_S, noLps, noLp, addP, St.load, St.store, splice, cut, mkV, allD, V.astray, V.far, V.near, answer, resAll, resOne, bin, una, intOf?, fnOf, maxD_int, minD_int, foldD, fillG, canon, keepBoxes, keepLive, List.getElem?_cons_zero, List.getElem?_cons_succ, Option.getD_some, rg, addAt, addL, addSh, w64], hinv, by simp; omega⟩
    · simp at hlen
      exact ⟨_, (c', z :: t ++ [r], i + 1), by simp (disch := omega) [body, g_seq, g_ops, g_cond, g_block, g_scope, g_skip, g_label, g_ret, g_exit, steps, step1, run1, o, u, og, ug, put, Opd.ev, cl_int, cl_bool, cl_nil, cl_sl, cl_agg, cl_vagg, cl_rs, cl_sp, cl_lp, cl_dfn, cl_nilFn, cl_fn, cl_str, cells_S, noLps, noLp, addP, St.load, St.store, splice, cut, mkV, allD, V.astray, V.far, V.near, answer, resAll, resOne, bin, una, intOf?, fnOf, maxD_int, minD_int, foldD, fillG, canon, keepBoxes, keepLive, List.getElem?_cons_zero, List.getElem?_cons_succ, Option.getD_some, g38_b0, rg, addAt, addL, addSh, e1, e2, hlt, sharedCall, hr, chunk, rowOf, lenV, appendV, hlen, hm1, hm2, noLps_nums]; rfl, by simp (disch := omega) [body, g_seq, g_ops, g_cond, g_block, g_scope, g_skip, g_label, g_ret, g_exit, steps, step1, run1, o, u, og, ug, put, Opd.ev, cl_int, cl_bool, cl_nil, cl_sl, cl_agg, cl_vagg, cl_rs, cl_sp, cl_lp, cl_dfn, cl_nilFn, cl_fn, cl_str, cells_S, noLps, noLp, addP, St.load, St.store, splice, cut, mkV, allD, V.astray, V.far, V.near, answer, resAll, resOne, bin, una, intOf?, fnOf, maxD_int, minD_int, foldD, fillG, canon, keepBoxes, keepLive, List.getElem?_cons_zero, List.getElem?_cons_succ, Option.getD_some, rg, addAt, addL, addSh, w64], hinv, by simp; omega⟩
  · right
    have hge : ¬ (i : Int) < M := by omega
    refine ⟨.brk 0, _, ⟨rg 35 [(4, .lp 0 0), (5, addL i ls), (6, .sp 0 1 0)], [[.d .nilSl]], addSh c ls⟩, by simp [body, g_seq, g_ops, g_cond, g_block, g_scope, g_skip, g_label, g_ret, g_exit, steps, step1, run1, o, u, og, ug, put, Opd.ev, cl_int, cl_bool, cl_nil, cl_sl, cl_agg, cl_vagg, cl_rs, cl_sp, cl_lp, cl_dfn, cl_nilFn, cl_fn, cl_str, cells_S, noLps, noLp, addP, St.load, St.store, splice, cut, mkV, allD, V.astray, V.far, V.near, answer, resAll, resOne, bin, una, intOf?, fnOf, maxD_int, minD_int, foldD, fillG, canon, keepBoxes, keepLive, List.getElem?_cons_zero, List.getElem?_cons_succ, Option.getD_some, g38_b0, rg, addAt, hge]; rfl, by simp, ?_, rfl, c, ls, h1, by omega, h3, ?_, by rw [hlen]⟩
    · rcases ls with _ | ⟨z, t⟩ <;> simp [body, g_seq, g_ops, g_cond, g_block, g_scope, g_skip, g_label, g_ret, g_exit, steps, step1, run1, o, u, og, ug, put, Opd.ev, cl_int, cl_bool, cl_nil, cl_sl, cl_agg, cl_vagg, cl_rs, cl_sp, cl_lp, cl_dfn, cl_nilFn, cl_fn, cl_str, cells_S, noLps, noLp, addP, St.load, St.store, splice, cut, mkV, allD, V.astray, V.far, V.near, answer, resAll, resOne, bin, una, intOf?, fnOf, maxD_int, minD_int, foldD, fillG, canon, keepBoxes, keepLive, List.getElem?_cons_zero, List.getElem?_cons_succ, Option.getD_some, rg, addL, addSh]
    · rw [hlen, h4, List.take_of_length_le (by omega), List.take_of_length_le (by omega)]

theorem r_add (h : Fit k a) (h' : Fit k' b) (hl : a.length < 1000) (hl' : b.length < 1000) : ∃ k'' l, Fit k'' l ∧ Norm l ∧ val l = val a + val b ∧ Ret table 38 [N k a, N k' b] (N k'' l) := by
  obtain ⟨e, s', ⟨rfl, c, ls, h1, h2, h3, h4, rfl⟩, h5⟩ := add_loop h h' hl hl' rfl
  have hfit : Fit (some false) (ls ++ [c]) := ⟨nofun, fun n hn => by
    rcases List.mem_append.1 hn with q | q
    · exact h3 n q
    · simp at q; omega⟩
  obtain ⟨k2, h6, h7⟩ := r_limbs hfit (by simp; omega)
  refine ⟨k2, trim (ls ++ [c]), h6, trim_trim _, by rw [val_trim, val_append]; simp [val]; omega, ?_⟩
  have e1 := (r_len h).c1
  have e2 := (r_len h').c1
  have h8 : ∀ (tm : List V) (ph : List (List V)) (b0 : Blk) (n : Nat) (q : List V) (ety : TypeId), q = (ls ++ [c]).map (fun n : Nat => V.d (.int .u64 (n : Int))) → n = (ls ++ [c]).length →
      pureCall (lim table) ⟨tm, ph, [b0, ⟨q, 1, ety, false⟩]⟩ 36 [.rs 1 0 n] = some (.d (N k2 (trim (ls ++ [c]))), ⟨tm, ph, [b0, ⟨q, 1, ety, true⟩]⟩) := by
    intro tm ph b0 n q ety hq hn
    subst hq hn
    refine (h7.pure (l := [1]) ?_).trans rfl
    have := toD_block (sh := [b0, ⟨(ls ++ [c]).map (fun n : Nat => V.d (.int .u64 (n : Int))), 1, ety, false⟩]) (b := 1) (n := 99) rfl
    simp only [toDs, allBy, deepest, this, List.append_nil]
  rcases ls with _ | ⟨z, t⟩
  · refine Ret.ofD 2000 (g := g38) rfl ⟨?_, ?_⟩
    rotate_left
    · simp (disch := omega) [body, g_seq, g_ops, g_cond, g_block, g_scope, g_skip, g_label, g_ret, g_exit, steps, step1, run1, o, u, og, ug, put, Opd.ev, cl_int, cl_bool, cl_nil, cl_sl, cl_agg, cl_vagg, cl_rs, cl_sp, cl_lp, cl_dfn, cl_nilFn, cl_fn, cl_str, cells_S, noLps, noLp, addP, St.load, St.store, splice, cut, mkV, allD, V.astray, V.far, V.near, answer, resAll, resOne, bin, una, intOf?, fnOf, maxD_int, minD_int, foldD, fillG, canon, keepBoxes, keepLive, List.getElem?_cons_zero, List.getElem?_cons_succ, Option.getD_some, g38, e1, e2]
      rw [h5]
      · simp [body, g_seq, g_ops, g_cond, g_block, g_scope, g_skip, g_label, g_ret, g_exit, steps, step1, run1, o, u, og, ug, put, Opd.ev, cl_int, cl_bool, cl_nil, cl_sl, cl_agg, cl_vagg, cl_rs, cl_sp, cl_lp, cl_dfn, cl_nilFn, cl_fn, cl_str, cells_S, noLps, noLp, addP, St.load, St.store, splice, cut, mkV, allD, V.astray, V.far, V.near, answer, resAll, resOne, bin, una, intOf?, fnOf, maxD_int, minD_int, foldD, fillG, canon, keepBoxes, keepLive, List.getElem?_cons_zero, List.getElem?_cons_succ, Option.getD_some, rg, addL, addSh, chunk, rowOf, lenV, appendV, h8]
        rfl
      · simp [body, g_seq, g_ops, g_cond, g_block, g_scope, g_skip, g_label, g_ret, g_exit, steps, step1, run1, o, u, og, ug, put, Opd.ev, cl_int, cl_bool, cl_nil, cl_sl, cl_agg, cl_vagg, cl_rs, cl_sp, cl_lp, cl_dfn, cl_nilFn, cl_fn, cl_str, cells_S, noLps, noLp, addP, St.load, St.store, splice, cut, mkV, allD, V.astray, V.far, V.near, answer, resAll, resOne, bin, una, intOf?, fnOf, maxD_int, minD_int, foldD, fillG, canon, keepBoxes, keepLive, List.getElem?_cons_zero, List.getElem?_cons_succ, Option.getD_some, rg, addAt, addL, addSh]
  · have hm3 : (t.length + 1 + 1) * 8 ≤ 140737488355328 := by simp at h2; omega
    have hm4 : t.length ≤ 9223372036854775805 := by simp at h2; omega
    refine Ret.ofD 2000 (g := g38) rfl ⟨?_, ?_⟩
    rotate_left
    · simp (disch := omega) [body, g_seq, g_ops, g_cond, g_block, g_scope, g_skip, g_label, g_ret, g_exit, steps, step1, run1, o, u, og, ug, put, Opd.ev, cl_int, cl_bool, cl_nil, cl_sl, cl_agg, cl_vagg, cl_rs, cl_sp, cl_lp, cl_dfn, cl_nilFn, cl_fn, cl_str, cells_S, noLps, noLp, addP, St.load, St.store, splice, cut, mkV, allD, V.astray, V.far, V.near, answer, resAll, resOne, bin, una, intOf?, fnOf, maxD_int, minD_int, foldD, fillG, canon, keepBoxes, keepLive, List.getElem?_cons_zero, List.getElem?_cons_succ, Option.getD_some, g38, e1, e2]
      rw [h5]
      · simp [body, g_seq, g_ops, g_cond, g_block, g_scope, g_skip, g_label, g_ret, g_exit, steps, step1, run1, o, u, og, ug, put, Opd.ev, cl_int, cl_bool, cl_nil, cl_sl, cl_agg, cl_vagg, cl_rs, cl_sp, cl_lp, cl_dfn, cl_nilFn, cl_fn, cl_str, cells_S, noLps, noLp, addP, St.load, St.store, splice, cut, mkV, allD, V.astray, V.far, V.near, answer, resAll, resOne, bin, una, intOf?, fnOf, maxD_int, minD_int, foldD, fillG, canon, keepBoxes, keepLive, List.getElem?_cons_zero, List.getElem?_cons_succ, Option.getD_some, rg, addL, addSh, chunk, rowOf, lenV, appendV, hm3, hm4, noLps_nums, h8]
        rfl
      · simp [body, g_seq, g_ops, g_cond, g_block, g_scope, g_skip, g_label, g_ret, g_exit, steps, step1, run1, o, u, og, ug, put, Opd.ev, cl_int, cl_bool, cl_nil, cl_sl, cl_agg, cl_vagg, cl_rs, cl_sp, cl_lp, cl_dfn, cl_nilFn, cl_fn, cl_str, cells_S, noLps, noLp, addP, St.load, St.store, splice, cut, mkV, allD, V.astray, V.far, V.near, answer, resAll, resOne, bin, una, intOf?, fnOf, maxD_int, minD_int, foldD, fillG, canon, keepBoxes, keepLive, List.getElem?_cons_zero, List.getElem?_cons_succ, Option.getD_some, rg, addAt, addL, addSh]
end
end Go.Proofs.Try
