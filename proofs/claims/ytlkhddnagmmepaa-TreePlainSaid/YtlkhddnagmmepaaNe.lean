/-
  Package nat, function by function (5): the product's loops.
-/
import Derived.Test.YtlkhddnagmmepaaNd
namespace Go.Proofs.Try
open Go.Gm
set_option maxHeartbeats 4000000
set_option linter.unusedSimpArgs false
set_option linter.unusedVariables false

/-! ### the product's loops -/
section
variable {k k' : Option Bool} {a b : List Nat}
/-- At the head of the inner loop. -/
def mulAt (k k' : Option Bool) (a b : List Nat) (n i x : Nat) (p : List Nat × Nat × Nat) : St :=
  ⟨rg 82 [(3, .lp 0 0), (4, .lp 1 0), (5, .rs 0 0 n), (6, .d (.int .i64 (i : Int))), (7, .d (.int .u64 (x : Int))), (8, .d (.int .u64 (p.2.1 : Int))), (21, .d (S k a)), (22, .d (.int .i64 (a.length : Int))), (23, .d (.int .i64 (i : Int))), (29, .d (S k' b)), (30, .d (.int .i64 (b.length : Int))), (31, .d (.int .i64 (p.2.2 : Int)))],
    [[.d (S k' b)], [.d .nilSl]], [⟨p.1.map fun n : Nat => V.d (.int .u64 (n : Int)), 1, 26, false⟩]⟩
def mulEnd (k k' : Option Bool) (a b : List Nat) (n i c : Nat) (l : List Nat) : St :=
  ⟨rg 82 [(3, .lp 0 0), (4, .lp 1 0), (5, .rs 0 0 n), (6, .d (.int .i64 (i : Int))), (8, .d (.int .u64 (c : Int))), (21, .d (S k a)), (22, .d (.int .i64 (a.length : Int))), (23, .d (.int .i64 (i : Int)))],
    [[.d (S k' b)], [.d .nilSl]], [⟨l.map fun n : Nat => V.d (.int .u64 (n : Int)), 1, 26, false⟩]⟩

theorem mul_inner (h' : Fit k' b) {n i x : Nat} {l0 : List Nat} (hn : n = a.length + b.length) (hi : i < a.length) (hx : x < 18446744073709551616) (hla : a.length < 1000) (hlb : b.length < 1000) (hl0 : l0.length = n) (hB : ∀ m ∈ l0, m < 18446744073709551616) (hz : ∀ p, i + b.length ≤ p → l0.getD p 0 = 0) :
    ∃ e s', (e = .brk 2 ∧ ∃ l c, l.length = n ∧ (∀ m ∈ l, m < 18446744073709551616) ∧ c < 18446744073709551616 ∧ (∀ p, i + b.length ≤ p → l.getD p 0 = 0) ∧
        val l + 18446744073709551616 ^ (i + b.length) * c = val l0 + 18446744073709551616 ^ i * (x * val b) ∧ s' = mulEnd k k' a b n i c l) ∧
      ∀ s, canon [3, 4] [5, 6, 7, 8, 21, 22, 23, 29, 30, 31] s = some (mulAt k k' a b n i x (l0, 0, 0)) → gcode (lim table) 3000 g18_l0 s = some (e, s') := by
  refine loop_rule (lf := 3000) (mulAt k k' a b n i x) (fun p => b.length - p.2.2)
    (fun p => p.2.2 ≤ b.length ∧ p.1.length = n ∧ (∀ m ∈ p.1, m < 18446744073709551616) ∧ p.2.1 < 18446744073709551616 ∧ (∀ q, i + b.length ≤ q → p.1.getD q 0 = 0) ∧
      val p.1 + 18446744073709551616 ^ (i + p.2.2) * p.2.1 = val l0 + 18446744073709551616 ^ i * (x * val (b.take p.2.2))) _ ?_ (x := (l0, 0, 0))
    ⟨by simp, hl0, hB, by simp, hz, by simp [val]⟩ (by simp; omega)
  intro ⟨l, c, j⟩ ⟨h1, h2, h3, h4, h5, h6⟩
  simp only at h1 h2 h3 h4 h5 h6
  by_cases h0 : j < b.length
  · left
    have hj : (0 : Int) ≤ j := by omega
    have hj' : (j : Int) < b.length := by omega
    have hel := fun s => elemP_S (s := s) h' hj hj'
    have hto : ((j : Int)).toNat = j := by omega
    rw [hto] at hel
    have hy := h'.getD j
    have htk := getD_take_val b j
    have hpl : i + j < l.length := by omega
    have hat := at_nums hpl
    have hat' : List.take 1 (List.drop (i + j) (l.map fun n : Nat => V.d (.int .u64 (n : Int)))) = [V.d (.int .u64 ((l.getD (i + j) 0 : Nat) : Int))] := by
      rw [← List.map_drop, ← List.map_take, hat]; rfl
    have hw : l.getD (i + j) 0 < 18446744073709551616 := by
      rw [List.getD_eq_getElem?_getD, List.getElem?_eq_getElem hpl]; exact h3 _ (List.getElem_mem _)
    have hput := fun v => val_put (v := v) hpl
    generalize b.getD j 0 = y at *
    generalize l.getD (i + j) 0 = w at *
    have e1 := (r_mul64 hx hy).c2
    have hxy : x * y ≤ 18446744073709551615 * 18446744073709551615 := Nat.mul_le_mul (by omega) (by omega)
    generalize hq : x * y = q at *
    obtain ⟨hi1, hhi⟩ : ∃ m, m = q / 18446744073709551616 := ⟨_, rfl⟩
    obtain ⟨lo, hlo⟩ : ∃ m, m = q % 18446744073709551616 := ⟨_, rfl⟩
    rw [← hhi, ← hlo] at e1
    obtain ⟨lo1, hlo1⟩ : ∃ m, m = (lo + w) % 18446744073709551616 := ⟨_, rfl⟩
    obtain ⟨o1, ho1⟩ : ∃ m, m = (lo + w) / 18446744073709551616 := ⟨_, rfl⟩
    obtain ⟨lo2, hlo2⟩ : ∃ m, m = (lo1 + c) % 18446744073709551616 := ⟨_, rfl⟩
    obtain ⟨o2, ho2⟩ : ∃ m, m = (lo1 + c) / 18446744073709551616 := ⟨_, rfl⟩
    have f1 : ((lo : Int) + (w : Int)) % 18446744073709551616 = (lo1 : Int) := by omega
    have f2 : ((lo : Int) + (w : Int)) / 18446744073709551616 = (o1 : Int) := by omega
    have f3 : ((lo1 : Int) + (c : Int)) % 18446744073709551616 = (lo2 : Int) := by omega
    have f4 : ((lo1 : Int) + (c : Int)) / 18446744073709551616 = (o2 : Int) := by omega
    have hb1 : hi1 + o1 < 18446744073709551616 := by omega
    have hb2 : hi1 + o1 + o2 < 18446744073709551616 := by omega
    have htot : lo2 + 18446744073709551616 * (hi1 + o1 + o2) = q + w + c := by omega
    have g1 := b_add hb1
    have g2 := b_add hb2
    have hlo2' : lo2 < 18446744073709551616 := by omega
    generalize hi1 + o1 = r1 at *
    generalize r1 + o2 = c' at *
    have p1 : (0 : Int) ≤ lo := by omega
    have p2 : (0 : Int) ≤ w := by omega
    have p3 : (0 : Int) ≤ lo1 := by omega
    have p4 : (0 : Int) ≤ c := by omega
    have p5 : (0 : Int) ≤ (i : Int) + j := by omega
    have p6 : (i : Int) + j < n := by omega
    have p7 : ((i : Int) + (j : Int)).toNat = i + j := by omega
    have p8 : i + j + 1 ≤ n := by omega
    have hval : val (l.take (i + j) ++ lo2 :: l.drop (i + j + 1)) + 18446744073709551616 ^ (i + (j + 1)) * c' = val l0 + 18446744073709551616 ^ i * (x * val (b.take (j + 1))) := by
      have e2 := hput lo2
      have e5 : x * (val (b.take j) + 18446744073709551616 ^ j * y) = x * val (b.take j) + 18446744073709551616 ^ j * q := by
        rw [Nat.mul_add, Nat.mul_left_comm, hq]
      rw [htk, e5, Nat.mul_add, ← Nat.mul_assoc (18446744073709551616 ^ i) (18446744073709551616 ^ j) q, ← Nat.pow_add, ← Nat.add_assoc i j 1, Nat.pow_succ]
      generalize 18446744073709551616 ^ (i + j) = z at *
      have e3 : z * (lo2 + 18446744073709551616 * c') = z * (q + w + c) := by rw [htot]
      simp only [Nat.mul_add, ← Nat.mul_assoc] at e3
      omega
    have hlen := length_put (v := lo2) hpl
    refine ⟨_, (l.take (i + j) ++ lo2 :: l.drop (i + j + 1), c', j + 1), by simp (disch := omega) [body, g_seq, g_ops, g_cond, g_block, g_scope, g_skip, g_label, g_ret, g_exit, steps, step1, run1, o, u, og, ug, put, Opd.ev, cl_int, cl_bool, cl_nil, cl_sl, cl_agg, cl_vagg, cl_rs, cl_sp, cl_lp, cl_dfn, cl_nilFn, cl_fn, cl_str, cells_S, noLps, noLp, addP, St.load, St.store, splice, cut, mkV, allD, V.astray, V.far, V.near, answer, resAll, resOne, una, intOf?, fnOf, maxD_int, minD_int, foldD, fillG, canon, keepBoxes, keepLive, List.getElem?_cons_zero, List.getElem?_cons_succ, Option.getD_some, g18_b0, rg, mulAt, hel, e1, f1, f2, f3, f4, g1, g2, p1, p2, p3, p4, p5, p6, p7, p8, b_lss, b_add64, w64, elemP_rs, h2, hat, hat', h0]; rfl, by simp (disch := omega) [body, g_seq, g_ops, g_cond, g_block, g_scope, g_skip, g_label, g_ret, g_exit, steps, step1, run1, o, u, og, ug, put, Opd.ev, cl_int, cl_bool, cl_nil, cl_sl, cl_agg, cl_vagg, cl_rs, cl_sp, cl_lp, cl_dfn, cl_nilFn, cl_fn, cl_str, cells_S, noLps, noLp, addP, St.load, St.store, splice, cut, mkV, allD, V.astray, V.far, V.near, answer, resAll, resOne, una, intOf?, fnOf, maxD_int, minD_int, foldD, fillG, canon, keepBoxes, keepLive, List.getElem?_cons_zero, List.getElem?_cons_succ, Option.getD_some, rg, mulAt, w64], ⟨show j + 1 ≤ b.length by omega, hlen.trans h2, mem_put h3 hlo2', show c' < 18446744073709551616 by omega, ?_, hval⟩, by show b.length - (j + 1) < b.length - j; omega⟩
    intro q' hq'
    have := getD_put (v := lo2) (p := q') hpl
    rw [this, if_neg (by omega)]
    exact h5 q' hq'
  · right
    have hjb : j = b.length := by omega
    subst hjb
    refine ⟨.brk 2, _, mulEnd k k' a b n i c l, by simp [body, g_seq, g_ops, g_cond, g_block, g_scope, g_skip, g_label, g_ret, g_exit, steps, step1, run1, o, u, og, ug, put, Opd.ev, cl_int, cl_bool, cl_nil, cl_sl, cl_agg, cl_vagg, cl_rs, cl_sp, cl_lp, cl_dfn, cl_nilFn, cl_fn, cl_str, cells_S, noLps, noLp, addP, St.load, St.store, splice, cut, mkV, allD, V.astray, V.far, V.near, answer, resAll, resOne, una, intOf?, fnOf, maxD_int, minD_int, foldD, fillG, canon, keepBoxes, keepLive, List.getElem?_cons_zero, List.getElem?_cons_succ, Option.getD_some, g18_b0, rg, mulAt, b_lss]; rfl, by simp, by simp [body, g_seq, g_ops, g_cond, g_block, g_scope, g_skip, g_label, g_ret, g_exit, steps, step1, run1, o, u, og, ug, put, Opd.ev, cl_int, cl_bool, cl_nil, cl_sl, cl_agg, cl_vagg, cl_rs, cl_sp, cl_lp, cl_dfn, cl_nilFn, cl_fn, cl_str, cells_S, noLps, noLp, addP, St.load, St.store, splice, cut, mkV, allD, V.astray, V.far, V.near, answer, resAll, resOne, una, intOf?, fnOf, maxD_int, minD_int, foldD, fillG, canon, keepBoxes, keepLive, List.getElem?_cons_zero, List.getElem?_cons_succ, Option.getD_some, rg, mulEnd], rfl, l, c, h2, h3, h4, h5, ?_, rfl⟩
    rw [h6, List.take_length]
end
end Go.Proofs.Try
