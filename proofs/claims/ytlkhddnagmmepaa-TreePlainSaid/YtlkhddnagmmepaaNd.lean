/-
  Package nat, function by function (4): products.
-/
import Derived.Test.YtlkhddnagmmepaaNc
import Derived.Lib.Mul64
namespace Go.Proofs.Try
open Go.Gm
set_option maxHeartbeats 4000000
set_option linter.unusedSimpArgs false
set_option linter.unusedVariables false

theorem b_and32 {x : Nat} (hx : x < 18446744073709551616) : bin .and (.int .u64 (x : Int)) (.int .u64 4294967295) = some (.int .u64 ((x % 4294967296 : Nat) : Int)) := by
  have h : (BitVec.ofInt 64 (x : Int) &&& BitVec.ofInt 64 4294967295).toNat = x % 4294967296 := by
    have h1 : (BitVec.ofInt 64 (x : Int)).toNat = x := by simp; omega
    have h2 : (BitVec.ofInt 64 4294967295).toNat = 2 ^ 32 - 1 := by decide
    rw [BitVec.toNat_and, h1, h2, Nat.and_two_pow_sub_one_eq_mod]
  have hw : IntKind.u64.wrap ((x % 4294967296 : Nat) : Int) = ((x % 4294967296 : Nat) : Int) := wu64 (by omega) (by omega)
  simp only [bin, IntKind.bits, ne_eq, not_true_eq_false, if_false]
  erw [h, hw]
theorem b_shr32 {x : Nat} : bin .shr (.int .u64 (x : Int)) (.int .u64 32) = some (.int .u64 ((x / 4294967296 : Nat) : Int)) := by
  have h : (x : Int).fdiv 4294967296 = ((x / 4294967296 : Nat) : Int) := by
    rw [Int.fdiv_eq_ediv_of_nonneg _ (by decide)]; rfl
  simp [bin, IntKind.bits, h]
theorem b_mul {x y : Nat} (h : x * y < 18446744073709551616) : bin .mul (.int .u64 (x : Int)) (.int .u64 (y : Int)) = some (.int .u64 ((x * y : Nat) : Int)) := by
  have : IntKind.u64.wrap ((x * y : Nat) : Int) = ((x * y : Nat) : Int) := wu64 (by omega) (by omega)
  simp only [bin, ne_eq, not_true_eq_false, if_false, ← Int.natCast_mul, this]
theorem b_mulw {x y : Nat} : bin .mul (.int .u64 (x : Int)) (.int .u64 (y : Int)) = some (.int .u64 ((x * y % 18446744073709551616 : Nat) : Int)) := by
  have : IntKind.u64.wrap ((x * y : Nat) : Int) = ((x * y % 18446744073709551616 : Nat) : Int) := by
    rw [IntKind.wrap_u64]; omega
  simp only [bin, ne_eq, not_true_eq_false, if_false, ← Int.natCast_mul, this]
theorem b_add {x y : Nat} (h : x + y < 18446744073709551616) : bin .add (.int .u64 (x : Int)) (.int .u64 (y : Int)) = some (.int .u64 ((x + y : Nat) : Int)) := by
  have : IntKind.u64.wrap ((x + y : Nat) : Int) = ((x + y : Nat) : Int) := wu64 (by omega) (by omega)
  simp only [bin, ne_eq, not_true_eq_false, if_false, ← Int.natCast_add, this]

theorem r_mul64 {x y : Nat} (hx : x < 18446744073709551616) (hy : y < 18446744073709551616) :
    Ret table 41 [.int .u64 (x : Int), .int .u64 (y : Int)] (.tup [.int .u64 ((x * y / 18446744073709551616 : Nat) : Int), .int .u64 ((x * y % 18446744073709551616 : Nat) : Int)]) := by
  obtain ⟨q1, q2, q3, q4⟩ := Lib.mul64_hi x y hx hy
  have hx0 : x % 4294967296 < 4294967296 := Nat.mod_lt _ (by decide)
  have hy0 : y % 4294967296 < 4294967296 := Nat.mod_lt _ (by decide)
  have m1 := b_and32 hx
  have m2 := b_and32 hy
  have m3 := b_shr32 (x := x)
  have m4 := b_shr32 (x := y)
  have m5 := b_mulw (x := x) (y := y)
  have hx1 : x / 4294967296 < 4294967296 := by omega
  have hy1 : y / 4294967296 < 4294967296 := by omega
  generalize x % 4294967296 = x0 at *
  generalize y % 4294967296 = y0 at *
  generalize x / 4294967296 = x1 at *
  generalize y / 4294967296 = y1 at *
  have hb : x1 * y0 < 18446744073709551616 := Nat.lt_of_le_of_lt (Nat.mul_le_mul (Nat.le_of_lt_succ hx1) (Nat.le_of_lt_succ hy0)) (by decide)
  have hc : x0 * y1 < 18446744073709551616 := Nat.lt_of_le_of_lt (Nat.mul_le_mul (Nat.le_of_lt_succ hx0) (Nat.le_of_lt_succ hy1)) (by decide)
  have hd : x1 * y1 < 18446744073709551616 := Nat.lt_of_le_of_lt (Nat.mul_le_mul (Nat.le_of_lt_succ hx1) (Nat.le_of_lt_succ hy1)) (by decide)
  have hd' : x1 * y1 ≤ 18446744065119617025 := Nat.mul_le_mul (Nat.le_of_lt_succ hx1) (Nat.le_of_lt_succ hy1)
  have hq : x * y / 18446744073709551616 < 18446744073709551616 := by
    have : x * y ≤ 18446744073709551615 * 18446744073709551615 := Nat.mul_le_mul (by omega) (by omega)
    omega
  have n1 := b_mul q1
  have n2 := b_mul hb
  have n3 := b_mul hc
  have n4 := b_mul hd
  have n5 := b_shr32 (x := x0 * y0)
  have n6 := b_add q2
  have n7 := b_and32 q2
  have n8 := b_shr32 (x := x1 * y0 + x0 * y0 / 4294967296)
  have n9 := b_add q3
  have n10 := b_shr32 (x := (x1 * y0 + x0 * y0 / 4294967296) % 4294967296 + x0 * y1)
  rw [← q4] at hq
  have n11 := b_add (x := x1 * y1) (y := (x1 * y0 + x0 * y0 / 4294967296) / 4294967296) (by omega)
  have n12 := b_add hq
  rw [← q4]
  refine Ret.ofD 1 (g := g41) rfl ⟨[], ?_⟩
  simp only [List.map_cons, List.map_nil]
  generalize x0 * y0 = A at *
  generalize x1 * y0 = B at *
  generalize x0 * y1 = C at *
  generalize x1 * y1 = E at *
  generalize A / 4294967296 = A1 at *
  generalize B + A1 = F at *
  generalize F % 4294967296 = F0 at *
  generalize F / 4294967296 = F1 at *
  generalize F0 + C = G at *
  generalize G / 4294967296 = G1 at *
  generalize E + F1 = H at *
  generalize H + G1 = I at *
  generalize x * y % 18446744073709551616 = J at *
  simp [body, g_seq, g_ops, g_cond, g_block, g_scope, g_skip, g_label, g_ret, g_exit, steps, step1, run1, o, u, og, ug, put, Opd.ev, cl_int, cl_bool, cl_nil, cl_sl, cl_agg, cl_vagg, cl_rs, cl_sp, cl_lp, cl_dfn, cl_nilFn, cl_fn, cl_str, cells_S, noLps, noLp, addP, St.load, St.store, splice, cut, mkV, allD, V.astray, V.far, V.near, answer, resAll, resOne, una, intOf?, fnOf, maxD_int, minD_int, foldD, fillG, canon, keepBoxes, keepLive, List.getElem?_cons_zero, List.getElem?_cons_succ, Option.getD_some, g41, m1, m2, m3, m4, m5, n1, n2, n3, n4, n5, n6, n7, n8, n9, n10, n11, n12]

/-! ### one place of a block of numbers -/
theorem at_nums {l : List Nat} {i : Nat} (h : i < l.length) : List.take 1 (List.drop i l) = [l.getD i 0] := by
  rw [List.drop_eq_getElem_cons h, List.take_succ_cons, List.take_zero]
  simp [h]
theorem val_put {l : List Nat} {i v : Nat} (h : i < l.length) : val (l.take i ++ v :: l.drop (i + 1)) + 18446744073709551616 ^ i * l.getD i 0 = val l + 18446744073709551616 ^ i * v := by
  have h1 : val l = val (l.take i) + 18446744073709551616 ^ i * val (l.drop i) := by
    conv => lhs; rw [← List.take_append_drop i l]
    rw [val_append]
    simp [Nat.min_eq_left (Nat.le_of_lt h)]
  rw [val_append, h1, val_drop l i]
  simp only [val, List.length_take, Nat.min_eq_left (Nat.le_of_lt h), Nat.mul_add]
  omega
theorem getD_put {l : List Nat} {i v p : Nat} (h : i < l.length) : (l.take i ++ v :: l.drop (i + 1)).getD p 0 = if p = i then v else l.getD p 0 := by
  have : l.take i ++ v :: l.drop (i + 1) = l.set i v := by rw [List.set_eq_take_append_cons_drop]; simp [h]
  rw [this, List.getD_eq_getElem?_getD, List.getElem?_set]
  by_cases hp : p = i
  · subst hp; simp [h]
  · simp [hp, Ne.symm hp]
theorem length_put {l : List Nat} {i v : Nat} (h : i < l.length) : (l.take i ++ v :: l.drop (i + 1)).length = l.length := by
  simp; omega
theorem mem_put {l : List Nat} {i v B : Nat} (hl : ∀ n ∈ l, n < B) (hv : v < B) : ∀ n ∈ l.take i ++ v :: l.drop (i + 1), n < B := by
  intro n hn
  rcases List.mem_append.1 hn with q | q
  · exact hl n (List.mem_of_mem_take q)
  · rcases List.mem_cons.1 q with q | q
    · omega
    · exact hl n (List.mem_of_mem_drop q)

end Go.Proofs.Try
