/-
  Package nat, function by function (2): copies, numbers in their least form, what fits a cap.
-/
import Derived.Test.YtlkhddnagmmepaaNa
namespace Go.Proofs.Try
open Go.Gm
set_option maxHeartbeats 2000000
set_option linter.unusedSimpArgs false
set_option linter.unusedVariables false

/-- Without the zeros at the end. -/
def trim (l : List Nat) : List Nat := (l.reverse.dropWhile (· == 0)).reverse
theorem trim_zero {l : List Nat} (h : 0 < l.length) (h0 : l.getD (l.length - 1) 0 = 0) : trim (l.take (l.length - 1)) = trim l := by
  obtain ⟨r, x, rfl⟩ : ∃ r x, l = r ++ [x] := ⟨l.dropLast, l.getLast (by intro e; simp [e] at h), (List.dropLast_concat_getLast _).symm⟩
  simp at h0
  subst h0
  simp [trim]
theorem trim_id {l : List Nat} (h : 0 < l.length) (h0 : l.getD (l.length - 1) 0 ≠ 0) : trim l = l := by
  obtain ⟨r, x, rfl⟩ : ∃ r x, l = r ++ [x] := ⟨l.dropLast, l.getLast (by intro e; simp [e] at h), (List.dropLast_concat_getLast _).symm⟩
  simp at h0
  simp [trim, h0]
theorem trim_nil : trim [] = [] := rfl
theorem trim_length (l : List Nat) : (trim l).length ≤ l.length := by
  have := (List.dropWhile_sublist (fun x : Nat => x == 0) (l := l.reverse)).length_le
  simpa [trim] using this
theorem trim_mem {l : List Nat} {n : Nat} (h : n ∈ trim l) : n ∈ l := by
  have := (List.dropWhile_sublist (fun x : Nat => x == 0) (l := l.reverse)).subset (List.mem_reverse.1 h)
  simpa using this
theorem val_append (a b : List Nat) : val (a ++ b) = val a + 18446744073709551616 ^ a.length * val b := by
  induction a with
  | nil => simp [val]
  | cons x r ih =>
    simp only [List.cons_append, val, ih, List.length_cons, Nat.pow_succ, Nat.mul_add]
    rw [← Nat.mul_assoc, Nat.mul_comm 18446744073709551616 (18446744073709551616 ^ r.length)]
    omega
theorem val_trim (l : List Nat) : val (trim l) = val l := by
  have key : ∀ l : List Nat, val ((l.dropWhile (· == 0)).reverse) = val l.reverse := by
    intro l
    induction l with
    | nil => rfl
    | cons x r ih =>
      by_cases h : x = 0
      · subst h
        simp [ih, val_append, val]
      · simp [List.dropWhile_cons, h]
  simpa [trim] using key l.reverse
/-- No zero at the end. -/
def Norm (l : List Nat) : Prop := trim l = l
theorem trim_trim (l : List Nat) : Norm (trim l) := by
  unfold Norm trim
  simp only [List.reverse_reverse]
  congr 1
  generalize l.reverse = m
  induction m with
  | nil => rfl
  | cons x r ih =>
    by_cases h : x = 0
    · simp [h, ih]
    · simp [List.dropWhile_cons, h]

section
variable {k k' : Option Bool} {a b : List Nat}
theorem r_clone (h : Fit k a) (hl : a.length < 1000000) : ∃ k', Fit k' a ∧ Ret table 57 [S k a] (S k' a) := by
  cases k with
  | none =>
    have := h.1 rfl
    subst this
    refine ⟨Option.none, fit_nil, Ret.ofD 1 (g := g57) rfl ⟨[], ?_⟩⟩
    simp [body, g_seq, g_ops, g_cond, g_block, g_scope, g_skip, g_label, g_ret, g_exit, steps, step1, run1, o, u, og, ug, put, Opd.ev, cl_int, cl_bool, cl_nil, cl_sl, cl_agg, cl_vagg, cl_rs, cl_sp, cl_lp, cl_dfn, cl_nilFn, cl_fn, cl_str, cells_S, noLps, noLp, addP, St.load, St.store, splice, cut, mkV, allD, V.astray, V.far, V.near, answer, resAll, resOne, bin, una, intOf?, fnOf, maxD_int, minD_int, foldD, fillG, canon, keepBoxes, keepLive, List.getElem?_cons_zero, List.getElem?_cons_succ, Option.getD_some, g57, nilV_S]
    rfl
  | some f =>
    by_cases h0 : a = []
    · subst h0
      refine ⟨some true, ⟨nofun, h.2⟩, Ret.ofD 1 (g := g57) rfl ⟨[], ?_⟩⟩
      simp [body, g_seq, g_ops, g_cond, g_block, g_scope, g_skip, g_label, g_ret, g_exit, steps, step1, run1, o, u, og, ug, put, Opd.ev, cl_int, cl_bool, cl_nil, cl_sl, cl_agg, cl_vagg, cl_rs, cl_sp, cl_lp, cl_dfn, cl_nilFn, cl_fn, cl_str, cells_S, noLps, noLp, addP, St.load, St.store, splice, cut, mkV, allD, V.astray, V.far, V.near, answer, resAll, resOne, bin, una, intOf?, fnOf, maxD_int, minD_int, foldD, fillG, canon, keepBoxes, keepLive, List.getElem?_cons_zero, List.getElem?_cons_succ, Option.getD_some, g57, nilV_S, rowOf_S h, lenV_S h, appendV, chunk]
      rfl
    · have h1 : a.length ≠ 0 := by simpa using h0
      refine ⟨some false, ⟨nofun, h.2⟩, Ret.of 1 (g := g57) rfl ⟨.rs 0 0 a.length, [⟨a.map fun n : Nat => V.d (.int .u64 (n : Int)), 1, 26, false⟩], _, ?_, toD_block rfl⟩⟩
      have h2 : a.length * 8 ≤ 140737488355328 := by omega
      have h3 : a.length ≤ 9223372036854775807 := by omega
      simp [body, g_seq, g_ops, g_cond, g_block, g_scope, g_skip, g_label, g_ret, g_exit, steps, step1, run1, o, u, og, ug, put, Opd.ev, cl_int, cl_bool, cl_nil, cl_sl, cl_agg, cl_vagg, cl_rs, cl_sp, cl_lp, cl_dfn, cl_nilFn, cl_fn, cl_str, cells_S, noLps, noLp, addP, St.load, St.store, splice, cut, mkV, allD, V.astray, V.far, V.near, answer, resAll, resOne, bin, una, intOf?, fnOf, maxD_int, minD_int, foldD, fillG, canon, keepBoxes, keepLive, List.getElem?_cons_zero, List.getElem?_cons_succ, Option.getD_some, g57, nilV_S, rowOf_S h, lenV_S h, appendV, chunk, h0, noLps_nums, h2, h3]

theorem r_all (h : Fit k a) (hl : a.length < 1000000) : ∃ k', Fit k' a ∧ Ret table 69 [N k a] (S k' a) := by
  obtain ⟨k', h1, h2⟩ := r_clone h hl
  refine ⟨k', h1, Ret.ofD 1 (g := g69) rfl ⟨[], ?_⟩⟩
  simp [body, g_seq, g_ops, g_cond, g_block, g_scope, g_skip, g_label, g_ret, g_exit, steps, step1, run1, o, u, og, ug, put, Opd.ev, cl_int, cl_bool, cl_nil, cl_sl, cl_agg, cl_vagg, cl_rs, cl_sp, cl_lp, cl_dfn, cl_nilFn, cl_fn, cl_str, cells_S, noLps, noLp, addP, St.load, St.store, splice, cut, mkV, allD, V.astray, V.far, V.near, answer, resAll, resOne, bin, una, intOf?, fnOf, maxD_int, minD_int, foldD, fillG, canon, keepBoxes, keepLive, List.getElem?_cons_zero, List.getElem?_cons_succ, Option.getD_some, g69, cells_S, h2.c1]

theorem r_limbs (h : Fit k a) (hl : a.length < 1000000) : ∃ k', Fit k' (trim a) ∧ Ret table 36 [S k a] (N k' (trim a)) := by
  have hloop : ∃ e s', (e = .brk 0 ∧ ∃ k', Fit k' (trim a) ∧ s' = ⟨rg 23 [(0, .d (S k' (trim a))), (2, .lp 0 0)], [[.d .nilSl]], []⟩) ∧
      ∀ s, canon [2] [0] s = some ⟨rg 23 [(0, .d (S k a)), (2, .lp 0 0)], [[.d .nilSl]], []⟩ → gcode (lim table) 2000000 g36_l0 s = some (e, s') := by
    refine loop_rule (fun p : Option Bool × List Nat => ⟨rg 23 [(0, .d (S p.1 p.2)), (2, .lp 0 0)], [[.d .nilSl]], []⟩) (fun p => p.2.length)
      (fun p => Fit p.1 p.2 ∧ trim p.2 = trim a ∧ p.2.length < 1000000) _ ?_ (x := (k, a)) ⟨h, rfl, hl⟩ (by simp; omega)
    intro ⟨k1, l⟩ ⟨h1, h2, h3⟩
    simp only at h1 h2 h3
    by_cases h0 : 0 < l.length
    · have hi0 : (0 : Int) ≤ l.length - 1 := by omega
      have hi1 : (l.length - 1 : Int) < l.length := by omega
      have hi2 : (l.length - 1 : Int) ≤ l.length := by omega
      have hto : (l.length - 1 : Int).toNat = l.length - 1 := by omega
      have hel := fun s => elemP_S (s := s) h1 hi0 hi1
      rw [hto] at hel
      have hsl := sliceV_S h1 hi0 hi2
      rw [hto] at hsl
      have hpos : (0 : Int) < l.length := by omega
      generalize hx : l.getD (l.length - 1) 0 = x at hel
      by_cases hz : x = 0
      · left
        subst hz
        have hf : Fit (k1.map fun f => f && ((l.length - 1 : Int) == l.length)) (l.take (l.length - 1)) := h1.take _ (by cases k1 <;> simp)
        exact ⟨_, (k1.map fun f => f && ((l.length - 1 : Int) == l.length), l.take (l.length - 1)), by simp (disch := omega) [body, g_seq, g_ops, g_cond, g_block, g_scope, g_skip, g_label, g_ret, g_exit, steps, step1, run1, o, u, og, ug, put, Opd.ev, cl_int, cl_bool, cl_nil, cl_sl, cl_agg, cl_vagg, cl_rs, cl_sp, cl_lp, cl_dfn, cl_nilFn, cl_fn, cl_str, cells_S, noLps, noLp, addP, St.load, St.store, splice, cut, mkV, allD, V.astray, V.far, V.near, answer, resAll, resOne, bin, una, intOf?, fnOf, maxD_int, minD_int, foldD, fillG, canon, keepBoxes, keepLive, List.getElem?_cons_zero, List.getElem?_cons_succ, Option.getD_some, g36_b0, rg, lenV_S h1, hel, hsl, w64, hpos, h0]; rfl,
          by simp [body, g_seq, g_ops, g_cond, g_block, g_scope, g_skip, g_label, g_ret, g_exit, steps, step1, run1, o, u, og, ug, put, Opd.ev, cl_int, cl_bool, cl_nil, cl_sl, cl_agg, cl_vagg, cl_rs, cl_sp, cl_lp, cl_dfn, cl_nilFn, cl_fn, cl_str, cells_S, noLps, noLp, addP, St.load, St.store, splice, cut, mkV, allD, V.astray, V.far, V.near, answer, resAll, resOne, bin, una, intOf?, fnOf, maxD_int, minD_int, foldD, fillG, canon, keepBoxes, keepLive, List.getElem?_cons_zero, List.getElem?_cons_succ, Option.getD_some, rg], ⟨hf, (trim_zero h0 hx).trans h2, by simp; omega⟩, by simp; omega⟩
      · right
        refine ⟨.brk 0, _, ⟨rg 23 [(0, .d (S k1 l)), (2, .lp 0 0)], [[.d .nilSl]], []⟩, by simp (disch := omega) [body, g_seq, g_ops, g_cond, g_block, g_scope, g_skip, g_label, g_ret, g_exit, steps, step1, run1, o, u, og, ug, put, Opd.ev, cl_int, cl_bool, cl_nil, cl_sl, cl_agg, cl_vagg, cl_rs, cl_sp, cl_lp, cl_dfn, cl_nilFn, cl_fn, cl_str, cells_S, noLps, noLp, addP, St.load, St.store, splice, cut, mkV, allD, V.astray, V.far, V.near, answer, resAll, resOne, bin, una, intOf?, fnOf, maxD_int, minD_int, foldD, fillG, canon, keepBoxes, keepLive, List.getElem?_cons_zero, List.getElem?_cons_succ, Option.getD_some, g36_b0, rg, lenV_S h1, hel, hsl, w64, hpos, h0, hz]; rfl, by simp, by simp [body, g_seq, g_ops, g_cond, g_block, g_scope, g_skip, g_label, g_ret, g_exit, steps, step1, run1, o, u, og, ug, put, Opd.ev, cl_int, cl_bool, cl_nil, cl_sl, cl_agg, cl_vagg, cl_rs, cl_sp, cl_lp, cl_dfn, cl_nilFn, cl_fn, cl_str, cells_S, noLps, noLp, addP, St.load, St.store, splice, cut, mkV, allD, V.astray, V.far, V.near, answer, resAll, resOne, bin, una, intOf?, fnOf, maxD_int, minD_int, foldD, fillG, canon, keepBoxes, keepLive, List.getElem?_cons_zero, List.getElem?_cons_succ, Option.getD_some, rg], rfl, k1, ?_⟩
        · rw [← h2, trim_id h0 (by rw [hx]; exact hz)]
          exact ⟨h1, rfl⟩
    · right
      have : l = [] := by cases l with | nil => rfl | cons _ _ => simp at h0
      subst this
      refine ⟨.brk 0, _, ⟨rg 23 [(0, .d (S k1 [])), (2, .lp 0 0)], [[.d .nilSl]], []⟩, by simp [body, g_seq, g_ops, g_cond, g_block, g_scope, g_skip, g_label, g_ret, g_exit, steps, step1, run1, o, u, og, ug, put, Opd.ev, cl_int, cl_bool, cl_nil, cl_sl, cl_agg, cl_vagg, cl_rs, cl_sp, cl_lp, cl_dfn, cl_nilFn, cl_fn, cl_str, cells_S, noLps, noLp, addP, St.load, St.store, splice, cut, mkV, allD, V.astray, V.far, V.near, answer, resAll, resOne, bin, una, intOf?, fnOf, maxD_int, minD_int, foldD, fillG, canon, keepBoxes, keepLive, List.getElem?_cons_zero, List.getElem?_cons_succ, Option.getD_some, g36_b0, rg, lenV_S h1]; rfl, by simp, by simp [body, g_seq, g_ops, g_cond, g_block, g_scope, g_skip, g_label, g_ret, g_exit, steps, step1, run1, o, u, og, ug, put, Opd.ev, cl_int, cl_bool, cl_nil, cl_sl, cl_agg, cl_vagg, cl_rs, cl_sp, cl_lp, cl_dfn, cl_nilFn, cl_fn, cl_str, cells_S, noLps, noLp, addP, St.load, St.store, splice, cut, mkV, allD, V.astray, V.far, V.near, answer, resAll, resOne, bin, una, intOf?, fnOf, maxD_int, minD_int, foldD, fillG, canon, keepBoxes, keepLive, List.getElem?_cons_zero, List.getElem?_cons_succ, Option.getD_some, rg], rfl, k1, ?_⟩
      · rw [← h2, trim_nil]
        exact ⟨h1, rfl⟩
  obtain ⟨e, s', ⟨rfl, k1, h1, rfl⟩, h2⟩ := hloop
  obtain ⟨k2, h3, h4⟩ := r_clone h1 (Nat.lt_of_le_of_lt (trim_length a) hl)
  refine ⟨k2, h3, Ret.ofD 2000000 (g := g36) rfl ⟨[], ?_⟩⟩
  simp [body, g_seq, g_ops, g_cond, g_block, g_scope, g_skip, g_label, g_ret, g_exit, steps, step1, run1, o, u, og, ug, put, Opd.ev, cl_int, cl_bool, cl_nil, cl_sl, cl_agg, cl_vagg, cl_rs, cl_sp, cl_lp, cl_dfn, cl_nilFn, cl_fn, cl_str, cells_S, noLps, noLp, addP, St.load, St.store, splice, cut, mkV, allD, V.astray, V.far, V.near, answer, resAll, resOne, bin, una, intOf?, fnOf, maxD_int, minD_int, foldD, fillG, canon, keepBoxes, keepLive, List.getElem?_cons_zero, List.getElem?_cons_succ, Option.getD_some, g36]
  rw [h2]
  · simp [body, g_seq, g_ops, g_cond, g_block, g_scope, g_skip, g_label, g_ret, g_exit, steps, step1, run1, o, u, og, ug, put, Opd.ev, cl_int, cl_bool, cl_nil, cl_sl, cl_agg, cl_vagg, cl_rs, cl_sp, cl_lp, cl_dfn, cl_nilFn, cl_fn, cl_str, cells_S, noLps, noLp, addP, St.load, St.store, splice, cut, mkV, allD, V.astray, V.far, V.near, answer, resAll, resOne, bin, una, intOf?, fnOf, maxD_int, minD_int, foldD, fillG, canon, keepBoxes, keepLive, List.getElem?_cons_zero, List.getElem?_cons_succ, Option.getD_some, rg, h4.c1, cells_S]
  · simp [body, g_seq, g_ops, g_cond, g_block, g_scope, g_skip, g_label, g_ret, g_exit, steps, step1, run1, o, u, og, ug, put, Opd.ev, cl_int, cl_bool, cl_nil, cl_sl, cl_agg, cl_vagg, cl_rs, cl_sp, cl_lp, cl_dfn, cl_nilFn, cl_fn, cl_str, cells_S, noLps, noLp, addP, St.load, St.store, splice, cut, mkV, allD, V.astray, V.far, V.near, answer, resAll, resOne, bin, una, intOf?, fnOf, maxD_int, minD_int, foldD, fillG, canon, keepBoxes, keepLive, List.getElem?_cons_zero, List.getElem?_cons_succ, Option.getD_some, rg]
end
end Go.Proofs.Try
