/-
  Package tree, function by function (4): counts.
-/
import Derived.Test.YtlkhddnagmmepaaTb
namespace Go.Proofs.Try
open Go.Gm
set_option maxHeartbeats 4000000
set_option maxRecDepth 10000
set_option linter.unusedSimpArgs false
set_option linter.unusedVariables false

/-- A count. -/
abbrev Ct (top : Bool) (kn : Option Bool) (n : List Nat) (kt : Option Bool) (t : List Nat) : D := .agg [.bool top, S kn n, S kt t]
/-- The count that is not known. -/
abbrev CtTop : D := Ct true Option.none [] Option.none []

/-- What a count says: nothing, or both numbers. -/
def Rep (c : Nat) : Option (Nat × Nat) → D → Prop
  | Option.none, d => d = CtTop
  | some (v, w), d => ∃ kn n kt t, d = Ct false kn n kt t ∧ Fit kn n ∧ Fit kt t ∧ n.length ≤ c ∧ t.length ≤ c ∧ Norm t ∧ val n = v ∧ val t = w

theorem norm_nil {l : List Nat} (h : Norm l) (h0 : val l = 0) : l = [] := by
  rcases Nat.eq_zero_or_pos l.length with h1 | h1
  · simpa using h1
  · exfalso
    have h2 := norm_len h (by omega)
    match l, h1, h2 with
    | [x], _, _ =>
      simp [val] at h0
      subst h0
      simp [Norm, trim] at h
theorem norm_le {l : List Nat} (h : Norm l) {c : Nat} (hv : val l < 18446744073709551616 ^ c) : l.length ≤ c := by
  rcases Nat.lt_or_ge c l.length with h1 | h1
  · exfalso
    have hpos : 0 < l.length := by omega
    obtain ⟨r, x, rfl⟩ : ∃ r x, l = r ++ [x] := ⟨l.dropLast, l.getLast (by intro e; simp [e] at hpos), (List.dropLast_concat_getLast _).symm⟩
    have hx : x ≠ 0 := by
      rintro rfl
      have := trim_zero (l := r ++ [0]) (by simp) (by simp)
      rw [h] at this
      simp at this
      have h2 := trim_length r
      rw [this] at h2
      simp at h2
      omega
    rw [val_append] at hv
    simp only [List.length_append, List.length_cons, List.length_nil] at h1
    have h3 : 18446744073709551616 ^ c ≤ 18446744073709551616 ^ r.length := Nat.pow_le_pow_right (by decide) (by omega)
    have h2 : 18446744073709551616 ^ r.length * 1 ≤ 18446744073709551616 ^ r.length * val [x] := Nat.mul_le_mul_left _ (by simp [val]; omega)
    omega
  · exact h1
theorem val_len {l : List Nat} {k : Option Bool} (h : Fit k l) {c : Nat} (hl : l.length ≤ c) : val l < 18446744073709551616 ^ c :=
  Nat.lt_of_lt_of_le (val_bound h.2) (Nat.pow_le_pow_right (by decide) hl)

theorem r_top : Ret table 23 [] CtTop := by
  refine Ret.ofD 1 (g := g23) rfl ⟨[], ?_⟩
  simp [body, g_seq, g_ops, g_cond, g_block, g_scope, g_skip, g_label, g_ret, g_exit, steps, step1, run1, o, u, og, ug, put, Opd.ev, cl_int, cl_bool, cl_nil, cl_sl, cl_agg, cl_vagg, cl_rs, cl_sp, cl_lp, cl_dfn, cl_nilFn, cl_fn, cl_str, cells_S, noLps, noLp, addP, St.load, St.store, splice, cut, mkV, allD, V.astray, V.far, V.near, answer, resAll, resOne, una, intOf?, fnOf, maxD_int, minD_int, foldD, fillG, canon, keepBoxes, keepLive, List.getElem?_cons_zero, List.getElem?_cons_succ, Option.getD_some, g23, S_nil]
theorem r_ttop {d : Nat} {t : Tr} {c : Int} : Ret table 29 [t.d, .int .i64 c] CtTop := by
  refine Ret.ofD 1 (g := g29) rfl ⟨[], ?_⟩
  cases t
  simp [body, g_seq, g_ops, g_cond, g_block, g_scope, g_skip, g_label, g_ret, g_exit, steps, step1, run1, o, u, og, ug, put, Opd.ev, cl_int, cl_bool, cl_nil, cl_sl, cl_agg, cl_vagg, cl_rs, cl_sp, cl_lp, cl_dfn, cl_nilFn, cl_fn, cl_str, cells_S, noLps, noLp, addP, St.load, St.store, splice, cut, mkV, allD, V.astray, V.far, V.near, answer, resAll, resOne, una, intOf?, fnOf, maxD_int, minD_int, foldD, fillG, canon, keepBoxes, keepLive, List.getElem?_cons_zero, List.getElem?_cons_succ, Option.getD_some, g29, Tr.cells, cells_P, r_top.c0, S_nil]

section
variable {kn kt : Option Bool} {n t : List Nat} {c : Nat}
theorem r_held (hn : Fit kn n) (ht : Fit kt t) (hc : 1 ≤ c) :
    Ret table 45 [.int .i64 (c : Int), N kn n, N kt t] (if n.length ≤ c ∧ t.length ≤ c then Ct false kn n kt t else CtTop) := by
  have e1 := (r_fits hn (c := (c : Int))).c2
  have e2 := (r_fits ht (c := (c : Int))).c2
  have hm : max 0 (c : Int) = c := by omega
  rw [hm] at e1 e2
  by_cases h1 : n.length ≤ c
  · have h1' : decide ((n.length : Int) ≤ c) = true := by simp; exact h1
    rw [h1'] at e1
    by_cases h2 : t.length ≤ c
    · have h2' : decide ((t.length : Int) ≤ c) = true := by simp; exact h2
      rw [h2'] at e2
      rw [if_pos ⟨h1, h2⟩]
      refine Ret.ofD 1 (g := g45) rfl ⟨[], ?_⟩
      simp [body, g_seq, g_ops, g_cond, g_block, g_scope, g_skip, g_label, g_ret, g_exit, steps, step1, run1, o, u, og, ug, put, Opd.ev, cl_int, cl_bool, cl_nil, cl_sl, cl_agg, cl_vagg, cl_rs, cl_sp, cl_lp, cl_dfn, cl_nilFn, cl_fn, cl_str, cells_S, noLps, noLp, addP, St.load, St.store, splice, cut, mkV, allD, V.astray, V.far, V.near, answer, resAll, resOne, una, intOf?, fnOf, maxD_int, minD_int, foldD, fillG, canon, keepBoxes, keepLive, List.getElem?_cons_zero, List.getElem?_cons_succ, Option.getD_some, g45, e1, e2]
    · have h2' : decide ((t.length : Int) ≤ c) = false := by simp; omega
      rw [h2'] at e2
      rw [if_neg (by omega)]
      refine Ret.ofD 1 (g := g45) rfl ⟨[], ?_⟩
      simp [body, g_seq, g_ops, g_cond, g_block, g_scope, g_skip, g_label, g_ret, g_exit, steps, step1, run1, o, u, og, ug, put, Opd.ev, cl_int, cl_bool, cl_nil, cl_sl, cl_agg, cl_vagg, cl_rs, cl_sp, cl_lp, cl_dfn, cl_nilFn, cl_fn, cl_str, cells_S, noLps, noLp, addP, St.load, St.store, splice, cut, mkV, allD, V.astray, V.far, V.near, answer, resAll, resOne, una, intOf?, fnOf, maxD_int, minD_int, foldD, fillG, canon, keepBoxes, keepLive, List.getElem?_cons_zero, List.getElem?_cons_succ, Option.getD_some, g45, e1, e2, r_top.c0]
  · have h1' : decide ((n.length : Int) ≤ c) = false := by simp; omega
    rw [h1'] at e1
    rw [if_neg (by omega)]
    refine Ret.ofD 1 (g := g45) rfl ⟨[], ?_⟩
    simp [body, g_seq, g_ops, g_cond, g_block, g_scope, g_skip, g_label, g_ret, g_exit, steps, step1, run1, o, u, og, ug, put, Opd.ev, cl_int, cl_bool, cl_nil, cl_sl, cl_agg, cl_vagg, cl_rs, cl_sp, cl_lp, cl_dfn, cl_nilFn, cl_fn, cl_str, cells_S, noLps, noLp, addP, St.load, St.store, splice, cut, mkV, allD, V.astray, V.far, V.near, answer, resAll, resOne, una, intOf?, fnOf, maxD_int, minD_int, foldD, fillG, canon, keepBoxes, keepLive, List.getElem?_cons_zero, List.getElem?_cons_succ, Option.getD_some, g45, e1, r_top.c0]

/-- What is held. -/
def heldA (c : Nat) (p : Nat × Nat) : Option (Nat × Nat) := if p.1 < 18446744073709551616 ^ c ∧ p.2 < 18446744073709551616 ^ c then some p else Option.none

/-- Held, whatever it is. -/
theorem held_any (hn : Fit kn n) (ht : Fit kt t) (hN : Norm t) (hc : 1 ≤ c) : ∃ a d, Rep c a d ∧ Ret table 45 [.int .i64 (c : Int), N kn n, N kt t] d := by
  have h := r_held hn ht hc
  by_cases h1 : n.length ≤ c ∧ t.length ≤ c
  · rw [if_pos h1] at h
    exact ⟨some (val n, val t), _, ⟨kn, n, kt, t, rfl, hn, ht, h1.1, h1.2, hN, rfl, rfl⟩, h⟩
  · rw [if_neg h1] at h
    exact ⟨Option.none, _, rfl, h⟩
/-- Held, of numbers in their least form. -/
theorem held_norm (hn : Fit kn n) (ht : Fit kt t) (hN' : Norm n) (hN : Norm t) (hc : 1 ≤ c) : ∃ d, Rep c (heldA c (val n, val t)) d ∧ Ret table 45 [.int .i64 (c : Int), N kn n, N kt t] d := by
  have h := r_held hn ht hc
  by_cases h1 : n.length ≤ c ∧ t.length ≤ c
  · rw [if_pos h1] at h
    refine ⟨_, ?_, h⟩
    rw [heldA, if_pos ⟨val_len hn h1.1, val_len ht h1.2⟩]
    exact ⟨kn, n, kt, t, rfl, hn, ht, h1.1, h1.2, hN, rfl, rfl⟩
  · rw [if_neg h1] at h
    refine ⟨_, ?_, h⟩
    rw [heldA, if_neg (fun h2 => h1 ⟨norm_le hN' h2.1, norm_le hN h2.2⟩)]
    rfl
end

/-! ### how a part's count comes to what was before -/
/-- A function that puts two counts together does so by numbers. -/
def Goes (g : FuncId) (op : Nat × Nat → Nat × Nat → Nat × Nat) : Prop :=
  ∀ (b b' : Bool) (kn kt kn' kt' : Option Bool) (n t n' t' : List Nat), Fit kn n → Fit kt t → Fit kn' n' → Fit kt' t' → n.length < 100 → t.length < 100 → n'.length < 100 → t'.length < 100 →
    ∃ k1 l1 k2 l2, Fit k1 l1 ∧ Fit k2 l2 ∧ Norm l1 ∧ Norm l2 ∧ (val l1, val l2) = op (val n, val t) (val n', val t') ∧ Ret table g [Ct b kn n kt t, Ct b' kn' n' kt' t'] (Ct false k1 l1 k2 l2)

def mulOp (x y : Nat × Nat) : Nat × Nat := (x.1 * y.1, x.2 + x.1 * y.2)
def addOp (x y : Nat × Nat) : Nat × Nat := (x.1 + y.1, x.2 + y.2)
def maxOp (x y : Nat × Nat) : Nat × Nat := (max x.1 y.1, max x.2 y.2)

theorem len_of_val {l : List Nat} (h : Norm l) {m : Nat} (hv : val l < 18446744073709551616 ^ m) (hm : m < 1000) : l.length < 1000 := by
  have := norm_le h hv; omega
theorem goes_mul : Goes 47 mulOp := by
  intro b b' kn kt kn' kt' n t n' t' h1 h2 h3 h4 g1 g2 g3 g4
  obtain ⟨k1, l1, f1, m1, v1, e1⟩ := r_mul h1 h3 (by omega) (by omega)
  obtain ⟨k2, l2, f2, m2, v2, e2⟩ := r_mul h1 h4 (by omega) (by omega)
  have hl2 : l2.length < 1000 := by
    refine len_of_val m2 (m := n.length + t'.length) ?_ (by omega)
    rw [v2, Nat.pow_add]
    exact Nat.mul_lt_mul'' (val_bound h1.2) (val_bound h4.2)
  obtain ⟨k3, l3, f3, m3, v3, e3⟩ := r_add h2 f2 (by omega) hl2
  refine ⟨k1, l1, k3, l3, f1, f3, m1, m3, by rw [v1, v3, v2]; rfl, Ret.ofD 1 (g := g47) rfl ⟨[], ?_⟩⟩
  simp [body, g_seq, g_ops, g_cond, g_block, g_scope, g_skip, g_label, g_ret, g_exit, steps, step1, run1, o, u, og, ug, put, Opd.ev, cl_int, cl_bool, cl_nil, cl_sl, cl_agg, cl_vagg, cl_rs, cl_sp, cl_lp, cl_dfn, cl_nilFn, cl_fn, cl_str, cells_S, noLps, noLp, addP, St.load, St.store, splice, cut, mkV, allD, V.astray, V.far, V.near, answer, resAll, resOne, una, intOf?, fnOf, maxD_int, minD_int, foldD, fillG, canon, keepBoxes, keepLive, List.getElem?_cons_zero, List.getElem?_cons_succ, Option.getD_some, g47, e1.c2, e2.c2, e3.c2]
theorem goes_add : Goes 48 addOp := by
  intro b b' kn kt kn' kt' n t n' t' h1 h2 h3 h4 g1 g2 g3 g4
  obtain ⟨k1, l1, f1, m1, v1, e1⟩ := r_add h1 h3 (by omega) (by omega)
  obtain ⟨k3, l3, f3, m3, v3, e3⟩ := r_add h2 h4 (by omega) (by omega)
  refine ⟨k1, l1, k3, l3, f1, f3, m1, m3, by rw [v1, v3]; rfl, Ret.ofD 1 (g := g48) rfl ⟨[], ?_⟩⟩
  simp [body, g_seq, g_ops, g_cond, g_block, g_scope, g_skip, g_label, g_ret, g_exit, steps, step1, run1, o, u, og, ug, put, Opd.ev, cl_int, cl_bool, cl_nil, cl_sl, cl_agg, cl_vagg, cl_rs, cl_sp, cl_lp, cl_dfn, cl_nilFn, cl_fn, cl_str, cells_S, noLps, noLp, addP, St.load, St.store, splice, cut, mkV, allD, V.astray, V.far, V.near, answer, resAll, resOne, una, intOf?, fnOf, maxD_int, minD_int, foldD, fillG, canon, keepBoxes, keepLive, List.getElem?_cons_zero, List.getElem?_cons_succ, Option.getD_some, g48, e1.c2, e3.c2]
theorem goes_max : Goes 49 maxOp := by
  intro b b' kn kt kn' kt' n t n' t' h1 h2 h3 h4 g1 g2 g3 g4
  obtain ⟨k1, l1, f1, m1, v1, e1⟩ := r_max h1 h3 (by omega) (by omega)
  obtain ⟨k3, l3, f3, m3, v3, e3⟩ := r_max h2 h4 (by omega) (by omega)
  refine ⟨k1, l1, k3, l3, f1, f3, m1, m3, by rw [v1, v3]; rfl, Ret.ofD 1 (g := g49) rfl ⟨[], ?_⟩⟩
  simp [body, g_seq, g_ops, g_cond, g_block, g_scope, g_skip, g_label, g_ret, g_exit, steps, step1, run1, o, u, og, ug, put, Opd.ev, cl_int, cl_bool, cl_nil, cl_sl, cl_agg, cl_vagg, cl_rs, cl_sp, cl_lp, cl_dfn, cl_nilFn, cl_fn, cl_str, cells_S, noLps, noLp, addP, St.load, St.store, splice, cut, mkV, allD, V.astray, V.far, V.near, answer, resAll, resOne, una, intOf?, fnOf, maxD_int, minD_int, foldD, fillG, canon, keepBoxes, keepLive, List.getElem?_cons_zero, List.getElem?_cons_succ, Option.getD_some, g49, e1.c1, e3.c1, chunk]
end Go.Proofs.Try
