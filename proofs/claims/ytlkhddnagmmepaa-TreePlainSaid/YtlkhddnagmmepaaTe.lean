/-
  Package tree, function by function (5): parts gone over.
-/
import Derived.Test.YtlkhddnagmmepaaTd
namespace Go.Proofs.Try
open Go.Gm
set_option maxHeartbeats 4000000
set_option maxRecDepth 10000
set_option linter.unusedSimpArgs false
set_option linter.unusedVariables false

def stepA (op : Nat × Nat → Nat × Nat → Nat × Nat) (c : Nat) (x : Nat × Nat) : Option (Nat × Nat) → Option (Nat × Nat)
  | Option.none => Option.none
  | some y => heldA c (op x y)
def runA (op : Nat × Nat → Nat × Nat → Nat × Nat) (c : Nat) : Option (Nat × Nat) → List (Option (Nat × Nat)) → Option (Nat × Nat)
  | Option.none, _ => Option.none
  | some x, [] => some x
  | some x, y :: r => runA op c (stepA op c x y) r
theorem runA_none (op : Nat × Nat → Nat × Nat → Nat × Nat) (c : Nat) (l : List (Option (Nat × Nat))) : runA op c Option.none l = Option.none := by cases l <;> rfl

def cellsOf : D → List V
  | .agg cs => cs.map V.d
  | _ => []
/-- The memory that the closure of parts shares. -/
def ptSh (c : Nat) (d : D) (g : FuncId) : List Blk := [⟨[.d (.int .i64 (c : Int))], 1, 33, false⟩, ⟨cellsOf d, 1, 36, false⟩, ⟨[.d (.fn (.func g) [] [])], 1, 78, false⟩]

section
variable {c : Nat} {g : FuncId} {op : Nat × Nat → Nat × Nat → Nat × Nat}
theorem r_part (hg : Goes g op) (hc : 1 ≤ c) (hc' : c ≤ 6) {p : Tr} {x : Nat × Nat} {dx dy : D} {ay : Option (Nat × Nat)} (hx : Rep c (some x) dx) (hy : Rep c ay dy) (he : Ret table 9 [.int .i64 (c : Int), p.d] dy) :
    ∃ d', Rep c (stepA op c x ay) d' ∧ lim table 64 [.d p.d, .sp 0 1 0, .sp 1 3 0, .sp 2 1 0] (ptSh c dx g) = some (.d (.bool (stepA op c x ay).isSome), ptSh c d' g) := by
  obtain ⟨x1, x2⟩ := x
  obtain ⟨kn, n, kt, t, rfl, f1, f2, l1, l2, m1, rfl, rfl⟩ := hx
  have e1 := he.c2
  cases ay with
  | none =>
    obtain rfl : dy = CtTop := hy
    refine ⟨CtTop, rfl, lim_body 1 (g := g64) rfl ?_⟩
    simp [body, g_seq, g_ops, g_cond, g_block, g_scope, g_skip, g_label, g_ret, g_exit, steps, step1, run1, o, u, og, ug, put, Opd.ev, cl_int, cl_bool, cl_nil, cl_sl, cl_agg, cl_vagg, cl_rs, cl_sp, cl_lp, cl_dfn, cl_nilFn, cl_fn, cl_str, cells_S, noLps, noLp, addP, St.load, St.store, splice, cut, mkV, allD, V.astray, V.far, V.near, answer, resAll, resOne, una, intOf?, fnOf, maxD_int, minD_int, foldD, fillG, canon, keepBoxes, keepLive, List.getElem?_cons_zero, List.getElem?_cons_succ, Option.getD_some, g64, ptSh, cellsOf, cells_length, cells_take, cells_takeV, allD_map, noLps_map, e1, stepA]
  | some y =>
    obtain ⟨y1, y2⟩ := y
    obtain ⟨kn', n', kt', t', rfl, f1', f2', l1', l2', m1', rfl, rfl⟩ := hy
    obtain ⟨k1, r1, k2, r2, q1, q2, q3, q4, q5, q6⟩ := hg false false kn kt kn' kt' n t n' t' f1 f2 f1' f2' (by omega) (by omega) (by omega) (by omega)
    obtain ⟨d, h1, h2⟩ := held_norm q1 q2 q3 q4 hc
    have e2 := q6.c2
    have e3 := h2.c3
    refine ⟨d, by simp only [stepA, ← q5]; exact h1, lim_body 1 (g := g64) rfl ?_⟩
    simp only [stepA, ← q5]
    cases ha : heldA c (val r1, val r2) with
    | none =>
      rw [ha] at h1
      obtain rfl : d = CtTop := h1
      simp [body, g_seq, g_ops, g_cond, g_block, g_scope, g_skip, g_label, g_ret, g_exit, steps, step1, run1, o, u, og, ug, put, Opd.ev, cl_int, cl_bool, cl_nil, cl_sl, cl_agg, cl_vagg, cl_rs, cl_sp, cl_lp, cl_dfn, cl_nilFn, cl_fn, cl_str, cells_S, noLps, noLp, addP, St.load, St.store, splice, cut, mkV, allD, V.astray, V.far, V.near, answer, resAll, resOne, una, intOf?, fnOf, maxD_int, minD_int, foldD, fillG, canon, keepBoxes, keepLive, List.getElem?_cons_zero, List.getElem?_cons_succ, Option.getD_some, g64, ptSh, cellsOf, cells_length, cells_take, cells_takeV, allD_map, noLps_map, e1, e2, e3]
    | some z =>
      rw [ha] at h1
      obtain ⟨kn2, n2, kt2, t2, rfl, _⟩ := h1
      simp [body, g_seq, g_ops, g_cond, g_block, g_scope, g_skip, g_label, g_ret, g_exit, steps, step1, run1, o, u, og, ug, put, Opd.ev, cl_int, cl_bool, cl_nil, cl_sl, cl_agg, cl_vagg, cl_rs, cl_sp, cl_lp, cl_dfn, cl_nilFn, cl_fn, cl_str, cells_S, noLps, noLp, addP, St.load, St.store, splice, cut, mkV, allD, V.astray, V.far, V.near, answer, resAll, resOne, una, intOf?, fnOf, maxD_int, minD_int, foldD, fillG, canon, keepBoxes, keepLive, List.getElem?_cons_zero, List.getElem?_cons_succ, Option.getD_some, g64, ptSh, cellsOf, cells_length, cells_take, cells_takeV, allD_map, noLps_map, e1, e2, e3]

/-- At the head of the loop over parts. -/
def partsAt (c : Nat) (g : FuncId) (kp : Option Bool) (ps : List Tr) (p : Nat × D) : St :=
  ⟨rg 26 [(6, .sp 1 3 0), (8, .lp 0 0), (9, .fn (.func 64) [] [.sp 0 1 0, .sp 1 3 0, .sp 2 1 0]), (14, .d (Pt kp (cellss ps))), (15, .d (.int .i64 (ps.length : Int))), (16, .d (.int .i64 (p.1 : Int)))],
    [[.d (.bool false), .d .nilSl, .d .nilSl]], ptSh c p.2 g⟩

theorem parts_loop (hg : Goes g op) (hc : 1 ≤ c) (hc' : c ≤ 6) {kp : Option Bool} {ps : List Tr} (hkp : kp = Option.none → ps = []) (hl : ps.length < 60) {as : List (Option (Nat × Nat))} (hal : as.length = ps.length)
    (has : ∀ (i : Nat) (p : Tr) (a : Option (Nat × Nat)), ps[i]? = some p → as[i]? = some a → ∃ dy, Rep c a dy ∧ Ret table 9 [.int .i64 (c : Int), p.d] dy) {x : Nat × Nat} {dx : D} (hx : Rep c (some x) dx) :
    ∃ e s', (e = .brk 0 ∧ ∃ d, Rep c (runA op c (some x) as) d ∧ s' = ⟨rg 26 [(6, .sp 1 3 0), (8, .lp 0 0)], [[.d (.bool false), .d .nilSl, .d .nilSl]], ptSh c d g⟩) ∧
      ∀ s, canon [8] [6, 9, 14, 15, 16] s = some (partsAt c g kp ps (0, dx)) → gcode (lim table) 100 g46_l0 s = some (e, s') := by
  refine loop_rule (lf := 100) (partsAt c g kp ps) (fun p => ps.length - p.1) (fun p => p.1 ≤ ps.length ∧ ∃ y, Rep c (some y) p.2 ∧ runA op c (some y) (as.drop p.1) = runA op c (some x) as) _ ?_ (x := (0, dx))
    ⟨by simp, x, hx, by simp⟩ (show ps.length - 0 < 100 by omega)
  intro ⟨i, d⟩ ⟨q1, y, q2, q3⟩
  simp only at q1 q2 q3
  by_cases hi : i < ps.length
  · have hia : i < as.length := by omega
    have hp : ps[i]? = some ps[i] := List.getElem?_eq_getElem hi
    obtain ⟨dy, w1, w2⟩ := has i ps[i] as[i] hp (List.getElem?_eq_getElem hia)
    rw [List.drop_eq_getElem_cons hia] at q3
    simp only [runA] at q3
    generalize ps[i] = p at *
    generalize as[i] = a at *
    have hi' : (i : Int) < ps.length := by omega
    obtain ⟨d', u1, u2⟩ := r_part hg hc hc' q2 w1 w2
    cases hs : stepA op c y a with
    | some y' =>
      left
      rw [hs] at u1 u2 q3
      exact ⟨_, (i + 1, d'), by
        simp [body, g_seq, g_ops, g_cond, g_block, g_scope, g_skip, g_label, g_ret, g_exit, steps, step1, run1, o, u, og, ug, put, Opd.ev, cl_int, cl_bool, cl_nil, cl_sl, cl_agg, cl_vagg, cl_rs, cl_sp, cl_lp, cl_dfn, cl_nilFn, cl_fn, cl_str, cells_S, noLps, noLp, addP, St.load, St.store, splice, cut, mkV, allD, V.astray, V.far, V.near, answer, resAll, resOne, una, intOf?, fnOf, maxD_int, minD_int, foldD, fillG, canon, keepBoxes, keepLive, List.getElem?_cons_zero, List.getElem?_cons_succ, Option.getD_some, g46_b0, rg, partsAt, b_lss, hi', hi, elemP_P hkp hp, cells_length, cells_take, cells_takeV, allD_map, noLps_map, sharedCall, u2]
        rfl, by simp (disch := omega) [body, g_seq, g_ops, g_cond, g_block, g_scope, g_skip, g_label, g_ret, g_exit, steps, step1, run1, o, u, og, ug, put, Opd.ev, cl_int, cl_bool, cl_nil, cl_sl, cl_agg, cl_vagg, cl_rs, cl_sp, cl_lp, cl_dfn, cl_nilFn, cl_fn, cl_str, cells_S, noLps, noLp, addP, St.load, St.store, splice, cut, mkV, allD, V.astray, V.far, V.near, answer, resAll, resOne, una, intOf?, fnOf, maxD_int, minD_int, foldD, fillG, canon, keepBoxes, keepLive, List.getElem?_cons_zero, List.getElem?_cons_succ, Option.getD_some, rg, partsAt, ptSh, b_add64, w64], ⟨show i + 1 ≤ ps.length by omega, y', u1, q3⟩, show ps.length - (i + 1) < ps.length - i by omega⟩
    | none =>
      right
      rw [hs] at u1 u2 q3
      rw [runA_none] at q3
      exact ⟨.brk 0, _, ⟨rg 26 [(6, .sp 1 3 0), (8, .lp 0 0)], [[.d (.bool false), .d .nilSl, .d .nilSl]], ptSh c d' g⟩, by
        simp [body, g_seq, g_ops, g_cond, g_block, g_scope, g_skip, g_label, g_ret, g_exit, steps, step1, run1, o, u, og, ug, put, Opd.ev, cl_int, cl_bool, cl_nil, cl_sl, cl_agg, cl_vagg, cl_rs, cl_sp, cl_lp, cl_dfn, cl_nilFn, cl_fn, cl_str, cells_S, noLps, noLp, addP, St.load, St.store, splice, cut, mkV, allD, V.astray, V.far, V.near, answer, resAll, resOne, una, intOf?, fnOf, maxD_int, minD_int, foldD, fillG, canon, keepBoxes, keepLive, List.getElem?_cons_zero, List.getElem?_cons_succ, Option.getD_some, g46_b0, rg, partsAt, b_lss, hi', hi, elemP_P hkp hp, cells_length, cells_take, cells_takeV, allD_map, noLps_map, sharedCall, u2]
        rfl, by simp, by simp [body, g_seq, g_ops, g_cond, g_block, g_scope, g_skip, g_label, g_ret, g_exit, steps, step1, run1, o, u, og, ug, put, Opd.ev, cl_int, cl_bool, cl_nil, cl_sl, cl_agg, cl_vagg, cl_rs, cl_sp, cl_lp, cl_dfn, cl_nilFn, cl_fn, cl_str, cells_S, noLps, noLp, addP, St.load, St.store, splice, cut, mkV, allD, V.astray, V.far, V.near, answer, resAll, resOne, una, intOf?, fnOf, maxD_int, minD_int, foldD, fillG, canon, keepBoxes, keepLive, List.getElem?_cons_zero, List.getElem?_cons_succ, Option.getD_some, rg], rfl, d', by rw [← q3]; exact u1, rfl⟩
  · right
    have hi' : ¬ (i : Int) < ps.length := by omega
    rw [List.drop_eq_nil_of_le (by omega)] at q3
    simp only [runA] at q3
    exact ⟨.brk 0, _, ⟨rg 26 [(6, .sp 1 3 0), (8, .lp 0 0)], [[.d (.bool false), .d .nilSl, .d .nilSl]], ptSh c d g⟩, by
      simp [body, g_seq, g_ops, g_cond, g_block, g_scope, g_skip, g_label, g_ret, g_exit, steps, step1, run1, o, u, og, ug, put, Opd.ev, cl_int, cl_bool, cl_nil, cl_sl, cl_agg, cl_vagg, cl_rs, cl_sp, cl_lp, cl_dfn, cl_nilFn, cl_fn, cl_str, cells_S, noLps, noLp, addP, St.load, St.store, splice, cut, mkV, allD, V.astray, V.far, V.near, answer, resAll, resOne, una, intOf?, fnOf, maxD_int, minD_int, foldD, fillG, canon, keepBoxes, keepLive, List.getElem?_cons_zero, List.getElem?_cons_succ, Option.getD_some, g46_b0, rg, partsAt, b_lss, hi', hi]
      rfl, by simp, by simp [body, g_seq, g_ops, g_cond, g_block, g_scope, g_skip, g_label, g_ret, g_exit, steps, step1, run1, o, u, og, ug, put, Opd.ev, cl_int, cl_bool, cl_nil, cl_sl, cl_agg, cl_vagg, cl_rs, cl_sp, cl_lp, cl_dfn, cl_nilFn, cl_fn, cl_str, cells_S, noLps, noLp, addP, St.load, St.store, splice, cut, mkV, allD, V.astray, V.far, V.near, answer, resAll, resOne, una, intOf?, fnOf, maxD_int, minD_int, foldD, fillG, canon, keepBoxes, keepLive, List.getElem?_cons_zero, List.getElem?_cons_succ, Option.getD_some, rg], rfl, d, by rw [← q3]; exact q2, rfl⟩

theorem r_parts (hg : Goes g op) (hc : 1 ≤ c) (hc' : c ≤ 6) {k : Int} {kn : Option Bool} {n : List Nat} {tr : Nat} {s b : Bool} {tp : Nat} {kp : Option Bool} {ps : List Tr} (hkp : kp = Option.none → ps = []) (hl : ps.length < 60) {as : List (Option (Nat × Nat))} (hal : as.length = ps.length)
    (has : ∀ (i : Nat) (p : Tr) (a : Option (Nat × Nat)), ps[i]? = some p → as[i]? = some a → ∃ dy, Rep c a dy ∧ Ret table 9 [.int .i64 (c : Int), p.d] dy) {x : Nat × Nat} {dx : D} (hx : Rep c (some x) dx) :
    ∃ d, Rep c (runA op c (some x) as) d ∧ Ret table 46 [(Tr.mk k kn n tr s b tp kp ps).d, .int .i64 (c : Int), dx, .fn (.func g) [] []] d := by
  obtain ⟨e, s', ⟨rfl, d, h1, rfl⟩, h2⟩ := parts_loop hg hc hc' hkp hl hal has hx
  obtain ⟨kn1, n1, kt1, t1, rfl, _⟩ := hx
  refine ⟨d, h1, ?_⟩
  refine Ret.ofD 100 (g := g46) rfl ⟨ptSh c d g, ?_⟩
  simp [body, g_seq, g_ops, g_cond, g_block, g_scope, g_skip, g_label, g_ret, g_exit, steps, step1, run1, o, u, og, ug, put, Opd.ev, cl_int, cl_bool, cl_nil, cl_sl, cl_agg, cl_vagg, cl_rs, cl_sp, cl_lp, cl_dfn, cl_nilFn, cl_fn, cl_str, cells_S, noLps, noLp, addP, St.load, St.store, splice, cut, mkV, allD, V.astray, V.far, V.near, answer, resAll, resOne, una, intOf?, fnOf, maxD_int, minD_int, foldD, fillG, canon, keepBoxes, keepLive, List.getElem?_cons_zero, List.getElem?_cons_succ, Option.getD_some, g46, Tr.cells, cells_P, lenV_P hkp]
  rw [h2]
  · cases hr : runA op c (some x) as with
    | none =>
      rw [hr] at h1
      obtain rfl : d = CtTop := h1
      simp [body, g_seq, g_ops, g_cond, g_block, g_scope, g_skip, g_label, g_ret, g_exit, steps, step1, run1, o, u, og, ug, put, Opd.ev, cl_int, cl_bool, cl_nil, cl_sl, cl_agg, cl_vagg, cl_rs, cl_sp, cl_lp, cl_dfn, cl_nilFn, cl_fn, cl_str, cells_S, noLps, noLp, addP, St.load, St.store, splice, cut, mkV, allD, V.astray, V.far, V.near, answer, resAll, resOne, una, intOf?, fnOf, maxD_int, minD_int, foldD, fillG, canon, keepBoxes, keepLive, List.getElem?_cons_zero, List.getElem?_cons_succ, Option.getD_some, rg, ptSh, cellsOf]
    | some z =>
      rw [hr] at h1
      obtain ⟨kn2, n2, kt2, t2, rfl, _⟩ := h1
      simp [body, g_seq, g_ops, g_cond, g_block, g_scope, g_skip, g_label, g_ret, g_exit, steps, step1, run1, o, u, og, ug, put, Opd.ev, cl_int, cl_bool, cl_nil, cl_sl, cl_agg, cl_vagg, cl_rs, cl_sp, cl_lp, cl_dfn, cl_nilFn, cl_fn, cl_str, cells_S, noLps, noLp, addP, St.load, St.store, splice, cut, mkV, allD, V.astray, V.far, V.near, answer, resAll, resOne, una, intOf?, fnOf, maxD_int, minD_int, foldD, fillG, canon, keepBoxes, keepLive, List.getElem?_cons_zero, List.getElem?_cons_succ, Option.getD_some, rg, ptSh, cellsOf]
  · simp [body, g_seq, g_ops, g_cond, g_block, g_scope, g_skip, g_label, g_ret, g_exit, steps, step1, run1, o, u, og, ug, put, Opd.ev, cl_int, cl_bool, cl_nil, cl_sl, cl_agg, cl_vagg, cl_rs, cl_sp, cl_lp, cl_dfn, cl_nilFn, cl_fn, cl_str, cells_S, noLps, noLp, addP, St.load, St.store, splice, cut, mkV, allD, V.astray, V.far, V.near, answer, resAll, resOne, una, intOf?, fnOf, maxD_int, minD_int, foldD, fillG, canon, keepBoxes, keepLive, List.getElem?_cons_zero, List.getElem?_cons_succ, Option.getD_some, rg, partsAt, ptSh, cellsOf]
end
end Go.Proofs.Try
