/-
  Package sieveholeslaw28, function by function: a tree made plain.
-/
import Derived.Test.YtlkhddnagmmepaaTf
namespace Go.Proofs.Try
open Go.Gm
set_option maxHeartbeats 4000000
set_option maxRecDepth 10000
set_option linter.unusedSimpArgs false
set_option linter.unusedVariables false

noncomputable def kOne : Option Bool := (r_of1).choose
theorem kOne_fit : Fit kOne [1] := (r_of1).choose_spec.1
theorem r_kOne : Ret table 12 [.int .u64 1] (N kOne [1]) := (r_of1).choose_spec.2

mutual
noncomputable def plainT : Tr → Tr
  | .mk k _ _ _ _ b tp _ ps => if k = 0 ∨ k = 5 then .mk 0 kOne [1] 0 false false 0 Option.none [] else
      .mk (if k = 2 then 3 else k) Option.none [] 0 false b tp (match ps with | [] => Option.none | _ :: _ => some false) (plainTs ps)
noncomputable def plainTs : List Tr → List Tr
  | [] => []
  | t :: r => plainT t :: plainTs r
end
theorem plainTs_length : ∀ l : List Tr, (plainTs l).length = l.length
  | [] => rfl
  | _ :: r => by simp [plainTs, plainTs_length r]
theorem plainTs_take : ∀ (l : List Tr) (i : Nat) (h : i < l.length), (plainTs l).take (i + 1) = (plainTs l).take i ++ [plainT l[i]]
  | t :: r, 0, h => by simp [plainTs]
  | t :: r, i + 1, h => by
    have := plainTs_take r i (by simpa using h)
    simp only [plainTs, List.take_succ_cons, this, List.getElem_cons_succ, List.cons_append]

theorem allBy_data (sh : List Blk) (n : Nat) : ∀ l : List D, allBy (toD sh n) (l.map V.d) = some (l, [])
  | [] => rfl
  | x :: r => by simp only [List.map_cons, allBy, toD_d, allBy_data sh n r, List.append_nil]
theorem chunk_trees : ∀ l : List Tr, chunk 7 l.length (cellss l).flatten = cellss l
  | [] => rfl
  | t :: r => by
    have h1 : List.take 7 (t.cells ++ (cellss r).flatten) = t.cells := by
      rw [List.take_append_of_le_length (by rw [cells_length]; exact Nat.le_refl _)]
      exact cells_take t
    have h2 : List.drop 7 (t.cells ++ (cellss r).flatten) = (cellss r).flatten := by
      rw [List.drop_append_of_le_length (by rw [cells_length]; exact Nat.le_refl _), List.drop_eq_nil_of_le (by rw [cells_length]; exact Nat.le_refl _)]
      rfl
    simp only [cellss, List.flatten_cons, List.length_cons, chunk, h1, h2, chunk_trees r]
theorem flatten_length : ∀ l : List Tr, (cellss l).flatten.length = l.length * 7
  | [] => rfl
  | t :: r => by simp only [cellss, List.flatten_cons, List.length_append, cells_length, flatten_length r, List.length_cons]; omega
theorem toD_trees {sh : List Blk} {b : Nat} {ety : TypeId} {fz : Bool} {l : List Tr} {n : Nat} (hb : sh[b]? = some ⟨(cellss l).flatten.map V.d, 7, ety, fz⟩) :
    toD sh (n + 1) (.rs b 0 l.length) = some (Pt (some false) (cellss l), [b]) := by
  simp only [toD, hb, allBy_data, List.length_map, flatten_length, Nat.zero_add, if_true, List.drop_zero, chunk_trees, Pt]
theorem cellss_append : ∀ (l m : List Tr), cellss (l ++ m) = cellss l ++ cellss m
  | [], m => rfl
  | t :: r, m => by simp [cellss, cellss_append r m]

theorem P_nil0 : Pt Option.none [] = .nilSl := rfl
/-- Trees, one behind the other. -/
def flatV (l : List Tr) : List V := (cellss l).flatten.map V.d
theorem flatV_length (l : List Tr) : (flatV l).length = l.length * 7 := by rw [flatV, List.length_map, flatten_length]
theorem flatV_one (q : Tr) : flatV [q] = q.cells.map V.d := by simp [flatV, cellss]
theorem flatV_append (l : List Tr) (q : Tr) : flatV (l ++ [q]) = flatV l ++ q.cells.map V.d := by simp [flatV, cellss_append, cellss]
theorem toD_flat {sh : List Blk} {b : Nat} {ety : TypeId} {fz : Bool} {l : List Tr} {n : Nat} (hb : sh[b]? = some ⟨flatV l, 7, ety, fz⟩) :
    toD sh (n + 1) (.rs b 0 l.length) = some (Pt (some false) (cellss l), [b]) := toD_trees hb
theorem lenV_sl {s : St} {f : Bool} {es : Nat} {xs : List (List D)} : lenV s (.d (.sl f es xs)) = some xs.length := rfl
theorem rowOf_sl {s : St} {f : Bool} {es : Nat} {xs : List (List D)} : rowOf s es (.d (.sl f es xs)) = some (xs.flatten.map V.d) := by simp [rowOf]

/-- The parts so far. -/
def plSh (l : List Tr) : List Blk := match l with
  | [] => []
  | x :: r => [⟨flatV (x :: r), 7, 29, false⟩]
def plV (n : Nat) (l : List Tr) : V := match l with
  | [] => .d .nilSl
  | _ :: _ => .rs 0 0 n
/-- At the head of the loop over parts. -/
def plainAt (t : Tr) (k : Int) (b : Bool) (tp : Nat) (p : Nat × List Tr) : St :=
  ⟨rg 45 [(1, .lp 0 0), (2, .lp 1 0), (3, .lp 2 0), (4, .d (.int .i64 (p.1 : Int)))],
    [t.cells.map V.d, [.d (.int .i64 0), .d .nilSl, .d (.int .u64 0), .d (.bool false), .d (.bool false), .d (.int .u64 0), .d .nilSl],
      [.d (.int .i64 k), .d .nilSl, .d (.int .u64 0), .d (.bool false), .d (.bool b), .d (.int .u64 (tp : Int)), plV p.1 p.2]], plSh p.2⟩

theorem plain_loop {k k' : Int} {kn : Option Bool} {n : List Nat} {tr : Nat} {s b : Bool} {tp : Nat} {kp : Option Bool} {ps : List Tr} (hkp : kp = Option.none → ps = []) (hl : ps.length < 60)
    (ih : ∀ p ∈ ps, Ret table 8 [p.d] (plainT p).d) :
    ∃ e s', (e = .brk 0 ∧ s' = ⟨rg 45 [(2, .lp 0 0), (3, .lp 1 0)], [[.d (.int .i64 0), .d .nilSl, .d (.int .u64 0), .d (.bool false), .d (.bool false), .d (.int .u64 0), .d .nilSl],
        [.d (.int .i64 k'), .d .nilSl, .d (.int .u64 0), .d (.bool false), .d (.bool b), .d (.int .u64 (tp : Int)), plV ps.length (plainTs ps)]], plSh (plainTs ps)⟩) ∧
      ∀ st, canon [1, 2, 3] [4] st = some (plainAt (.mk k kn n tr s b tp kp ps) k' b tp (0, [])) → gcode (lim table) 100 g8_l0 st = some (e, s') := by
  refine loop_rule (lf := 100) (plainAt (.mk k kn n tr s b tp kp ps) k' b tp) (fun p => ps.length - p.1) (fun p => p.1 ≤ ps.length ∧ p.2 = (plainTs ps).take p.1) _ ?_ (x := (0, [])) ⟨by simp, by simp⟩ (show ps.length - 0 < 100 by omega)
  intro ⟨i, l⟩ ⟨q1, q2⟩
  simp only at q1 q2
  have hlen : l.length = i := by rw [q2, List.length_take, plainTs_length]; omega
  by_cases hi : i < ps.length
  · left
    have hp : ps[i]? = some ps[i] := List.getElem?_eq_getElem hi
    have e1 := (ih _ (List.getElem_mem hi)).c1
    have q3 : l ++ [plainT ps[i]] = (plainTs ps).take (i + 1) := by rw [plainTs_take ps i hi, q2]
    generalize ps[i] = p at *
    generalize plainT p = q at *
    have hi' : (i : Int) < ps.length := by omega
    have hm1 : (i + 1) * 80 ≤ 140737488355328 := by omega
    have hm2 : i + 1 ≤ 9223372036854775807 := by omega
    rcases l with _ | ⟨z, r⟩
    · simp at hlen
      subst hlen
      have hel := fun s => elemP_P (s := s) hkp hp
      have hz0 : ((0 : Nat) : Int) = 0 := rfl
      rw [hz0] at hel hi'
      exact ⟨_, (1, [q]), by
        simp [body, g_seq, g_ops, g_cond, g_block, g_scope, g_skip, g_label, g_ret, g_exit, steps, step1, run1, o, u, og, ug, put, Opd.ev, cl_int, cl_bool, cl_nil, cl_sl, cl_agg, cl_vagg, cl_rs, cl_sp, cl_lp, cl_dfn, cl_nilFn, cl_fn, cl_str, cells_S, noLps, noLp, addP, St.load, St.store, splice, cut, mkV, allD, V.astray, V.far, V.near, answer, resAll, resOne, una, intOf?, fnOf, maxD_int, minD_int, foldD, fillG, canon, keepBoxes, keepLive, List.getElem?_cons_zero, List.getElem?_cons_succ, Option.getD_some, g8_b0, rg, plainAt, Tr.cells, plV, plSh, b_lss, hi', hi, lenV_P hkp, hel, cells_length, cells_take, cells_takeV, allD_map, noLps_map, e1, chunk, rowOf_sl, lenV_sl, appendV]
        rfl, by simp (disch := omega) [body, g_seq, g_ops, g_cond, g_block, g_scope, g_skip, g_label, g_ret, g_exit, steps, step1, run1, o, u, og, ug, put, Opd.ev, cl_int, cl_bool, cl_nil, cl_sl, cl_agg, cl_vagg, cl_rs, cl_sp, cl_lp, cl_dfn, cl_nilFn, cl_fn, cl_str, cells_S, noLps, noLp, addP, St.load, St.store, splice, cut, mkV, allD, V.astray, V.far, V.near, answer, resAll, resOne, una, intOf?, fnOf, maxD_int, minD_int, foldD, fillG, canon, keepBoxes, keepLive, List.getElem?_cons_zero, List.getElem?_cons_succ, Option.getD_some, rg, plainAt, Tr.cells, plV, plSh, b_add64, w64, flatV_one], ⟨show 1 ≤ ps.length by omega, q3⟩, show ps.length - 1 < ps.length - 0 by omega⟩
    · simp at hlen
      have hf2 := flatV_append (z :: r) q
      have hf3 := flatV_length (z :: r)
      simp only [List.length_cons, hlen] at hf3
      exact ⟨_, (i + 1, z :: r ++ [q]), by
        simp [body, g_seq, g_ops, g_cond, g_block, g_scope, g_skip, g_label, g_ret, g_exit, steps, step1, run1, o, u, og, ug, put, Opd.ev, cl_int, cl_bool, cl_nil, cl_sl, cl_agg, cl_vagg, cl_rs, cl_sp, cl_lp, cl_dfn, cl_nilFn, cl_fn, cl_str, cells_S, noLps, noLp, addP, St.load, St.store, splice, cut, mkV, allD, V.astray, V.far, V.near, answer, resAll, resOne, una, intOf?, fnOf, maxD_int, minD_int, foldD, fillG, canon, keepBoxes, keepLive, List.getElem?_cons_zero, List.getElem?_cons_succ, Option.getD_some, g8_b0, rg, plainAt, Tr.cells, plV, plSh, b_lss, hi', hi, lenV_P hkp, elemP_P hkp hp, cells_length, cells_take, cells_takeV, allD_map, noLps_map, e1, chunk, rowOf_sl, lenV_sl, appendV, hf3, hm1, hm2]
        rfl, by simp (disch := omega) [body, g_seq, g_ops, g_cond, g_block, g_scope, g_skip, g_label, g_ret, g_exit, steps, step1, run1, o, u, og, ug, put, Opd.ev, cl_int, cl_bool, cl_nil, cl_sl, cl_agg, cl_vagg, cl_rs, cl_sp, cl_lp, cl_dfn, cl_nilFn, cl_fn, cl_str, cells_S, noLps, noLp, addP, St.load, St.store, splice, cut, mkV, allD, V.astray, V.far, V.near, answer, resAll, resOne, una, intOf?, fnOf, maxD_int, minD_int, foldD, fillG, canon, keepBoxes, keepLive, List.getElem?_cons_zero, List.getElem?_cons_succ, Option.getD_some, rg, plainAt, Tr.cells, plV, plSh, b_add64, w64, ← hf2], ⟨show i + 1 ≤ ps.length by omega, q3⟩, show ps.length - (i + 1) < ps.length - i by omega⟩
  · right
    have hi' : ¬ (i : Int) < ps.length := by omega
    have hii : i = ps.length := by omega
    subst hii
    have q4 : l = plainTs ps := by rw [q2, List.take_of_length_le (by rw [plainTs_length]; exact Nat.le_refl _)]
    subst q4
    exact ⟨.brk 0, _, _, by
      simp [body, g_seq, g_ops, g_cond, g_block, g_scope, g_skip, g_label, g_ret, g_exit, steps, step1, run1, o, u, og, ug, put, Opd.ev, cl_int, cl_bool, cl_nil, cl_sl, cl_agg, cl_vagg, cl_rs, cl_sp, cl_lp, cl_dfn, cl_nilFn, cl_fn, cl_str, cells_S, noLps, noLp, addP, St.load, St.store, splice, cut, mkV, allD, V.astray, V.far, V.near, answer, resAll, resOne, una, intOf?, fnOf, maxD_int, minD_int, foldD, fillG, canon, keepBoxes, keepLive, List.getElem?_cons_zero, List.getElem?_cons_succ, Option.getD_some, g8_b0, rg, plainAt, Tr.cells, b_lss, hi', hi, lenV_P hkp]
      rfl, by simp, by simp [body, g_seq, g_ops, g_cond, g_block, g_scope, g_skip, g_label, g_ret, g_exit, steps, step1, run1, o, u, og, ug, put, Opd.ev, cl_int, cl_bool, cl_nil, cl_sl, cl_agg, cl_vagg, cl_rs, cl_sp, cl_lp, cl_dfn, cl_nilFn, cl_fn, cl_str, cells_S, noLps, noLp, addP, St.load, St.store, splice, cut, mkV, allD, V.astray, V.far, V.near, answer, resAll, resOne, una, intOf?, fnOf, maxD_int, minD_int, foldD, fillG, canon, keepBoxes, keepLive, List.getElem?_cons_zero, List.getElem?_cons_succ, Option.getD_some, rg], rfl, rfl⟩

theorem r_plain : ∀ (d : Nat) (t : Tr), Few d t → t.Ok → Ret table 8 [t.d] (plainT t).d
  | 0, _, h, _ => h.elim
  | d + 1, .mk k kn n tr s b tp kp ps, hf, hx => by
    obtain ⟨f1, f2, f3⟩ := hf
    obtain ⟨h1, h2, h3, h4, h5, h6⟩ := hx
    have ih : ∀ p ∈ ps, Ret table 8 [p.d] (plainT p).d := fun p hp => r_plain d p (f3 p hp) (h6.at_ hp)
    have e1 := r_kOne.c1
    by_cases hk : k = 0 ∨ k = 5
    · have hk2 : ¬ k = 2 := by omega
      have k2' := b_ne (k := .i64) hk2
      refine Ret.ofD 1 (g := g8) rfl ⟨[], ?_⟩
      rcases hk with rfl | rfl
      · simp [body, g_seq, g_ops, g_cond, g_block, g_scope, g_skip, g_label, g_ret, g_exit, steps, step1, run1, o, u, og, ug, put, Opd.ev, cl_int, cl_bool, cl_nil, cl_sl, cl_agg, cl_vagg, cl_rs, cl_sp, cl_lp, cl_dfn, cl_nilFn, cl_fn, cl_str, cells_S, noLps, noLp, addP, St.load, St.store, splice, cut, mkV, allD, V.astray, V.far, V.near, answer, resAll, resOne, una, intOf?, fnOf, maxD_int, minD_int, foldD, fillG, canon, keepBoxes, keepLive, List.getElem?_cons_zero, List.getElem?_cons_succ, Option.getD_some, g8, Tr.cells, cells_P, b_eql, e1, plainT, P_nil0]
        simp [cellss, P_nil0]
      · simp [body, g_seq, g_ops, g_cond, g_block, g_scope, g_skip, g_label, g_ret, g_exit, steps, step1, run1, o, u, og, ug, put, Opd.ev, cl_int, cl_bool, cl_nil, cl_sl, cl_agg, cl_vagg, cl_rs, cl_sp, cl_lp, cl_dfn, cl_nilFn, cl_fn, cl_str, cells_S, noLps, noLp, addP, St.load, St.store, splice, cut, mkV, allD, V.astray, V.far, V.near, answer, resAll, resOne, una, intOf?, fnOf, maxD_int, minD_int, foldD, fillG, canon, keepBoxes, keepLive, List.getElem?_cons_zero, List.getElem?_cons_succ, Option.getD_some, g8, Tr.cells, cells_P, b_eql, e1, plainT, P_nil0]
        simp [cellss, P_nil0]
    · have hk0 : ¬ k = 0 := by omega
      have hk5 : ¬ k = 5 := by omega
      have k0' := b_ne (k := .i64) hk0
      have k5' := b_ne (k := .i64) hk5
      obtain ⟨e, s', ⟨rfl, rfl⟩, h7⟩ := plain_loop (k := k) (k' := if k = 2 then 3 else k) (kn := kn) (n := n) (tr := tr) (s := s) (b := b) (tp := tp) h5 f2 ih
      have hfin : ∃ v sh l, body (lim table) 100 g8 [.d (Tr.mk k kn n tr s b tp kp ps).d] [] = some (v, sh) ∧ toD sh deepest v = some ((plainT (.mk k kn n tr s b tp kp ps)).d, l) := by
        simp only [plainT, if_neg hk]
        cases ps with
        | nil =>
          refine ⟨.d (.agg [.int .i64 (if k = 2 then 3 else k), .nilSl, .int .u64 0, .bool false, .bool b, .int .u64 (tp : Int), .nilSl]), [], [], ?_, ?_⟩
          · by_cases k2 : k = 2
            · subst k2
              simp [body, g_seq, g_ops, g_cond, g_block, g_scope, g_skip, g_label, g_ret, g_exit, steps, step1, run1, o, u, og, ug, put, Opd.ev, cl_int, cl_bool, cl_nil, cl_sl, cl_agg, cl_vagg, cl_rs, cl_sp, cl_lp, cl_dfn, cl_nilFn, cl_fn, cl_str, cells_S, noLps, noLp, addP, St.load, St.store, splice, cut, mkV, allD, V.astray, V.far, V.near, answer, resAll, resOne, una, intOf?, fnOf, maxD_int, minD_int, foldD, fillG, canon, keepBoxes, keepLive, List.getElem?_cons_zero, List.getElem?_cons_succ, Option.getD_some, g8, Tr.cells, cells_P, b_eql]
              rw [h7]
              · simp [body, g_seq, g_ops, g_cond, g_block, g_scope, g_skip, g_label, g_ret, g_exit, steps, step1, run1, o, u, og, ug, put, Opd.ev, cl_int, cl_bool, cl_nil, cl_sl, cl_agg, cl_vagg, cl_rs, cl_sp, cl_lp, cl_dfn, cl_nilFn, cl_fn, cl_str, cells_S, noLps, noLp, addP, St.load, St.store, splice, cut, mkV, allD, V.astray, V.far, V.near, answer, resAll, resOne, una, intOf?, fnOf, maxD_int, minD_int, foldD, fillG, canon, keepBoxes, keepLive, List.getElem?_cons_zero, List.getElem?_cons_succ, Option.getD_some, rg, plV, plSh, plainTs]
              · simp [body, g_seq, g_ops, g_cond, g_block, g_scope, g_skip, g_label, g_ret, g_exit, steps, step1, run1, o, u, og, ug, put, Opd.ev, cl_int, cl_bool, cl_nil, cl_sl, cl_agg, cl_vagg, cl_rs, cl_sp, cl_lp, cl_dfn, cl_nilFn, cl_fn, cl_str, cells_S, noLps, noLp, addP, St.load, St.store, splice, cut, mkV, allD, V.astray, V.far, V.near, answer, resAll, resOne, una, intOf?, fnOf, maxD_int, minD_int, foldD, fillG, canon, keepBoxes, keepLive, List.getElem?_cons_zero, List.getElem?_cons_succ, Option.getD_some, rg, plainAt, Tr.cells, plV, plSh]
            · simp [body, g_seq, g_ops, g_cond, g_block, g_scope, g_skip, g_label, g_ret, g_exit, steps, step1, run1, o, u, og, ug, put, Opd.ev, cl_int, cl_bool, cl_nil, cl_sl, cl_agg, cl_vagg, cl_rs, cl_sp, cl_lp, cl_dfn, cl_nilFn, cl_fn, cl_str, cells_S, noLps, noLp, addP, St.load, St.store, splice, cut, mkV, allD, V.astray, V.far, V.near, answer, resAll, resOne, una, intOf?, fnOf, maxD_int, minD_int, foldD, fillG, canon, keepBoxes, keepLive, List.getElem?_cons_zero, List.getElem?_cons_succ, Option.getD_some, g8, Tr.cells, cells_P, k0', k5', b_ne (k := .i64) k2, k2]
              rw [h7]
              · simp [body, g_seq, g_ops, g_cond, g_block, g_scope, g_skip, g_label, g_ret, g_exit, steps, step1, run1, o, u, og, ug, put, Opd.ev, cl_int, cl_bool, cl_nil, cl_sl, cl_agg, cl_vagg, cl_rs, cl_sp, cl_lp, cl_dfn, cl_nilFn, cl_fn, cl_str, cells_S, noLps, noLp, addP, St.load, St.store, splice, cut, mkV, allD, V.astray, V.far, V.near, answer, resAll, resOne, una, intOf?, fnOf, maxD_int, minD_int, foldD, fillG, canon, keepBoxes, keepLive, List.getElem?_cons_zero, List.getElem?_cons_succ, Option.getD_some, rg, plV, plSh, plainTs, k2]
              · simp [body, g_seq, g_ops, g_cond, g_block, g_scope, g_skip, g_label, g_ret, g_exit, steps, step1, run1, o, u, og, ug, put, Opd.ev, cl_int, cl_bool, cl_nil, cl_sl, cl_agg, cl_vagg, cl_rs, cl_sp, cl_lp, cl_dfn, cl_nilFn, cl_fn, cl_str, cells_S, noLps, noLp, addP, St.load, St.store, splice, cut, mkV, allD, V.astray, V.far, V.near, answer, resAll, resOne, una, intOf?, fnOf, maxD_int, minD_int, foldD, fillG, canon, keepBoxes, keepLive, List.getElem?_cons_zero, List.getElem?_cons_succ, Option.getD_some, rg, plainAt, Tr.cells, plV, plSh, k2]
          · rw [toD_d]
            simp [Tr.d, Tr.cells, plainTs, cellss, S_nil, P_nil0]
        | cons p r =>
          refine ⟨.agg [.d (.int .i64 (if k = 2 then 3 else k)), .d .nilSl, .d (.int .u64 0), .d (.bool false), .d (.bool b), .d (.int .u64 (tp : Int)), .rs 0 0 (p :: r).length], plSh (plainTs (p :: r)), [0], ?_, ?_⟩
          · by_cases k2 : k = 2
            · subst k2
              simp [body, g_seq, g_ops, g_cond, g_block, g_scope, g_skip, g_label, g_ret, g_exit, steps, step1, run1, o, u, og, ug, put, Opd.ev, cl_int, cl_bool, cl_nil, cl_sl, cl_agg, cl_vagg, cl_rs, cl_sp, cl_lp, cl_dfn, cl_nilFn, cl_fn, cl_str, cells_S, noLps, noLp, addP, St.load, St.store, splice, cut, mkV, allD, V.astray, V.far, V.near, answer, resAll, resOne, una, intOf?, fnOf, maxD_int, minD_int, foldD, fillG, canon, keepBoxes, keepLive, List.getElem?_cons_zero, List.getElem?_cons_succ, Option.getD_some, g8, Tr.cells, cells_P, b_eql]
              rw [h7]
              · simp [body, g_seq, g_ops, g_cond, g_block, g_scope, g_skip, g_label, g_ret, g_exit, steps, step1, run1, o, u, og, ug, put, Opd.ev, cl_int, cl_bool, cl_nil, cl_sl, cl_agg, cl_vagg, cl_rs, cl_sp, cl_lp, cl_dfn, cl_nilFn, cl_fn, cl_str, cells_S, noLps, noLp, addP, St.load, St.store, splice, cut, mkV, allD, V.astray, V.far, V.near, answer, resAll, resOne, una, intOf?, fnOf, maxD_int, minD_int, foldD, fillG, canon, keepBoxes, keepLive, List.getElem?_cons_zero, List.getElem?_cons_succ, Option.getD_some, rg, plV, plSh, plainTs]
              · simp [body, g_seq, g_ops, g_cond, g_block, g_scope, g_skip, g_label, g_ret, g_exit, steps, step1, run1, o, u, og, ug, put, Opd.ev, cl_int, cl_bool, cl_nil, cl_sl, cl_agg, cl_vagg, cl_rs, cl_sp, cl_lp, cl_dfn, cl_nilFn, cl_fn, cl_str, cells_S, noLps, noLp, addP, St.load, St.store, splice, cut, mkV, allD, V.astray, V.far, V.near, answer, resAll, resOne, una, intOf?, fnOf, maxD_int, minD_int, foldD, fillG, canon, keepBoxes, keepLive, List.getElem?_cons_zero, List.getElem?_cons_succ, Option.getD_some, rg, plainAt, Tr.cells, plV, plSh]
            · simp [body, g_seq, g_ops, g_cond, g_block, g_scope, g_skip, g_label, g_ret, g_exit, steps, step1, run1, o, u, og, ug, put, Opd.ev, cl_int, cl_bool, cl_nil, cl_sl, cl_agg, cl_vagg, cl_rs, cl_sp, cl_lp, cl_dfn, cl_nilFn, cl_fn, cl_str, cells_S, noLps, noLp, addP, St.load, St.store, splice, cut, mkV, allD, V.astray, V.far, V.near, answer, resAll, resOne, una, intOf?, fnOf, maxD_int, minD_int, foldD, fillG, canon, keepBoxes, keepLive, List.getElem?_cons_zero, List.getElem?_cons_succ, Option.getD_some, g8, Tr.cells, cells_P, k0', k5', b_ne (k := .i64) k2, k2]
              rw [h7]
              · simp [body, g_seq, g_ops, g_cond, g_block, g_scope, g_skip, g_label, g_ret, g_exit, steps, step1, run1, o, u, og, ug, put, Opd.ev, cl_int, cl_bool, cl_nil, cl_sl, cl_agg, cl_vagg, cl_rs, cl_sp, cl_lp, cl_dfn, cl_nilFn, cl_fn, cl_str, cells_S, noLps, noLp, addP, St.load, St.store, splice, cut, mkV, allD, V.astray, V.far, V.near, answer, resAll, resOne, una, intOf?, fnOf, maxD_int, minD_int, foldD, fillG, canon, keepBoxes, keepLive, List.getElem?_cons_zero, List.getElem?_cons_succ, Option.getD_some, rg, plV, plSh, plainTs, k2]
              · simp [body, g_seq, g_ops, g_cond, g_block, g_scope, g_skip, g_label, g_ret, g_exit, steps, step1, run1, o, u, og, ug, put, Opd.ev, cl_int, cl_bool, cl_nil, cl_sl, cl_agg, cl_vagg, cl_rs, cl_sp, cl_lp, cl_dfn, cl_nilFn, cl_fn, cl_str, cells_S, noLps, noLp, addP, St.load, St.store, splice, cut, mkV, allD, V.astray, V.far, V.near, answer, resAll, resOne, una, intOf?, fnOf, maxD_int, minD_int, foldD, fillG, canon, keepBoxes, keepLive, List.getElem?_cons_zero, List.getElem?_cons_succ, Option.getD_some, rg, plainAt, Tr.cells, plV, plSh, k2]
          · have hb := toD_flat (sh := plSh (plainTs (p :: r))) (b := 0) (l := plainTs (p :: r)) (n := 98) rfl
            rw [plainTs_length] at hb
            have hq : ∀ (x : V) (y : D) (l : List Nat), toD (plSh (plainTs (p :: r))) 99 x = some (y, l) → toD (plSh (plainTs (p :: r))) (98 + 1) x = some (y, l) := fun _ _ _ h => h
            have : toD (plSh (plainTs (p :: r))) deepest (.agg [.d (.int .i64 (if k = 2 then 3 else k)), .d .nilSl, .d (.int .u64 0), .d (.bool false), .d (.bool b), .d (.int .u64 (tp : Int)), .rs 0 0 (p :: r).length]) =
                (match allBy (toD (plSh (plainTs (p :: r))) (98 + 1)) [.d (.int .i64 (if k = 2 then 3 else k)), .d .nilSl, .d (.int .u64 0), .d (.bool false), .d (.bool b), .d (.int .u64 (tp : Int)), .rs 0 0 (p :: r).length] with
                  | some (ds, l) => some (.agg ds, l)
                  | Option.none => Option.none) := rfl
            rw [this]
            simp only [allBy, hb, toD_d, Tr.d, Tr.cells, S_nil]
            rfl
      obtain ⟨v, sh, l, q1, q2⟩ := hfin
      exact Ret.of 100 (g := g8) rfl ⟨v, sh, l, q1, q2⟩
end Go.Proofs.Try
