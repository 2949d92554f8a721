/-
  Package tree, function by function (1): trees as data, and how many there are.
-/
import Derived.Test.YtlkhddnagmmepaaNj
namespace Go.Proofs.Try
open Go.Gm
set_option maxHeartbeats 4000000
set_option maxRecDepth 10000
set_option linter.unusedSimpArgs false
set_option linter.unusedVariables false

/-- A tree: its kind, its N (limbs), its traps, whether it is secret, and bounded, its trips, its parts. -/
inductive Tr where
  | mk (kind : Int) (kn : Option Bool) (n : List Nat) (traps : Nat) (sec bnd : Bool) (trips : Nat) (kp : Option Bool) (parts : List Tr)

/-- Parts, as a slice. -/
def Pt (kp : Option Bool) (l : List (List D)) : D := match kp with
  | Option.none => .nilSl
  | some f => .sl f 7 l

mutual
def Tr.cells : Tr → List D
  | .mk kind kn n traps sec bnd trips kp parts => [.int .i64 kind, S kn n, .int .u64 (traps : Int), .bool sec, .bool bnd, .int .u64 (trips : Int), Pt kp (cellss parts)]
def cellss : List Tr → List (List D)
  | [] => []
  | t :: r => t.cells :: cellss r
end
abbrev Tr.d (t : Tr) : D := .agg t.cells

mutual
/-- Its numbers are such. -/
def Tr.Ok : Tr → Prop
  | .mk kind kn n traps _ _ trips kp parts => (-9223372036854775808 ≤ kind ∧ kind ≤ 9223372036854775807) ∧ Fit kn n ∧ traps < 18446744073709551616 ∧ trips < 18446744073709551616 ∧ (kp = Option.none → parts = []) ∧ Oks parts
def Oks : List Tr → Prop
  | [] => True
  | t :: r => t.Ok ∧ Oks r
end

theorem cellss_length : ∀ l : List Tr, (cellss l).length = l.length
  | [] => rfl
  | _ :: r => by simp [cellss, cellss_length r]
theorem cellss_at : ∀ (l : List Tr) (i : Nat), (cellss l)[i]? = (l[i]?).map Tr.cells
  | [], i => by simp [cellss]
  | t :: r, 0 => by simp [cellss]
  | t :: r, i + 1 => by simp [cellss, cellss_at r i]
theorem Oks.at_ : ∀ {l : List Tr} {p : Tr}, Oks l → p ∈ l → p.Ok
  | t :: r, p, h, hp => by
    rcases List.mem_cons.1 hp with rfl | hp
    · exact h.1
    · exact Oks.at_ h.2 hp
theorem cells_length (t : Tr) : t.cells.length = 7 := by cases t; simp [Tr.cells]
theorem cells_take (t : Tr) : List.take 7 t.cells = t.cells := List.take_of_length_le (by rw [cells_length]; exact Nat.le_refl _)
theorem cells_takeV (t : Tr) : List.take 7 (t.cells.map V.d) = t.cells.map V.d := List.take_of_length_le (by rw [List.length_map, cells_length]; exact Nat.le_refl _)
theorem noLps_map : ∀ l : List D, noLps (l.map V.d) = true
  | [] => rfl
  | x :: r => by simp [noLps, noLp, noLps_map r]

section
variable {kp : Option Bool} {ps : List Tr} {s : St}
theorem cells_P {l : List (List D)} : V.cells (.d (Pt kp l)) = some [.d (Pt kp l)] := by cases kp <;> rfl
theorem lenV_P (h : kp = Option.none → ps = []) : lenV s (.d (Pt kp (cellss ps))) = some ps.length := by
  cases kp with
  | none => rw [h rfl]; rfl
  | some f => simp [Pt, lenV, cellss_length]
theorem elemP_P (h : kp = Option.none → ps = []) {i : Nat} {p : Tr} (hp : ps[i]? = some p) : elemP s 7 (.d (Pt kp (cellss ps))) (i : Int) = some (.d (.pp p.cells 0)) := by
  cases kp with
  | none => rw [h rfl] at hp; simp at hp
  | some f =>
    have : (0 : Int) ≤ i := by omega
    simp [Pt, elemP, this, cellss_at, hp]
end

/-! ### how many trees there are -/
/-- All together, from n on, as long as it's not too many. -/
def cntL (f : Tr → Int) : Int → List Tr → Int
  | n, [] => n
  | n, p :: r => if n ≤ 60 then cntL f (n + f p) r else n
def cnt : Nat → Tr → Int
  | 0, _ => 1000000
  | d + 1, .mk _ _ n _ _ _ _ _ parts => if n.length > 3 then 1000000 else cntL (cnt d) 1 parts
theorem cntL_bound {f : Tr → Int} {B : Int} (hB : 0 ≤ B) (hf : ∀ p, 1 ≤ f p ∧ f p ≤ B) : ∀ (l : List Tr) (n : Int), n ≤ 60 + B → n ≤ cntL f n l ∧ cntL f n l ≤ 60 + B
  | [], n, h => by simp [cntL, h]
  | p :: r, n, h => by
    simp only [cntL]
    have := hf p
    split
    · have := cntL_bound hB hf r (n + f p) (by omega)
      omega
    · omega
theorem cnt_bound : ∀ (d : Nat) (t : Tr), 1 ≤ cnt d t ∧ cnt d t ≤ 1000000 + 60 * d
  | 0, t => by cases t; simp [cnt]
  | d + 1, .mk _ _ n _ _ _ _ _ parts => by
    simp only [cnt]
    split
    · omega
    · have := cntL_bound (B := 1000000 + 60 * d) (by omega) (cnt_bound d) parts 1 (by omega)
      omega

/-- A small tree. -/
def Few : Nat → Tr → Prop
  | 0, _ => False
  | d + 1, .mk _ _ n _ _ _ _ _ parts => n.length ≤ 3 ∧ parts.length < 60 ∧ ∀ p ∈ parts, Few d p
theorem cntL_few {f : Tr → Int} (hf : ∀ p, 1 ≤ f p) : ∀ (l : List Tr) (n : Int), 1 ≤ n → cntL f n l ≤ 60 → n + l.length ≤ 60 ∧ ∀ p ∈ l, f p ≤ 60
  | [], n, h1, h => by simp only [cntL] at h; simp; omega
  | p :: r, n, h1, h => by
    simp only [cntL] at h
    split at h
    · have h2 := hf p
      have h3 := cntL_few hf r (n + f p) (by omega) h
      refine ⟨by simp; omega, fun q hq => ?_⟩
      rcases List.mem_cons.1 hq with rfl | hq
      · omega
      · exact h3.2 q hq
    · omega
theorem few_of_cnt : ∀ (d : Nat) (t : Tr), cnt d t ≤ 60 → Few d t
  | 0, t, h => by simp [cnt] at h
  | d + 1, .mk _ _ n _ _ _ _ _ parts, h => by
    simp only [cnt] at h
    split at h
    · omega
    · have := cntL_few (fun p => (cnt_bound d p).1) parts 1 (by omega) h
      exact ⟨by omega, by omega, fun p hp => few_of_cnt d p (this.2 p hp)⟩

/-- At the head of the loop that counts. -/
def treesAt (c : List V) (d : Int) (p : Nat × Int) : St :=
  ⟨rg 41 [(1, .d (.int .i64 60)), (2, .d (.int .i64 d)), (3, .lp 0 0), (7, .d (.int .i64 p.2)), (8, .d (.int .i64 (p.1 : Int)))], [c], []⟩

theorem r_trees : ∀ (d : Nat) (t : Tr), d ≤ 30 → t.Ok → Ret table 19 [t.d, .int .i64 60, .int .i64 (d : Int)] (.int .i64 (cnt d t))
  | 0, .mk kind kn n traps sec bnd trips kp parts, hd, h => by
    refine Ret.ofD 1 (g := g19) rfl ⟨[], ?_⟩
    simp [body, g_seq, g_ops, g_cond, g_block, g_scope, g_skip, g_label, g_ret, g_exit, steps, step1, run1, o, u, og, ug, put, Opd.ev, cl_int, cl_bool, cl_nil, cl_sl, cl_agg, cl_vagg, cl_rs, cl_sp, cl_lp, cl_dfn, cl_nilFn, cl_fn, cl_str, cells_S, noLps, noLp, addP, St.load, St.store, splice, cut, mkV, allD, V.astray, V.far, V.near, answer, resAll, resOne, bin, una, intOf?, fnOf, maxD_int, minD_int, foldD, fillG, canon, keepBoxes, keepLive, List.getElem?_cons_zero, List.getElem?_cons_succ, Option.getD_some, g19, Tr.cells, cells_P, cnt]
  | d + 1, .mk kind kn n traps sec bnd trips kp parts, hd, h => by
    obtain ⟨h1, h2, h3, h4, h5, h6⟩ := h
    have e1 := (r_len h2).c1
    have pz := b_ne (k := .i64) (x := ((d + 1 : Nat) : Int)) (y := 0) (by omega)
    have pd : bin .sub (.int .i64 ((d + 1 : Nat) : Int)) (.int .i64 1) = some (.int .i64 (d : Int)) := by
      rw [b_sub64, w64 (by omega) (by omega)]
      congr 2
      omega
    by_cases hn : n.length > 3
    · have hn' : (n.length : Int) > 3 := by omega
      refine Ret.ofD 1 (g := g19) rfl ⟨[], ?_⟩
      generalize ((d + 1 : Nat) : Int) = dd at *
      simp [body, g_seq, g_ops, g_cond, g_block, g_scope, g_skip, g_label, g_ret, g_exit, steps, step1, run1, o, u, og, ug, put, Opd.ev, cl_int, cl_bool, cl_nil, cl_sl, cl_agg, cl_vagg, cl_rs, cl_sp, cl_lp, cl_dfn, cl_nilFn, cl_fn, cl_str, cells_S, noLps, noLp, addP, St.load, St.store, splice, cut, mkV, allD, V.astray, V.far, V.near, answer, resAll, resOne, una, intOf?, fnOf, maxD_int, minD_int, foldD, fillG, canon, keepBoxes, keepLive, List.getElem?_cons_zero, List.getElem?_cons_succ, Option.getD_some, g19, Tr.cells, cells_P, cnt, pz, e1, b_gtr, hn, hn']
    · have hn' : ¬ (n.length : Int) > 3 := by omega
      have hloop : ∃ e s', (e = .brk 0 ∧ s' = ⟨rg 41 [(7, .d (.int .i64 (cntL (cnt d) 1 parts)))], [], []⟩) ∧
          ∀ s, canon [3] [1, 2, 7, 8] s = some (treesAt [.d (.int .i64 kind), .d (S kn n), .d (.int .u64 (traps : Int)), .d (.bool sec), .d (.bool bnd), .d (.int .u64 (trips : Int)), .d (Pt kp (cellss parts))] ((d + 1 : Nat) : Int) (0, 1)) → gcode (lim table) 100 g19_l0 s = some (e, s') := by
        refine loop_rule (lf := 100) (treesAt _ ((d + 1 : Nat) : Int)) (fun p => (61 - p.2).toNat) (fun p => p.1 ≤ parts.length ∧ (p.1 : Int) + 1 ≤ p.2 ∧ p.2 ≤ 1000000 + 61 * 31 ∧ cntL (cnt d) p.2 (parts.drop p.1) = cntL (cnt d) 1 parts) _ ?_ (x := (0, 1))
          ⟨by simp, by simp, by simp, by simp⟩ (show (61 - 1 : Int).toNat < 100 by decide)
        intro ⟨i, m⟩ ⟨q1, q2, q3, q4⟩
        simp only at q1 q2 q3 q4
        have pd' := pd
        by_cases hi : i < parts.length
        · have hp : parts[i]? = some parts[i] := List.getElem?_eq_getElem hi
          have hmem : parts[i] ∈ parts := List.getElem_mem _
          rw [List.drop_eq_getElem_cons hi] at q4
          simp only [cntL] at q4
          generalize parts[i] = p at *
          have hi' : (i : Int) < parts.length := by omega
          by_cases hm : m ≤ 60
          · left
            rw [if_pos hm] at q4
            have e2 := (r_trees d p (by omega) (h6.at_ hmem)).c3
            have hb := cnt_bound d p
            generalize cnt d p = x at *
            generalize ((d + 1 : Nat) : Int) = dd at *
            refine ⟨_, (i + 1, m + x), by
              simp [body, g_seq, g_ops, g_cond, g_block, g_scope, g_skip, g_label, g_ret, g_exit, steps, step1, run1, o, u, og, ug, put, Opd.ev, cl_int, cl_bool, cl_nil, cl_sl, cl_agg, cl_vagg, cl_rs, cl_sp, cl_lp, cl_dfn, cl_nilFn, cl_fn, cl_str, cells_S, noLps, noLp, addP, St.load, St.store, splice, cut, mkV, allD, V.astray, V.far, V.near, answer, resAll, resOne, una, intOf?, fnOf, maxD_int, minD_int, foldD, fillG, canon, keepBoxes, keepLive, List.getElem?_cons_zero, List.getElem?_cons_succ, Option.getD_some, g19_b0, rg, treesAt, lenV_P h5, elemP_P h5 hp, b_lss, b_leq, hi', hi, hm, cells_length, cells_take, allD_map, pd', e2, b_add64]
              rfl, ?_, ⟨show i + 1 ≤ parts.length by omega, show ((i + 1 : Nat) : Int) + 1 ≤ m + x by omega, show m + x ≤ 1000000 + 61 * 31 by omega, q4⟩, show (61 - (m + x)).toNat < (61 - m).toNat by omega⟩
            simp (disch := omega) [body, g_seq, g_ops, g_cond, g_block, g_scope, g_skip, g_label, g_ret, g_exit, steps, step1, run1, o, u, og, ug, put, Opd.ev, cl_int, cl_bool, cl_nil, cl_sl, cl_agg, cl_vagg, cl_rs, cl_sp, cl_lp, cl_dfn, cl_nilFn, cl_fn, cl_str, cells_S, noLps, noLp, addP, St.load, St.store, splice, cut, mkV, allD, V.astray, V.far, V.near, answer, resAll, resOne, una, intOf?, fnOf, maxD_int, minD_int, foldD, fillG, canon, keepBoxes, keepLive, List.getElem?_cons_zero, List.getElem?_cons_succ, Option.getD_some, rg, treesAt, w64]
          · right
            rw [if_neg hm] at q4
            generalize ((d + 1 : Nat) : Int) = dd at *
            refine ⟨.brk 0, _, ⟨rg 41 [(7, .d (.int .i64 (cntL (cnt d) 1 parts)))], [], []⟩, by
              simp [body, g_seq, g_ops, g_cond, g_block, g_scope, g_skip, g_label, g_ret, g_exit, steps, step1, run1, o, u, og, ug, put, Opd.ev, cl_int, cl_bool, cl_nil, cl_sl, cl_agg, cl_vagg, cl_rs, cl_sp, cl_lp, cl_dfn, cl_nilFn, cl_fn, cl_str, cells_S, noLps, noLp, addP, St.load, St.store, splice, cut, mkV, allD, V.astray, V.far, V.near, answer, resAll, resOne, una, intOf?, fnOf, maxD_int, minD_int, foldD, fillG, canon, keepBoxes, keepLive, List.getElem?_cons_zero, List.getElem?_cons_succ, Option.getD_some, g19_b0, rg, treesAt, lenV_P h5, b_lss, b_leq, hi', hi, hm]
              rfl, by simp, by simp [body, g_seq, g_ops, g_cond, g_block, g_scope, g_skip, g_label, g_ret, g_exit, steps, step1, run1, o, u, og, ug, put, Opd.ev, cl_int, cl_bool, cl_nil, cl_sl, cl_agg, cl_vagg, cl_rs, cl_sp, cl_lp, cl_dfn, cl_nilFn, cl_fn, cl_str, cells_S, noLps, noLp, addP, St.load, St.store, splice, cut, mkV, allD, V.astray, V.far, V.near, answer, resAll, resOne, una, intOf?, fnOf, maxD_int, minD_int, foldD, fillG, canon, keepBoxes, keepLive, List.getElem?_cons_zero, List.getElem?_cons_succ, Option.getD_some, rg, q4], rfl, rfl⟩
        · right
          rw [List.drop_eq_nil_of_le (by omega)] at q4
          simp only [cntL] at q4
          have hi' : ¬ (i : Int) < parts.length := by omega
          generalize ((d + 1 : Nat) : Int) = dd at *
          exact ⟨.brk 0, _, ⟨rg 41 [(7, .d (.int .i64 (cntL (cnt d) 1 parts)))], [], []⟩, by
              simp [body, g_seq, g_ops, g_cond, g_block, g_scope, g_skip, g_label, g_ret, g_exit, steps, step1, run1, o, u, og, ug, put, Opd.ev, cl_int, cl_bool, cl_nil, cl_sl, cl_agg, cl_vagg, cl_rs, cl_sp, cl_lp, cl_dfn, cl_nilFn, cl_fn, cl_str, cells_S, noLps, noLp, addP, St.load, St.store, splice, cut, mkV, allD, V.astray, V.far, V.near, answer, resAll, resOne, una, intOf?, fnOf, maxD_int, minD_int, foldD, fillG, canon, keepBoxes, keepLive, List.getElem?_cons_zero, List.getElem?_cons_succ, Option.getD_some, g19_b0, rg, treesAt, lenV_P h5, b_lss, hi', hi]
              rfl, by simp, by simp [body, g_seq, g_ops, g_cond, g_block, g_scope, g_skip, g_label, g_ret, g_exit, steps, step1, run1, o, u, og, ug, put, Opd.ev, cl_int, cl_bool, cl_nil, cl_sl, cl_agg, cl_vagg, cl_rs, cl_sp, cl_lp, cl_dfn, cl_nilFn, cl_fn, cl_str, cells_S, noLps, noLp, addP, St.load, St.store, splice, cut, mkV, allD, V.astray, V.far, V.near, answer, resAll, resOne, una, intOf?, fnOf, maxD_int, minD_int, foldD, fillG, canon, keepBoxes, keepLive, List.getElem?_cons_zero, List.getElem?_cons_succ, Option.getD_some, rg, q4], rfl, rfl⟩
      obtain ⟨e, s', ⟨rfl, rfl⟩, h7⟩ := hloop
      refine Ret.ofD 100 (g := g19) rfl ⟨[], ?_⟩
      simp only [treesAt] at h7
      generalize ((d + 1 : Nat) : Int) = dd at *
      simp [body, g_seq, g_ops, g_cond, g_block, g_scope, g_skip, g_label, g_ret, g_exit, steps, step1, run1, o, u, og, ug, put, Opd.ev, cl_int, cl_bool, cl_nil, cl_sl, cl_agg, cl_vagg, cl_rs, cl_sp, cl_lp, cl_dfn, cl_nilFn, cl_fn, cl_str, cells_S, noLps, noLp, addP, St.load, St.store, splice, cut, mkV, allD, V.astray, V.far, V.near, answer, resAll, resOne, una, intOf?, fnOf, maxD_int, minD_int, foldD, fillG, canon, keepBoxes, keepLive, List.getElem?_cons_zero, List.getElem?_cons_succ, Option.getD_some, g19, Tr.cells, cells_P, cnt, pz, e1, b_gtr, hn, hn']
      rw [h7]
      · simp [body, g_seq, g_ops, g_cond, g_block, g_scope, g_skip, g_label, g_ret, g_exit, steps, step1, run1, o, u, og, ug, put, Opd.ev, cl_int, cl_bool, cl_nil, cl_sl, cl_agg, cl_vagg, cl_rs, cl_sp, cl_lp, cl_dfn, cl_nilFn, cl_fn, cl_str, cells_S, noLps, noLp, addP, St.load, St.store, splice, cut, mkV, allD, V.astray, V.far, V.near, answer, resAll, resOne, una, intOf?, fnOf, maxD_int, minD_int, foldD, fillG, canon, keepBoxes, keepLive, List.getElem?_cons_zero, List.getElem?_cons_succ, Option.getD_some, rg]
      · simp [body, g_seq, g_ops, g_cond, g_block, g_scope, g_skip, g_label, g_ret, g_exit, steps, step1, run1, o, u, og, ug, put, Opd.ev, cl_int, cl_bool, cl_nil, cl_sl, cl_agg, cl_vagg, cl_rs, cl_sp, cl_lp, cl_dfn, cl_nilFn, cl_fn, cl_str, cells_S, noLps, noLp, addP, St.load, St.store, splice, cut, mkV, allD, V.astray, V.far, V.near, answer, resAll, resOne, una, intOf?, fnOf, maxD_int, minD_int, foldD, fillG, canon, keepBoxes, keepLive, List.getElem?_cons_zero, List.getElem?_cons_succ, Option.getD_some, rg]

theorem r_few {t : Tr} (h : t.Ok) : Ret table 5 [t.d, .int .i64 60] (.bool (decide (cnt 30 t ≤ 60))) := by
  have e1 := (r_trees 30 t (by decide) h).c3
  refine Ret.ofD 1 (g := g5) rfl ⟨[], ?_⟩
  have e2 : ((30 : Nat) : Int) = 30 := rfl
  rw [e2] at e1
  simp [body, g_seq, g_ops, g_cond, g_block, g_scope, g_skip, g_label, g_ret, g_exit, steps, step1, run1, o, u, og, ug, put, Opd.ev, cl_int, cl_bool, cl_nil, cl_sl, cl_agg, cl_vagg, cl_rs, cl_sp, cl_lp, cl_dfn, cl_nilFn, cl_fn, cl_str, cells_S, noLps, noLp, addP, St.load, St.store, splice, cut, mkV, allD, V.astray, V.far, V.near, answer, resAll, resOne, una, intOf?, fnOf, maxD_int, minD_int, foldD, fillG, canon, keepBoxes, keepLive, List.getElem?_cons_zero, List.getElem?_cons_succ, Option.getD_some, g5, cells_length, cells_take, cells_takeV, allD_map, noLps_map, e1, b_leq]
end Go.Proofs.Try
