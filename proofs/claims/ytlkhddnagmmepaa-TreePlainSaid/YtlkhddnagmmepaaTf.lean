/-
  Package tree, function by function (6): the count of each kind.
-/
import Derived.Test.YtlkhddnagmmepaaTe
namespace Go.Proofs.Try
open Go.Gm
set_option maxHeartbeats 4000000
set_option maxRecDepth 10000
set_option linter.unusedSimpArgs false
set_option linter.unusedVariables false

mutual
/-- Nothing in it is secret, nor top. -/
def Pl : Tr → Prop
  | .mk k _ n tr s b tp _ ps => (k = 0 ∧ n = [1] ∧ tr = 0) ∨ ((k = 1 ∨ k = 3) ∧ Pls ps) ∨ (k = 4 ∧ s = false ∧ ps.length = 1 ∧ Pls ps)
def Pls : List Tr → Prop
  | [] => True
  | t :: r => Pl t ∧ Pls r
end
theorem Pls.at_ : ∀ {l : List Tr} {p : Tr}, Pls l → p ∈ l → Pl p
  | t :: r, p, h, hp => by
    rcases List.mem_cons.1 hp with rfl | hp
    · exact h.1
    · exact Pls.at_ h.2 hp

theorem exists_list {α β : Type} {Q : α → β → Prop} : ∀ (l : List α), (∀ p ∈ l, ∃ a, Q p a) → ∃ as : List β, as.length = l.length ∧ ∀ (i : Nat) (p : α) (a : β), l[i]? = some p → as[i]? = some a → Q p a
  | [], _ => ⟨[], rfl, fun i p a h => by simp at h⟩
  | x :: r, h => by
    obtain ⟨a, ha⟩ := h x (by simp)
    obtain ⟨as, h1, h2⟩ := exists_list r fun p hp => h p (by simp [hp])
    refine ⟨a :: as, by simp [h1], fun i p b hp hb => ?_⟩
    cases i with
    | zero => simp at hp hb; subst hp hb; exact ha
    | succ i => exact h2 i p b (by simpa using hp) (by simpa using hb)

theorem one_lt_pow {c : Nat} (hc : 1 ≤ c) : 18446744073709551616 ≤ 18446744073709551616 ^ c := by
  have : 18446744073709551616 ^ 1 ≤ 18446744073709551616 ^ c := Nat.pow_le_pow_right (by decide) hc
  simpa using this
theorem heldA_one {c : Nat} (hc : 1 ≤ c) : heldA c (1, 0) = some (1, 0) := by
  have := one_lt_pow hc
  rw [heldA, if_pos ⟨by show 1 < _; omega, by show 0 < _; omega⟩]
theorem run_mul {c : Nat} (hc : 1 ≤ c) : ∀ l : List (Option (Nat × Nat)), (∀ a ∈ l, a = some (1, 0)) → runA mulOp c (some (1, 0)) l = some (1, 0)
  | [], _ => rfl
  | a :: r, h => by
    rw [h a (by simp)]
    simp only [runA, stepA, mulOp, Nat.one_mul, Nat.add_zero, heldA_one hc]
    exact run_mul hc r fun a ha => h a (by simp [ha])
theorem run_max {c : Nat} (hc : 1 ≤ c) : ∀ l : List (Option (Nat × Nat)), (∀ a ∈ l, a = some (1, 0)) → runA maxOp c (some (1, 0)) l = some (1, 0)
  | [], _ => rfl
  | a :: r, h => by
    rw [h a (by simp)]
    simp only [runA, stepA, maxOp, Nat.max_self, heldA_one hc]
    exact run_max hc r fun a ha => h a (by simp [ha])
/-- What stands beside ones counts as it does alone. -/
theorem run_beside {c : Nat} (hc : 1 ≤ c) {a : Option (Nat × Nat)} (ha : ∀ v w, a = some (v, w) → heldA c (v, w) = some (v, w)) : runA mulOp c (some (1, 0)) [some (1, 0), a, some (1, 0)] = a := by
  simp only [runA, stepA, mulOp, Nat.one_mul, Nat.add_zero, heldA_one hc]
  cases a with
  | none => rfl
  | some p =>
    obtain ⟨v, w⟩ := p
    simp only [stepA, mulOp, Nat.one_mul, Nat.zero_add, ha v w rfl, runA, Nat.mul_one, Nat.mul_zero, Nat.add_zero]
theorem Rep.held {c : Nat} {a : Option (Nat × Nat)} {d : D} (h : Rep c a d) : ∀ v w, a = some (v, w) → heldA c (v, w) = some (v, w) := by
  rintro v w rfl
  obtain ⟨kn, n, kt, t, rfl, f1, f2, l1, l2, m1, rfl, rfl⟩ := h
  rw [heldA, if_pos ⟨val_len f1 l1, val_len f2 l2⟩]

section
variable {c : Nat} {k : Int} {kn : Option Bool} {n : List Nat} {tr : Nat} {s b : Bool} {tp : Nat} {kp : Option Bool} {ps : List Tr}
/-- What Eval says of a part. -/
def EvalOf (c : Nat) (p : Tr) (a : Option (Nat × Nat)) : Prop := ∃ dy, Rep c a dy ∧ Ret table 9 [.int .i64 (c : Int), p.d] dy ∧ (Pl p → a = some (1, 0))

theorem r_leaf (hc : 1 ≤ c) (hn : Fit kn n) (htr : tr < 18446744073709551616) : ∃ a d, Rep c a d ∧ Ret table 24 [(Tr.mk k kn n tr s b tp kp ps).d, .int .i64 (c : Int)] d ∧ (n = [1] → tr = 0 → a = some (1, 0)) := by
  obtain ⟨k1, h1, h2⟩ := r_of htr
  have key : ∀ d, Ret table 45 [.int .i64 (c : Int), N kn n, N k1 (trim [tr])] d → (∃ a, Rep c a d) → Ret table 24 [(Tr.mk k kn n tr s b tp kp ps).d, .int .i64 (c : Int)] d := by
    rintro d h4 ⟨a, h3⟩
    refine Ret.ofD 1 (g := g24) rfl ⟨[], ?_⟩
    cases a with
    | none =>
      obtain rfl : d = CtTop := h3
      simp [body, g_seq, g_ops, g_cond, g_block, g_scope, g_skip, g_label, g_ret, g_exit, steps, step1, run1, o, u, og, ug, put, Opd.ev, cl_int, cl_bool, cl_nil, cl_sl, cl_agg, cl_vagg, cl_rs, cl_sp, cl_lp, cl_dfn, cl_nilFn, cl_fn, cl_str, cells_S, noLps, noLp, addP, St.load, St.store, splice, cut, mkV, allD, V.astray, V.far, V.near, answer, resAll, resOne, una, intOf?, fnOf, maxD_int, minD_int, foldD, fillG, canon, keepBoxes, keepLive, List.getElem?_cons_zero, List.getElem?_cons_succ, Option.getD_some, g24, Tr.cells, cells_P, h2.c1, h4.c3]
    | some p =>
      obtain ⟨kn', n', kt', t', rfl, _⟩ := h3
      simp [body, g_seq, g_ops, g_cond, g_block, g_scope, g_skip, g_label, g_ret, g_exit, steps, step1, run1, o, u, og, ug, put, Opd.ev, cl_int, cl_bool, cl_nil, cl_sl, cl_agg, cl_vagg, cl_rs, cl_sp, cl_lp, cl_dfn, cl_nilFn, cl_fn, cl_str, cells_S, noLps, noLp, addP, St.load, St.store, splice, cut, mkV, allD, V.astray, V.far, V.near, answer, resAll, resOne, una, intOf?, fnOf, maxD_int, minD_int, foldD, fillG, canon, keepBoxes, keepLive, List.getElem?_cons_zero, List.getElem?_cons_succ, Option.getD_some, g24, Tr.cells, cells_P, h2.c1, h4.c3]
  by_cases hz : n = [1] ∧ tr = 0
  · obtain ⟨rfl, rfl⟩ := hz
    have h := r_held hn h1 hc
    rw [if_pos ⟨by simpa using hc, by simp [trim]⟩] at h
    have hr : Rep c (some (1, 0)) (Ct false kn [1] k1 (trim [0])) := ⟨kn, [1], k1, trim [0], rfl, hn, h1, by simpa using hc, by simp [trim], trim_trim _, rfl, rfl⟩
    exact ⟨some (1, 0), _, hr, key _ h ⟨_, hr⟩, fun _ _ => rfl⟩
  · obtain ⟨a, d, h3, h4⟩ := held_any hn h1 (trim_trim _) hc
    exact ⟨a, d, h3, key _ h4 ⟨a, h3⟩, fun h5 h6 => absurd ⟨h5, h6⟩ hz⟩

theorem held_one (hc : 1 ≤ c) : ∃ k1 d, Fit k1 [1] ∧ Ret table 32 [] (N k1 [1]) ∧ Rep c (some (1, 0)) d ∧ d = Ct false k1 [1] Option.none [] ∧ Ret table 45 [.int .i64 (c : Int), N k1 [1], N Option.none []] d := by
  obtain ⟨k1, h1, h2⟩ := r_one
  have h3 := r_held h1 fit_nil hc
  rw [if_pos ⟨by simpa using hc, by simp⟩] at h3
  exact ⟨k1, _, h1, h2, ⟨k1, [1], Option.none, [], rfl, h1, fit_nil, by simpa using hc, by simp, rfl, rfl, rfl⟩, rfl, h3⟩

theorem r_seq (hc : 1 ≤ c) (hc' : c ≤ 6) (hkp : kp = Option.none → ps = []) (hl : ps.length < 60) {as : List (Option (Nat × Nat))} (hal : as.length = ps.length)
    (has : ∀ (i : Nat) (p : Tr) (a : Option (Nat × Nat)), ps[i]? = some p → as[i]? = some a → EvalOf c p a) :
    ∃ d, Rep c (runA mulOp c (some (1, 0)) as) d ∧ Ret table 25 [(Tr.mk k kn n tr s b tp kp ps).d, .int .i64 (c : Int)] d := by
  obtain ⟨k1, d1, h1, h2, h3, h4, h5⟩ := held_one hc
  obtain ⟨d, h6, h7⟩ := r_parts goes_mul hc hc' (k := k) (kn := kn) (n := n) (tr := tr) (s := s) (b := b) (tp := tp) hkp hl hal (fun i p a e1 e2 => by obtain ⟨dy, q1, q2, _⟩ := has i p a e1 e2; exact ⟨dy, q1, q2⟩) h3
  refine ⟨d, h6, Ret.ofD 1 (g := g25) rfl ⟨[], ?_⟩⟩
  have e5 := h5.c3
  have e7 := h7.c4
  simp only [Tr.d, Tr.cells, N, S_nil] at e5 e7
  subst h4
  cases hr : runA mulOp c (some (1, 0)) as with
  | none =>
    rw [hr] at h6
    obtain rfl : d = CtTop := h6
    simp [body, g_seq, g_ops, g_cond, g_block, g_scope, g_skip, g_label, g_ret, g_exit, steps, step1, run1, o, u, og, ug, put, Opd.ev, cl_int, cl_bool, cl_nil, cl_sl, cl_agg, cl_vagg, cl_rs, cl_sp, cl_lp, cl_dfn, cl_nilFn, cl_fn, cl_str, cells_S, noLps, noLp, addP, St.load, St.store, splice, cut, mkV, allD, V.astray, V.far, V.near, answer, resAll, resOne, una, intOf?, fnOf, maxD_int, minD_int, foldD, fillG, canon, keepBoxes, keepLive, List.getElem?_cons_zero, List.getElem?_cons_succ, Option.getD_some, g25, Tr.cells, cells_P, h2.c0, e5, e7]
  | some z =>
    rw [hr] at h6
    obtain ⟨kn2, n2, kt2, t2, rfl, _⟩ := h6
    simp [body, g_seq, g_ops, g_cond, g_block, g_scope, g_skip, g_label, g_ret, g_exit, steps, step1, run1, o, u, og, ug, put, Opd.ev, cl_int, cl_bool, cl_nil, cl_sl, cl_agg, cl_vagg, cl_rs, cl_sp, cl_lp, cl_dfn, cl_nilFn, cl_fn, cl_str, cells_S, noLps, noLp, addP, St.load, St.store, splice, cut, mkV, allD, V.astray, V.far, V.near, answer, resAll, resOne, una, intOf?, fnOf, maxD_int, minD_int, foldD, fillG, canon, keepBoxes, keepLive, List.getElem?_cons_zero, List.getElem?_cons_succ, Option.getD_some, g25, Tr.cells, cells_P, h2.c0, e5, e7]

theorem r_either (hc : 1 ≤ c) (hc' : c ≤ 6) (hkp : kp = Option.none → ps = []) (hl : ps.length < 60) {as : List (Option (Nat × Nat))} (hal : as.length = ps.length)
    (has : ∀ (i : Nat) (p : Tr) (a : Option (Nat × Nat)), ps[i]? = some p → as[i]? = some a → EvalOf c p a) :
    ∃ d, Rep c (runA maxOp c (some (1, 0)) as) d ∧ Ret table 27 [(Tr.mk k kn n tr s b tp kp ps).d, .int .i64 (c : Int)] d := by
  obtain ⟨k1, d1, h1, h2, h3, h4, h5⟩ := held_one hc
  obtain ⟨d, h6, h7⟩ := r_parts goes_max hc hc' (k := k) (kn := kn) (n := n) (tr := tr) (s := s) (b := b) (tp := tp) hkp hl hal (fun i p a e1 e2 => by obtain ⟨dy, q1, q2, _⟩ := has i p a e1 e2; exact ⟨dy, q1, q2⟩) h3
  refine ⟨d, h6, Ret.ofD 1 (g := g27) rfl ⟨[], ?_⟩⟩
  have e5 := h5.c3
  have e7 := h7.c4
  simp only [Tr.d, Tr.cells, N, S_nil] at e5 e7
  subst h4
  cases hr : runA maxOp c (some (1, 0)) as with
  | none =>
    rw [hr] at h6
    obtain rfl : d = CtTop := h6
    simp [body, g_seq, g_ops, g_cond, g_block, g_scope, g_skip, g_label, g_ret, g_exit, steps, step1, run1, o, u, og, ug, put, Opd.ev, cl_int, cl_bool, cl_nil, cl_sl, cl_agg, cl_vagg, cl_rs, cl_sp, cl_lp, cl_dfn, cl_nilFn, cl_fn, cl_str, cells_S, noLps, noLp, addP, St.load, St.store, splice, cut, mkV, allD, V.astray, V.far, V.near, answer, resAll, resOne, una, intOf?, fnOf, maxD_int, minD_int, foldD, fillG, canon, keepBoxes, keepLive, List.getElem?_cons_zero, List.getElem?_cons_succ, Option.getD_some, g27, Tr.cells, cells_P, h2.c0, e5, e7]
  | some z =>
    rw [hr] at h6
    obtain ⟨kn2, n2, kt2, t2, rfl, _⟩ := h6
    simp [body, g_seq, g_ops, g_cond, g_block, g_scope, g_skip, g_label, g_ret, g_exit, steps, step1, run1, o, u, og, ug, put, Opd.ev, cl_int, cl_bool, cl_nil, cl_sl, cl_agg, cl_vagg, cl_rs, cl_sp, cl_lp, cl_dfn, cl_nilFn, cl_fn, cl_str, cells_S, noLps, noLp, addP, St.load, St.store, splice, cut, mkV, allD, V.astray, V.far, V.near, answer, resAll, resOne, una, intOf?, fnOf, maxD_int, minD_int, foldD, fillG, canon, keepBoxes, keepLive, List.getElem?_cons_zero, List.getElem?_cons_succ, Option.getD_some, g27, Tr.cells, cells_P, h2.c0, e5, e7]

theorem r_choice (hc : 1 ≤ c) (hc' : c ≤ 6) (htr : tr < 18446744073709551616) (hkp : kp = Option.none → ps = []) (hl : ps.length < 60) {as : List (Option (Nat × Nat))} (hal : as.length = ps.length)
    (has : ∀ (i : Nat) (p : Tr) (a : Option (Nat × Nat)), ps[i]? = some p → as[i]? = some a → EvalOf c p a) :
    ∃ a d, Rep c a d ∧ Ret table 26 [(Tr.mk k kn n tr s b tp kp ps).d, .int .i64 (c : Int)] d := by
  obtain ⟨k1, h1, h2⟩ := r_of htr
  have hlt : (trim [tr]).length ≤ c := Nat.le_trans (trim_length _) (by simpa using hc)
  by_cases h0 : ps.length = 0
  · obtain ⟨k2, h3, h4⟩ := r_one
    have h5 := r_held h3 h1 hc
    rw [if_pos ⟨by simpa using hc, hlt⟩] at h5
    refine ⟨some (1, val (trim [tr])), Ct false k2 [1] k1 (trim [tr]), ⟨k2, [1], k1, trim [tr], rfl, h3, h1, by simpa using hc, hlt, trim_trim _, rfl, rfl⟩, Ret.ofD 1 (g := g26) rfl ⟨[], ?_⟩⟩
    have hz : bin .eql (.int .i64 (ps.length : Int)) (.int .i64 0) = some (.bool true) := by rw [b_eql, h0]; rfl
    simp [body, g_seq, g_ops, g_cond, g_block, g_scope, g_skip, g_label, g_ret, g_exit, steps, step1, run1, o, u, og, ug, put, Opd.ev, cl_int, cl_bool, cl_nil, cl_sl, cl_agg, cl_vagg, cl_rs, cl_sp, cl_lp, cl_dfn, cl_nilFn, cl_fn, cl_str, cells_S, noLps, noLp, addP, St.load, St.store, splice, cut, mkV, allD, V.astray, V.far, V.near, answer, resAll, resOne, una, intOf?, fnOf, maxD_int, minD_int, foldD, fillG, canon, keepBoxes, keepLive, List.getElem?_cons_zero, List.getElem?_cons_succ, Option.getD_some, g26, Tr.cells, cells_P, lenV_P hkp, hz, h2.c1, h4.c0, h5.c3]
  · have h5 := r_held fit_nil h1 hc
    rw [if_pos ⟨by simp, hlt⟩] at h5
    have h3 : Rep c (some (0, val (trim [tr]))) (Ct false Option.none [] k1 (trim [tr])) := ⟨Option.none, [], k1, trim [tr], rfl, fit_nil, h1, by simp, hlt, trim_trim _, rfl, rfl⟩
    obtain ⟨d, h6, h7⟩ := r_parts goes_add hc hc' (k := k) (kn := kn) (n := n) (tr := tr) (s := s) (b := b) (tp := tp) hkp hl hal (fun i p a e1 e2 => by obtain ⟨dy, q1, q2, _⟩ := has i p a e1 e2; exact ⟨dy, q1, q2⟩) h3
    refine ⟨_, d, h6, Ret.ofD 1 (g := g26) rfl ⟨[], ?_⟩⟩
    have hz := b_ne (k := .i64) (x := (ps.length : Int)) (y := 0) (by omega)
    have e5 := h5.c3
    have e7 := h7.c4
    simp only [Tr.d, Tr.cells, N, S_nil] at e5 e7
    cases hr : runA addOp c (some (0, val (trim [tr]))) as with
    | none =>
      rw [hr] at h6
      obtain rfl : d = CtTop := h6
      simp [body, g_seq, g_ops, g_cond, g_block, g_scope, g_skip, g_label, g_ret, g_exit, steps, step1, run1, o, u, og, ug, put, Opd.ev, cl_int, cl_bool, cl_nil, cl_sl, cl_agg, cl_vagg, cl_rs, cl_sp, cl_lp, cl_dfn, cl_nilFn, cl_fn, cl_str, cells_S, noLps, noLp, addP, St.load, St.store, splice, cut, mkV, allD, V.astray, V.far, V.near, answer, resAll, resOne, una, intOf?, fnOf, maxD_int, minD_int, foldD, fillG, canon, keepBoxes, keepLive, List.getElem?_cons_zero, List.getElem?_cons_succ, Option.getD_some, g26, Tr.cells, cells_P, lenV_P hkp, hz, h2.c1, e5, e7]
    | some z =>
      rw [hr] at h6
      obtain ⟨kn2, n2, kt2, t2, rfl, _⟩ := h6
      simp [body, g_seq, g_ops, g_cond, g_block, g_scope, g_skip, g_label, g_ret, g_exit, steps, step1, run1, o, u, og, ug, put, Opd.ev, cl_int, cl_bool, cl_nil, cl_sl, cl_agg, cl_vagg, cl_rs, cl_sp, cl_lp, cl_dfn, cl_nilFn, cl_fn, cl_str, cells_S, noLps, noLp, addP, St.load, St.store, splice, cut, mkV, allD, V.astray, V.far, V.near, answer, resAll, resOne, una, intOf?, fnOf, maxD_int, minD_int, foldD, fillG, canon, keepBoxes, keepLive, List.getElem?_cons_zero, List.getElem?_cons_succ, Option.getD_some, g26, Tr.cells, cells_P, lenV_P hkp, hz, h2.c1, e5, e7]

theorem r_body (hc : 1 ≤ c) (hkp : kp = Option.none → ps = []) {p : Tr} (hp : ps[0]? = some p) {a : Option (Nat × Nat)} (ha : EvalOf c p a) :
    ∃ a d, Rep c a d ∧ Ret table 51 [(Tr.mk k kn n tr s b tp kp ps).d, .int .i64 (c : Int)] d ∧ (Pl p → a = some (1, 0)) := by
  obtain ⟨dy, h1, h2, h3⟩ := ha
  have hz : bin .eql (.int .u64 (tp : Int)) (.int .u64 0) = some (.bool (decide (tp = 0))) := by
    by_cases h : tp = 0
    · subst h; rfl
    · rw [b_ne (by omega)]; simp [h]
  have hel := fun s => elemP_P (s := s) hkp hp
  have h0 : ((0 : Nat) : Int) = 0 := rfl
  rw [h0] at hel
  by_cases hb : b = true ∧ tp = 0
  · obtain ⟨rfl, rfl⟩ := hb
    obtain ⟨k1, d1, q1, q2, q3, q4, q5⟩ := held_one hc
    subst q4
    have e5 := q5.c3
    simp only [N, S_nil] at e5
    refine ⟨some (1, 0), _, q3, Ret.ofD 1 (g := g51) rfl ⟨[], ?_⟩, fun _ => rfl⟩
    have hz' : bin .eql (.int .u64 0) (.int .u64 0) = some (.bool true) := rfl
    simp [body, g_seq, g_ops, g_cond, g_block, g_scope, g_skip, g_label, g_ret, g_exit, steps, step1, run1, o, u, og, ug, put, Opd.ev, cl_int, cl_bool, cl_nil, cl_sl, cl_agg, cl_vagg, cl_rs, cl_sp, cl_lp, cl_dfn, cl_nilFn, cl_fn, cl_str, cells_S, noLps, noLp, addP, St.load, St.store, splice, cut, mkV, allD, V.astray, V.far, V.near, answer, resAll, resOne, una, intOf?, fnOf, maxD_int, minD_int, foldD, fillG, canon, keepBoxes, keepLive, List.getElem?_cons_zero, List.getElem?_cons_succ, Option.getD_some, g51, Tr.cells, cells_P, hz', q2.c0, e5, S_nil]
  · refine ⟨a, dy, h1, ?_, h3⟩
    have e2 := h2.c2
    refine Ret.ofD 1 (g := g51) rfl ⟨[], ?_⟩
    have hd : b = false ∨ (b = true ∧ decide (tp = 0) = false) := by
      cases b with
      | false => exact .inl rfl
      | true => exact .inr ⟨rfl, by simp at hb; simp [hb]⟩
    cases a with
    | none =>
      obtain rfl : dy = CtTop := h1
      rcases hd with rfl | ⟨rfl, hd⟩
      · simp [body, g_seq, g_ops, g_cond, g_block, g_scope, g_skip, g_label, g_ret, g_exit, steps, step1, run1, o, u, og, ug, put, Opd.ev, cl_int, cl_bool, cl_nil, cl_sl, cl_agg, cl_vagg, cl_rs, cl_sp, cl_lp, cl_dfn, cl_nilFn, cl_fn, cl_str, cells_S, noLps, noLp, addP, St.load, St.store, splice, cut, mkV, allD, V.astray, V.far, V.near, answer, resAll, resOne, una, intOf?, fnOf, maxD_int, minD_int, foldD, fillG, canon, keepBoxes, keepLive, List.getElem?_cons_zero, List.getElem?_cons_succ, Option.getD_some, g51, Tr.cells, cells_P, hel, cells_length, cells_take, cells_takeV, allD_map, e2]
      · rw [hd] at hz
        simp [body, g_seq, g_ops, g_cond, g_block, g_scope, g_skip, g_label, g_ret, g_exit, steps, step1, run1, o, u, og, ug, put, Opd.ev, cl_int, cl_bool, cl_nil, cl_sl, cl_agg, cl_vagg, cl_rs, cl_sp, cl_lp, cl_dfn, cl_nilFn, cl_fn, cl_str, cells_S, noLps, noLp, addP, St.load, St.store, splice, cut, mkV, allD, V.astray, V.far, V.near, answer, resAll, resOne, una, intOf?, fnOf, maxD_int, minD_int, foldD, fillG, canon, keepBoxes, keepLive, List.getElem?_cons_zero, List.getElem?_cons_succ, Option.getD_some, g51, Tr.cells, cells_P, hz, hel, cells_length, cells_take, cells_takeV, allD_map, e2]
    | some z =>
      obtain ⟨kn2, n2, kt2, t2, rfl, _⟩ := h1
      rcases hd with rfl | ⟨rfl, hd⟩
      · simp [body, g_seq, g_ops, g_cond, g_block, g_scope, g_skip, g_label, g_ret, g_exit, steps, step1, run1, o, u, og, ug, put, Opd.ev, cl_int, cl_bool, cl_nil, cl_sl, cl_agg, cl_vagg, cl_rs, cl_sp, cl_lp, cl_dfn, cl_nilFn, cl_fn, cl_str, cells_S, noLps, noLp, addP, St.load, St.store, splice, cut, mkV, allD, V.astray, V.far, V.near, answer, resAll, resOne, una, intOf?, fnOf, maxD_int, minD_int, foldD, fillG, canon, keepBoxes, keepLive, List.getElem?_cons_zero, List.getElem?_cons_succ, Option.getD_some, g51, Tr.cells, cells_P, hel, cells_length, cells_take, cells_takeV, allD_map, e2]
      · rw [hd] at hz
        simp [body, g_seq, g_ops, g_cond, g_block, g_scope, g_skip, g_label, g_ret, g_exit, steps, step1, run1, o, u, og, ug, put, Opd.ev, cl_int, cl_bool, cl_nil, cl_sl, cl_agg, cl_vagg, cl_rs, cl_sp, cl_lp, cl_dfn, cl_nilFn, cl_fn, cl_str, cells_S, noLps, noLp, addP, St.load, St.store, splice, cut, mkV, allD, V.astray, V.far, V.near, answer, resAll, resOne, una, intOf?, fnOf, maxD_int, minD_int, foldD, fillG, canon, keepBoxes, keepLive, List.getElem?_cons_zero, List.getElem?_cons_succ, Option.getD_some, g51, Tr.cells, cells_P, hz, hel, cells_length, cells_take, cells_takeV, allD_map, e2]
end
end Go.Proofs.Try
