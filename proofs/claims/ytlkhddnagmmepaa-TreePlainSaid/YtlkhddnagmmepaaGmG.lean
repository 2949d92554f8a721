/-
  Each operation of the ghost machine is an operation of the model (1): copies, addresses, loads, stores, boxes, arithmetic.
-/
import Derived.Test.YtlkhddnagmmepaaGmF
namespace Go.Gm
set_option linter.unusedSimpArgs false
set_option linter.unusedVariables false
open Go.RowKit

/-- The model's operation runs to where the ghost's does. -/
def Runs (P : Program) (w0 : World) (E0 : List Nat) (M0 : Mem) (C : Ctx) (s s' : St) (v : V) (w : World) (m : Sem Next) : Prop :=
  ∃ (C' : Ctx) (r : Next) (w' : World), m.run P w = .ok r w' ∧ ((r = .skip ∧ v = .none) ∨ ∃ u, r = .value u ∧ VRel C' s'.sh v u) ∧
    CtxLe C s.sh C' s'.sh ∧ WRel w0 E0 M0 C' s'.ph s'.sh w' ∧ s'.tmps = s.tmps

section
variable {P : Program} {w0 w w' : World} {E0 : List Nat} {M0 : Mem} {C : Ctx} {s s' : St} {a : Act} {v : V}

theorem Runs.pure (h : WRel w0 E0 M0 C s.ph s.sh w) {m : Sem Next} {x : Value} (hr : m.run P w = .ok (.value x) w) (hv : VRel C s.sh v x) : Runs P w0 E0 M0 C s s v w m :=
  ⟨C, .value x, w, hr, .inr ⟨x, rfl, hv⟩, CtxLe.refl _ _, h, rfl⟩

/-! ### constants and operands -/
theorem con1_ok {M : Mem} {x : Value} {y : D} (h : con1 x = some y) : DRel M y x ∧ x.oneCell' = true := by
  unfold con1 at h
  split at h <;> first | (cases h; exact ⟨rfl, rfl⟩) | cases h
theorem conL_ok {M : Mem} : ∀ {xs : List Value} {ys : List D}, conL xs = some ys → DList M ys xs ∧ Ones xs
  | [], ys, h => by simp only [conL, Option.some.injEq] at h; subst h; exact ⟨trivial, fun u hu => by simp at hu⟩
  | x :: r, ys, h => by
    simp only [conL] at h
    split at h
    · rename_i y z h1 h2
      cases h
      obtain ⟨g1, g2⟩ := conL_ok (M := M) h2
      obtain ⟨g3, g4⟩ := con1_ok (M := M) h1
      exact ⟨⟨g3, g1⟩, fun u hu => by
        rcases List.mem_cons.1 hu with q | q
        · subst q; exact g4
        · exact g2 u q⟩
    · cases h
theorem con_ok {M : Mem} {x : Value} {y : D} (h : con x = some y) : DRel M y x := by
  unfold con at h
  split at h
  · rename_i cs
    cases e : conL cs.toList with
    | none => rw [e] at h; cases h
    | some ds =>
      rw [e] at h; cases h
      obtain ⟨g1, g2⟩ := conL_ok (M := M) e
      exact ⟨cs.toList, by simp, g2, g1⟩
  · exact (con1_ok h).1

theorem eval_ok {x : Operand} {y : Opd} (h : trOpd x = some y) (ht : TRel C s.sh s.tmps a) : VRel C s.sh (y.ev s) (a.eval x) := by
  cases x with
  | tmp t =>
    simp only [trOpd, Option.some.injEq] at h
    subst h
    simp only [Opd.ev, Act.eval, List.getD_eq_getElem?_getD]
    cases e : s.tmps[t]? with
    | none => exact trivial
    | some v =>
      obtain ⟨u, e1, e2⟩ := ht.2.at_ e
      have : a.tmps.getD t undef = u := by
        rw [Array.getD_eq_getD_getElem?]
        simp at e1
        rw [e1]; rfl
      rw [this]; exact e2
  | const v =>
    simp only [trOpd] at h
    cases e : con v with
    | none => rw [e] at h; cases h
    | some d => rw [e] at h; cases h; exact con_ok e
  | global g => cases h
  | func f =>
    simp only [trOpd, Option.some.injEq] at h
    subst h
    exact ⟨[], [], rfl, trivial, trivial⟩

theorem evals_ok : ∀ {xs : List Operand} {ys : List Opd}, trOpds xs = some ys → TRel C s.sh s.tmps a → VList C s.sh (ys.map (Opd.ev s)) (xs.map a.eval)
  | [], ys, h, _ => by simp only [trOpds, Option.some.injEq] at h; subst h; exact trivial
  | x :: r, ys, h, ht => by
    simp only [trOpds] at h
    split at h
    · rename_i y z h1 h2
      cases h
      exact ⟨eval_ok h1 ht, evals_ok h2 ht⟩
    · cases h

/-! ### values and cells -/
theorem allD_ok : ∀ {cs : List V} {ds : List D}, allD cs = some ds → cs = ds.map V.d
  | [], _, h => by cases h; rfl
  | .d x :: r, ds, h => by
    simp only [allD] at h
    cases e : allD r with
    | none => rw [e] at h; cases h
    | some es => rw [e] at h; cases h; simp [allD_ok e]
  | .rs _ _ _ :: _, _, h => by cases h
  | .lp _ _ :: _, _, h => by cases h
  | .sp _ _ _ :: _, _, h => by cases h
  | .agg _ :: _, _, h => by cases h
  | .fn _ _ _ :: _, _, h => by cases h
  | .tup _ :: _, _, h => by cases h
  | .none :: _, _, h => by cases h
theorem dlist_of_v : ∀ {ds : List D} {us : List Value}, VList C s.sh (ds.map V.d) us → DList C.M ds us
  | [], [], _ => trivial
  | _ :: _, _ :: _, ⟨h1, h2⟩ => ⟨h1, dlist_of_v h2⟩
  | [], _ :: _, h => h.elim

theorem mkV_agg {cs : List V} {us : List Value} (h : mkV true cs = some v) (hv : VList C s.sh cs us) (h1 : Ones us) : VRel C s.sh v (.agg us.toArray) := by
  simp only [mkV, if_true] at h
  split at h
  · rename_i ds e
    cases h
    rw [allD_ok e] at hv
    exact ⟨us, rfl, h1, dlist_of_v hv⟩
  · cases h; exact ⟨us, rfl, h1, hv⟩
theorem mkV_one {cs : List V} {us : List Value} (h : mkV false cs = some v) (hv : VList C s.sh cs us) : ∃ u, us = [u] ∧ VRel C s.sh v u := by
  simp only [mkV, Bool.false_eq_true, if_false] at h
  split at h
  · cases h
    match us, hv with
    | [u], ⟨h, _⟩ => exact ⟨u, rfl, h⟩
  · cases h

theorem one_of {x : V} {u : Value} (h : VRel C s.sh x u) (h1 : x.cells = some [x]) (h2 : ∀ cs, x ≠ .d (.agg cs)) (h3 : ∀ cs, x ≠ .agg cs) : u.oneCell' = true := by
  cases x with
  | d y =>
    cases y with
    | int k n => cases h; rfl
    | bool b => cases h; rfl
    | str b => cases h; rfl
    | nilSl => cases h; rfl
    | sl f es xs => obtain ⟨_, _, e, _⟩ := h; subst e; rfl
    | agg cs => exact absurd rfl (h2 cs)
    | pp cs off => obtain ⟨_, _, e, _⟩ := h; subst e; rfl
    | fn f us ws => obtain ⟨_, _, e, _⟩ := h; subst e; rfl
    | nilFn => cases h; rfl
    | nilPtr => cases h; rfl
    | iface t y => obtain ⟨_, e, _⟩ := h; subst e; rfl
    | nilIface => cases h; rfl
    | tup vs => simp [V.cells] at h1
  | rs b off len => obtain ⟨⟨_, _, _, e⟩, _⟩ := h; subst e; rfl
  | lp i off => obtain ⟨_, _, e⟩ := h; subst e; rfl
  | sp b n off => obtain ⟨⟨_, e⟩, _⟩ := h; subst e; rfl
  | agg cs => exact absurd rfl (h3 cs)
  | fn f us ws => obtain ⟨_, _, e, _⟩ := h; subst e; rfl
  | tup vs => simp [V.cells] at h1
  | none => simp [V.cells] at h1

theorem cells_one {u : Value} (h : u.oneCell' = true) : u.cells = #[u] := by
  cases u <;> first | rfl | cases h

theorem cells_ok {x : V} {cs : List V} {u : Value} (h : x.cells = some cs) (hv : VRel C s.sh x u) : ∃ us : List Value, u.cells = us.toArray ∧ VList C s.sh cs us ∧ Ones us := by
  by_cases h1 : ∃ ds, x = .d (.agg ds)
  · obtain ⟨ds, rfl⟩ := h1
    simp only [V.cells, Option.some.injEq] at h
    subst h
    obtain ⟨us, e, q1, q2⟩ := hv
    subst e
    exact ⟨us, rfl, VList.of_d q2, q1⟩
  · by_cases h2 : ∃ ds, x = .agg ds
    · obtain ⟨ds, rfl⟩ := h2
      simp only [V.cells, Option.some.injEq] at h
      subst h
      obtain ⟨us, e, q1, q2⟩ := hv
      subst e
      exact ⟨us, rfl, q2, q1⟩
    · have hc : x.cells = some [x] := by
        unfold V.cells at h ⊢
        split at h <;> first | (cases h; done) | (exact absurd ⟨_, rfl⟩ h1) | (exact absurd ⟨_, rfl⟩ h2) | rfl
      rw [hc] at h
      cases h
      have h1' := one_of hv hc (fun cs e => h1 ⟨cs, e⟩) (fun cs e => h2 ⟨cs, e⟩)
      exact ⟨[u], cells_one h1', ⟨hv, trivial⟩, fun v hv => by simp at hv; subst hv; exact h1'⟩

theorem add_addr (k o j : Nat) : (⟨k, o, Option.none⟩ : Addr).add j = ⟨k, o + j, Option.none⟩ := by unfold Addr.add; split <;> simp_all

/-! ### new variables -/
theorem run_box (e : TypeId) (u : Value) : (Instr.box e u).run P w = .ok (.pointer (some ⟨w.heap.size, 0, Option.none⟩)) (w.alloc (.cells u.cells e)) := by
  simp [Instr.box, newVar, newRow]

theorem bp_ok (h : SRel w0 E0 M0 C s a w) {x : Opd} {u : Value} {e : TypeId} {call : CallG} (hv : VRel C s.sh (x.ev s) u) (hr : run1 call s (.bp x) = some (v, s')) {m : Sem Next}
    (hm : m.run P w = .ok (.value (.pointer (some ⟨w.heap.size, 0, Option.none⟩))) (w.alloc (.cells u.cells e))) : Runs P w0 E0 M0 C s s' v w m := by
  simp only [run1] at hr
  split at hr
  · rename_i cs hc
    split at hr
    · rename_i hn
      simp only [Option.some.injEq, Prod.mk.injEq] at hr
      obtain ⟨rfl, rfl⟩ := hr
      obtain ⟨us, q1, q2, q3⟩ := cells_ok hc hv
      rw [q1] at hm
      refine ⟨_, _, _, hm, .inr ⟨_, rfl, w.heap.size, ?_, rfl⟩, CtxLe.addP C s.sh w.heap.size, h.world.boxP e q2 q3 hn, rfl⟩
      show (C.kp ++ [w.heap.size])[s.ph.length]? = some w.heap.size
      rw [h.world.plen, get_snoc_new]
    · cases hr
  · cases hr

theorem bs_ok (h : SRel w0 E0 M0 C s a w) {x : Opd} {u : Value} {e : TypeId} {call : CallG} (hv : VRel C s.sh (x.ev s) u) (hr : run1 call s (.bs e x) = some (v, s')) {m : Sem Next}
    (hm : m.run P w = .ok (.value (.pointer (some ⟨w.heap.size, 0, Option.none⟩))) (w.alloc (.cells u.cells e))) : Runs P w0 E0 M0 C s s' v w m := by
  simp only [run1] at hr
  split at hr
  · rename_i cs hc
    split at hr
    · rename_i hn
      simp only [Option.some.injEq, Prod.mk.injEq] at hr
      obtain ⟨rfl, rfl⟩ := hr
      obtain ⟨us, q1, q2, q3⟩ := cells_ok hc hv
      rw [q1] at hm
      have hb := h.world.boxS (blk := ⟨cs, 1, e, false⟩) (cur := us) (rest := []) q2 q3 hn
      simp only [List.append_nil, List.length_nil, Nat.add_zero] at hb
      refine ⟨_, _, _, hm, .inr ⟨_, rfl, ⟨_, rfl⟩, ⟨cs, 1, e, false⟩, get_snoc_new, Nat.le_refl _, fun _ => ⟨w.heap.size, us.length, ?_, rfl⟩⟩, CtxLe.addS C s.sh h.world.slen _ _ _, hb, rfl⟩
      show (C.ks ++ [(w.heap.size, us.length)])[s.sh.length]? = some (w.heap.size, us.length)
      rw [h.world.slen, get_snoc_new]
    · cases hr
  · cases hr

/-! ### loads -/
theorem cut_ok {α : Type} {cs ds : List α} {off n : Nat} (h : cut cs off n = some ds) : off + n ≤ cs.length ∧ ds = (cs.drop off).take n := by
  unfold cut at h
  split at h
  · cases h; exact ⟨by assumption, rfl⟩
  · cases h

/-- Where a pointer points to there are cells. -/
theorem load_ok (h : WRel w0 E0 M0 C s.ph s.sh w) {x : V} {u : Value} {n : Nat} {cs : List V} (hv : VRel C s.sh x u) (hl : s.load x n = some cs) :
    ∃ (k off : Nat) (us : List Value), u = .pointer (some ⟨k, off, Option.none⟩) ∧ us.length = n ∧ VList C s.sh cs us ∧ Ones us ∧ ∀ (i : Nat) (y : Value), us[i]? = some y → w.cell? ⟨k, off + i, Option.none⟩ = some y := by
  cases x with
  | lp i off =>
    obtain ⟨k, e1, e2⟩ := hv
    simp only [St.load] at hl
    split at hl
    · rename_i cells hc
      obtain ⟨q1, q2⟩ := cut_ok hl
      obtain ⟨cur, t, g1, g2, g3⟩ := h.pcell i cells k hc e1
      have hlen := g2.length
      refine ⟨k, off, (cur.drop off).take n, e2, by simp; omega, by rw [q2]; exact (g2.drop off).take n, fun y hy => g3 y (List.mem_of_mem_drop (List.mem_of_mem_take hy)), fun j y hy => ?_⟩
      rw [cell_of_row w k (off + j) _ _ _ g1]
      have hj : j < n := by
        have := (List.getElem?_eq_some_iff.1 hy).1
        simp at this; omega
      rw [List.getElem?_take, if_pos hj, List.getElem?_drop] at hy
      simpa using hy
    · cases hl
  | sp b m off =>
    obtain ⟨_, blk, e1, e2, e3⟩ := hv
    simp only [St.load, e1] at hl
    split at hl
    · rename_i hm
      obtain ⟨q1, q2⟩ := cut_ok hl
      obtain ⟨k, m', g1, g2⟩ := e3 hm
      obtain ⟨cur, c1, c2, c3, c4⟩ := h.cellAt e1 g1
      refine ⟨k, off, (cur.drop off).take n, g2, by simp; omega, by rw [q2]; exact (c2.drop off).take n, fun y hy => c3 y (List.mem_of_mem_drop (List.mem_of_mem_take hy)), fun j y hy => ?_⟩
      have hj : j < n := by
        have := (List.getElem?_eq_some_iff.1 hy).1
        simp at this; omega
      rw [List.getElem?_take, if_pos hj, List.getElem?_drop] at hy
      exact c4 (off + j) y hy
    · cases hl
  | d y =>
    cases y with
    | pp cells off =>
      obtain ⟨k, o, e1, e2⟩ := hv
      simp only [St.load] at hl
      cases hc : cut cells off n with
      | none => rw [hc] at hl; cases hl
      | some ds =>
        rw [hc] at hl
        cases hl
        obtain ⟨q1, q2⟩ := cut_ok hc
        have hd : DCells C.M ds k (o + off) := by rw [q2]; exact (e2.drop off).take n
        have key : ∀ (ds : List D) (o : Nat), DCells C.M ds k o → ∃ us : List Value, us.length = ds.length ∧ DList C.M ds us ∧ Ones us ∧ ∀ (i : Nat) (y : Value), us[i]? = some y → w.cell? ⟨k, o + i, Option.none⟩ = some y := by
          intro ds
          induction ds with
          | nil => intro o _; exact ⟨[], rfl, trivial, fun u hu => by simp at hu, fun i y hy => by simp at hy⟩
          | cons x r ih =>
            intro o ⟨⟨u, g1, g2, g3⟩, g4⟩
            obtain ⟨us, p1, p2, p3, p4⟩ := ih (o + 1) g4
            refine ⟨u :: us, by simp [p1], ⟨g3, p2⟩, fun y hy => ?_, fun i y hy => ?_⟩
            · rcases List.mem_cons.1 hy with q | q
              · subst q; exact g2
              · exact p3 y q
            · cases i with
              | zero => simp at hy; subst hy; exact h.mem k o u g1
              | succ i =>
                have := p4 i y (by simpa using hy)
                rwa [show o + 1 + i = o + (i + 1) from by omega] at this
        obtain ⟨us, p1, p2, p3, p4⟩ := key ds (o + off) hd
        exact ⟨k, o + off, us, e1, by rw [p1, q2]; simp; omega, VList.of_d p2, p3, p4⟩
    | _ => simp [St.load] at hl
  | _ => simp [St.load] at hl

theorem run_isAgg {t : TypeId} {g : Bool} (h : aggOf P t = some g) : (isAgg t).run P w = .ok g w := by
  unfold aggOf at h
  split at h
  · rename_i q; cases h; simp [isAgg, run_underlying q]
  · rename_i q; cases h; simp [isAgg, run_underlying q]
  · rename_i d h1 h2 q
    cases h
    simp only [isAgg, Sem.run_bind, run_underlying q, Result.andThen_ok]
    cases d <;> first | rfl | exact absurd rfl (h1 _) | exact absurd rfl (h2 _ _)
  · cases h

theorem run_sizeOf {t : TypeId} {n : Nat} (h : szOf P t = some n) : (sizeOf t).run P w = .ok n w := by
  unfold szOf at h
  cases e : P.info? t with
  | none => rw [e] at h; cases h
  | some i => rw [e] at h; cases h; simp [sizeOf, typeInfo, e]

theorem run_loadVar_ok {t : TypeId} {n : Nat} {g : Bool} (hn : szOf P t = some n) (hg : aggOf P t = some g) {k off : Nat} {us : List Value} (hl : us.length = if g then n else 1)
    (hc : ∀ (i : Nat) (y : Value), us[i]? = some y → w.cell? ⟨k, off + i, Option.none⟩ = some y) :
    (loadVar t ⟨k, off, Option.none⟩).run P w = .ok (if g then .agg us.toArray else us.getD 0 undef) w := by
  cases g with
  | true =>
    simp only [if_true] at hl ⊢
    have h1 := run_loadCells_list (P := P) w ⟨k, off, Option.none⟩ us (fun j v hj => by rw [add_addr]; exact hc j v hj)
    rw [hl] at h1
    simp [loadVar, run_isAgg hg, run_sizeOf hn, h1]
  | false =>
    simp only [Bool.false_eq_true, if_false] at hl ⊢
    match us, hl with
    | [y], _ =>
      have := hc 0 y rfl
      simp only [Nat.add_zero] at this
      simp [loadVar, run_isAgg hg, this]

theorem ld_ok (h : SRel w0 E0 M0 C s a w) {sh : Bool} {t : TypeId} {x : Operand} {g : GOp} {call : CallG} (ht : trLoad P sh t x = some g) (hr : run1 call s g = some (v, s')) {dst : Option Tmp} {ty : TypeId} {pos : String} {after : Array Edge} {gd : Option (Nat × Bool)} :
    Runs P w0 E0 M0 C s s' v w (execOp a.eval ⟨dst, .load t x, ty, pos, after, gd⟩) := by
  unfold trLoad at ht
  split at ht
  · rename_i y n b e1 e2 e3
    cases ht
    simp only [run1] at hr
    split at hr
    · cases hr
    split at hr
    · rename_i cs hl
      cases hmk : mkV b cs with
      | none => rw [hmk] at hr; cases hr
      | some v' =>
        rw [hmk] at hr
        simp only [Option.map_some, Option.some.injEq, Prod.mk.injEq] at hr
        obtain ⟨rfl, rfl⟩ := hr
        have hv := eval_ok e1 h.tmps
        obtain ⟨k, off, us, q1, q2, q3, q4, q5⟩ := load_ok h.world hv hl
        have hrun := run_loadVar_ok (w := w) e2 e3 q2 q5
        refine Runs.pure h.world (x := if b then .agg us.toArray else us.getD 0 undef) ?_ ?_
        · simp [execOp, Instr.loadAt, q1, Instr.sureAddr, hrun]
        · cases b with
          | true => exact mkV_agg hmk q3 q4
          | false =>
            obtain ⟨u, p1, p2⟩ := mkV_one hmk q3
            subst p1
            exact p2
    · cases hr
  · cases ht
end
end Go.Gm
