/-
  Each operation of the ghost machine is an operation of the model (4): composites, slices, make, append, lengths.
-/
import Derived.Test.YtlkhddnagmmepaaGmI
import Derived.Maps.AppendAt
import Derived.ArgAppend
import Derived.Laws.MakeOwn
namespace Go.Gm
set_option linter.unusedSimpArgs false
set_option linter.unusedVariables false
open Go.RowKit
section
variable {P : Program} {w0 w w' : World} {E0 : List Nat} {M0 : Mem} {C : Ctx} {s s' : St} {a : Act} {v : V} {call : CallG}
variable {dst : Option Tmp} {ty : TypeId} {pos : String} {after : Array Edge} {gd : Option (Nat × Bool)}

/-! ### lengths -/
theorem lenV_ok {x : V} {u : Value} {n : Nat} (hv : VRel C s.sh x u) (h : lenV s x = some n) : ∃ (A : Option Addr) (cap : Nat), u = .slice A n cap ∧ n ≤ cap := by
  cases x with
  | d y =>
    cases y with
    | nilSl => cases h; cases hv; exact ⟨_, _, rfl, Nat.le_refl _⟩
    | sl full es xs =>
      cases h
      obtain ⟨A, cap, q1, q2, _⟩ := hv
      exact ⟨_, _, q1, q2⟩
    | _ => cases h
  | rs b off len =>
    obtain ⟨_, blk, g1, g2, g3⟩ := hv
    simp only [lenV, g1] at h
    split at h
    · rename_i hl
      cases h
      obtain ⟨k, n', cap, p1, p2, p3, p4, p5⟩ := g3 hl
      exact ⟨_, _, p2, p5⟩
    · cases h
  | _ => cases h

theorem ln_ok (h : SRel w0 E0 M0 C s a w) {t e : TypeId} {x : Operand} {y : Opd} (ht : P.underlying t = some (.slice e)) (e1 : trOpd x = some y) {sh : Bool} (hr : run1 call s (.ln sh y) = some (v, s')) {c : Call}
    (hc : c.callee = .builtin .len) (ha : c.args = #[x]) (hat : c.argTypes[0]? = some t) : Runs P w0 E0 M0 C s s' v w (execOp a.eval ⟨dst, .call c, ty, pos, after, gd⟩) := by
  simp only [run1] at hr
  split at hr
  · cases hr
  cases hl : lenV s (y.ev s) with
  | none => rw [hl] at hr; cases hr
  | some n =>
    rw [hl] at hr
    simp only [Option.map_some, Option.some.injEq, Prod.mk.injEq] at hr
    obtain ⟨rfl, rfl⟩ := hr
    obtain ⟨A, cap, q1, _⟩ := lenV_ok (eval_ok e1 h.tmps) hl
    refine Runs.pure h.world (x := .int .i64 n) ?_ rfl
    simp [execOp, resolve, hc, ha, invoke, builtin, Builtin.len_, hat, run_underlying ht, q1, goInt]

theorem ls_ok (h : SRel w0 E0 M0 C s a w) {t : TypeId} {x : Operand} {y : Opd} (ht : P.underlying t = some .string) (e1 : trOpd x = some y) (hr : run1 call s (.ls y) = some (v, s')) {c : Call}
    (hc : c.callee = .builtin .len) (ha : c.args = #[x]) (hat : c.argTypes[0]? = some t) : Runs P w0 E0 M0 C s s' v w (execOp a.eval ⟨dst, .call c, ty, pos, after, gd⟩) := by
  have hv := eval_ok e1 h.tmps
  simp only [run1] at hr
  split at hr
  · rename_i b hb
    rw [hb] at hv
    simp only [Option.some.injEq, Prod.mk.injEq] at hr
    obtain ⟨rfl, rfl⟩ := hr
    have q1 : a.eval x = .string b := hv
    refine Runs.pure h.world (x := .int .i64 b.size) ?_ rfl
    simp [execOp, resolve, hc, ha, invoke, builtin, Builtin.len_, hat, run_underlying ht, q1, goInt]
  · cases hr

/-! ### max and min -/
theorem fold_ok {f : D → D → Option D} {g : Value → Value → Sem Value} (hfg : ∀ {x y z : D} {p q : Value}, DRel C.M x p → DRel C.M y q → f x y = some z → ∃ r, (g p q).run P w = .ok r w ∧ DRel C.M z r) :
    ∀ (vs : List V) {x z : D} {p : Value} {us : List Value}, DRel C.M x p → VList C s.sh vs us → foldD f x vs = some z → ∃ r, (us.foldlM g p).run P w = .ok r w ∧ DRel C.M z r
  | [], x, z, p, us, hx, hv, h => by
    cases us with
    | nil => cases h; exact ⟨p, rfl, hx⟩
    | cons _ _ => exact hv.elim
  | .d y :: r, x, z, p, us, hx, hv, h => by
    cases us with
    | nil => exact hv.elim
    | cons q us =>
      obtain ⟨h1, h2⟩ := hv
      simp only [foldD] at h
      split at h
      · rename_i z' hz'
        obtain ⟨r', g1, g2⟩ := hfg hx h1 hz'
        obtain ⟨r'', g3, g4⟩ := fold_ok hfg r g2 h2 h
        exact ⟨r'', by simp [List.foldlM_cons, g1, g3], g4⟩
      · cases h
  | .rs _ _ _ :: _, _, _, _, _, _, _, h => by cases h
  | .lp _ _ :: _, _, _, _, _, _, _, h => by cases h
  | .sp _ _ _ :: _, _, _, _, _, _, _, h => by cases h
  | .agg _ :: _, _, _, _, _, _, _, h => by cases h
  | .fn _ _ _ :: _, _, _, _, _, _, _, h => by cases h
  | .tup _ :: _, _, _, _, _, _, _, h => by cases h
  | .none :: _, _, _, _, _, _, _, h => by cases h

theorem maxD_ok {x y z : D} {p q : Value} (hx : DRel C.M x p) (hy : DRel C.M y q) (h : maxD x y = some z) : ∃ r, (Builtin.max2 p q).run P w = .ok r w ∧ DRel C.M z r := by
  unfold maxD at h
  split at h
  · cases hx; cases hy; cases h; exact ⟨_, by simp [Builtin.max2], rfl⟩
  · cases h
theorem minD_ok {x y z : D} {p q : Value} (hx : DRel C.M x p) (hy : DRel C.M y q) (h : minD x y = some z) : ∃ r, (Builtin.min2 p q).run P w = .ok r w ∧ DRel C.M z r := by
  unfold minD at h
  split at h
  · cases hx; cases hy; cases h; exact ⟨_, by simp [Builtin.min2], rfl⟩
  · cases h

theorem mx_ok (h : SRel w0 E0 M0 C s a w) {c : Call} {ys : List Opd} (hc : c.callee = .builtin .max) (e1 : trOpds c.args.toList = some ys) (hr : run1 call s (.mx ys) = some (v, s')) :
    Runs P w0 E0 M0 C s s' v w (execOp a.eval ⟨dst, .call c, ty, pos, after, gd⟩) := by
  have hv := evals_ok e1 h.tmps
  simp only [run1] at hr
  split at hr
  · rename_i x r hx
    rw [hx] at hv
    cases hf : foldD maxD x r with
    | none => rw [hf] at hr; cases hr
    | some z =>
      rw [hf] at hr
      simp only [Option.map_some, Option.some.injEq, Prod.mk.injEq] at hr
      obtain ⟨rfl, rfl⟩ := hr
      cases hl : c.args.toList.map a.eval with
      | nil => rw [hl] at hv; exact hv.elim
      | cons p us =>
        rw [hl] at hv
        obtain ⟨r', g1, g2⟩ := fold_ok (P := P) (w := w) maxD_ok r hv.1 hv.2 hf
        refine Runs.pure h.world ?_ (show VRel C s.sh (.d z) r' from g2)
        simp [execOp, resolve, hc, invoke, builtin, Builtin.max_, hl, g1]
  · cases hr

theorem mn_ok (h : SRel w0 E0 M0 C s a w) {c : Call} {ys : List Opd} (hc : c.callee = .builtin .min) (e1 : trOpds c.args.toList = some ys) (hr : run1 call s (.mn ys) = some (v, s')) :
    Runs P w0 E0 M0 C s s' v w (execOp a.eval ⟨dst, .call c, ty, pos, after, gd⟩) := by
  have hv := evals_ok e1 h.tmps
  simp only [run1] at hr
  split at hr
  · rename_i x r hx
    rw [hx] at hv
    cases hf : foldD minD x r with
    | none => rw [hf] at hr; cases hr
    | some z =>
      rw [hf] at hr
      simp only [Option.map_some, Option.some.injEq, Prod.mk.injEq] at hr
      obtain ⟨rfl, rfl⟩ := hr
      cases hl : c.args.toList.map a.eval with
      | nil => rw [hl] at hv; exact hv.elim
      | cons p us =>
        rw [hl] at hv
        obtain ⟨r', g1, g2⟩ := fold_ok (P := P) (w := w) minD_ok r hv.1 hv.2 hf
        refine Runs.pure h.world ?_ (show VRel C s.sh (.d z) r' from g2)
        simp [execOp, resolve, hc, invoke, builtin, Builtin.min_, hl, g1]
  · cases hr

/-! ### the zero value -/
theorem zero_ok {t : TypeId} {z : List D} {M : Mem} (h : zeroOf P t = some z) : ∃ (i : TypeInfo) (zv : Value), P.info? t = some i ∧ i.zero = some zv ∧ DList M z zv.cells.toList ∧ Ones zv.cells.toList := by
  unfold zeroOf at h
  cases hi : P.info? t with
  | none => rw [hi] at h; cases h
  | some i =>
    rw [hi] at h
    cases hz : i.zero with
    | none => simp [hz] at h
    | some zv =>
      simp [hz] at h
      obtain ⟨g1, g2⟩ := conL_ok (M := M) h
      exact ⟨i, zv, rfl, hz, g1, g2⟩
end
end Go.Gm
