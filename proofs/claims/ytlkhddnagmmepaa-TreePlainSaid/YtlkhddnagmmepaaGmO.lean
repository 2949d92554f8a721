/-
  Each operation that the translation takes, whatever it is.
-/
import Derived.Test.YtlkhddnagmmepaaGmN
import Derived.Laws.Externs
namespace Go.Gm
set_option linter.unusedSimpArgs false
set_option linter.unusedVariables false
open Go.RowKit
section
variable {P : Program} {w0 w w' : World} {E0 : List Nat} {M0 : Mem} {C : Ctx} {s s' : St} {a : Act} {v : V} {call : CallG} {hint : Hint}
variable {dst : Option Tmp} {ty : TypeId} {pos : String} {after : Array Edge} {gd : Option (Nat × Bool)}

theorem TRel.mono {C C' : Ctx} {H H' : List Blk} {tmps : List V} (h : TRel C H tmps a) (hle : CtxLe C H C' H') : TRel C' H' tmps a := ⟨h.1, h.2.mono hle⟩

theorem SRel.put {C : Ctx} (h : SRel w0 E0 M0 C s a w) {u : Value} (hv : VRel C s.sh v u) (d : Option Nat) : SRel w0 E0 M0 C (Gm.put s d v) (a.put d u) w := by
  cases d with
  | none => exact h
  | some d =>
    refine ⟨h.world, h.tmps.1, ?_⟩
    have := h.tmps.2.set_ d hv
    simpa [Gm.put, Act.put] using this

theorem emit {m : Sem Next} (h : Runs P w0 E0 M0 C s s' v w m) (ha : SRel w0 E0 M0 C s a w) (d : Option Nat) {K : Act → World → Prop} {Q : Exit → Act → World → Prop} {o : Oper} (ho : o.dst = d)
    (hm : m = execOp a.eval o) (hK : ∀ (C' : Ctx) (a' : Act) (w' : World), CtxLe C s.sh C' s'.sh → SRel w0 E0 M0 C' (Gm.put s' d v) a' w' → K a' w') : o.wp P a w K Q := by
  obtain ⟨C', r, w1, hrun, hr, hle, hw, ht⟩ := h
  subst hm ho
  have hs : SRel w0 E0 M0 C' s' a w1 := ⟨hw, by rw [ht]; exact ha.tmps.mono hle⟩
  unfold Oper.wp
  rw [hrun]
  rcases hr with ⟨rfl, rfl⟩ | ⟨u, rfl, hu⟩
  · exact hK C' _ w1 hle (hs.put (v := V.none) (u := undef) trivial o.dst)
  · exact hK C' _ w1 hle (hs.put hu o.dst)

/-- A call. -/
theorem ca_ok (hS : Sound P call) (h : SRel w0 E0 M0 C s a w) {c : Call} {fo : Operand} {f : Opd} {xs : List Opd} {k : Nat} (hc : c.callee = .value fo) (e1 : trOpd fo = some f) (e2 : trOpds c.args.toList = some xs)
    (hr : run1 call s (.ca k f xs) = some (v, s')) {K : Act → World → Prop} {Q : Exit → Act → World → Prop}
    (hK : ∀ (C' : Ctx) (a' : Act) (w' : World), CtxLe C s.sh C' s'.sh → SRel w0 E0 M0 C' (Gm.put s' dst v) a' w' → K a' w') : (⟨dst, .call c, ty, pos, after, gd⟩ : Oper).wp P a w K Q := by
  have hf := eval_ok e1 h.tmps
  have hxs := evals_ok e2 h.tmps
  -- the function's value
  have hfn : ∀ (fid : FuncId) (first caps : List V), fnOf (f.ev s) = some (fid, first, caps) → ∃ us ws : List Value, a.eval fo = .func (.func fid) us.toArray ws.toArray ∧ VList C s.sh first us ∧ VList C s.sh caps ws := by
    intro fid first caps hq
    unfold fnOf at hq
    split at hq
    · rename_i fid' us ws he
      rw [he] at hf
      simp only [Option.some.injEq, Prod.mk.injEq] at hq
      obtain ⟨rfl, rfl, rfl⟩ := hq
      obtain ⟨p1, p2, q1, q2, q3⟩ := hf
      exact ⟨p1, p2, q1, VList.of_d q2, VList.of_d q3⟩
    · rename_i fid' us ws he
      rw [he] at hf
      simp only [Option.some.injEq, Prod.mk.injEq] at hq
      obtain ⟨rfl, rfl, rfl⟩ := hq
      obtain ⟨p1, p2, q1, q2, q3⟩ := hf
      exact ⟨p1, p2, q1, q2, q3⟩
    · cases hq
  simp only [run1] at hr
  split at hr
  · rename_i fid first caps hq
    obtain ⟨us, ws, q1, q2, q3⟩ := hfn fid first caps hq
    have hall : VList C s.sh (first ++ xs.map (Opd.ev s) ++ caps) (us ++ c.args.toList.map a.eval ++ ws) := (q2.append hxs).append q3
    have go : (∃ sh1 r sh2, call fid sh1 r = some sh2) → (∃ fn, P.funcs[fid]? = some fn ∧ (fn.name == "runtime.NumGoroutine") = false ∧ fn.body.isNone = false) →
        (Calls P fid (us ++ c.args.toList.map a.eval ++ ws).toArray w fun e w' => ∃ (u : Value) (C' : Ctx), e = .returned u ∧ VRel C' s'.sh v u ∧ CtxLe C s.sh C' s'.sh ∧ WRel w0 E0 M0 C' s'.ph s'.sh w' ∧ s'.tmps = s.tmps) → (⟨dst, .call c, ty, pos, after, gd⟩ : Oper).wp P a w K Q := by
      intro _ hfun hcalls
      obtain ⟨fn, g1, g2, g3⟩ := hfun
      unfold Oper.wp
      have hrun : (execOp a.eval (⟨dst, .call c, ty, pos, after, gd⟩ : Oper)).run P w = .ok (.enter fid (us ++ c.args.toList.map a.eval ++ ws).toArray) w := by
        have harr : us.toArray ++ Array.map a.eval c.args ++ ws.toArray = (us ++ c.args.toList.map a.eval ++ ws).toArray := by
          apply Array.ext'
          simp
        have g2' : ¬ (fn.name = "runtime.NumGoroutine") := by simpa using g2
        have g3' : ¬ (fn.body = Option.none) := by
          intro e; rw [e] at g3; simp at g3
        simp [execOp, resolve, hc, q1, Deferred.ofValue, invoke, callFunc, g1, g2', g3', harr]
      rw [hrun]
      refine hcalls.mono ?_
      rintro e w1 ⟨u, C', rfl, p1, p2, p3, p4⟩
      have hs : SRel w0 E0 M0 C' s' a w1 := ⟨p3, by rw [p4]; exact h.tmps.mono p2⟩
      exact hK C' _ w1 p2 (hs.put p1 dst)
    split at hr
    · have hcall : ∃ sh1 r sh2, call fid sh1 r = some sh2 := by
        unfold dataCall at hr
        split at hr
        · split at hr
          · rename_i hx; exact ⟨_, _, _, hx⟩
          · cases hr
        · cases hr
      have hfun : ∃ fn, P.funcs[fid]? = some fn ∧ (fn.name == "runtime.NumGoroutine") = false ∧ fn.body.isNone = false := by
        obtain ⟨s1, r1, ⟨v1, s2⟩, hx⟩ := hcall
        exact (hS fid s1 r1 v1 s2 hx).1.2
      exact go hcall hfun (dataCall_ok hS h.world hall hr)
    · have hcall : ∃ sh1 r sh2, call fid sh1 r = some sh2 := by
        unfold pureCall at hr
        split at hr
        · split at hr
          · rename_i hx; exact ⟨_, _, _, hx⟩
          · cases hr
        · cases hr
      have hfun : ∃ fn, P.funcs[fid]? = some fn ∧ (fn.name == "runtime.NumGoroutine") = false ∧ fn.body.isNone = false := by
        obtain ⟨s1, r1, ⟨v1, s2⟩, hx⟩ := hcall
        exact (hS fid s1 r1 v1 s2 hx).1.2
      exact go hcall hfun (pureCall_ok hS h.world hall hr)
    · have hcall : ∃ sh1 r sh2, call fid sh1 r = some sh2 := by
        unfold sharedCall at hr
        split at hr
        · split at hr
          · rename_i hx; exact ⟨_, _, _, hx⟩
          · cases hr
        · cases hr
      have hfun : ∃ fn, P.funcs[fid]? = some fn ∧ (fn.name == "runtime.NumGoroutine") = false ∧ fn.body.isNone = false := by
        obtain ⟨s1, r1, ⟨v1, s2⟩, hx⟩ := hcall
        exact (hS fid s1 r1 v1 s2 hx).1.2
      exact go hcall hfun (sharedCall_ok hS h.world hall hr)
  · cases hr

theorem findNext_a64 {fn : Func} (h1 : fn.name = "math/bits.Add64") (h2 : fn.origin = "") : Extern.findNext fn = Option.none := by
  unfold Extern.findNext
  rw [h1, h2]
  kernel_rfl
theorem find_a64 {fn : Func} (h1 : fn.name = "math/bits.Add64") (h2 : fn.origin = "") : Extern.find fn = some add64Entry := by
  unfold Extern.find
  rw [h1, h2]
  kernel_rfl

theorem a64_ok (h : SRel w0 E0 M0 C s a w) {c : Call} {fo : Operand} {x y z : Opd} (hc : c.callee = .value fo) (e1 : isA64 P fo = true) (e2 : trOpds c.args.toList = some [x, y, z])
    (hr : run1 call s (.a64 x y z) = some (v, s')) : Runs P w0 E0 M0 C s s' v w (execOp a.eval ⟨dst, .call c, ty, pos, after, gd⟩) := by
  have hxs := evals_ok e2 h.tmps
  simp only [run1] at hr
  split at hr
  · rename_i ka kb kc ha hb hcc
    split at hr
    · rename_i hcond
      obtain ⟨c1, c2, c3, c4⟩ := hcond
      cases hr
      have hargs : c.args.toList.map a.eval = [.int .u64 ka, .int .u64 kb, .int .u64 kc] := by
        simp only [List.map_cons, List.map_nil, ha, hb, hcc] at hxs
        generalize c.args.toList.map a.eval = us at hxs
        match us, hxs with
        | [u1, u2, u3], ⟨h1, h2, h3, _⟩ =>
          have h1' : u1 = .int .u64 ka := h1
          have h2' : u2 = .int .u64 kb := h2
          have h3' : u3 = .int .u64 kc := h3
          rw [h1', h2', h3']
      have harr : Array.map a.eval c.args = #[.int .u64 ka, .int .u64 kb, .int .u64 kc] := by
        apply Array.ext'
        rw [Array.toList_map, hargs]
      cases fo with
      | func n =>
        unfold isA64 at e1
        simp only at e1
        split at e1
        · rename_i fn hfn
          simp only [Bool.and_eq_true, beq_iff_eq] at e1
          obtain ⟨q1, q2, q3⟩ := e1
          have hrun : (callFunc n #[.int .u64 ka, .int .u64 kb, .int .u64 kc]).run P w = .ok (.value (.tuple #[.int .u64 ((ka + kb + kc) % 18446744073709551616), .int .u64 ((ka + kb + kc) / 18446744073709551616)])) w := by
            rw [run_callFunc_extern hfn (by rw [q2]; decide) q1 (findNext_a64 q2 q3) (find_a64 q2 q3), run_add64 ka kb kc c1 c2 c3 c4]
            rfl
          refine Runs.pure h.world (x := .tuple #[.int .u64 ((ka + kb + kc) % 18446744073709551616), .int .u64 ((ka + kb + kc) / 18446744073709551616)]) ?_ ⟨_, rfl, rfl, rfl, trivial⟩
          have hev : a.eval (.func n) = .func (.func n) #[] #[] := rfl
          have : (#[] : Array Value) ++ Array.map a.eval c.args ++ #[] = #[.int .u64 ka, .int .u64 kb, .int .u64 kc] := by simp [harr]
          simp [execOp, resolve, hc, hev, Deferred.ofValue, invoke, harr, hrun]
        · cases e1
      | _ => cases e1
    · cases hr
  · cases hr

theorem op_ok (hS : Sound P call) {op : Op} {g : GOp} (ht : trOp P hint dst op = some g) (hr : run1 call s g = some (v, s')) (h : SRel w0 E0 M0 C s a w) {K : Act → World → Prop} {Q : Exit → Act → World → Prop}
    (hK : ∀ (C' : Ctx) (a' : Act) (w' : World), CtxLe C s.sh C' s'.sh → SRel w0 E0 M0 C' (Gm.put s' dst v) a' w' → K a' w') : (⟨dst, op, ty, pos, after, gd⟩ : Oper).wp P a w K Q := by
  have fin : Runs P w0 E0 M0 C s s' v w (execOp a.eval ⟨dst, op, ty, pos, after, gd⟩) → (⟨dst, op, ty, pos, after, gd⟩ : Oper).wp P a w K Q := fun hR => emit hR h dst rfl rfl hK
  cases op with
  | move x =>
    simp only [trOp, Option.map_eq_some_iff] at ht
    obtain ⟨y, e1, rfl⟩ := ht
    exact fin (mv_ok h e1 hr (by simp [execOp]))
  | assign x =>
    simp only [trOp, Option.map_eq_some_iff] at ht
    obtain ⟨y, e1, rfl⟩ := ht
    exact fin (mv_ok h e1 hr (by simp [execOp]))
  | box e x =>
    simp only [trOp, Option.map_eq_some_iff] at ht
    obtain ⟨y, e1, rfl⟩ := ht
    have hm : (execOp a.eval ⟨dst, .box e x, ty, pos, after, gd⟩).run P w = .ok (.value (.pointer (some ⟨w.heap.size, 0, Option.none⟩))) (w.alloc (.cells (a.eval x).cells e)) := by
      simp only [execOp, Sem.run_bind, run_box]; rfl
    split at hr
    · exact fin (bs_ok h (eval_ok e1 h.tmps) hr hm)
    · exact fin (bp_ok h (eval_ok e1 h.tmps) hr hm)
  | alloc e =>
    simp only [trOp, Option.map_eq_some_iff] at ht
    obtain ⟨z, e1, rfl⟩ := ht
    cases hi : P.info? e with
    | none => rw [hi] at e1; simp at e1
    | some i =>
      cases hz : i.zero with
      | none => rw [hi] at e1; simp [hz] at e1
      | some zv =>
        rw [hi] at e1
        simp [hz] at e1
        have hm : (execOp a.eval ⟨dst, .alloc e, ty, pos, after, gd⟩).run P w = .ok (.value (.pointer (some ⟨w.heap.size, 0, Option.none⟩))) (w.alloc (.cells zv.cells e)) := by
          simp [execOp, Instr.alloc, zeroValue, typeInfo, hi, hz, newVar, newRow]
        split at hr
        · exact fin (bs_ok h (show VRel C s.sh ((Opd.c z).ev s) zv from con_ok e1) hr hm)
        · exact fin (bp_ok h (show VRel C s.sh ((Opd.c z).ev s) zv from con_ok e1) hr hm)
  | load t x => exact fin (ld_ok h ht hr)
  | store t x y =>
    simp only [trOp] at ht
    split at ht
    · rename_i p q n e1 e2 e3
      cases ht
      exact fin (st_ok h e1 e2 e3 hr)
    · cases ht
  | fieldAddr t x f =>
    simp only [trOp] at ht
    split at ht
    · rename_i fs e1
      split at ht
      · rename_i g e2
        split at ht
        · rename_i n y e3 e4
          cases ht
          exact fin (ad_ok h e1 e2 e3 e4 hr)
        · cases ht
      · cases ht
    · cases ht
  | indexAddr t x i =>
    simp only [trOp] at ht
    split at ht
    · rename_i e e1
      split at ht
      · rename_i es y j e2 e3 e4
        cases ht
        exact fin (el_ok h e1 e2 e3 e4 hr)
      · cases ht
    · rename_i len e e1
      split at ht
      · rename_i es y j e2 e3 e4
        cases ht
        exact fin (ea_ok h e1 e2 e3 e4 hr)
      · cases ht
    · cases ht
  | binOp op t x y t' =>
    simp only [trOp] at ht
    split at ht
    · rename_i p q e1 e2
      split at ht
      · rename_i hb
        have hu : P.underlying t = some .bool := by
          unfold isBool at hb
          split at hb
          · assumption
          · cases hb
        split at ht
        · rename_i ho
          cases ht
          subst ho
          exact fin (be_ok (neg := false) h hu e1 e2 hr)
        · split at ht
          · rename_i ho
            cases ht
            subst ho
            exact fin (be_ok (neg := true) h hu e1 e2 hr)
          · cases ht
      · split at ht
        · rename_i hb
          obtain ⟨e, hu⟩ : ∃ e, P.underlying t = some (.slice e) := by
            unfold isSlice at hb
            split at hb
            · exact ⟨_, by assumption⟩
            · cases hb
          unfold trNil at ht
          split at ht
          · split at ht
            · rename_i ho
              cases ht
              subst ho
              exact fin (en_ok (neg := false) h hu e1 e2 hr)
            · split at ht
              · rename_i ho
                cases ht
                subst ho
                exact fin (en_ok (neg := true) h hu e1 e2 hr)
              · cases ht
          · cases ht
        · cases ht
          exact fin (bi_ok h e1 e2 hr)
    · cases ht
  | unOp op t x =>
    simp only [trOp, Option.map_eq_some_iff] at ht
    obtain ⟨y, e1, rfl⟩ := ht
    exact fin (un_ok h e1 hr)
  | convert src dt x =>
    simp only [trOp] at ht
    split at ht
    · rename_i d k y e1 e2 e3
      cases ht
      exact fin (cv_ok h e1 e2 e3 hr)
    · cases ht
  | pick c x y =>
    simp only [trOp] at ht
    split at ht
    · rename_i p q r e1 e2 e3
      cases ht
      exact fin (pk_ok h e1 e2 e3 hr)
    · cases ht
  | build t parts =>
    simp only [trOp] at ht
    split at ht
    · rename_i fs z e1 e2
      split at ht
      · rename_i e3
        simp only [Option.map_eq_some_iff] at ht
        obtain ⟨gs, e4, rfl⟩ := ht
        exact fin (bu_ok h e1 e2 e3 e4 hr)
      · cases ht
    · rename_i z e1 e2
      split at ht
      · rename_i len e hu
        split at ht
        · rename_i es ps e3 e4
          cases ht
          exact fin (bua_ok h hu e2 e3 e4 hr)
        · cases ht
      · cases ht
    · cases ht
  | buildSlice t len parts =>
    simp only [trOp] at ht
    split at ht
    · rename_i e e1
      have hu : P.underlying t = some (.slice e) := by
        unfold elemOf? at e1
        split at e1
        · cases e1; assumption
        · cases e1
      split at ht
      · rename_i es z ps e2 e3 e4
        split at ht
        · rename_i hc
          cases ht
          exact fin (bl_ok h hu e3 e2 hc.1 hc.2.1 hc.2.2 e4 hr)
        · cases ht
      · cases ht
    · cases ht
  | makeFunc f first caps =>
    simp only [trOp] at ht
    split at ht
    · rename_i us ws e1 e2
      cases ht
      exact fin (mf_ok h e1 e2 hr)
    · cases ht
  | makeSlice t l c =>
    simp only [trOp] at ht
    split at ht
    · rename_i e e1
      have hu : P.underlying t = some (.slice e) := by
        unfold elemOf? at e1
        split at e1
        · cases e1; assumption
        · cases e1
      split at ht
      · rename_i i z l c e2 e3 e4 e5
        split at ht
        · rename_i hc
          cases ht
          exact fin (ms_ok h hu e2 e3 e4 e5 hc.1 hc.2 hr)
        · cases ht
      · cases ht
    · cases ht
  | slice t x lo hi mx =>
    simp only [trOp] at ht
    split at ht
    · rename_i e hel
      have hu : P.underlying t = some (.slice e) := by
        unfold elemOf? at hel
        split at hel
        · cases hel; assumption
        · cases hel
      split at ht
      · rename_i es y e2 e3
        have hv := eval_ok e3 h.tmps
        have go : ∀ (l r : Option Opd) (ln rn : Option Int), ((lo = Option.none ∧ l = Option.none ∧ ln = Option.none) ∨ ∃ x p k n, lo = some x ∧ l = some p ∧ trOpd x = some p ∧ intOf? (p.ev s) = some (k, n) ∧ ln = some n) →
            ((hi = Option.none ∧ r = Option.none ∧ rn = Option.none) ∨ ∃ x p k n, hi = some x ∧ r = some p ∧ trOpd x = some p ∧ intOf? (p.ev s) = some (k, n) ∧ rn = some n) →
            (∃ z, sliceV es (y.ev s) ln rn = some z ∧ v = z ∧ s' = s) → (⟨dst, .slice t x lo hi Option.none, ty, pos, after, gd⟩ : Oper).wp P a w K Q := by
          intro l r ln rn hl hh ⟨z, hz, hv1, hs1⟩
          subst hv1 hs1
          have hl' : (lo.map a.eval = Option.none ∧ ln = Option.none) ∨ ∃ k n, lo.map a.eval = some (.int k n) ∧ ln = some n := by
            rcases hl with ⟨h1, _, h3⟩ | ⟨x', p, k, n, h1, _, h3, h4, h5⟩
            · exact .inl ⟨by rw [h1]; rfl, h3⟩
            · exact .inr ⟨k, n, by rw [h1]; simp [intOf_ok h4 (eval_ok h3 h.tmps)], h5⟩
          have hh' : (hi.map a.eval = Option.none ∧ rn = Option.none) ∨ ∃ k n, hi.map a.eval = some (.int k n) ∧ rn = some n := by
            rcases hh with ⟨h1, _, h3⟩ | ⟨x', p, k, n, h1, _, h3, h4, h5⟩
            · exact .inl ⟨by rw [h1]; rfl, h3⟩
            · exact .inr ⟨k, n, by rw [h1]; simp [intOf_ok h4 (eval_ok h3 h.tmps)], h5⟩
          obtain ⟨res, g1, g2⟩ := sliceV_ok (P := P) (w := w) hu e2 hv hl' hh' hz
          exact fin (Runs.pure h.world (by simp only [execOp, Option.map_none, Sem.run_bind]; rw [g1]; rfl) g2)
        cases lo with
        | none =>
          cases hi with
          | none =>
            simp only [Option.some.injEq] at ht
            subst ht
            simp only [run1] at hr
            cases hz : sliceV es (y.ev s) Option.none Option.none with
            | none => rw [hz] at hr; cases hr
            | some z =>
              rw [hz] at hr
              simp only [Option.map_some, Option.some.injEq, Prod.mk.injEq] at hr
              exact go Option.none Option.none Option.none Option.none (.inl ⟨rfl, rfl, rfl⟩) (.inl ⟨rfl, rfl, rfl⟩) ⟨z, hz, hr.1.symm, hr.2.symm⟩
          | some hx =>
            simp only [Option.map_eq_some_iff] at ht
            obtain ⟨q, e5, rfl⟩ := ht
            simp only [run1] at hr
            cases hn : intOf? (q.ev s) with
            | none => rw [hn] at hr; cases hr
            | some kn =>
              obtain ⟨k, n⟩ := kn
              rw [hn] at hr
              simp only [Option.map_some] at hr
              cases hz : sliceV es (y.ev s) Option.none (some n) with
              | none => rw [hz] at hr; cases hr
              | some z =>
                rw [hz] at hr
                simp only [Option.map_some, Option.some.injEq, Prod.mk.injEq] at hr
                exact go Option.none (some q) Option.none (some n) (.inl ⟨rfl, rfl, rfl⟩) (.inr ⟨hx, q, k, n, rfl, rfl, e5, hn, rfl⟩) ⟨z, hz, hr.1.symm, hr.2.symm⟩
        | some lx =>
          cases hi with
          | none =>
            simp only [Option.map_eq_some_iff] at ht
            obtain ⟨q, e5, rfl⟩ := ht
            simp only [run1] at hr
            cases hn : intOf? (q.ev s) with
            | none => rw [hn] at hr; cases hr
            | some kn =>
              obtain ⟨k, n⟩ := kn
              rw [hn] at hr
              simp only [Option.map_some] at hr
              cases hz : sliceV es (y.ev s) (some n) Option.none with
              | none => rw [hz] at hr; cases hr
              | some z =>
                rw [hz] at hr
                simp only [Option.map_some, Option.some.injEq, Prod.mk.injEq] at hr
                exact go (some q) Option.none (some n) Option.none (.inr ⟨lx, q, k, n, rfl, rfl, e5, hn, rfl⟩) (.inl ⟨rfl, rfl, rfl⟩) ⟨z, hz, hr.1.symm, hr.2.symm⟩
          | some hx =>
            simp only at ht
            split at ht
            · rename_i q1 q2 e5 e6
              cases ht
              simp only [run1] at hr
              cases hn : intOf? (q1.ev s) with
              | none => rw [hn] at hr; cases hr
              | some kn =>
                obtain ⟨k, n⟩ := kn
                rw [hn] at hr
                cases hn2 : intOf? (q2.ev s) with
                | none => rw [hn2] at hr; cases hr
                | some kn2 =>
                  obtain ⟨k2, n2⟩ := kn2
                  rw [hn2] at hr
                  simp only [Option.map_some] at hr
                  cases hz : sliceV es (y.ev s) (some n) (some n2) with
                  | none => rw [hz] at hr; cases hr
                  | some z =>
                    rw [hz] at hr
                    simp only [Option.map_some, Option.some.injEq, Prod.mk.injEq] at hr
                    exact go (some q1) (some q2) (some n) (some n2) (.inr ⟨lx, q1, k, n, rfl, rfl, e5, hn, rfl⟩) (.inr ⟨hx, q2, k2, n2, rfl, rfl, e6, hn2, rfl⟩) ⟨z, hz, hr.1.symm, hr.2.symm⟩
            · cases ht
      · cases ht
    · cases ht
  | field t x f =>
    simp only [trOp] at ht
    split at ht
    · rename_i fs e1
      split at ht
      · rename_i g e2
        split at ht
        · rename_i n b y e3 e5 e4
          cases ht
          exact fin (fi_ok h e1 e2 e3 e5 e4 hr)
        · cases ht
      · cases ht
    · cases ht
  | index t x i =>
    simp only [trOp] at ht
    split at ht
    · rename_i len e e1
      split at ht
      · rename_i es b y j e3 e5 e4 e6
        cases ht
        exact fin (ix_ok h e1 e3 e5 e4 e6 hr)
      · cases ht
    · rename_i e1
      split at ht
      · rename_i y j e4 e6
        cases ht
        exact fin (xs_ok h e1 e4 e6 hr)
      · cases ht
    · cases ht
  | extract x i =>
    simp only [trOp, Option.map_eq_some_iff] at ht
    obtain ⟨y, e1, rfl⟩ := ht
    exact fin (ex_ok h e1 hr)
  | call c =>
    simp only [trOp] at ht
    split at ht
    · rename_i fo hc
      split at ht
      · rename_i ha64
        split at ht
        · rename_i x y z e2
          cases ht
          exact fin (a64_ok h hc ha64 e2 hr)
        · cases ht
      · split at ht
        · rename_i f xs e1 e2
          cases ht
          exact ca_ok hS h hc e1 e2 hr hK
        · cases ht
    · rename_i hc
      split at ht
      · rename_i x t ha hat
        have ha' : c.args = #[x] := by apply Array.ext'; simpa using ha
        split at ht
        · rename_i e hu
          simp only [Option.map_eq_some_iff] at ht
          obtain ⟨y, e1, rfl⟩ := ht
          exact fin (ln_ok h hu e1 hr hc ha' hat)
        · rename_i hu
          simp only [Option.map_eq_some_iff] at ht
          obtain ⟨y, e1, rfl⟩ := ht
          exact fin (ls_ok h hu e1 hr hc ha' hat)
        · cases ht
      · cases ht
    · rename_i hc
      simp only [Option.map_eq_some_iff] at ht
      obtain ⟨ys, e1, rfl⟩ := ht
      exact fin (mx_ok h hc e1 hr)
    · rename_i hc
      simp only [Option.map_eq_some_iff] at ht
      obtain ⟨ys, e1, rfl⟩ := ht
      exact fin (mn_ok h hc e1 hr)
    · rename_i hc
      split at ht
      · rename_i x y t t' ha hat
        have ha' : c.args = #[x, y] := by apply Array.ext'; simpa using ha
        have hat' : c.argTypes = #[t, t'] := by apply Array.ext'; simpa using hat
        split at ht
        · rename_i e hel
          have hu : P.underlying t = some (.slice e) := by
            unfold elemOf? at hel
            split at hel
            · cases hel; assumption
            · cases hel
          split at ht
          · rename_i i z p q e2 e3 e4 e5
            split at ht
            · rename_i hcond
              obtain ⟨c1, c2, c3⟩ := hcond
              subst c1
              cases ht
              exact fin (ap_ok h hu e2 e3 e4 e5 c2 c3 hc ha' hat' hr)
            · cases ht
          · cases ht
        · cases ht
      · cases ht
    · cases ht
  | _ => simp [trOp] at ht
end
end Go.Gm
