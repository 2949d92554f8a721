/-
  Each operation of the ghost machine is an operation of the model (3): operators, parts, lengths.
-/
import Derived.Test.YtlkhddnagmmepaaGmH
namespace Go.Gm
set_option linter.unusedSimpArgs false
set_option linter.unusedVariables false
open Go.RowKit
section
variable {P : Program} {w0 w w' : World} {E0 : List Nat} {M0 : Mem} {C : Ctx} {s s' : St} {a : Act} {v : V} {call : CallG}
variable {dst : Option Tmp} {ty : TypeId} {pos : String} {after : Array Edge} {gd : Option (Nat × Bool)}

theorem bin_ok {op : BinOp} {x y z : D} {p q : Value} {t : TypeId} (hx : DRel C.M x p) (hy : DRel C.M y q) (h : bin op x y = some z) :
    ∃ r, (binOp op t p q).run P w = .ok r w ∧ DRel C.M z r ∧ (∃ k n, p = .int k n) := by
  unfold bin at h
  split at h
  · rename_i k m k' n
    cases hx; cases hy
    cases op <;> simp only at h
    case shl => split at h <;> first | cases h | skip
                exact ⟨_, by simp [binOp, Op.shift, *], rfl, _, _, rfl⟩
    case shr => split at h <;> first | cases h | skip
                exact ⟨_, by simp [binOp, Op.shift, *], rfl, _, _, rfl⟩
    all_goals
      split at h
      · cases h
      · rename_i hk
        have hk' : k = k' := Classical.not_not.1 hk
        subst hk'
        first
          | (cases h; exact ⟨_, by first | (simp [binOp, Op.intArith]; done) | (simp [binOp, Op.intBits]; done) | (simp [binOp, Op.intCmp]; done), rfl, _, _, rfl⟩)
          | (split at h
             · cases h
             · cases h
               exact ⟨_, by simp [binOp, Op.intDiv, *], rfl, _, _, rfl⟩)
          | cases h
  · cases h

theorem bi_ok (h : SRel w0 E0 M0 C s a w) {op : BinOp} {t t' : TypeId} {x y : Operand} {p q : Opd} (e1 : trOpd x = some p) (e2 : trOpd y = some q)
    (hr : run1 call s (.bi op p q) = some (v, s')) : Runs P w0 E0 M0 C s s' v w (execOp a.eval ⟨dst, .binOp op t x y t', ty, pos, after, gd⟩) := by
  simp only [run1] at hr
  have hp := eval_ok e1 h.tmps
  have hq := eval_ok e2 h.tmps
  split at hr
  · rename_i d1 d2 h1 h2
    rw [h1] at hp
    rw [h2] at hq
    cases hb : bin op d1 d2 with
    | none => rw [hb] at hr; cases hr
    | some z =>
      rw [hb] at hr
      simp only [Option.map_some, Option.some.injEq, Prod.mk.injEq] at hr
      obtain ⟨rfl, rfl⟩ := hr
      obtain ⟨r, q1, q2, k, n, q3⟩ := bin_ok (P := P) (w := w) (t := t) hp hq hb
      refine Runs.pure h.world ?_ (show VRel C s.sh (.d z) r from q2)
      have hg : (eqGuard op t x y (a.eval x) (a.eval y)).run P w = .ok () w := by
        unfold eqGuard
        rw [q3]
        cases op <;> simp
      simp [execOp, hg, q1]
  · cases hr

theorem be_ok (h : SRel w0 E0 M0 C s a w) {neg : Bool} {t t' : TypeId} {x y : Operand} {p q : Opd} (ht : P.underlying t = some .bool) (e1 : trOpd x = some p) (e2 : trOpd y = some q)
    (hr : run1 call s (.be neg p q) = some (v, s')) : Runs P w0 E0 M0 C s s' v w (execOp a.eval ⟨dst, .binOp (if neg then .neq else .eql) t x y t', ty, pos, after, gd⟩) := by
  simp only [run1] at hr
  have hp := eval_ok e1 h.tmps
  have hq := eval_ok e2 h.tmps
  split at hr
  · rename_i d1 d2 h1 h2
    rw [h1] at hp
    rw [h2] at hq
    simp only [Option.some.injEq, Prod.mk.injEq] at hr
    obtain ⟨rfl, rfl⟩ := hr
    have hp' : a.eval x = .bool d1 := hp
    have hq' : a.eval y = .bool d2 := hq
    have heq : ∀ n, (Op.equalIn (n + 1) t (.bool d1) (.bool d2)).run P w = .ok (d1 == d2) w := fun n => by simp [Op.equalIn, run_underlying ht]
    have hE : (Op.equal t (.bool d1) (.bool d2)).run P w = .ok (d1 == d2) w := by
      unfold Op.equal
      exact heq _
    refine Runs.pure h.world (x := .bool (if neg then !(d1 == d2) else d1 == d2)) ?_ rfl
    cases neg
    · have hg : (eqGuard .eql t x y (.bool d1) (.bool d2)).run P w = .ok () w := by simp [eqGuard]
      simp [execOp, hp', hq', hg, binOp, hE]
    · have hg : (eqGuard .neq t x y (.bool d1) (.bool d2)).run P w = .ok () w := by simp [eqGuard]
      simp [execOp, hp', hq', hg, binOp, hE]
  · cases hr

theorem en_ok (h : SRel w0 E0 M0 C s a w) {neg : Bool} {t t' e : TypeId} {x y : Operand} {p : Opd} (ht : P.underlying t = some (.slice e)) (e1 : trOpd x = some p) (e2 : trOpd y = some (.c .nilSl))
    (hr : run1 call s (.en neg p) = some (v, s')) : Runs P w0 E0 M0 C s s' v w (execOp a.eval ⟨dst, .binOp (if neg then .neq else .eql) t x y t', ty, pos, after, gd⟩) := by
  simp only [run1] at hr
  have hp := eval_ok e1 h.tmps
  have hq : a.eval y = .slice Option.none 0 0 := eval_ok (C := C) e2 h.tmps
  have key : ∀ (A : Option Addr) (n cap : Nat), (Op.equal t (.slice A n cap) (.slice Option.none 0 0)).run P w = .ok A.isNone w := fun A n cap => by
    have : ∀ m, (Op.equalIn (m + 1) t (.slice A n cap) (.slice Option.none 0 0)).run P w = .ok A.isNone w := fun m => by
      cases A <;> simp [Op.equalIn, run_underlying ht]
    unfold Op.equal
    exact this _
  split at hr
  · rename_i b h1
    cases hr
    have key2 : ∃ (A : Option Addr) (n cap : Nat), a.eval x = .slice A n cap ∧ A.isNone = b := by
      generalize p.ev s = q at h1 hp
      cases q with
      | d z =>
        cases z with
        | nilSl => cases h1; exact ⟨Option.none, 0, 0, hp, rfl⟩
        | sl _ _ _ => cases h1; obtain ⟨A, cap, hp', _⟩ := hp; exact ⟨some A, _, cap, hp', rfl⟩
        | _ => cases h1
      | _ => cases h1
    obtain ⟨A, n, cap, hp', rfl⟩ := key2
    refine Runs.pure h.world (x := .bool (if neg then !A.isNone else A.isNone)) ?_ rfl
    cases neg
    · have hg : ∀ u, (eqGuard .eql t x y u (.slice Option.none 0 0)).run P w = .ok () w := fun u => by simp [eqGuard]
      simp [execOp, hp', hq, hg, binOp, key]
    · have hg : ∀ u, (eqGuard .neq t x y u (.slice Option.none 0 0)).run P w = .ok () w := fun u => by simp [eqGuard]
      simp [execOp, hp', hq, hg, binOp, key]
  · cases hr

theorem un_ok (h : SRel w0 E0 M0 C s a w) {op : UnOp} {t : TypeId} {x : Operand} {p : Opd} (e1 : trOpd x = some p)
    (hr : run1 call s (.un op p) = some (v, s')) : Runs P w0 E0 M0 C s s' v w (execOp a.eval ⟨dst, .unOp op t x, ty, pos, after, gd⟩) := by
  simp only [run1] at hr
  have hp := eval_ok e1 h.tmps
  split at hr
  · rename_i d1 h1
    rw [h1] at hp
    cases hb : una op d1 with
    | none => rw [hb] at hr; cases hr
    | some z =>
      rw [hb] at hr
      simp only [Option.map_some, Option.some.injEq, Prod.mk.injEq] at hr
      obtain ⟨rfl, rfl⟩ := hr
      have key : ∀ u : Value, DRel C.M d1 u → ∃ r, (Op.unary op u).run P w = .ok r w ∧ DRel C.M z r := by
        intro u hu
        unfold una at hb
        split at hb
        · split at hb
          · cases hb; cases hu; exact ⟨_, by simp [Op.unary], rfl⟩
          · cases hb
        · split at hb
          · cases hb; cases hu; exact ⟨_, by simp [Op.unary, Op.intArith], rfl⟩
          · cases hb
        · cases hb
      obtain ⟨r, q1, q2⟩ := key _ hp
      refine Runs.pure h.world ?_ (show VRel C s.sh (.d z) r from q2)
      simp [execOp, q1]
  · cases hr

theorem cv_ok (h : SRel w0 E0 M0 C s a w) {src dt : TypeId} {x : Operand} {p : Opd} {k : IntKind} {d : TypeDesc} (hs : P.underlying src = some d) (ht : P.underlying dt = some (.int k)) (e1 : trOpd x = some p)
    (hr : run1 call s (.cv k p) = some (v, s')) : Runs P w0 E0 M0 C s s' v w (execOp a.eval ⟨dst, .convert src dt x, ty, pos, after, gd⟩) := by
  simp only [run1] at hr
  split at hr
  · rename_i k' n hi
    simp only [Option.some.injEq, Prod.mk.injEq] at hr
    obtain ⟨rfl, rfl⟩ := hr
    have hn := intOf_ok hi (eval_ok e1 h.tmps)
    refine Runs.pure h.world (x := .int k (k.wrap n)) ?_ rfl
    simp only [execOp, convert, hn, Sem.run_bind, run_underlying hs, run_underlying ht, Result.andThen_ok]
    cases d <;> simp [Conv.intToInt]
  · cases hr

theorem pk_ok (h : SRel w0 E0 M0 C s a w) {c x y : Operand} {k p q : Opd} (e0 : trOpd c = some k) (e1 : trOpd x = some p) (e2 : trOpd y = some q)
    (hr : run1 call s (.pk k p q) = some (v, s')) : Runs P w0 E0 M0 C s s' v w (execOp a.eval ⟨dst, .pick c x y, ty, pos, after, gd⟩) := by
  simp only [run1] at hr
  have hk := eval_ok e0 h.tmps
  split at hr
  · rename_i h1
    rw [h1] at hk
    simp only [Option.some.injEq, Prod.mk.injEq] at hr
    obtain ⟨rfl, rfl⟩ := hr
    have hk' : a.eval c = .bool true := hk
    exact Runs.pure h.world (by simp [execOp, hk', asBool]) (eval_ok e1 h.tmps)
  · rename_i h1
    rw [h1] at hk
    simp only [Option.some.injEq, Prod.mk.injEq] at hr
    obtain ⟨rfl, rfl⟩ := hr
    have hk' : a.eval c = .bool false := hk
    exact Runs.pure h.world (by simp [execOp, hk', asBool]) (eval_ok e2 h.tmps)
  · cases hr

theorem mv_ok (h : SRel w0 E0 M0 C s a w) {x : Operand} {p : Opd} (e1 : trOpd x = some p) (hr : run1 call s (.mv p) = some (v, s')) {m : Sem Next}
    (hm : m.run P w = .ok (.value (a.eval x)) w) : Runs P w0 E0 M0 C s s' v w m := by
  simp only [run1, Option.some.injEq, Prod.mk.injEq] at hr
  obtain ⟨rfl, rfl⟩ := hr
  exact Runs.pure h.world hm (eval_ok e1 h.tmps)

/-! ### parts -/
theorem run_part {t : TypeId} {n : Nat} {g : Bool} (hn : szOf P t = some n) (hg : aggOf P t = some g) {us : List Value} {off : Nat} (hl : off + (if g then n else 1) ≤ us.length) :
    (part t us.toArray off).run P w = .ok (if g then .agg ((us.drop off).take n).toArray else us.getD off undef) w := by
  cases g with
  | true =>
    simp only [if_true] at hl ⊢
    simp [part, run_isAgg hg, run_sizeOf hn]
  | false =>
    simp only [Bool.false_eq_true, if_false] at hl ⊢
    have : us[off]? = some (us[off]'(by omega)) := List.getElem?_eq_getElem (by omega)
    simp [part, run_isAgg hg, this]

theorem part_ok {cs : List V} {us : List Value} {ds : List V} {off n m : Nat} {g : Bool} (hv : VList C s.sh cs us) (h1 : Ones us) (hm : m = if g then n else 1) (hc : cut cs off m = some ds) (hmk : mkV g ds = some v) :
    off + (if g then n else 1) ≤ us.length ∧ VRel C s.sh v (if g then .agg ((us.drop off).take n).toArray else us.getD off undef) := by
  obtain ⟨q1, q2⟩ := cut_ok hc
  have hl := hv.length
  refine ⟨by rw [← hm]; omega, ?_⟩
  cases g with
  | true =>
    simp only [if_true] at hm ⊢
    subst hm q2
    exact mkV_agg hmk ((hv.drop off).take m) (fun u hu => h1 u (List.mem_of_mem_drop (List.mem_of_mem_take hu)))
  | false =>
    simp only [Bool.false_eq_true, if_false] at hm ⊢
    subst hm q2
    obtain ⟨u, p1, p2⟩ := mkV_one hmk ((hv.drop off).take 1)
    have : us.getD off undef = u := by
      have h0 : ((us.drop off).take 1)[0]? = some u := by rw [p1]; rfl
      rw [List.getElem?_take, if_pos (by omega), List.getElem?_drop] at h0
      rw [List.getD_eq_getElem?_getD]
      simp at h0
      rw [h0]; rfl
    rw [this]; exact p2

theorem fi_ok (h : SRel w0 E0 M0 C s a w) {t : TypeId} {x : Operand} {f : Nat} {fs : Array Field} {g : Field} {n : Nat} {b : Bool} {y : Opd} (e1 : fieldsOf? P t = some fs) (e2 : fs[f]? = some g) (e3 : szOf P g.type = some n) (e5 : aggOf P g.type = some b)
    (e4 : trOpd x = some y) (hr : run1 call s (.fi y g.offset (if b then n else 1) b) = some (v, s')) : Runs P w0 E0 M0 C s s' v w (execOp a.eval ⟨dst, .field t x f, ty, pos, after, gd⟩) := by
  have hu : P.underlying t = some (.struct fs) := by
    unfold fieldsOf? at e1
    split at e1
    · cases e1; assumption
    · cases e1
  have hv := eval_ok e4 h.tmps
  have fin : ∀ (cs ds : List V) (us : List Value), a.eval x = .agg us.toArray → VList C s.sh cs us → Ones us → cut cs g.offset (if b then n else 1) = some ds → mkV b ds = some v → s' = s → Runs P w0 E0 M0 C s s' v w (execOp a.eval ⟨dst, .field t x f, ty, pos, after, gd⟩) := by
    intro cs ds us q1 q2 q3 q4 q5 q6
    subst q6
    obtain ⟨p1, p2⟩ := part_ok q2 q3 rfl q4 q5
    refine Runs.pure h.world ?_ p2
    simp [execOp, Instr.field, run_underlying hu, e2, q1, asAgg, run_part e3 e5 p1]
  simp only [run1] at hr
  split at hr
  · rename_i cs hx
    rw [hx] at hv
    obtain ⟨us, q1, q2, q3⟩ := hv
    split at hr
    · rename_i ds hc
      cases hmk : mkV b (ds.map V.d) with
      | none => rw [hmk] at hr; cases hr
      | some z =>
        rw [hmk] at hr
        simp only [Option.map_some, Option.some.injEq, Prod.mk.injEq] at hr
        obtain ⟨rfl, rfl⟩ := hr
        refine fin (cs.map V.d) (ds.map V.d) us q1 (VList.of_d q3) q2 ?_ hmk rfl
        obtain ⟨p1, p2⟩ := cut_ok hc
        unfold cut
        rw [if_pos (by simpa using p1), p2]
        simp [List.map_drop, List.map_take]
    · cases hr
  · rename_i cs hx
    rw [hx] at hv
    obtain ⟨us, q1, q2, q3⟩ := hv
    split at hr
    · rename_i ds hc
      cases hmk : mkV b ds with
      | none => rw [hmk] at hr; cases hr
      | some z =>
        rw [hmk] at hr
        simp only [Option.map_some, Option.some.injEq, Prod.mk.injEq] at hr
        obtain ⟨rfl, rfl⟩ := hr
        exact fin cs ds us q1 q3 q2 hc hmk rfl
    · cases hr
  · cases hr

theorem ix_ok (h : SRel w0 E0 M0 C s a w) {t e : TypeId} {x i : Operand} {len es : Nat} {b : Bool} {y j : Opd} (e1 : P.underlying t = some (.array len e)) (e3 : szOf P e = some es) (e5 : aggOf P e = some b)
    (e4 : trOpd x = some y) (e6 : trOpd i = some j) (hr : run1 call s (.ix y j len es (if b then es else 1) b) = some (v, s')) : Runs P w0 E0 M0 C s s' v w (execOp a.eval ⟨dst, .index t x i, ty, pos, after, gd⟩) := by
  have hv := eval_ok e4 h.tmps
  simp only [run1] at hr
  split at hr
  · rename_i k n cs hi hx
    have hn := intOf_ok hi (eval_ok e6 h.tmps)
    rw [hx] at hv
    obtain ⟨us, q1, q2, q3⟩ := hv
    split at hr
    · rename_i hc0
      split at hr
      · rename_i ds hc
        cases hmk : mkV b (ds.map V.d) with
        | none => rw [hmk] at hr; cases hr
        | some z =>
          rw [hmk] at hr
          simp only [Option.map_some, Option.some.injEq, Prod.mk.injEq] at hr
          obtain ⟨rfl, rfl⟩ := hr
          have hcut : cut (cs.map V.d) (n.toNat * es) (if b then es else 1) = some (ds.map V.d) := by
            obtain ⟨p1, p2⟩ := cut_ok hc
            unfold cut
            rw [if_pos (by simpa using p1), p2]
            simp [List.map_drop, List.map_take]
          obtain ⟨p1, p2⟩ := part_ok (VList.of_d q3) q2 rfl hcut hmk
          refine Runs.pure h.world ?_ p2
          simp [execOp, Instr.index, hn, asIntOf, run_underlying e1, q1, hc0.1, hc0.2, run_sizeOf e3, run_part e3 e5 p1]
      · cases hr
    · cases hr
  · cases hr

theorem xs_ok (h : SRel w0 E0 M0 C s a w) {t : TypeId} {x i : Operand} {y j : Opd} (e1 : P.underlying t = some .string)
    (e4 : trOpd x = some y) (e6 : trOpd i = some j) (hr : run1 call s (.xs y j) = some (v, s')) : Runs P w0 E0 M0 C s s' v w (execOp a.eval ⟨dst, .index t x i, ty, pos, after, gd⟩) := by
  have hv := eval_ok e4 h.tmps
  simp only [run1] at hr
  split at hr
  · rename_i b k n hx hi
    have hn := intOf_ok hi (eval_ok e6 h.tmps)
    rw [hx] at hv
    have hv' : a.eval x = .string b := hv
    split at hr
    · rename_i c hc
      cases hr
      refine Runs.pure h.world (x := .int .u8 c.toNat) ?_ rfl
      simp [execOp, Instr.index, hn, asIntOf, run_underlying e1, hv', hc]
    · cases hr
  · cases hr

theorem ex_ok (h : SRel w0 E0 M0 C s a w) {x : Operand} {i : Nat} {y : Opd} (e4 : trOpd x = some y)
    (hr : run1 call s (.ex y i) = some (v, s')) : Runs P w0 E0 M0 C s s' v w (execOp a.eval ⟨dst, .extract x i, ty, pos, after, gd⟩) := by
  have hv := eval_ok e4 h.tmps
  simp only [run1] at hr
  split at hr
  · rename_i vs hx
    rw [hx] at hv
    obtain ⟨us, q1, q2⟩ := hv
    cases hi : vs[i]? with
    | none => rw [hi] at hr; cases hr
    | some z =>
      rw [hi] at hr
      simp only [Option.map_some, Option.some.injEq, Prod.mk.injEq] at hr
      obtain ⟨rfl, rfl⟩ := hr
      obtain ⟨u, p1, p2⟩ := q2.at_ hi
      exact Runs.pure h.world (by simp [execOp, Instr.extract, q1, p1]) (show VRel C s.sh (.d z) u from p2)
  · rename_i vs hx
    rw [hx] at hv
    obtain ⟨us, q1, q2⟩ := hv
    cases hi : vs[i]? with
    | none => rw [hi] at hr; cases hr
    | some z =>
      rw [hi] at hr
      simp only [Option.map_some, Option.some.injEq, Prod.mk.injEq] at hr
      obtain ⟨rfl, rfl⟩ := hr
      obtain ⟨u, p1, p2⟩ := q2.at_ hi
      exact Runs.pure h.world (by simp [execOp, Instr.extract, q1, p1]) p2
  · cases hr

theorem mf_ok (h : SRel w0 E0 M0 C s a w) {f : Fn} {first caps : Array Operand} {us ws : List Opd} (e1 : trOpds first.toList = some us) (e2 : trOpds caps.toList = some ws)
    (hr : run1 call s (.mf f us ws) = some (v, s')) : Runs P w0 E0 M0 C s s' v w (execOp a.eval ⟨dst, .makeFunc f first caps, ty, pos, after, gd⟩) := by
  have h1 := evals_ok e1 h.tmps
  have h2 := evals_ok e2 h.tmps
  have hrun : (execOp a.eval ⟨dst, .makeFunc f first caps, ty, pos, after, gd⟩).run P w = .ok (.value (.func f (first.toList.map a.eval).toArray (caps.toList.map a.eval).toArray)) w := by
    simp [execOp, Instr.makeFunc]
    exact ⟨by rw [← Array.toList_map], by rw [← Array.toList_map]⟩
  simp only [run1] at hr
  split at hr
  · rename_i ds es hd1 hd2
    simp only [Option.some.injEq, Prod.mk.injEq] at hr
    obtain ⟨rfl, rfl⟩ := hr
    rw [allD_ok hd1] at h1
    rw [allD_ok hd2] at h2
    exact Runs.pure h.world hrun ⟨_, _, rfl, dlist_of_v h1, dlist_of_v h2⟩
  · split at hr
    · simp only [Option.some.injEq, Prod.mk.injEq] at hr
      obtain ⟨rfl, rfl⟩ := hr
      exact Runs.pure h.world hrun ⟨_, _, rfl, h1, h2⟩
    · cases hr
end
end Go.Gm
