/-
  Regions, in the text's order and in any order that Go leaves open.
-/
import Derived.Test.YtlkhddnagmmepaaGmP
namespace Go.Gm
set_option linter.unusedSimpArgs false
set_option linter.unusedVariables false
open Go.RowKit

/-! ### what may change places -/
def looks (g : GOper) : List Nat := (opds g.op).filterMap (fun | .t n => some n | .c _ => Option.none) ++ (match g.guard with | some (t, _) => [t] | Option.none => [])

def clash (a b : Nat) : Bool := (a == 2 && b != 0) || (b == 2 && a != 0)
def apart (x y : GOper) : Bool :=
  (match x.dst with
   | some d => !(looks y).contains d && y.dst != some d
   | Option.none => true) &&
  (match y.dst with
   | some d => !(looks x).contains d
   | Option.none => true) &&
  (!clash (eff x.op).1 (eff y.op).1 && !clash (eff x.op).2 (eff y.op).2)

def put' (l : List V) (d : Option Nat) (v : V) : List V :=
  match d with
  | some d => l.set d v
  | Option.none => l

section
variable {call : CallG} {s s1 s2 t s' : St} {v : V} {g x y : GOper}

theorem put_eq (s : St) (d : Option Nat) (v : V) : put s d v = ⟨put' s.tmps d v, s.ph, s.sh⟩ := by cases d <;> rfl

theorem eff_le (g : GOp) : (eff g).1 ≤ 2 ∧ (eff g).2 ≤ 2 := by
  cases g <;> simp only [eff] <;> first | decide | (split <;> decide)

theorem ev_looks (ho : ∀ n ∈ looks g, s.tmps.getD n V.none = t.tmps.getD n V.none) : ∀ z ∈ opds g.op, z.ev s = z.ev t := by
  intro z hz
  cases z with
  | c _ => rfl
  | t n => exact ho n (List.mem_append_left _ (List.mem_filterMap.2 ⟨.t n, hz, rfl⟩))

theorem step1_frame (h : step1 call g s = some s') (ho : ∀ n ∈ looks g, s.tmps.getD n V.none = t.tmps.getD n V.none) (hp : (eff g.op).1 ≠ 0 → s.ph = t.ph) (hs : (eff g.op).2 ≠ 0 → s.sh = t.sh) :
    ∃ v, step1 call g t = some ⟨put' t.tmps g.dst v, if (eff g.op).1 = 0 then t.ph else s'.ph, if (eff g.op).2 = 0 then t.sh else s'.sh⟩ ∧ s'.tmps = put' s.tmps g.dst v ∧
      ((eff g.op).1 ≤ 1 → s'.ph = s.ph) ∧ ((eff g.op).2 ≤ 1 → s'.sh = s.sh) := by
  have hrun : ((run1 call s g.op).map fun (v, s') => put s' g.dst v) = some s' → ∃ v, ((run1 call t g.op).map fun (v, s') => put s' g.dst v) = some ⟨put' t.tmps g.dst v, if (eff g.op).1 = 0 then t.ph else s'.ph, if (eff g.op).2 = 0 then t.sh else s'.sh⟩ ∧ s'.tmps = put' s.tmps g.dst v ∧
      ((eff g.op).1 ≤ 1 → s'.ph = s.ph) ∧ ((eff g.op).2 ≤ 1 → s'.sh = s.sh) := by
    intro h
    cases hr : run1 call s g.op with
    | none => rw [hr] at h; cases h
    | some r =>
      obtain ⟨v, s1⟩ := r
      rw [hr] at h
      simp only [Option.map_some, Option.some.injEq] at h
      subst h
      obtain ⟨q1, q2, q3, q4⟩ := run1_frame hr (ev_looks ho) hp hs
      refine ⟨v, ?_, ?_, ?_, ?_⟩
      · rw [q1]; simp only [Option.map_some, put_eq]
      · simp only [put_eq, q2]
      · simp only [put_eq]; exact q3
      · simp only [put_eq]; exact q4
  have hskip : ∃ v, some (put t g.dst (.d (.tup []))) = some ⟨put' t.tmps g.dst v, if (eff g.op).1 = 0 then t.ph else (put s g.dst (.d (.tup []))).ph, if (eff g.op).2 = 0 then t.sh else (put s g.dst (.d (.tup []))).sh⟩ ∧ (put s g.dst (.d (.tup []))).tmps = put' s.tmps g.dst v ∧
      ((eff g.op).1 ≤ 1 → (put s g.dst (.d (.tup []))).ph = s.ph) ∧ ((eff g.op).2 ≤ 1 → (put s g.dst (.d (.tup []))).sh = s.sh) := by
    refine ⟨.d (.tup []), ?_, by simp only [put_eq], fun _ => by simp only [put_eq], fun _ => by simp only [put_eq]⟩
    simp only [put_eq, Option.some.injEq, St.mk.injEq, true_and]
    constructor
    · split
      · rfl
      · rename_i hne; exact (hp hne).symm
    · split
      · rfl
      · rename_i hne; exact (hs hne).symm
  unfold step1 at h ⊢
  cases hg : g.guard with
  | none =>
    rw [hg] at h
    exact hrun h
  | some p =>
    obtain ⟨tt, b⟩ := p
    rw [hg] at h
    simp only at h ⊢
    have htt := ho tt (List.mem_append_right _ (by simp [hg]))
    rw [htt] at h
    split at h
    · split at h
      · rename_i hc
        simp only [hc, if_true]
        exact hrun h
      · rename_i hc
        simp only [hc, if_false]
        cases h
        exact hskip
    · cases h
      exact hskip
    · cases h

theorem getD_put' {l : List V} {d : Option Nat} {n : Nat} (h : ∀ k, d = some k → k ≠ n) : (put' l d v).getD n V.none = l.getD n V.none := by
  cases d with
  | none => rfl
  | some k =>
    have := h k rfl
    simp [put', this]

theorem put'_comm {l : List V} {d e : Option Nat} {v u : V} (h : ∀ k, d = some k → e ≠ some k) : put' (put' l d v) e u = put' (put' l e u) d v := by
  cases d with
  | none => rfl
  | some k =>
    cases e with
    | none => rfl
    | some m =>
      have hne : k ≠ m := fun he => h k rfl (he ▸ rfl)
      simp [put', List.set_comm _ _ hne]

/-- Two such operations may change places. -/
theorem step1_comm (hap : apart x y = true) (h1 : step1 call x s = some s1) (h2 : step1 call y s1 = some s2) : ∃ s3, step1 call y s = some s3 ∧ step1 call x s3 = some s2 := by
  simp only [apart, Bool.and_eq_true] at hap
  obtain ⟨⟨a1, a2⟩, a3, a4⟩ := hap
  have hxy : ∀ k, x.dst = some k → k ∉ looks y ∧ y.dst ≠ some k := fun k e => by
    rw [e] at a1
    simpa using a1
  have hyx : ∀ k, y.dst = some k → k ∉ looks x := fun k e => by
    rw [e] at a2
    simpa using a2
  have nc : ∀ {a b : Nat}, (!clash a b) = true → (a ≠ 0 → b ≠ 0 → a ≠ 2 ∧ b ≠ 2) := by
    intro a b h ha hb
    simp only [clash, Bool.not_eq_true', Bool.or_eq_false_iff, Bool.and_eq_false_iff] at h
    simp at h
    omega
  have lex := eff_le x.op
  have ley := eff_le y.op
  obtain ⟨vx, fx1, fx2, fx3, fx4⟩ := step1_frame (t := s) h1 (fun _ _ => rfl) (fun _ => rfl) (fun _ => rfl)
  -- y from s
  have hy : ∀ n ∈ looks y, s1.tmps.getD n V.none = s.tmps.getD n V.none := fun n hn => by
    rw [fx2]
    exact getD_put' fun k e he => (hxy k e).1 (he ▸ hn)
  obtain ⟨vy, fy1, fy2, fy3, fy4⟩ := step1_frame (t := s) h2 hy
    (fun hne => by
      by_cases hx0 : (eff x.op).1 = 0
      · exact fx3 (by omega)
      · have := nc a3 hx0 hne; exact fx3 (by omega))
    (fun hne => by
      by_cases hx0 : (eff x.op).2 = 0
      · exact fx4 (by omega)
      · have := nc a4 hx0 hne; exact fx4 (by omega))
  refine ⟨_, fy1, ?_⟩
  obtain ⟨vx', gx1, gx2, gx3, gx4⟩ := step1_frame (t := ⟨put' s.tmps y.dst vy, if (eff y.op).1 = 0 then s.ph else s2.ph, if (eff y.op).2 = 0 then s.sh else s2.sh⟩) h1
    (fun n hn => (getD_put' fun k e he => hyx k e (he ▸ hn)).symm)
    (fun hne => by
      simp only
      split
      · rfl
      · rename_i hy0
        have := nc a3 hne hy0
        rw [fy3 (by omega), fx3 (by omega)])
    (fun hne => by
      simp only
      split
      · rfl
      · rename_i hy0
        have := nc a4 hne hy0
        rw [fy4 (by omega), fx4 (by omega)])
  rw [gx1]
  have hv : put' (put' s.tmps y.dst vy) x.dst vx' = s2.tmps := by
    rw [fy2, gx2]
    exact (put'_comm fun k e => (hxy k e).2).symm
  have hph : (if (eff x.op).1 = 0 then (if (eff y.op).1 = 0 then s.ph else s2.ph) else s1.ph) = s2.ph := by
    by_cases hx0 : (eff x.op).1 = 0
    · rw [if_pos hx0]
      by_cases hy0 : (eff y.op).1 = 0
      · rw [if_pos hy0, fy3 (by omega), fx3 (by omega)]
      · rw [if_neg hy0]
    · rw [if_neg hx0]
      by_cases hy0 : (eff y.op).1 = 0
      · rw [fy3 (by omega)]
      · have := nc a3 hx0 hy0
        rw [fy3 (by omega)]
  have hsh : (if (eff x.op).2 = 0 then (if (eff y.op).2 = 0 then s.sh else s2.sh) else s1.sh) = s2.sh := by
    by_cases hx0 : (eff x.op).2 = 0
    · rw [if_pos hx0]
      by_cases hy0 : (eff y.op).2 = 0
      · rw [if_pos hy0, fy4 (by omega), fx4 (by omega)]
      · rw [if_neg hy0]
    · rw [if_neg hx0]
      by_cases hy0 : (eff y.op).2 = 0
      · rw [fy4 (by omega)]
      · have := nc a4 hx0 hy0
        rw [fy4 (by omega)]
  simp only [hv, hph, hsh]

theorem steps_first : ∀ (l : List GOper) (r : List GOper) {s s' : St}, (∀ x ∈ l, apart x g = true) → steps call (l ++ g :: r) s = some s' → steps call (g :: (l ++ r)) s = some s'
  | [], r, s, s', _, h => h
  | x :: l, r, s, s', ha, h => by
    simp only [List.cons_append, steps] at h ⊢
    split at h
    · rename_i s1 hs1
      have := steps_first l r (fun y hy => ha y (by simp [hy])) h
      simp only [steps] at this
      split at this
      · rename_i s2 hs2
        obtain ⟨s3, e1, e2⟩ := step1_comm (ha x (by simp)) hs1 hs2
        simp only [e1, e2]
        exact this
      · cases this
    · cases h
end

/-! ### which must come before which -/
def preds (o : Oper) : List Nat := (o.after.toList.filter (Region.binds .any)).map (·.on)
def ancs : List Oper → List Nat → List Nat
  | [], acc => acc
  | o :: r, acc => ancs r (acc ++ [(preds o).foldl (fun m j => (m ||| 2 ^ j) ||| acc.getD j 0) 0])

theorem foldl_bits {acc : List Nat} : ∀ (l : List Nat) {m k : Nat}, (l.foldl (fun m j => (m ||| 2 ^ j) ||| acc.getD j 0) m).testBit k = true → m.testBit k = true ∨ ∃ j ∈ l, k = j ∨ (acc.getD j 0).testBit k = true
  | [], _, _, h => .inl h
  | j :: l, m, k, h => by
    simp only [List.foldl_cons] at h
    rcases foldl_bits l h with q | ⟨i, hi, q⟩
    · rw [Nat.testBit_or, Nat.testBit_or, Bool.or_eq_true, Bool.or_eq_true] at q
      rcases q with (q | q) | q
      · exact .inl q
      · rw [Nat.testBit_two_pow] at q
        exact .inr ⟨j, by simp, .inl (by simpa using q : j = k).symm⟩
      · exact .inr ⟨j, by simp, .inr q⟩
    · exact .inr ⟨i, by simp [hi], q⟩

theorem ancs_ok {ops : List Oper} {L : Nat → Prop} (hcl : ∀ (k : Nat) (o : Oper), L k → ops[k]? = some o → ∀ j ∈ preds o, L j) :
    ∀ (r l : List Oper) (acc : List Nat), ops = l ++ r → acc.length = l.length → (∀ (i : Nat) (o : Oper), i < l.length → ops[i]? = some o → (∀ j ∈ preds o, L j) → ∀ k, (acc.getD i 0).testBit k = true → L k) →
      ∀ (i : Nat) (o : Oper), ops[i]? = some o → (∀ j ∈ preds o, L j) → ∀ k, ((ancs r acc).getD i 0).testBit k = true → L k
  | [], l, acc, e, hl, h => by
    intro i o ho hj k hk
    refine h i o ?_ ho hj k hk
    have := (List.getElem?_eq_some_iff.1 ho).1
    subst e
    simpa using this
  | x :: r, l, acc, e, hl, h => by
    simp only [ancs]
    refine ancs_ok hcl r (l ++ [x]) _ (by simp [e]) (by simp [hl]) ?_
    intro i o hi ho hj k hk
    by_cases hlt : i < l.length
    · refine h i o hlt ho hj k ?_
      rw [List.getD_eq_getElem?_getD, List.getElem?_append_left (by omega)] at hk
      rw [List.getD_eq_getElem?_getD]
      exact hk
    · have hi : i = l.length := by simp at hi; omega
      subst hi
      have hx : o = x := by subst e; simp at ho; exact ho.symm
      subst hx
      rw [List.getD_eq_getElem?_getD, ← hl] at hk
      simp only [List.getElem?_append_right (Nat.le_refl _), Nat.sub_self, List.getElem?_cons_zero, Option.getD_some] at hk
      rcases foldl_bits _ hk with q | ⟨p, hp, q⟩
      · simp at q
      · rcases q with rfl | q
        · exact hj _ hp
        · by_cases hpl : p < l.length
          · have hop : ∃ op, ops[p]? = some op := by
              rw [e]
              exact ⟨_, List.getElem?_eq_getElem (by simp; omega)⟩
            obtain ⟨op, hop⟩ := hop
            exact h p op hpl hop (hcl p op (hj p hp) hop) k q
          · rw [List.getD_eq_getElem?_getD, List.getElem?_eq_none (by omega)] at q
            simp at q

def drawOk (ops : List Oper) (gs : List GOper) : Bool :=
  let A := ancs ops []
  (List.range ops.length).all fun i =>
    (match ops[i]? with
     | some o => (preds o).all (· < i)
     | Option.none => false) &&
    (List.range i).all fun j => (A.getD i 0).testBit j || apart (gs.getD j default) (gs.getD i default)

section
variable {P : Program} {w0 w : World} {E0 : List Nat} {M0 : Mem} {C : Ctx} {s s' s1 : St} {a : Act} {call : CallG} {hint : Hint} {ops : Array Oper} {gs : List GOper} {Q : Exit → Act → World → Prop}

theorem tmp_at {C : Ctx} {H : List Blk} {tmps : List V} {t : Nat} {v : V} (h : TRel C H tmps a) (hv : tmps.getD t V.none = v) (hn : v ≠ V.none) : ∃ u, a.tmps[t]? = some u ∧ VRel C H v u := by
  have hs : tmps[t]? = some v := by
    rw [List.getD_eq_getElem?_getD] at hv
    cases hq : tmps[t]? with
    | none => rw [hq] at hv; exact absurd hv.symm hn
    | some z => rw [hq] at hv; simpa using hv
  obtain ⟨u, e1, e2⟩ := h.2.at_ hs
  exact ⟨u, by simpa using e1, e2⟩

theorem wpOp_ok (hS : Sound P call) {i : Nat} {o : Oper} {g : GOper} (hi : ops[i]? = some o) (hg : trOper P hint ops o = some g) (hr : step1 call g s = some s1) (h : SRel w0 E0 M0 C s a w) {K : Act → World → Prop}
    (hK : ∀ (C' : Ctx) (a' : Act) (w' : World), CtxLe C s.sh C' s1.sh → SRel w0 E0 M0 C' s1 a' w' → K a' w') : wpOp P ops Q i K a w := by
  unfold wpOp
  simp only [hi]
  obtain ⟨dst, op, ty, pos, after, gd⟩ := o
  have hskip : s1 = put s dst (.d (.tup [])) → K (a.put dst undef) w := by
    rintro rfl
    have e : (put s dst (.d (.tup []))).sh = s.sh := by rw [put_eq]
    exact hK C _ _ (by rw [e]; exact CtxLe.refl _ _) (h.put (v := .d (.tup [])) (u := undef) ⟨[], rfl, trivial⟩ dst)
  unfold trOper at hg
  simp only at hg
  split at hg
  · rename_i op' hop
    split at hg
    · cases hg
      simp only [Region.wanted, if_true]
      simp only [step1] at hr
      cases hrun : run1 call s op' with
      | none => rw [hrun] at hr; cases hr
      | some r =>
        obtain ⟨v, s2⟩ := r
        rw [hrun] at hr
        simp only [Option.map_some, Option.some.injEq] at hr
        subst hr
        have e : (put s2 dst v).sh = s2.sh := by rw [put_eq]
        rw [e] at hK
        exact .inl (op_ok hS hop hrun h hK)
    · rename_i j b
      split at hg
      · rename_i t ht
        cases hg
        simp only [step1] at hr
        split at hr
        · rename_i c hc
          obtain ⟨u, hu1, hu2⟩ := tmp_at h.tmps hc (by simp)
          have hu : u = .bool c := hu2
          subst hu
          have hy : yielded ops a.tmps j = some c := by
            simp only [yielded, ht, Option.bind_some, hu1]
          simp only [Region.wanted, hy]
          split at hr
          · rename_i hcb
            subst hcb
            simp only [beq_self_eq_true, if_true]
            cases hrun : run1 call s op' with
            | none => rw [hrun] at hr; cases hr
            | some r =>
              obtain ⟨v, s2⟩ := r
              rw [hrun] at hr
              simp only [Option.map_some, Option.some.injEq] at hr
              subst hr
              have e : (put s2 dst v).sh = s2.sh := by rw [put_eq]
              rw [e] at hK
              exact .inl (op_ok hS hop hrun h hK)
          · rename_i hcb
            have hne : (some c == some b) = false := by simpa using hcb
            simp only [hne, Bool.false_eq_true, if_false]
            cases hr
            exact hskip rfl
        · rename_i hc
          obtain ⟨u, hu1, hu2⟩ := tmp_at h.tmps hc (by simp)
          obtain ⟨us, rfl, _⟩ := hu2
          have hy : yielded ops a.tmps j = Option.none := by
            simp only [yielded, ht, Option.bind_some, hu1]
          simp only [Region.wanted, hy]
          have hne : ((Option.none : Option Bool) == some b) = false := rfl
          simp only [hne, Bool.false_eq_true, if_false]
          cases hr
          exact hskip rfl
        · cases hr
      · cases hg
  · cases hg

theorem trOpers_at : ∀ (l : List Oper) {gs : List GOper}, trOpers P hint ops l = some gs → gs.length = l.length ∧ ∀ (i : Nat) (o : Oper), l[i]? = some o → ∃ g : GOper, gs[i]? = some g ∧ trOper P hint ops o = some g
  | [], gs, h => by
    simp only [trOpers, Option.some.injEq] at h
    subst h
    exact ⟨rfl, fun i o e => by simp at e⟩
  | x :: r, gs, h => by
    simp only [trOpers] at h
    split at h
    · rename_i y ys h1 h2
      cases h
      obtain ⟨q1, q2⟩ := trOpers_at r h2
      refine ⟨by simp [q1], fun i o e => ?_⟩
      cases i with
      | zero => simp at e; subst e; exact ⟨y, rfl, h1⟩
      | succ i =>
        obtain ⟨g, g1, g2⟩ := q2 i o (by simpa using e)
        exact ⟨g, by simpa using g1, g2⟩
    · cases h

/-- In the text's order. -/
theorem ops_ok (hS : Sound P call) (hat : ∀ (i : Nat) (o : Oper), ops[i]? = some o → ∃ g : GOper, gs[i]? = some g ∧ trOper P hint ops o = some g) {s0 : St} {C0 : Ctx}
    (hK : ∀ (C' : Ctx) (a' : Act) (w' : World), CtxLe C0 s0.sh C' s'.sh → SRel w0 E0 M0 C' s' a' w' → Q .normal a' w') :
    ∀ (R : List Nat) {s : St} {C : Ctx} {a : Act} {w : World}, (∀ i ∈ R, i < ops.size) → steps call (R.map fun i => gs.getD i default) s = some s' → CtxLe C0 s0.sh C s.sh → SRel w0 E0 M0 C s a w → wpOps P ops Q R a w
  | [], s, C, a, w, _, hst, hle, h => by
    simp only [List.map_nil, steps, Option.some.injEq] at hst
    subst hst
    exact hK C a w hle h
  | i :: R, s, C, a, w, hR, hst, hle, h => by
    rw [wpOps_cons]
    have hi : ops[i]? = some (ops[i]'(hR i (by simp))) := Array.getElem?_eq_getElem _
    obtain ⟨g, g1, g2⟩ := hat i _ hi
    simp only [List.map_cons, steps] at hst
    split at hst
    · rename_i s2 hs2
      rw [List.getD_eq_getElem?_getD, g1, Option.getD_some] at hs2
      exact wpOp_ok hS hi g2 hs2 h fun C' a' w' hle' h' => ops_ok hS hat hK R (fun j hj => hR j (by simp [hj])) hst (hle.trans hle') h'
    · cases hst

theorem any_ok (hS : Sound P call) (hat : ∀ (i : Nat) (o : Oper), ops[i]? = some o → ∃ g : GOper, gs[i]? = some g ∧ trOper P hint ops o = some g) (hd : drawOk ops.toList gs = true) {s0 : St} {C0 : Ctx}
    (hK : ∀ (C' : Ctx) (a' : Act) (w' : World), CtxLe C0 s0.sh C' s'.sh → SRel w0 E0 M0 C' s' a' w' → Q .normal a' w') :
    ∀ (fuel : Nat) (R : List Nat) (listed : Array Bool) {s : St} {C : Ctx} {a : Act} {w : World}, R.length ≤ fuel → (∀ i, i ∈ R ↔ listed.getD i true = false) → R.Pairwise (· < ·) → listed.size = ops.size →
      (∀ (k : Nat) (o : Oper), listed.getD k false = true → ops.toList[k]? = some o → ∀ j ∈ preds o, listed.getD j false = true) →
      steps call (R.map fun i => gs.getD i default) s = some s' → CtxLe C0 s0.sh C s.sh → SRel w0 E0 M0 C s a w → wpAny P .any ops Q fuel listed a w := by
  have hready : ∀ {j : Nat} {listed : Array Bool}, j ∈ Region.ready .any ops listed ↔ listed.getD j true = false ∧ ∃ o : Oper, ops[j]? = some o ∧ ∀ i ∈ preds o, listed.getD i false = true := by
    intro j listed
    rw [mem_ready]
    refine and_congr_right fun _ => exists_congr fun o => and_congr_right fun _ => ?_
    constructor
    · intro h i hi
      simp only [preds, List.mem_map, List.mem_filter, Array.mem_toList_iff] at hi
      obtain ⟨e, ⟨h1, h2⟩, rfl⟩ := hi
      exact h e h1 h2
    · intro h e he hb
      exact h e.on (List.mem_map.2 ⟨e, List.mem_filter.2 ⟨by simpa using he, hb⟩, rfl⟩)
  have hdraw : ∀ (i : Nat) (o : Oper), ops[i]? = some o → (∀ j ∈ preds o, j < i) ∧ ∀ j < i, ((ancs ops.toList []).getD i 0).testBit j = true ∨ apart (gs.getD j default) (gs.getD i default) = true := by
    intro i o ho
    have hlt : i < ops.toList.length := by simpa using (Array.getElem?_eq_some_iff.1 ho).1
    simp only [drawOk, List.all_eq_true, List.mem_range] at hd
    have h1 := hd i hlt
    have ho' : ops.toList[i]? = some o := by simpa using ho
    rw [ho'] at h1
    simp only [Bool.and_eq_true, List.all_eq_true, decide_eq_true_eq, List.mem_range, Bool.or_eq_true] at h1
    exact h1
  intro fuel
  induction fuel with
  | zero =>
    intro R listed s C a w hlen hR hpw hsz hcl hst hle h
    have : R = [] := by cases R with | nil => rfl | cons _ _ => simp at hlen
    subst this
    simp only [List.map_nil, steps, Option.some.injEq] at hst
    subst hst
    refine ⟨?_, hK C a w hle h⟩
    cases hq : Region.ready .any ops listed with
    | nil => rfl
    | cons j r =>
      have : j ∈ Region.ready .any ops listed := by rw [hq]; simp
      have := (hR j).2 (hready.1 this).1
      simp at this
  | succ fuel ih =>
    intro R listed s C a w hlen hR hpw hsz hcl hst hle h
    refine ⟨fun hnil => ?_, fun i hi => ?_⟩
    · -- nothing is ready: nothing is left
      cases R with
      | nil =>
        simp only [List.map_nil, steps, Option.some.injEq] at hst
        subst hst
        exact hK C a w hle h
      | cons i R =>
        exfalso
        have hun := (hR i).1 (by simp)
        have hlt : i < ops.size := by
          rw [← hsz]
          rcases Nat.lt_or_ge i listed.size with h' | h'
          · exact h'
          · simp [Array.getElem?_eq_none h'] at hun
        have hio : ops[i]? = some ops[i] := Array.getElem?_eq_getElem hlt
        have hmem : i ∈ Region.ready .any ops listed := by
          refine hready.2 ⟨hun, _, hio, fun j hj => ?_⟩
          have hji := (hdraw i _ hio).1 j hj
          cases hlj : listed.getD j true with
          | false =>
            have hjR := (hR j).2 hlj
            rcases List.mem_cons.1 hjR with q | q
            · omega
            · have := (List.pairwise_cons.1 hpw).1 j q; omega
          | true =>
            have hjl : j < listed.size := by omega
            simp [hjl] at hlj ⊢
            exact hlj
        rw [hnil] at hmem
        cases hmem
    · obtain ⟨hun, o, hio, hpre⟩ := hready.1 hi
      have hiR := (hR i).2 hun
      obtain ⟨R1, R2, rfl⟩ := List.append_of_mem hiR
      have hio' : ops.toList[i]? = some o := by simpa using hio
      have hap : ∀ x ∈ R1.map (fun i => gs.getD i default), apart x (gs.getD i default) = true := by
        intro x hx
        obtain ⟨j, hj, rfl⟩ := List.mem_map.1 hx
        have hji : j < i := by
          have := (List.pairwise_append.1 hpw).2.2 j hj i (by simp)
          exact this
        rcases (hdraw i o hio).2 j hji with q | q
        · exfalso
          have hL := ancs_ok (ops := ops.toList) (L := fun k => listed.getD k false = true) hcl ops.toList [] [] rfl rfl (fun i o hi => by simp at hi) i o hio' hpre j q
          have hjun := (hR j).1 (by simp [hj])
          have hlt : j < listed.size := by
            rcases Nat.lt_or_ge j listed.size with h' | h'
            · exact h'
            · simp [Array.getElem?_eq_none h'] at hjun
          simp [hlt] at hL hjun
          rw [hL] at hjun
          cases hjun
        · exact q
      rw [List.map_append, List.map_cons] at hst
      have hst' := steps_first _ _ hap hst
      simp only [steps] at hst'
      split at hst'
      · rename_i s2 hs2
        obtain ⟨g, g1, g2⟩ := hat i o hio
        rw [List.getD_eq_getElem?_getD, g1, Option.getD_some] at hs2
        refine wpOp_ok hS hio g2 hs2 h fun C' a' w' hle' h' => ?_
        refine ih (R1 ++ R2) (listed.setIfInBounds i true) ?_ ?_ ?_ (by simp [hsz]) ?_ (by rw [List.map_append]; exact hst') (hle.trans hle') h'
        · simp at hlen ⊢; omega
        · intro k
          have hnd : i ∉ R1 ∧ i ∉ R2 := by
            have h1 := List.pairwise_append.1 hpw
            refine ⟨fun hm => ?_, fun hm => ?_⟩
            · have := h1.2.2 i hm i (by simp); omega
            · have := (List.pairwise_cons.1 h1.2.1).1 i hm; omega
          by_cases hki : k = i
          · subst hki
            have hlt : k < listed.size := by
              rcases Nat.lt_or_ge k listed.size with h' | h'
              · exact h'
              · simp [Array.getElem?_eq_none h'] at hun
            simp [hnd, hlt]
          · rw [getD_set_ne true (Ne.symm hki), ← hR k]
            simp [hki]
        · have h1 := List.pairwise_append.1 hpw
          exact List.pairwise_append.2 ⟨h1.1, (List.pairwise_cons.1 h1.2.1).2, fun x hx y hy => h1.2.2 x hx y (by simp [hy])⟩
        · intro k o' hk hko j hj
          by_cases hki : k = i
          · subst hki
            rw [hio'] at hko
            cases hko
            exact getD_set_true (hpre j hj)
          · rw [getD_set_ne false (Ne.symm hki)] at hk
            exact getD_set_true (hcl k o' hk hko j hj)
      · cases hst'

/-- A region. -/
theorem region_ok (hmix : P.follows .mixedOrders = true) (hS : Sound P call) {id : Nat} {draw : Bool} (hg : trOpers P hint ops ops.toList = some gs) (hd : draw = true → drawOk ops.toList gs = true)
    (hst : steps call gs s = some s') (h : SRel w0 E0 M0 C s a w)
    (hK : ∀ (C' : Ctx) (a' : Act) (w' : World), CtxLe C s.sh C' s'.sh → SRel w0 E0 M0 C' s' a' w' → Q .normal a' w') : (Code.region id ops draw).wp P Q a w := by
  obtain ⟨hlen, hat'⟩ := trOpers_at ops.toList hg
  have hat : ∀ (i : Nat) (o : Oper), ops[i]? = some o → ∃ g : GOper, gs[i]? = some g ∧ trOper P hint ops o = some g := fun i o e => hat' i o (by simpa using e)
  have hall : (List.range ops.size).map (fun i => gs.getD i default) = gs := by
    apply List.ext_getElem?
    intro i
    by_cases hi : i < ops.size
    · have : i < gs.length := by rw [hlen]; simpa using hi
      simp [hi, this]
    · have : ¬ i < gs.length := by rw [hlen]; simpa using hi
      simp at hi this
      simp [hi, this]
  cases draw with
  | false =>
    exact wp_region (ops_ok hS hat (s0 := s) (C0 := C) hK (List.range ops.size) (fun i hi => by simpa using hi) (by rw [hall]; exact hst) (CtxLe.refl _ _) h)
  | true =>
    refine wp_region_any hmix ?_
    have h' : SRel w0 E0 M0 C s a { w with drawn := w.drawn + 1 } := ⟨h.world.drew, h.tmps⟩
    refine any_ok hS hat (hd rfl) (s0 := s) (C0 := C) hK ops.size (List.range ops.size) (Array.replicate ops.size false) (by simp) ?_ List.pairwise_lt_range (by simp) ?_ (by rw [hall]; exact hst) (CtxLe.refl _ _) h'
    · intro i
      by_cases hi : i < ops.size <;> simp [hi]
    · intro k o hk
      by_cases hi : k < ops.size <;> simp [hi] at hk
end
end Go.Gm
