/-
  Code, functions, and calls: whatever the ghost machine's runs come to, the model's do.
-/
import Derived.Test.YtlkhddnagmmepaaGmQ
import Derived.LoopN
import Derived.Scope
namespace Go.Gm
set_option linter.unusedSimpArgs false
set_option linter.unusedVariables false
open Go.RowKit

/-- The regions whose order Go leaves open are such that the order does not matter. -/
def okDraws : Code → GCode → Bool
  | .region _ ops draw, .ops _ gs => !draw || drawOk ops.toList gs
  | .seq a b, .seq x y => okDraws a x && okDraws b y
  | .cond _ a b, .cond _ x y => okDraws a x && okDraws b y
  | .block _ a, .block _ x => okDraws a x
  | .loop a, .loop _ _ _ _ x => okDraws a x
  | .scope a, .scope x => okDraws a x
  | .region _ _ _, _ => false
  | .seq _ _, _ => false
  | .cond _ _ _, _ => false
  | .block _ _, _ => false
  | .loop _, _ => false
  | .scope _, _ => false
  | _, _ => true

def exitOf : GExit → Exit
  | .normal => .normal
  | .brk id => .exit id
  | .ret => .ret

/-- What was so but for private variables. -/
def CtxLe' (C : Ctx) (H : List Blk) (C' : Ctx) (H' : List Blk) : Prop := CtxLe ⟨C.M, [], C.ks⟩ H ⟨C'.M, [], C'.ks⟩ H'
theorem CtxLe.drop {C C' : Ctx} {H H' : List Blk} (h : CtxLe C H C' H') : CtxLe' C H C' H' := ⟨h.mem, fun _ _ e => e, h.sh⟩

section
variable {P : Program} {w0 w : World} {E0 : List Nat} {M0 : Mem} {C : Ctx} {s s' s1 : St} {a : Act} {call : CallG} {hint : Hint} {Q : Exit → Act → World → Prop}

theorem VList.intro {H : List Blk} : ∀ {xs : List V} {us : List Value}, xs.length = us.length → (∀ (n : Nat) (x : V) (u : Value), xs[n]? = some x → us[n]? = some u → VRel C H x u) → VList C H xs us
  | [], [], _, _ => trivial
  | x :: r, u :: q, hl, h => ⟨h 0 x u rfl rfl, VList.intro (by simpa using hl) fun n y z e1 e2 => h (n + 1) y z (by simpa using e1) (by simpa using e2)⟩

theorem keepLive_ok : ∀ (live : List Nat) (acc : List V) {acc' : List V}, keepLive s live acc = some acc' → acc'.length = acc.length ∧
    ∀ (n : Nat) (x : V), acc'[n]? = some x → acc[n]? = some x ∨ (s.tmps.getD n V.none = x ∧ noLp x = true)
  | [], acc, acc', h => by
    simp only [keepLive, Option.some.injEq] at h
    subst h
    exact ⟨rfl, fun n x e => .inl e⟩
  | t :: r, acc, acc', h => by
    simp only [keepLive] at h
    split at h
    · cases h
    · exact keepLive_ok r _ h
    · split at h
      · rename_i hn
        obtain ⟨q1, q2⟩ := keepLive_ok r _ h
        refine ⟨by simpa using q1, fun n y e => ?_⟩
        rcases q2 n y e with q | q
        · by_cases htn : t = n
          · subst htn
            rw [List.getElem?_set] at q
            simp only [if_true] at q
            split at q
            · simp only [Option.some.injEq] at q
              subst q
              exact .inr ⟨rfl, hn⟩
            · cases q
          · rw [List.getElem?_set_ne htn] at q
            exact .inl q
        · exact .inr q
      · cases h

theorem keepBoxes_ok : ∀ (boxes : List Nat) (j : Nat) (acc : List V) {tmps : List V} {ph : List (List V)} {l : List Nat}, keepBoxes s boxes j acc = some (tmps, ph, l) →
    tmps.length = acc.length ∧ ph.length = l.length ∧ l.Nodup ∧ (∀ m i : Nat, l[m]? = some i → ∃ cs, ph[m]? = some cs ∧ s.ph[i]? = some cs) ∧
    ∀ (n : Nat) (x : V), tmps[n]? = some x → acc[n]? = some x ∨ ∃ m i : Nat, l[m]? = some i ∧ x = .lp (j + m) 0 ∧ s.tmps.getD n V.none = .lp i 0
  | [], j, acc, tmps, ph, l, h => by
    simp only [keepBoxes, Option.some.injEq, Prod.mk.injEq] at h
    obtain ⟨rfl, rfl, rfl⟩ := h
    exact ⟨rfl, rfl, List.nodup_nil, fun m i e => by simp at e, fun n x e => .inl e⟩
  | t :: r, j, acc, tmps, ph, l, h => by
    simp only [keepBoxes] at h
    split at h
    · rename_i i hi
      split at h
      · rename_i cs acc' ph' l' hcs hrec
        split at h
        · cases h
        · rename_i hnl
          cases h
          obtain ⟨q1, q2, q3, q4, q5⟩ := keepBoxes_ok r (j + 1) _ hrec
          refine ⟨by simpa using q1, by simp [q2], List.nodup_cons.2 ⟨hnl, q3⟩, ?_, ?_⟩
          · intro m k e
            cases m with
            | zero => simp at e; subst e; exact ⟨cs, rfl, hcs⟩
            | succ m =>
              obtain ⟨cs', g1, g2⟩ := q4 m k (by simpa using e)
              exact ⟨cs', by simpa using g1, g2⟩
          · intro n x e
            rcases q5 n x e with q | ⟨m, k, g1, g2, g3⟩
            · by_cases htn : t = n
              · subst htn
                rw [List.getElem?_set] at q
                simp only [if_true] at q
                split at q
                · simp only [Option.some.injEq] at q
                  subst q
                  exact .inr ⟨0, i, rfl, rfl, hi⟩
                · cases q
              · rw [List.getElem?_set_ne htn] at q
                exact .inl q
            · exact .inr ⟨m + 1, k, by simpa using g1, by rw [g2]; congr 1; omega, g3⟩
      · cases h
    · cases h

theorem canon_ok {boxes live : List Nat} (hc : canon boxes live s = some s') (h : SRel w0 E0 M0 C s a w) : ∃ C', CtxLe' C s.sh C' s'.sh ∧ SRel w0 E0 M0 C' s' a w := by
  unfold canon at hc
  split at hc
  · rename_i acc hlive
    split at hc
    · rename_i tmps ph l hbox
      cases hc
      obtain ⟨p1, p2⟩ := keepLive_ok live _ hlive
      obtain ⟨q1, q2, q3, q4, q5⟩ := keepBoxes_ok boxes 0 acc hbox
      have hk : ∀ m i : Nat, l[m]? = some i → ∃ k, C.kp[i]? = some k := fun m i e => by
        obtain ⟨cs, _, g2⟩ := q4 m i e
        have : i < C.kp.length := by rw [← h.world.plen]; exact (List.getElem?_eq_some_iff.1 g2).1
        exact ⟨_, List.getElem?_eq_getElem this⟩
      have hkp : ∀ m k : Nat, (l.map fun i => C.kp.getD i 0)[m]? = some k → ∃ i, l[m]? = some i ∧ C.kp[i]? = some k := fun m k e => by
        rw [List.getElem?_map] at e
        cases hl : l[m]? with
        | none => rw [hl] at e; cases e
        | some i =>
          rw [hl] at e
          simp only [Option.map_some, Option.some.injEq] at e
          obtain ⟨k', hk'⟩ := hk m i hl
          rw [List.getD_eq_getElem?_getD, hk', Option.getD_some] at e
          exact ⟨i, rfl, e ▸ hk'⟩
      refine ⟨⟨C.M, l.map fun i => C.kp.getD i 0, C.ks⟩, CtxLe.refl _ _, ?_, ?_⟩
      · exact
          { mem := h.world.mem
            plen := by simp [q2]
            pcell := fun m cells k e1 e2 => by
              obtain ⟨i, g1, g2⟩ := hkp m k e2
              obtain ⟨cs, g3, g4⟩ := q4 m i g1
              rw [g3] at e1
              cases e1
              obtain ⟨cur, t, g5, g6, g7⟩ := h.world.pcell i cells k g4 g2
              exact ⟨cur, t, g5, VList.noLp (C := C) (C' := ⟨C.M, l.map fun i => C.kp.getD i 0, C.ks⟩) rfl rfl _ (h.world.pnl i cells g4) g6, g7⟩
            slen := h.world.slen
            scell := fun b blk k n e1 e2 => by
              obtain ⟨cur, rest, g1, g2, g3, g4⟩ := h.world.scell b blk k n e1 e2
              exact ⟨cur, rest, g1, g2, VList.noLp (C := C) (C' := ⟨C.M, l.map fun i => C.kp.getD i 0, C.ks⟩) rfl rfl _ (h.world.snl b blk e1) g3, g4⟩
            pnl := fun m cells e => by
              have hm : m < l.length := by rw [← q2]; exact (List.getElem?_eq_some_iff.1 e).1
              obtain ⟨cs, g3, g4⟩ := q4 m _ (List.getElem?_eq_getElem hm)
              rw [g3] at e
              cases e
              exact h.world.pnl _ cells g4
            snl := h.world.snl
            new := h.world.new
            old := h.world.old
            pM := fun m k e => by
              obtain ⟨i, _, g2⟩ := hkp m k e
              exact h.world.pM i k g2
            sM := h.world.sM
            pp := fun m m' k e e' => by
              obtain ⟨i, g1, g2⟩ := hkp m k e
              obtain ⟨i', g1', g2'⟩ := hkp m' k e'
              have := h.world.pp i i' k g2 g2'
              subst this
              exact (List.getElem?_inj (List.getElem?_eq_some_iff.1 g1).1 q3).1 (g1.trans g1'.symm)
            ss := h.world.ss
            ps := fun m b k n e => by
              obtain ⟨i, _, g2⟩ := hkp m k e
              exact h.world.ps i b k n g2
            pfresh := fun m k e => by
              obtain ⟨i, _, g2⟩ := hkp m k e
              exact h.world.pfresh i k g2
            sfresh := h.world.sfresh
            os := h.world.os
            tape := h.world.tape
            output := h.world.output
            size := h.world.size
            keeps := h.world.keeps }
      · refine ⟨h.tmps.1, VList.intro ?_ ?_⟩
        · have := h.tmps.2.length
          simp only
          rw [q1, p1, List.length_replicate, this]
        · intro n x u e1 e2
          have hs : ∀ z : V, s.tmps.getD n V.none = z → z ≠ V.none → VRel C s.sh z u := fun z hz hne => by
            obtain ⟨u', g1, g2⟩ := tmp_at h.tmps hz hne
            have : u' = u := by
              have e2' : a.tmps[n]? = some u := by simpa using e2
              rw [e2'] at g1
              exact (Option.some.inj g1).symm
            subst this
            exact g2
          rcases q5 n x e1 with q | ⟨m, i, g1, g2, g3⟩
          · rcases p2 n x q with q' | ⟨q', hn⟩
            · have hx : x = V.none := by
                rw [List.getElem?_replicate] at q'
                split at q'
                · exact (Option.some.inj q').symm
                · cases q'
              subst hx
              trivial
            · by_cases hx : x = V.none
              · subst hx; trivial
              · exact VRel.noLp (C := C) (C' := ⟨C.M, l.map fun i => C.kp.getD i 0, C.ks⟩) rfl rfl x hn (hs x q' hx)
          · subst g2
            obtain ⟨k, e3, e4⟩ := hs _ g3 (by simp)
            refine ⟨k, ?_, e4⟩
            simp only [Nat.zero_add]
            rw [List.getElem?_map, g1]
            simp [e3]
    · cases hc
  · cases hc

theorem code_ok (hmix : P.follows .mixedOrders = true) (hS : Sound P call) (lf : Nat) : ∀ (c : Code) {Q : Exit → Act → World → Prop} {l l' : List (List Nat × List Nat × List Nat × List Nat)} {x : GCode}, trCode P hint c l = some (x, l') → okDraws c x = true →
    ∀ {s : St} {C : Ctx} {a : Act} {w : World} {e : GExit} {s' : St}, gcode call lf x s = some (e, s') → SRel w0 E0 M0 C s a w →
    (∀ (C' : Ctx) (a' : Act) (w' : World), CtxLe' C s.sh C' s'.sh → SRel w0 E0 M0 C' s' a' w' → Q (exitOf e) a' w') → c.wp P Q a w
  | .skip, Q, l, l', x, ht, hd, s, C, a, w, e, s', hr, h, hK => by
    cases ht; cases hr
    exact wp_skip (hK C a w (CtxLe.refl _ _) h)
  | .ret, Q, l, l', x, ht, hd, s, C, a, w, e, s', hr, h, hK => by
    cases ht; cases hr
    exact wp_ret (hK C a w (CtxLe.refl _ _) h)
  | .label n, Q, l, l', x, ht, hd, s, C, a, w, e, s', hr, h, hK => by
    cases ht; cases hr
    exact wp_label (hK C a w (CtxLe.refl _ _) h)
  | .exit id, Q, l, l', x, ht, hd, s, C, a, w, e, s', hr, h, hK => by
    cases ht; cases hr
    exact wp_exit (hK C a w (CtxLe.refl _ _) h)
  | .region id ops draw, Q, l, l', x, ht, hd, s, C, a, w, e, s', hr, h, hK => by
    simp only [trCode, Option.map_eq_some_iff, Prod.mk.injEq] at ht
    obtain ⟨gs, hg, rfl, rfl⟩ := ht
    simp only [gcode, Option.map_eq_some_iff, Prod.mk.injEq] at hr
    obtain ⟨s2, hst, rfl, rfl⟩ := hr
    exact region_ok hmix hS hg (fun e => by subst e; simpa [okDraws] using hd) hst h fun C' a' w' hle h' => hK C' a' w' hle.drop h'
  | .seq c1 c2, Q, l, l', x, ht, hd, s, C, a, w, e, s', hr, h, hK => by
    simp only [trCode] at ht
    split at ht
    · rename_i x1 l1 h1
      split at ht
      · rename_i x2 l2 h2
        cases ht
        simp only [okDraws, Bool.and_eq_true] at hd
        simp only [gcode] at hr
        refine wp_seq ?_
        split at hr
        · rename_i s1 hs1
          refine code_ok hmix hS lf c1 h1 hd.1 hs1 h fun C' a' w' hle h' => ?_
          exact code_ok hmix hS lf c2 h2 hd.2 hr h' fun C'' a'' w'' hle' h'' => hK C'' a'' w'' (CtxLe.trans hle hle') h''
        · rename_i e1 s1 hne hs1
          cases hr
          refine code_ok hmix hS lf c1 h1 hd.1 hs1 h fun C' a' w' hle h' => ?_
          have := hK C' a' w' hle h'
          cases e with
          | normal => exact absurd rfl (hne)
          | brk id => exact this
          | ret => exact this
        · cases hr
      · cases ht
    · cases ht
  | .cond cnd c1 c2, Q, l, l', x, ht, hd, s, C, a, w, e, s', hr, h, hK => by
    simp only [trCode] at ht
    split at ht
    · rename_i y x1 l1 hy h1
      split at ht
      · rename_i x2 l2 h2
        cases ht
        simp only [okDraws, Bool.and_eq_true] at hd
        simp only [gcode] at hr
        split at hr
        · rename_i b hb
          have hv := eval_ok hy h.tmps
          rw [hb] at hv
          have hv' : a.eval cnd = .bool b := hv
          cases b with
          | true =>
            simp only [if_true] at hr
            exact wp_cond_true hv' (code_ok hmix hS lf c1 h1 hd.1 hr h hK)
          | false =>
            simp only [Bool.false_eq_true, if_false] at hr
            exact wp_cond_false hv' (code_ok hmix hS lf c2 h2 hd.2 hr h hK)
        · cases hr
      · cases ht
    · cases ht
  | .block id c1, Q, l, l', x, ht, hd, s, C, a, w, e, s', hr, h, hK => by
    simp only [trCode, Option.map_eq_some_iff, Prod.mk.injEq] at ht
    obtain ⟨⟨x1, l1⟩, h1, rfl, rfl⟩ := ht
    simp only [okDraws] at hd
    simp only [gcode] at hr
    refine wp_block ?_
    split at hr
    · rename_i i s1 hs1
      split at hr
      · rename_i hid
        cases hr
        refine code_ok hmix hS lf c1 h1 hd hs1 h fun C' a' w' hle h' => ?_
        simp only [exitOf, Exit.inBlock, hid, if_true]
        exact hK C' a' w' hle h'
      · rename_i hid
        cases hr
        refine code_ok hmix hS lf c1 h1 hd hs1 h fun C' a' w' hle h' => ?_
        simp only [exitOf, Exit.inBlock, hid, if_false]
        exact hK C' a' w' hle h'
    · rename_i e1 s1 hne hs1
      cases hr
      refine code_ok hmix hS lf c1 h1 hd hs1 h fun C' a' w' hle h' => ?_
      have := hK C' a' w' hle h'
      cases e with
      | normal => exact this
      | brk i => exact absurd rfl (hne i)
      | ret => exact this
    · cases hr
  | .loop c1, Q, l, l', x, ht, hd, s, C, a, w, e, s', hr, h, hK => by
    cases l with
    | nil => simp [trCode] at ht
    | cons bv l =>
      obtain ⟨bs, vs, bs', vs'⟩ := bv
      simp only [trCode, Option.map_eq_some_iff, Prod.mk.injEq] at ht
      obtain ⟨⟨x1, l1⟩, h1, rfl, rfl⟩ := ht
      simp only [okDraws] at hd
      simp only [gcode] at hr
      split at hr
      · rename_i e' s2' hit
        simp only [Option.map_eq_some_iff, Prod.mk.injEq] at hr
        obtain ⟨s3', hcan', rfl, rfl⟩ := hr
        have hK' : ∀ (C' : Ctx) (a' : Act) (w' : World), CtxLe' C s.sh C' s2'.sh → SRel w0 E0 M0 C' s2' a' w' → Q (exitOf e') a' w' := fun C' a' w' hle h' => by
          obtain ⟨C2, le2, hs2⟩ := canon_ok hcan' h'
          exact hK C2 a' w' (CtxLe.trans hle le2) hs2
        have key : ∀ (n : Nat) {s1 : St} {C1 : Ctx} {a1 : Act} {w1 : World}, iter (atHead bs vs (gcode call lf x1)) n s1 = some (e', s2') → CtxLe' C s.sh C1 s1.sh → SRel w0 E0 M0 C1 s1 a1 w1 → Code.rounds P c1 Q n a1 w1 := by
          intro n
          induction n with
          | zero => intro s1 C1 a1 w1 hi; cases hi
          | succ n ih =>
            intro s1 C1 a1 w1 hi hle hs
            rw [rounds_succ]
            simp only [iter, atHead] at hi
            cases hcan : canon bs vs s1 with
            | none => rw [hcan] at hi; simp at hi
            | some s2 =>
              rw [hcan] at hi
              simp only at hi
              obtain ⟨C2, le2, hs2⟩ := canon_ok hcan hs
              have hle2 : CtxLe' C s.sh C2 s2.sh := CtxLe.trans hle le2
              split at hi
              · rename_i s3 hs3
                exact code_ok hmix hS lf c1 h1 hd hs3 hs2 fun C' a' w' hle' h' => ih hi (CtxLe.trans hle2 hle') h'
              · rename_i e1 s3 hne hs3
                cases hi
                refine code_ok hmix hS lf c1 h1 hd hs3 hs2 fun C' a' w' hle' h' => ?_
                have := hK' C' a' w' (CtxLe.trans hle2 hle') h'
                cases e' with
                | normal => exact absurd rfl hne
                | brk i => exact this
                | ret => exact this
              · cases hi
        exact wp_loop_rounds lf (key lf hit (CtxLe.refl _ _) h)
      · cases hr
  | .rangeFunc .., Q, l, l', x, ht, hd, s, C, a, w, e, s', hr, h, hK => by simp [trCode] at ht
  | .scope c1, Q, l, l', x, ht, hd, s, C, a, w, e, s', hr, h, hK => by
    simp only [trCode, Option.map_eq_some_iff, Prod.mk.injEq] at ht
    obtain ⟨⟨x1, l1⟩, h1, rfl, rfl⟩ := ht
    simp only [okDraws] at hd
    simp only [gcode] at hr
    refine wp_scope_straight (code_ok hmix hS lf c1 h1 hd hr h fun C' a' w' hle h' => ?_)
    have := hK C' a' w' hle h'
    cases e <;> exact this
  | .goto .., Q, l, l', x, ht, hd, s, C, a, w, e, s', hr, h, hK => by simp [trCode] at ht
  | .refuse .., Q, l, l', x, ht, hd, s, C, a, w, e, s', hr, h, hK => by simp [trCode] at ht

/-! ### results -/
def resRun (tmps : Array Value) : ResultVar → Sem Value
  | .tmp t => pure (tmps.getD t undef)
  | .cell a t => do loadVar t (← asAddr (tmps.getD a undef))

theorem res_ok (h : SRel w0 E0 M0 C s a w) : ∀ {rs : List ResultVar} {gs : List Res} {vs : List V}, trRes P rs = some gs → resAll s gs = some vs →
    ∃ us : List Value, (rs.mapM (resRun a.tmps)).run P w = .ok us w ∧ us.length = vs.length ∧ ∀ (n : Nat) (v : V) (u : Value), vs[n]? = some v → us[n]? = some u → v ≠ V.none → VRel C s.sh v u
  | [], gs, vs, ht, hr => by
    simp only [trRes, Option.some.injEq] at ht
    subst ht
    simp only [resAll, Option.some.injEq] at hr
    subst hr
    exact ⟨[], by simp, rfl, fun n v u e => by simp at e⟩
  | .tmp t :: rs, gs, vs, ht, hr => by
    simp only [trRes, Option.map_eq_some_iff] at ht
    obtain ⟨gs', hg, rfl⟩ := ht
    simp only [resAll, resOne] at hr
    split at hr
    · rename_i v vs' h1 h2
      cases hr
      cases h1
      obtain ⟨us, q1, q2, q3⟩ := res_ok h hg h2
      refine ⟨a.tmps.getD t undef :: us, ?_, by simp [q2], ?_⟩
      · simp [resRun, q1]
      · intro n v u e1 e2 hne
        cases n with
        | zero =>
          simp at e1 e2
          obtain ⟨u', g1, g2⟩ := tmp_at h.tmps (t := t) (v := v) (by simpa using e1) hne
          have : u' = u := by rw [g1] at e2; simpa using e2
          subst this
          exact g2
        | succ n => exact q3 n v u (by simpa using e1) (by simpa using e2) hne
    · cases hr
  | .cell ad t :: rs, gs, vs, ht, hr => by
    simp only [trRes] at ht
    split at ht
    · rename_i n g gs' e1 e2 hg
      cases ht
      simp only [resAll, resOne] at hr
      split at hr
      · rename_i v vs' h1 h2
        cases hr
        split at h1
        · rename_i cs hl
          obtain ⟨us, q1, q2, q3⟩ := res_ok h hg h2
          have hne : s.tmps.getD ad V.none ≠ V.none := fun hq => by rw [hq] at hl; simp [St.load] at hl
          obtain ⟨u, g1, g2⟩ := tmp_at h.tmps (t := ad) rfl hne
          obtain ⟨k, off, ys, p1, p2, p3, p4, p5⟩ := load_ok h.world g2 hl
          have hrun := run_loadVar_ok (w := w) e1 e2 p2 p5
          subst p1
          have hat : a.tmps.getD ad undef = .pointer (some ⟨k, off, Option.none⟩) := by simp [g1]
          refine ⟨(if g then .agg ys.toArray else ys.getD 0 undef) :: us, ?_, by simp [q2], ?_⟩
          · have hh : (resRun a.tmps (.cell ad t)).run P w = .ok (if g then .agg ys.toArray else ys.getD 0 undef) w := by
              simp only [resRun, hat]
              simpa [asAddr] using hrun
            simp [hh, q1]
          · intro n v' u' f1 f2 hne'
            cases n with
            | zero =>
              simp at f1 f2
              subst f1 f2
              cases g with
              | true => exact mkV_agg h1 p3 p4
              | false =>
                obtain ⟨u, r1, r2⟩ := mkV_one h1 p3
                subst r1
                exact r2
            | succ n => exact q3 n v' u' (by simpa using f1) (by simpa using f2) hne'
        · cases h1
      · cases hr
    · cases ht

theorem answer_ok {fn : Func} {res : List Res} {v : V} (h : SRel w0 E0 M0 C s a w) (ht : trRes P fn.results.toList = some res) (ha : answer s res = some v) : noLp v = true ∧ ∃ u, (results fn a.tmps).run P w = .ok u w ∧ VRel C s.sh v u := by
  have hres : results fn a.tmps = (do let vs ← fn.results.mapM (resRun a.tmps); pure (if h : vs.size = 1 then vs[0] else .tuple vs)) := by
    unfold results
    congr 1
  unfold answer at ha
  have none_of : ∀ {x : V}, noLp x = true → x ≠ V.none := fun h e => by subst e; cases h
  split at ha
  · rename_i v' hall
    split at ha
    · rename_i hn
      cases ha
      obtain ⟨us, q1, q2, q3⟩ := res_ok h ht hall
      refine ⟨hn, ?_⟩
      match us, q2 with
      | [u], _ =>
        exact ⟨u, by rw [hres]; simp [Array.mapM_eq_mapM_toList, q1], q3 0 v u rfl rfl (none_of hn)⟩
    · cases ha
  · rename_i vs hne hall
    obtain ⟨us, q1, q2, q3⟩ := res_ok h ht hall
    have hl1 : us.length ≠ 1 := fun e => by
      rw [q2] at e
      match vs, e with
      | [x], _ => exact hne x rfl
    have hrun : (results fn a.tmps).run P w = .ok (.tuple us.toArray) w := by
      rw [hres]
      simp [Array.mapM_eq_mapM_toList, q1, hl1]
    split at ha
    · rename_i ds hds
      cases ha
      refine ⟨rfl, _, hrun, us, rfl, ?_⟩
      have hvs := allD_ok hds
      refine dlist_of_v (s := s) ?_
      rw [← hvs]
      refine VList.intro q2.symm fun n x u e1 e2 => q3 n x u e1 e2 ?_
      rw [hvs, List.getElem?_map] at e1
      rintro rfl
      cases hq : ds[n]? with
      | none => rw [hq] at e1; cases e1
      | some z => rw [hq] at e1; cases e1
    · split at ha
      · rename_i hn
        cases ha
        refine ⟨hn, _, hrun, us, rfl, ?_⟩
        exact VList.intro q2.symm fun n x u e1 e2 => q3 n x u e1 e2 (none_of (noLps_iff.1 hn x (List.mem_of_getElem? e1)))
      · cases ha
  · cases ha

/-! ### calls -/
/-- The ghost's table is the program's. -/
def TableOk (P : Program) (T : FuncId → Option GFn) : Prop :=
  ∀ (f : FuncId) (g : GFn), T f = some g → ∃ (fn : Func) (hint : Hint) (c : Code), P.funcs[f]? = some fn ∧ fn.body = some c ∧ (fn.name == "runtime.NumGoroutine") = false ∧ trFn P hint fn = some g ∧ okDraws c g.body = true

theorem body_ok (hmix : P.follows .mixedOrders = true) (hS : Sound P call) {lf : Nat} {f : FuncId} {fn : Func} {c : Code} {g : GFn} (hf : P.funcs[f]? = some fn) (hb : fn.body = some c) (hn : (fn.name == "runtime.NumGoroutine") = false) (ht : trFn P hint fn = some g) (hd : okDraws c g.body = true)
    {args : List V} {sh sh' : List Blk} {v : V} (hr : body call lf g args sh = some (v, sh')) : (noLp v = true ∧ ∃ fn, P.funcs[f]? = some fn ∧ (fn.name == "runtime.NumGoroutine") = false ∧ fn.body.isNone = false) ∧
    ∀ (w w0 : World) (E0 : List Nat) (M0 : Mem) (C : Ctx) (us : List Value), C.kp = [] → WRel w0 E0 M0 C [] sh w → w0 = w → VList C sh args us →
      Calls P f us.toArray w fun e w' => ∃ (u : Value) (C' : Ctx), e = .returned u ∧ VRel C' sh' v u ∧ CtxLe C sh C' sh' ∧ WRel w0 E0 M0 C' [] sh' w' := by
  unfold trFn at ht
  rw [hb] at ht
  simp only at ht
  split at ht
  · rename_i x res h1 h2
    cases ht
    -- the run
    have hrun : ∃ e s1, gcode call lf x ⟨args ++ List.replicate (fn.ntmps - args.length) V.none, [], sh⟩ = some (e, s1) ∧ (e = .normal ∨ e = .ret) ∧ answer s1 res = some v ∧ s1.sh = sh' := by
      unfold body at hr
      simp only at hr
      split at hr
      · rename_i s1 hs1
        cases ha : answer s1 res with
        | none => rw [ha] at hr; cases hr
        | some z => rw [ha] at hr; cases hr; exact ⟨_, s1, hs1, .inl rfl, ha, rfl⟩
      · rename_i s1 hs1
        cases ha : answer s1 res with
        | none => rw [ha] at hr; cases hr
        | some z => rw [ha] at hr; cases hr; exact ⟨_, s1, hs1, .inr rfl, ha, rfl⟩
      · cases hr
    obtain ⟨e, s1, r1, r2, r3, r4⟩ := hrun
    have hnl : noLp v = true := by
      unfold answer at r3
      split at r3
      · split at r3
        · rename_i hq; cases r3; exact hq
        · cases r3
      · split at r3
        · cases r3; rfl
        · split at r3
          · rename_i hq; cases r3; exact hq
          · cases r3
      · cases r3
    refine ⟨⟨hnl, fn, hf, hn, by rw [hb]; rfl⟩, ?_⟩
    intro w w0 E0 M0 C us hkp hw hw0 hargs
    refine calls_of_wp hf hb ?_
    have hs : SRel w0 E0 M0 C ⟨args ++ List.replicate (fn.ntmps - args.length) V.none, [], sh⟩ { tmps := us.toArray ++ Array.replicate (fn.ntmps - us.toArray.size) undef, defers := [] } w := by
      refine ⟨hw, rfl, ?_⟩
      have hl := hargs.length
      have hrep : ∀ n : Nat, VList C sh (List.replicate n V.none) (List.replicate n undef) := fun n => by
        induction n with
        | zero => trivial
        | succ n ih => exact ⟨trivial, ih⟩
      have := hargs.append (hrep (fn.ntmps - args.length))
      simpa [hl] using this
    refine code_ok hmix hS lf c h1 hd r1 hs fun C' a' w' hle h' => ?_
    obtain ⟨_, u, q1, q2⟩ := answer_ok (fn := fn) h' h2 r3
    have hfin : a'.defers = [] ∧ ∃ z, (results fn a'.tmps).run P w' = .ok z w' ∧ ∃ (u : Value) (C' : Ctx), (Ending.returned z) = .returned u ∧ VRel C' sh' v u ∧ CtxLe C sh C' sh' ∧ WRel w0 E0 M0 C' [] sh' w' := by
      refine ⟨h'.tmps.1, u, q1, u, ⟨C'.M, [], C'.ks⟩, rfl, ?_, ?_, ?_⟩
      · rw [← r4]
        exact VRel.noLp (C := C') (C' := ⟨C'.M, [], C'.ks⟩) rfl rfl v hnl q2
      · rw [← r4]
        exact ⟨hle.mem, fun i k e => by rw [hkp] at e; simp at e, hle.sh⟩
      · rw [← r4]
        exact h'.world.dropP
    rcases r2 with rfl | rfl
    · exact hfin
    · exact hfin
  · cases ht

theorem gcall_sound (hmix : P.follows .mixedOrders = true) {T : FuncId → Option GFn} (hT : TableOk P T) : ∀ n : Nat, Sound P (gcall T n)
  | 0 => fun f args sh v sh' h => by cases h
  | n + 1 => fun f args sh v sh' h => by
    simp only [gcall] at h
    split at h
    · rename_i g hg
      obtain ⟨fn, hint, c, q1, q2, q3, q4, q5⟩ := hT f g hg
      exact body_ok hmix (gcall_sound hmix hT n) q1 q2 q3 q4 q5 h
    · cases h
end
end Go.Gm
