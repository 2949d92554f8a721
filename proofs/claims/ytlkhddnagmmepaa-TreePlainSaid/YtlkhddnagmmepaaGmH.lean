/-
  Each operation of the ghost machine is an operation of the model (2).
-/
import Derived.Test.YtlkhddnagmmepaaGmG
namespace Go.Gm
set_option linter.unusedSimpArgs false
set_option linter.unusedVariables false
open Go.RowKit
section
variable {P : Program} {w0 w w' : World} {E0 : List Nat} {M0 : Mem} {C : Ctx} {s s' : St} {a : Act} {v : V} {call : CallG}
variable {dst : Option Tmp} {ty : TypeId} {pos : String} {after : Array Edge} {gd : Option (Nat × Bool)}

theorem VList.splice {cs xs : List V} {us ys : List Value} (h : VList C s.sh cs us) (off : Nat) (hx : VList C s.sh xs ys) :
    VList C s.sh (Gm.splice cs off xs) (us.take off ++ ys ++ us.drop (off + ys.length)) := by
  unfold Gm.splice
  rw [hx.length]
  exact ((h.take off).append hx).append (h.drop _)

theorem ones_splice {us ys : List Value} (h : Ones us) (off n : Nat) (hx : Ones ys) : Ones (us.take off ++ ys ++ us.drop n) := by
  intro u hu
  rcases List.mem_append.1 hu with q | q
  · rcases List.mem_append.1 q with q | q
    · exact h u (List.mem_of_mem_take q)
    · exact hx u q
  · exact h u (List.mem_of_mem_drop q)

theorem noLps_iff {xs : List V} : noLps xs = true ↔ ∀ x ∈ xs, noLp x = true := by
  induction xs with
  | nil => simp [noLps]
  | cons x r ih => simp [noLps, ih]
theorem noLps_append {xs ys : List V} (h : noLps xs = true) (h' : noLps ys = true) : noLps (xs ++ ys) = true := by
  rw [noLps_iff] at *
  intro x hx
  rcases List.mem_append.1 hx with q | q
  · exact h x q
  · exact h' x q
theorem noLps_splice {cs xs : List V} (h : noLps cs = true) (off : Nat) (h' : noLps xs = true) : noLps (splice cs off xs) = true := by
  unfold splice
  refine noLps_append (noLps_append ?_ h') ?_
  · rw [noLps_iff] at *; exact fun x hx => h x (List.mem_of_mem_take hx)
  · rw [noLps_iff] at *; exact fun x hx => h x (List.mem_of_mem_drop hx)
theorem noLps_d {xs : List D} : noLps (xs.map V.d) = true := by
  induction xs with
  | nil => rfl
  | cons x r ih => simp [noLps, noLp, ih]

theorem splice_length {cs xs : List V} {off : Nat} (h : off + xs.length ≤ cs.length) : (splice cs off xs).length = cs.length := by
  unfold splice; simp; omega

theorem st_ok (h : SRel w0 E0 M0 C s a w) {t : TypeId} {x y : Operand} {p q : Opd} {n : Nat} (e1 : trOpd x = some p) (e2 : trOpd y = some q) (e3 : szOf P t = some n)
    {sh : Bool} (hr : run1 call s (.st sh p q n) = some (v, s')) : Runs P w0 E0 M0 C s s' v w (execOp a.eval ⟨dst, .store t x y, ty, pos, after, gd⟩) := by
  simp only [run1] at hr
  split at hr
  · cases hr
  split at hr
  · rename_i cs hc
    split at hr
    · rename_i hcond
      obtain ⟨hlen, hnl⟩ := hcond
      have hp := eval_ok e1 h.tmps
      have hq := eval_ok e2 h.tmps
      obtain ⟨us, u1, u2, u3⟩ := cells_ok hc hq
      have hun : us.length = n := by rw [← u2.length, hlen]
      -- the run, once the address and the block are known
      have run : ∀ (k off : Nat) (cur : List Value) (et : TypeId), a.eval x = .pointer (some ⟨k, off, Option.none⟩) → w.heap[k]? = some (Obj.cells cur.toArray et (0, 0)) → off + us.length ≤ cur.length →
          (execOp a.eval ⟨dst, .store t x y, ty, pos, after, gd⟩).run P w = .ok .skip (w.setRow k (cur.take off ++ us ++ cur.drop (off + us.length)).toArray) := by
        intro k off cur et ha hk hle
        have hst := run_storeCells_at P k off et us 0 cur.toArray w hk (by simpa using hle) u3
        simp only [Nat.add_zero] at hst
        simp [execOp, Instr.storeAt, ha, Instr.sureAddr, storeVar, run_sizeOf e3, u1, hun, hst]
      have setrow : ∀ (k : Nat) (cur : List Value) (et : TypeId) (new : List Value), w.heap[k]? = some (Obj.cells cur.toArray et (0, 0)) → (w.setRow k new.toArray).heap[k]? = some (Obj.cells new.toArray et (0, 0)) :=
        fun k cur et new hk => setRow_heap w k cur.toArray _ et _ hk
      have sz : ∀ (k : Nat) (new : Array Value), (w.setRow k new).heap.size = w.heap.size := fun k new => by simp [World.setRow]
      cases hst : s.store (p.ev s) cs with
      | none => rw [hst] at hr; cases hr
      | some s1 =>
        rw [hst] at hr
        simp only [Option.map_some, Option.some.injEq, Prod.mk.injEq] at hr
        obtain ⟨rfl, rfl⟩ := hr
        generalize p.ev s = pv at hp hst
        cases pv with
        | lp i off =>
          obtain ⟨k, g1, g2⟩ := hp
          simp only [St.store] at hst
          split at hst
          · rename_i cells hcells
            split at hst
            · rename_i hle
              cases hst
              obtain ⟨cur, et, c1, c2, c3⟩ := h.world.pcell i cells k hcells g1
              have hle' : off + us.length ≤ cur.length := by rw [← c2.length, hun, ← hlen]; exact hle
              refine ⟨C, _, _, run k off cur et g2 c1 hle', .inl ⟨rfl, rfl⟩, CtxLe.refl _ _, ?_, rfl⟩
              exact h.world.setP g1 (setrow k cur et _ c1) (fun k' hk' => below_setRow_block w k _ k' hk') (sz _ _) rfl rfl rfl (c2.splice off u2) (ones_splice c3 _ _ u3)
                (noLps_splice (h.world.pnl i cells hcells) off hnl)
            · cases hst
          · cases hst
        | sp b m off =>
          obtain ⟨_, blk, g0, g1, g2⟩ := hp
          simp only [St.store, g0] at hst
          split at hst
          · rename_i hcond
            obtain ⟨hm, hle, hfz⟩ := hcond
            cases hst
            obtain ⟨k, n', p1, p2⟩ := g2 hm
            obtain ⟨cur, rest, c1, c2, c3, c4⟩ := h.world.scell b blk k n' g0 p1
            have hcl : blk.cells.length = cur.length := c3.length
            have hle' : off + us.length ≤ cur.length := by rw [← hcl, hun, ← hlen, hm]; exact hle
            have hnew : ((cur ++ rest).take off ++ us ++ (cur ++ rest).drop (off + us.length)) = (cur.take off ++ us ++ cur.drop (off + us.length)) ++ rest := by
              rw [List.take_append_of_le_length (by omega), List.drop_append_of_le_length hle']
              simp
            refine ⟨C, _, _, run k off (cur ++ rest) blk.ety p2 c1 (by simp; omega), .inl ⟨rfl, rfl⟩, ?_, ?_, rfl⟩
            · exact CtxLe.setS C g0 (splice_length (by rw [hm]; exact hle)) rfl
            · refine h.world.setS (blk' := { blk with cells := splice blk.cells off cs }) (cur := cur.take off ++ us ++ cur.drop (off + us.length)) (rest := rest) g0 p1 ?_ ?_ (fun k' hk' => below_setRow_block w k _ k' hk') (sz _ _) rfl rfl rfl hfz
                (splice_length (by rw [hm]; exact hle)) rfl (c3.splice off u2) (ones_splice c4 _ _ u3) (noLps_splice (h.world.snl b blk g0) off hnl)
              · rw [hnew]; exact setrow k (cur ++ rest) blk.ety _ c1
              · simp; omega
          · cases hst
        | _ => simp [St.store] at hst
    · cases hr
  · cases hr

/-! ### addresses -/
theorem addP_ok {x y : V} {u : Value} {off : Nat} (hv : VRel C s.sh x u) (h : addP x off = some y) : ∃ A : Addr, u = .pointer (some A) ∧ VRel C s.sh y (.pointer (some (A.add off))) := by
  cases x with
  | lp i o =>
    obtain ⟨k, e1, e2⟩ := hv
    simp only [addP, Option.some.injEq] at h
    subst h
    exact ⟨_, e2, k, e1, by rw [add_addr]⟩
  | sp b n i =>
    obtain ⟨⟨A, e0⟩, blk, e1, e2, e3⟩ := hv
    simp only [addP, Option.some.injEq] at h
    subst h
    refine ⟨A, e0, ⟨_, rfl⟩, blk, e1, e2, fun hl => ?_⟩
    obtain ⟨k, m, g1, g2⟩ := e3 hl
    rw [e0] at g2
    cases g2
    exact ⟨k, m, g1, by rw [add_addr]⟩
  | d z =>
    cases z with
    | pp cs o =>
      obtain ⟨k, o', e1, e2⟩ := hv
      simp only [addP, Option.some.injEq] at h
      subst h
      exact ⟨_, e1, k, o', by rw [add_addr, Nat.add_assoc], e2⟩
    | _ => simp [addP] at h
  | _ => simp [addP] at h

theorem ad_ok (h : SRel w0 E0 M0 C s a w) {t : TypeId} {x : Operand} {f : Nat} {fs : Array Field} {g : Field} {n : Nat} {y : Opd} (e1 : fieldsOf? P t = some fs) (e2 : fs[f]? = some g) (e3 : szOf P g.type = some (n + 1))
    (e4 : trOpd x = some y) (hr : run1 call s (.ad y g.offset) = some (v, s')) : Runs P w0 E0 M0 C s s' v w (execOp a.eval ⟨dst, .fieldAddr t x f, ty, pos, after, gd⟩) := by
  simp only [run1] at hr
  cases ha : addP (y.ev s) g.offset with
  | none => rw [ha] at hr; cases hr
  | some z =>
    rw [ha] at hr
    simp only [Option.map_some, Option.some.injEq, Prod.mk.injEq] at hr
    obtain ⟨rfl, rfl⟩ := hr
    obtain ⟨A, q1, q2⟩ := addP_ok (eval_ok e4 h.tmps) ha
    have hu : P.underlying t = some (.struct fs) := by
      unfold fieldsOf? at e1
      split at e1
      · cases e1; assumption
      · cases e1
    refine Runs.pure h.world ?_ q2
    simp [execOp, Instr.fieldAt, run_underlying hu, e2, q1, Instr.sureAddr, fieldPlace, run_sizeOf e3]

theorem intOf_ok {x : V} {u : Value} {k : IntKind} {n : Int} (h : intOf? x = some (k, n)) (hv : VRel C s.sh x u) : u = .int k n := by
  cases x with
  | d y =>
    cases y with
    | int k' n' => simp only [intOf?, Option.some.injEq, Prod.mk.injEq] at h; obtain ⟨rfl, rfl⟩ := h; exact hv
    | _ => simp [intOf?] at h
  | _ => simp [intOf?] at h

theorem elemP_ok {x y : V} {u : Value} {es : Nat} {i : Int} (hv : VRel C s.sh x u) (he : elemP s es x i = some y) :
    ∃ (A : Addr) (len cap : Nat), u = .slice (some A) len cap ∧ 0 ≤ i ∧ i < len ∧ VRel C s.sh y (.pointer (some (A.add (i.toNat * es)))) := by
  cases x with
  | rs b off len =>
    obtain ⟨_, blk, g1, g2, g3⟩ := hv
    simp only [elemP, g1] at he
    split at he
    · rename_i hc
      obtain ⟨c1, c2, c3, c4⟩ := hc
      cases he
      obtain ⟨k, n, cap, p1, p2, p3, p4, p5⟩ := g3 c1
      refine ⟨_, len, cap, p2, c3, c4, ⟨_, rfl⟩, blk, g1, Nat.le_refl _, fun _ => ⟨k, n, p1, ?_⟩⟩
      rw [add_addr]
    · cases he
  | d z =>
    cases z with
    | sl full es' xs =>
      obtain ⟨A, cap, q1, q2, q3, q4, q5, q6⟩ := hv
      simp only [elemP] at he
      split at he
      · rename_i hc
        obtain ⟨c1, c2⟩ := hc
        subst c1
        split at he
        · rename_i ys hys
          cases he
          have hlt : i.toNat < xs.length := (List.getElem?_eq_some_iff.1 hys).1
          refine ⟨A, _, cap, q1, c2, by omega, ?_⟩
          obtain ⟨r1, r2⟩ := q6.at_ hys
          have hA : A = ⟨A.block, A.off, Option.none⟩ := by
            have := q5 (by intro e; rw [e] at hlt; simp at hlt)
            cases A
            simp only at this
            subst this
            rfl
          refine ⟨A.block, A.off + i.toNat * es', ?_, r2⟩
          rw [hA, add_addr, Nat.add_zero]
        · cases he
      · cases he
    | _ => simp [elemP] at he
  | _ => simp [elemP] at he

theorem el_ok (h : SRel w0 E0 M0 C s a w) {t e : TypeId} {x i : Operand} {es : Nat} {y j : Opd} (e1 : P.underlying t = some (.slice e)) (e2 : szOf P e = some es) (e3 : trOpd x = some y) (e4 : trOpd i = some j)
    {sh : Bool} (hr : run1 call s (.el sh y j es) = some (v, s')) : Runs P w0 E0 M0 C s s' v w (execOp a.eval ⟨dst, .indexAddr t x i, ty, pos, after, gd⟩) := by
  simp only [run1] at hr
  split at hr
  · cases hr
  split at hr
  · rename_i k n hi
    cases he : elemP s es (y.ev s) n with
    | none => rw [he] at hr; cases hr
    | some z =>
      rw [he] at hr
      simp only [Option.map_some, Option.some.injEq, Prod.mk.injEq] at hr
      obtain ⟨rfl, rfl⟩ := hr
      have hn := intOf_ok hi (eval_ok e4 h.tmps)
      obtain ⟨A, len, cap, q1, q2, q3, q4⟩ := elemP_ok (eval_ok e3 h.tmps) he
      refine Runs.pure h.world ?_ q4
      simp [execOp, Instr.indexAt, hn, asIntOf, run_underlying e1, q1, q2, q3, run_sizeOf e2]
  · cases hr

theorem ea_ok (h : SRel w0 E0 M0 C s a w) {t e : TypeId} {x i : Operand} {len es : Nat} {y j : Opd} (e1 : P.underlying t = some (.array len e)) (e2 : szOf P e = some es) (e3 : trOpd x = some y) (e4 : trOpd i = some j)
    (hr : run1 call s (.ea y j len es) = some (v, s')) : Runs P w0 E0 M0 C s s' v w (execOp a.eval ⟨dst, .indexAddr t x i, ty, pos, after, gd⟩) := by
  simp only [run1] at hr
  split at hr
  · rename_i k n hi
    split at hr
    · rename_i hc
      cases he : addP (y.ev s) (n.toNat * es) with
      | none => rw [he] at hr; cases hr
      | some z =>
        rw [he] at hr
        simp only [Option.map_some, Option.some.injEq, Prod.mk.injEq] at hr
        obtain ⟨rfl, rfl⟩ := hr
        have hn := intOf_ok hi (eval_ok e4 h.tmps)
        obtain ⟨A, q1, q4⟩ := addP_ok (eval_ok e3 h.tmps) he
        refine Runs.pure h.world ?_ q4
        simp [execOp, Instr.indexAt, hn, asIntOf, run_underlying e1, q1, Instr.sureAddr, hc.1, hc.2, run_sizeOf e2]
    · cases hr
  · cases hr
end
end Go.Gm
