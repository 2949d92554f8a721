/-
  Each operation of the ghost machine is an operation of the model (6): slices, make, append.
-/
import Derived.Test.YtlkhddnagmmepaaGmK
namespace Go.Gm
set_option linter.unusedSimpArgs false
set_option linter.unusedVariables false
open Go.RowKit
section
variable {P : Program} {w0 w w' : World} {E0 : List Nat} {M0 : Mem} {C : Ctx} {s s' : St} {a : Act} {v : V} {call : CallG}
variable {dst : Option Tmp} {ty : TypeId} {pos : String} {after : Array Edge} {gd : Option (Nat × Bool)}

/-! ### slices -/
theorem sliceV_ok {t e : TypeId} {es0 : Nat} (ht : P.underlying t = some (.slice e)) (he : szOf P e = some es0) {x y : V} {u : Value} {lo hi : Option Value} {l h : Option Int} (hv : VRel C s.sh x u)
    (hl : (lo = Option.none ∧ l = Option.none) ∨ ∃ k n, lo = some (.int k n) ∧ l = some n) (hh : (hi = Option.none ∧ h = Option.none) ∨ ∃ k n, hi = some (.int k n) ∧ h = some n)
    (hs : sliceV es0 x l h = some y) : ∃ r, (Instr.sliceAt t u lo hi Option.none).run P w = .ok r w ∧ VRel C s.sh y r := by
  have bound : ∀ (k : IntKind) (n : Int) (m : Nat) (c : BoundsCode), 0 ≤ n → n ≤ m → (Instr.sliceBound (.int k n) m c).run P w = .ok n.toNat w := by
    intro k n m c h0 h1
    simp [Instr.sliceBound, asIntOf, h0, h1]
  unfold sliceV at hs
  split at hs
  · split at hs
    · rename_i hc
      cases hs
      cases hv
      refine ⟨.slice Option.none 0 0, ?_, rfl⟩
      rcases hl with ⟨rfl, rfl⟩ | ⟨k, n, rfl, rfl⟩ <;> rcases hh with ⟨rfl, rfl⟩ | ⟨k', n', rfl, rfl⟩
      · simp [Instr.sliceAt, run_underlying ht, Instr.slice, Instr.sliceBounds, run_sizeOf he]
      · obtain rfl : n' = 0 := hc.2
        simp [Instr.sliceAt, run_underlying ht, Instr.slice, Instr.sliceBounds, run_sizeOf he, bound]
      · obtain rfl : n = 0 := hc.1
        simp [Instr.sliceAt, run_underlying ht, Instr.slice, Instr.sliceBounds, run_sizeOf he, bound]
      · obtain rfl : n = 0 := hc.1
        obtain rfl : n' = 0 := hc.2
        simp [Instr.sliceAt, run_underlying ht, Instr.slice, Instr.sliceBounds, run_sizeOf he, bound]
    · cases hs
  · rename_i full es xs
    split at hs
    · rename_i hc
      obtain ⟨c0, c1, c2, c3⟩ := hc
      subst c0
      cases hs
      obtain ⟨A, cap, q1, q2, q3, q4, q5, q6⟩ := hv
      -- the bounds as numbers
      have key : ∀ (lN hN : Nat), (lN : Int) = l.getD 0 → (hN : Int) = h.getD xs.length → (Instr.sliceAt t u lo hi Option.none).run P w = .ok (.slice (if cap = lN then some A else some (A.add (lN * es))) (hN - lN) (cap - lN)) w := by
        intro lN hN e1 e2
        have hA : (if cap = lN then some A else (some A).map (·.add (lN * es))) = if cap = lN then some A else some (A.add (lN * es)) := rfl
        rcases hl with ⟨rfl, rfl⟩ | ⟨k, n, rfl, rfl⟩ <;> rcases hh with ⟨rfl, rfl⟩ | ⟨k', n', rfl, rfl⟩ <;> simp only [Option.getD_some, Option.getD_none] at c1 c2 c3 e1 e2
        · obtain rfl : lN = 0 := by omega
          obtain rfl : hN = xs.length := by omega
          simp [Instr.sliceAt, run_underlying ht, Instr.slice, q1, Instr.sliceBounds, run_sizeOf he]
        · obtain rfl : lN = 0 := by omega
          obtain rfl : n' = (hN : Int) := by omega
          simp [Instr.sliceAt, run_underlying ht, Instr.slice, q1, Instr.sliceBounds, run_sizeOf he, bound k' hN cap _ (by omega) (by omega)]
        · obtain rfl : n = (lN : Int) := by omega
          obtain rfl : hN = xs.length := by omega
          simp [Instr.sliceAt, run_underlying ht, Instr.slice, q1, Instr.sliceBounds, run_sizeOf he, bound k lN xs.length _ (by omega) (by omega)]
        · obtain rfl : n = (lN : Int) := by omega
          obtain rfl : n' = (hN : Int) := by omega
          simp [Instr.sliceAt, run_underlying ht, Instr.slice, q1, Instr.sliceBounds, run_sizeOf he, bound k' hN cap _ (by omega) (by omega), bound k lN hN _ (by omega) (by omega)]
      have hrun := key (l.getD 0).toNat (h.getD xs.length).toNat (by omega) (by omega)
      refine ⟨_, hrun, ?_⟩
      have hlen : ((xs.take (h.getD xs.length).toNat).drop (l.getD 0).toNat).length = (h.getD xs.length).toNat - (l.getD 0).toNat := by simp; omega
      by_cases hcap : cap = (l.getD 0).toNat
      · rw [if_pos hcap]
        have hnil : (xs.take (h.getD xs.length).toNat).drop (l.getD 0).toNat = [] := List.eq_nil_of_length_eq_zero (by rw [hlen]; omega)
        refine ⟨A, _, by rw [hlen], by rw [hlen]; omega, by omega, fun hf => ?_, fun hne => absurd hnil hne, by rw [hnil]; trivial⟩
        rw [hlen]; omega
      · rw [if_neg hcap]
        refine ⟨_, _, by rw [hlen], by rw [hlen]; omega, by omega, fun hf => ?_, fun hne => ?_, ?_⟩
        · simp only [Bool.and_eq_true, beq_iff_eq] at hf
          have := q4 hf.1
          rw [hlen]; omega
        · unfold Addr.add
          split
          · refine q5 (fun e => ?_)
            rw [e] at hne; simp at hne
          · rfl
        · have hd := (q6.take (h.getD xs.length).toNat).drop (l.getD 0).toNat
          have hb : (A.add ((l.getD 0).toNat * es)).block = A.block := by unfold Addr.add; split <;> rfl
          have ho : (A.add ((l.getD 0).toNat * es)).off = A.off + (l.getD 0).toNat * es := by unfold Addr.add; split <;> simp_all
          rw [hb, ho]
          exact hd
    · cases hs
  · cases hs

/-! ### make -/
theorem ms_ok (h : SRel w0 E0 M0 C s a w) {t e : TypeId} {i : TypeInfo} {z : List D} {x y : Operand} {p q : Opd} (e1 : P.underlying t = some (.slice e)) (e2 : P.info? e = some i) (e3 : zeroOf P e = some z) (e4 : trOpd x = some p) (e5 : trOpd y = some q)
    (e6 : z.length = i.size) (e7 : 0 < i.size) (hr : run1 call s (.ms e i.size i.bytes z p q) = some (v, s')) : Runs P w0 E0 M0 C s s' v w (execOp a.eval ⟨dst, .makeSlice t x y, ty, pos, after, gd⟩) := by
  simp only [run1] at hr
  split at hr
  · rename_i k n k' c h1 h2
    split at hr
    · rename_i hc
      obtain ⟨c1, c2, c3, c4, c5⟩ := hc
      subst c1
      simp only [Option.some.injEq, Prod.mk.injEq] at hr
      obtain ⟨rfl, rfl⟩ := hr
      have hp := intOf_ok h1 (eval_ok e4 h.tmps)
      have hq := intOf_ok h2 (eval_ok e5 h.tmps)
      obtain ⟨i', zv, g1, g2, g3, g4⟩ := zero_ok (M := C.M) e3
      rw [e2] at g1; cases g1
      have hzs : zv.cells.size = i.size := by rw [← e6, g3.length]; simp
      have hm := run_make (P := P) w t e i zv e1 e2 g2 k k' n n c2 (Int.le_refl _) c3 c4
      have hcells : madeCells zv.cells (n.toNat * i.size) = ((List.replicate n.toNat zv.cells.toList).flatten ++ []).toArray := by
        unfold madeCells
        have := made_flat zv.cells (by omega) n.toNat
        rw [hzs] at this
        rw [hzs, List.append_nil]
        exact this
      rw [hcells] at hm
      have hv := vlist_rep (s := s) (VList.of_d g3) n.toNat
      have hflat : (List.replicate n.toNat (z.map V.d)).flatten = ((List.replicate n.toNat z).flatten).map V.d := by simp [List.map_flatten]
      rw [hflat] at hv
      have hb := h.world.boxS (blk := ⟨((List.replicate n.toNat z).flatten).map V.d, i.size, e, false⟩) (cur := (List.replicate n.toNat zv.cells.toList).flatten) (rest := []) hv (ones_rep g4 _) noLps_d
      have hl : (((List.replicate n.toNat z).flatten).map V.d).length = n.toNat * i.size := by simp [e6]
      have hl2 : ((List.replicate n.toNat zv.cells.toList).flatten).length = n.toNat * i.size := by simp [hzs]
      refine ⟨_, _, _, (by simp only [execOp, Sem.run_bind]; rw [hp, hq, hm]; rfl), .inr ⟨_, rfl, ⟨_, _, _, rfl⟩, _, get_snoc_new, ?_, fun _ => ⟨w.heap.size, ((List.replicate n.toNat zv.cells.toList).flatten).length + ([] : List Value).length, n.toNat, ?_, rfl, ?_, ?_, Nat.le_refl _⟩⟩, CtxLe.addS C s.sh h.world.slen _ _ _, hb, rfl⟩
      · show 0 + n.toNat * i.size ≤ (((List.replicate n.toNat z).flatten).map V.d).length
        rw [hl]; omega
      · show (C.ks ++ [_])[s.sh.length]? = _
        rw [h.world.slen, get_snoc_new]
      · show ((List.replicate n.toNat zv.cells.toList).flatten).length + 0 = 0 + n.toNat * i.size
        rw [hl2]; omega
      · simp only [maxLen]; omega
    · cases hr
  · cases hr

/-! ### append -/
/-- The cells of a slice, where they lie. -/
theorem rowOf_ok (h : WRel w0 E0 M0 C s.ph s.sh w) {x : V} {u : Value} {es m : Nat} {cs : List V} (hv : VRel C s.sh x u) (h1 : rowOf s es x = some cs) (h2 : lenV s x = some m) :
    ∃ (A : Option Addr) (cap : Nat) (us : List Value), u = .slice A m cap ∧ us.length = m * es ∧ VList C s.sh cs us ∧ Ones us ∧ (0 < m → ∃ ad, A = some ad ∧ ∀ (j : Nat) (y : Value), us[j]? = some y → w.cell? (ad.add j) = some y) := by
  cases x with
  | d y =>
    cases y with
    | nilSl =>
      cases h1; cases h2; cases hv
      exact ⟨_, _, [], rfl, by simp, trivial, fun _ hu => by simp at hu, fun hm => by omega⟩
    | sl full es' xs =>
      simp only [rowOf] at h1
      split at h1
      · rename_i he
        subst he
        cases h1; cases h2
        obtain ⟨A, cap, q1, q2, q3, q4, q5, q6⟩ := hv
        have key : ∀ (xs : List (List D)) (o : Nat), DRow C.M es' xs A.block o → ∃ us : List Value, us.length = xs.length * es' ∧ DList C.M xs.flatten us ∧ Ones us ∧ ∀ (j : Nat) (y : Value), us[j]? = some y → w.cell? ⟨A.block, o + j, Option.none⟩ = some y := by
          have cells : ∀ (ds : List D) (o : Nat), DCells C.M ds A.block o → ∃ us : List Value, us.length = ds.length ∧ DList C.M ds us ∧ Ones us ∧ ∀ (i : Nat) (y : Value), us[i]? = some y → w.cell? ⟨A.block, o + i, Option.none⟩ = some y := by
            intro ds
            induction ds with
            | nil => intro o _; exact ⟨[], rfl, trivial, fun u hu => by simp at hu, fun i y hy => by simp at hy⟩
            | cons x r ih =>
              intro o ⟨⟨u, g1, g2, g3⟩, g4⟩
              obtain ⟨us, p1, p2, p3, p4⟩ := ih (o + 1) g4
              refine ⟨u :: us, by simp [p1], ⟨g3, p2⟩, fun y hy => ?_, fun i y hy => ?_⟩
              · rcases List.mem_cons.1 hy with q | q
                · subst q; exact g2
                · exact p3 y q
              · cases i with
                | zero => simp at hy; subst hy; exact h.mem A.block o u g1
                | succ i =>
                  have := p4 i y (by simpa using hy)
                  rwa [show o + 1 + i = o + (i + 1) from by omega] at this
          intro xs
          induction xs with
          | nil => intro o _; exact ⟨[], by simp, trivial, fun u hu => by simp at hu, fun i y hy => by simp at hy⟩
          | cons ys r ih =>
            intro o ⟨g1, g2, g3⟩
            obtain ⟨us, p1, p2, p3, p4⟩ := cells ys o g2
            obtain ⟨vs, r1, r2, r3, r4⟩ := ih (o + es') g3
            refine ⟨us ++ vs, ?_, by simp only [List.flatten_cons]; exact DList.append p2 r2, fun u hu => ?_, fun j y hy => ?_⟩
            · simp [p1, r1, g1, Nat.succ_mul]; omega
            · rcases List.mem_append.1 hu with q | q
              · exact p3 u q
              · exact r3 u q
            · rcases Nat.lt_or_ge j us.length with hj | hj
              · rw [List.getElem?_append_left hj] at hy; exact p4 j y hy
              · rw [List.getElem?_append_right hj] at hy
                have := r4 _ y hy
                rwa [show o + es' + (j - us.length) = o + j from by omega] at this
        obtain ⟨us, p1, p2, p3, p4⟩ := key xs A.off q6
        refine ⟨some A, cap, us, q1, p1, VList.of_d p2, p3, fun hm => ⟨A, rfl, fun j y hy => ?_⟩⟩
        have hA : A = ⟨A.block, A.off, Option.none⟩ := by
          have := q5 (by intro e; rw [e] at hm; simp at hm)
          cases A
          simp only at this
          subst this
          rfl
        rw [hA, add_addr]
        exact p4 j y hy
      · cases h1
    | _ => cases h1
  | rs b off len =>
    obtain ⟨_, blk, g1, g2, g3⟩ := hv
    simp only [rowOf, g1] at h1
    split at h1
    · rename_i hc
      obtain ⟨c1, c2⟩ := hc
      cases h1
      simp only [lenV, g1, if_pos c1] at h2
      cases h2
      obtain ⟨k, n, cap, p1, p2, p3, p4, p5⟩ := g3 c1
      obtain ⟨cur, r1, r2, r3, r4⟩ := h.cellAt g1 p1
      refine ⟨_, cap, cur.drop off, p2, by simp; rw [r1, c1, c2]; omega, r2.drop off, fun y hy => r3 y (List.mem_of_mem_drop hy), fun _ => ⟨_, rfl, fun j y hy => ?_⟩⟩
      rw [add_addr]
      rw [List.getElem?_drop] at hy
      exact r4 _ y hy
    · cases h1
  | _ => cases h1
end
end Go.Gm
