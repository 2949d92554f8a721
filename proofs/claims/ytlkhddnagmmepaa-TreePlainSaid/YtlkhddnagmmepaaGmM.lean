/-
  Each operation of the ghost machine is an operation of the model (7): append.
-/
import Derived.Test.YtlkhddnagmmepaaGmL
namespace Go.Gm
set_option linter.unusedSimpArgs false
set_option linter.unusedVariables false
open Go.RowKit
section
variable {P : Program} {w0 w w' : World} {E0 : List Nat} {M0 : Mem} {C : Ctx} {s s' : St} {a : Act} {v : V} {call : CallG}
variable {dst : Option Tmp} {ty : TypeId} {pos : String} {after : Array Edge} {gd : Option (Nat × Bool)}

theorem below_of_grown {w w' : World} (h : w.grownBy w' Option.none) : Below w.heap.size w w' :=
  ⟨h.os, h.tape, h.output, h.size, fun k hk => h.block k hk (by simp)⟩

theorem run_append_nothing {t e : TypeId} {es : Nat} (ht : P.underlying t = some (.slice e)) (he : szOf P e = some es) (A B : Option Addr) (n cap c : Nat) (hn : n ≤ cap) :
    (Builtin.append_ #[t, t] ty #[.slice A n cap, .slice B 0 c]).run P w = .ok (.slice A n cap) w := by
  cases A <;> cases B <;> simp [Builtin.append_, run_underlying ht, run_sizeOf he, Builtin.lenOf, hn, Builtin.firstCells, loadCells, loadCellsFrom, storeCells]

/-- A block of one's own, out of the kit's word for it. -/
theorem own_split {w : World} {base e size n : Nat} {x : Value} {xs : List Value} (h : w.ownsRow base e size x n xs) (hn : 0 < n) :
    ∃ (g cap : Nat) (rest : List Value), x = .slice (some ⟨g, 0, Option.none⟩) n cap ∧ base ≤ g ∧ w.heap[g]? = some (Obj.cells (xs ++ rest).toArray e (0, 0)) ∧ xs.length + rest.length = cap * size ∧ n ≤ cap ∧ cap ≤ maxLen ∧ xs.length = n * size := by
  rcases h.2 with ⟨_, q⟩ | ⟨g, cap, cur, e1, e2, e3, e4, e5, e6, e7⟩
  · omega
  · refine ⟨g, cap, cur.toList.drop (n * size), e1, e2, ?_, ?_, e4, e5, h.1⟩
    · rw [← e7, List.take_append_drop]; simpa using e3
    · have := Nat.mul_le_mul_right size e4
      rw [h.1]; simp; omega

theorem ap_ok (h : SRel w0 E0 M0 C s a w) {t e : TypeId} {i : TypeInfo} {z : List D} {x y : Operand} {p q : Opd} {c : Call} (e1 : P.underlying t = some (.slice e)) (e2 : P.info? e = some i) (e3 : zeroOf P e = some z)
    (e4 : trOpd x = some p) (e5 : trOpd y = some q) (e6 : z.length = i.size) (e7 : 0 < i.size) (hc : c.callee = .builtin .append) (ha : c.args = #[x, y]) (hat : c.argTypes = #[t, t])
    (hr : run1 call s (.ap e i.size i.bytes p q) = some (v, s')) : Runs P w0 E0 M0 C s s' v w (execOp a.eval ⟨dst, .call c, ty, pos, after, gd⟩) := by
  simp only [run1] at hr
  split at hr
  · rename_i news m hrow hlen
    obtain ⟨i', zv, z1, z2, z3, z4⟩ := zero_ok (M := C.M) e3
    rw [e2] at z1; cases z1
    have hzs : zv.cells.size = i.size := by rw [← e6, z3.length]; simp
    obtain ⟨B, cy, us, q1, q2, q3, q4, q5⟩ := rowOf_ok h.world (eval_ok e5 h.tmps) hrow hlen
    have hx := eval_ok e4 h.tmps
    -- what the model runs, by what append comes to
    have run : ∀ (r : Value) (w1 : World), (Builtin.append_ #[t, t] ty #[a.eval x, a.eval y]).run P w = .ok r w1 → (execOp a.eval ⟨dst, .call c, ty, pos, after, gd⟩).run P w = .ok (.value r) w1 := by
      intro r w1 hrun
      simp [execOp, resolve, hc, ha, hat, invoke, builtin, hrun]
    have hnl : us.length = news.length := q3.length.symm
    cases hap : appendV s e i.size i.bytes (p.ev s) m news with
    | none => rw [hap] at hr; cases hr
    | some pr =>
      obtain ⟨v1, sh1⟩ := pr
      rw [hap] at hr
      simp only [Option.map_some, Option.some.injEq, Prod.mk.injEq] at hr
      obtain ⟨rfl, rfl⟩ := hr
      simp only [appendV] at hap
      split at hap
      · rename_i hm
        subst hm
        cases hl : lenV s (p.ev s) with
        | none => rw [hl] at hap; cases hap
        | some n =>
          rw [hl] at hap
          simp only [Option.map_some, Option.some.injEq, Prod.mk.injEq] at hap
          obtain ⟨rfl, rfl⟩ := hap
          obtain ⟨A, cap, g1, g2⟩ := lenV_ok hx hl
          refine Runs.pure h.world (x := .slice A n cap) (run _ _ ?_) (by rw [← g1]; exact hx)
          rw [g1, q1]
          exact run_append_nothing (es := i.size) e1 (by simp [szOf, e2]) A B n cap cy g2
      · rename_i hm
        have hm0 : 0 < m := Nat.pos_of_ne_zero hm
        obtain ⟨ad, rfl, q6⟩ := q5 hm0
        -- a new block
        have fresh : ∀ (n : Nat) (olds : List V) (xs : List Value) (r : Value) (w1 : World), (Builtin.append_ #[t, t] ty #[a.eval x, a.eval y]).run P w = .ok r w1 → w1.ownsRow w.heap.size e i.size r (n + m) (xs ++ us) → w.grownBy w1 Option.none →
            VList C s.sh olds xs → Ones xs → noLps olds = true → noLps news = true → Runs P w0 E0 M0 C s { s with sh := s.sh ++ [⟨olds ++ news, i.size, e, false⟩] } (.rs s.sh.length 0 (n + m)) w (execOp a.eval ⟨dst, .call c, ty, pos, after, gd⟩) := by
          intro n olds xs r w1 hrun hown hgr hv1 hones1 hnl1 hnl2
          obtain ⟨g, cap, rest, g1, g2, g3, g4, g5, g6, g7⟩ := own_split hown (by omega)
          have hb := below_of_grown hgr
          have hadd := (h.world.grown hb).addS (k := g) (n := (xs ++ us).length + rest.length) (blk := ⟨olds ++ news, i.size, e, false⟩) (cur := xs ++ us) (rest := rest) g3 rfl (Nat.le_trans h.world.size g2)
            (fun i e => by have := h.world.plt e; omega) (fun b n e => by have := h.world.slt e; omega) (fun o => by
              cases e : C.M g o with
              | none => rfl
              | some u => have := h.world.mlt e; omega) (hv1.append q3) (fun u hu => by
                rcases List.mem_append.1 hu with q | q
                · exact hones1 u q
                · exact q4 u q) (noLps_append hnl1 hnl2)
          refine ⟨_, _, w1, run _ _ hrun, .inr ⟨r, rfl, ?_, ⟨olds ++ news, i.size, e, false⟩, get_snoc_new, ?_, fun _ => ⟨g, (xs ++ us).length + rest.length, cap, ?_, g1, ?_, g6, g5⟩⟩, CtxLe.addS C s.sh h.world.slen _ _ _, hadd, rfl⟩
          · exact ⟨_, _, _, g1⟩
          · show 0 + (n + m) * i.size ≤ (olds ++ news).length
            rw [List.length_append, hv1.length, ← hnl, ← List.length_append, g7]; omega
          · show (C.ks ++ [_])[s.sh.length]? = _
            rw [h.world.slen, get_snoc_new]
          · show (xs ++ us).length + rest.length = 0 + cap * i.size
            rw [g4]; omega
        split at hap
        · -- a block of the ghost's
          rename_i b off len hpv
          rw [hpv] at hx
          obtain ⟨_, blk, b1, b2, b3⟩ := hx
          rw [b1] at hap
          simp only at hap
          split at hap
          · rename_i hcond
            obtain ⟨c0, c1, c2, c3, c4, c5, c6, c7⟩ := hcond
            cases hap
            subst c0
            obtain ⟨k, n', cap, k1, k2, k3, k4, k5⟩ := b3 (by rw [c1, c2]; omega)
            obtain ⟨cur, rest, d1, d2, d3, d4⟩ := h.world.scell b blk k n' b1 k1
            have hcl : cur.length = len * i.size := by rw [← d3.length, c1]
            rw [c2] at k3
            rw [c3] at d1
            have hones : Ones (cur ++ us) := fun u hu => by
              rcases List.mem_append.1 hu with q | q
              · exact d4 u q
              · exact q4 u q
            have hmul : us.length = m * i.size := q2
            by_cases hroom : len + m ≤ cap
            · -- in place
              have hfit : len * i.size + us.length ≤ (cur ++ rest).toArray.size := by
                have := Nat.mul_le_mul_right i.size hroom
                rw [Nat.add_mul] at this
                simp; omega
              have hrun := run_append_room (P := P) w t ty e i e1 e2 k len cap (cur ++ rest).toArray d1 ad m cy us q2 q6 q4 hroom hfit
              have hnewl : ((cur ++ rest).toArray.toList.take (len * i.size) ++ us ++ (cur ++ rest).toArray.toList.drop (len * i.size + us.length)) = (cur ++ us) ++ rest.drop us.length := by
                rw [← hcl]
                simp [List.drop_append]
              rw [hnewl] at hrun
              have hnew := setRow_heap w k (cur ++ rest).toArray ((cur ++ us) ++ rest.drop us.length).toArray e (0, 0) d1
              have hlr : us.length ≤ rest.length := by
                simp at hfit; omega
              obtain ⟨m1, m2⟩ := h.world.moveS (k' := k) (n' := n') (blk' := { blk with cells := blk.cells ++ news }) (cur := cur ++ us) (rest := rest.drop us.length) b1 k1 (by rw [c3]; exact hnew) (by simp; omega) (.inl rfl)
                (fun j _ hj => below_setRow_block w k _ j hj) (fun o u hu => by
                  have ho := (h.world.sM b k n' blk k1 b1 o u hu).2
                  have hold := h.world.mem k o u hu
                  rw [cell_of_row w k o _ _ _ d1] at hold
                  rw [cell_of_row _ k o _ _ _ hnew]
                  simp only [List.getElem?_toArray] at hold ⊢
                  rw [d3.length] at ho
                  rw [List.getElem?_append_left ho] at hold
                  rw [List.append_assoc, List.getElem?_append_left ho]
                  exact hold) (by simp [World.setRow]) rfl rfl rfl rfl (by simp; rw [← hnl, hmul]; exact Nat.mul_pos hm0 e7) rfl (d3.append q3) hones (noLps_append (h.world.snl b blk b1) c5)
              refine ⟨_, _, _, run _ _ (by rw [k2, q1]; exact hrun), .inr ⟨_, rfl, ⟨_, _, _, rfl⟩, { blk with cells := blk.cells ++ news }, List.getElem?_set_self (List.getElem?_eq_some_iff.1 b1).1, ?_, fun _ => ⟨k, n', cap, ?_, rfl, ?_, k4, hroom⟩⟩, m2, m1, rfl⟩
              · show 0 + (len + m) * blk.es ≤ (blk.cells ++ news).length
                rw [List.length_append, c1, c2, ← hnl, hmul, Nat.add_mul]; omega
              · exact List.getElem?_set_self (List.getElem?_eq_some_iff.1 k1).1
              · show n' = 0 + cap * blk.es
                rw [c2]; exact k3
            · -- in a new place
              obtain ⟨r, w1, hrun, hown, hgr⟩ := run_append_arg_grows (P := P) (w := w) t ty e i zv i.size i.bytes e1 e2 z2 rfl rfl hzs e7 ⟨k, 0, Option.none⟩ len cap cur hcl (fun j u hj => by
                  rw [add_addr, cell_of_row w k _ _ _ _ d1]
                  simp only [Nat.zero_add, List.getElem?_toArray]
                  rw [List.getElem?_append_left (List.getElem?_eq_some_iff.1 hj).1]
                  exact hj) ad m cy us q2 q6 (by omega) (by simp only [maxLen]; omega) c6
              obtain ⟨g, cap', rest', g1, g2, g3, g4, g5, g6, g7⟩ := own_split hown (by omega)
              have hb := below_of_grown hgr
              obtain ⟨m1, m2⟩ := h.world.moveS (w' := w1) (k' := g) (n' := (cur ++ us).length + rest'.length) (blk' := { blk with cells := blk.cells ++ news }) (cur := cur ++ us) (rest := rest') b1 k1 (by rw [c3]; exact g3) rfl (.inr g2)
                (fun j hj _ => hb.block j hj) (fun o u hu => (hb.cell (p := ⟨k, o, Option.none⟩) (h.world.slt k1)).trans (h.world.mem k o u hu)) hb.size hb.os hb.tape hb.output rfl
                (by simp; rw [← hnl, hmul]; exact Nat.mul_pos hm0 e7) rfl (d3.append q3) hones (noLps_append (h.world.snl b blk b1) c5)
              refine ⟨_, _, w1, run _ _ (by rw [k2, q1]; exact hrun), .inr ⟨r, rfl, ⟨_, _, _, g1⟩, { blk with cells := blk.cells ++ news }, List.getElem?_set_self (List.getElem?_eq_some_iff.1 b1).1, ?_, fun _ => ⟨g, _, cap', List.getElem?_set_self (List.getElem?_eq_some_iff.1 k1).1, g1, ?_, g6, g5⟩⟩, m2, m1, rfl⟩
              · show 0 + (len + m) * blk.es ≤ (blk.cells ++ news).length
                rw [List.length_append, c1, c2, ← hnl, hmul, Nat.add_mul]; omega
              · show (cur ++ us).length + rest'.length = 0 + cap' * blk.es
                rw [c2, g4]; omega
          · cases hap
        · -- nil
          rename_i hpv
          rw [hpv] at hx
          split at hap
          · rename_i hcond
            obtain ⟨c4, c5, c6, c7⟩ := hcond
            cases hap
            have hx' : a.eval x = .slice Option.none 0 0 := hx
            obtain ⟨r, w1, hrun, hown, hgr, _, _⟩ := run_append_own_at (P := P) w w.heap.size t ty e i zv i.size i.bytes e1 e2 z2 rfl rfl hzs e7 _ 0 [] (World.ownsRow_nil w w.heap.size e i.size) ad m cy us q2 q6 q4 (by simp only [maxLen]; omega) (by rw [Nat.zero_add]; exact c6) (Nat.le_refl _)
            have := fresh 0 [] [] r w1 (by rw [hx', q1]; exact hrun) hown hgr trivial (fun _ hu => by simp at hu) rfl c5
            simpa using this
          · cases hap
        · -- data whose capacity is its length
          rename_i es' xs hpv
          rw [hpv] at hx
          split at hap
          · rename_i hcond
            obtain ⟨c0, c4, c5, c6, c7⟩ := hcond
            cases hap
            obtain ⟨A, cap, x1, x2, x3, x4, x5, x6⟩ := hx
            obtain ⟨A', cap', xs', y1, y2, y3, y4, y5⟩ := rowOf_ok (s := s) (es := i.size) h.world (x := .d (.sl true es' xs)) (u := a.eval x) (m := xs.length) (cs := xs.flatten.map V.d) ⟨A, cap, x1, x2, x3, x4, x5, x6⟩ (by simp [rowOf, c0]) rfl
            rw [x1] at y1
            cases y1
            have hcap := x4 rfl
            obtain ⟨r, w1, hrun, hown, hgr⟩ := run_append_arg_grows (P := P) (w := w) t ty e i zv i.size i.bytes e1 e2 z2 rfl rfl hzs e7 A xs.length cap xs' y2 (fun j u hj => by
                have hpos : 0 < xs.length := by
                  rcases Nat.eq_zero_or_pos xs.length with q | q
                  · rw [q] at y2; simp at y2; rw [y2] at hj; simp at hj
                  · exact q
                obtain ⟨ad', f1, f2⟩ := y5 hpos
                cases f1
                exact f2 j u hj) ad m cy us q2 q6 (by omega) (by simp only [maxLen]; omega) c6
            exact fresh xs.length (xs.flatten.map V.d) xs' r w1 (by rw [x1, q1]; exact hrun) hown hgr y3 y4 noLps_d c5
          · cases hap
        · cases hap
  · cases hr
end
end Go.Gm
