/-
  Each operation of the ghost machine is an operation of the model (5): composites, slices, make, append.
-/
import Derived.Test.YtlkhddnagmmepaaGmJ
import Derived.Great.BuildSlice
namespace Go.Gm
set_option linter.unusedSimpArgs false
set_option linter.unusedVariables false
open Go.RowKit
section
variable {P : Program} {w0 w w' : World} {E0 : List Nat} {M0 : Mem} {C : Ctx} {s s' : St} {a : Act} {v : V} {call : CallG}
variable {dst : Option Tmp} {ty : TypeId} {pos : String} {after : Array Edge} {gd : Option (Nat × Bool)}

/-! ### filling -/
theorem setAll_list (off : Nat) : ∀ (us : List Value) (j : Nat) (cs : Array Value), off + j + us.length ≤ cs.size →
    ((us.zipIdx j).foldl (fun (cs : Array Value) (x : Value × Nat) => cs.setIfInBounds (off + x.2) x.1) cs).toList = cs.toList.take (off + j) ++ us ++ cs.toList.drop (off + j + us.length)
  | [], j, cs, _ => by simp
  | u :: r, j, cs, h => by
    simp only [List.length_cons] at h
    simp only [List.zipIdx_cons, List.foldl_cons]
    rw [setAll_list off r (j + 1) _ (by simp; omega)]
    have hl : off + j < cs.toList.length := by simp; omega
    rw [Array.toList_setIfInBounds]
    have h1 : (cs.toList.set (off + j) u).take (off + (j + 1)) = cs.toList.take (off + j) ++ [u] := by
      rw [show off + (j + 1) = off + j + 1 from by omega, List.take_add_one, List.getElem?_set_self hl, List.take_set_of_le (Nat.le_refl _)]
      rfl
    have h2 : (cs.toList.set (off + j) u).drop (off + (j + 1) + r.length) = cs.toList.drop (off + j + (r.length + 1)) := by
      rw [List.drop_set_of_lt (by omega), show off + (j + 1) + r.length = off + j + (r.length + 1) from by omega]
    rw [h1, h2]
    simp

theorem setAll_ok (off : Nat) (us : Array Value) (cs : Array Value) (h : off + us.size ≤ cs.size) :
    us.zipIdx.foldl (fun (cs : Array Value) (x : Value × Nat) => cs.setIfInBounds (off + x.2) x.1) cs = (cs.toList.take off ++ us.toList ++ cs.toList.drop (off + us.size)).toArray := by
  rw [← Array.foldl_toList]
  have h1 : us.zipIdx.toList = us.toList.zipIdx 0 := by simp
  rw [h1]
  have := setAll_list off us.toList 0 cs (by simpa using h)
  simp only [Nat.add_zero, Array.length_toList] at this
  rw [← this]

/-- The parts, as the model has them, against the ghost's. -/
def PRel (C : Ctx) (sh : List Blk) (place : Nat → Option (Nat × Nat)) : List (Nat × Value) → List (Nat × Nat × V) → Prop
  | [], [] => True
  | p :: ps, g :: gs => (place p.1 = some (g.1, g.2.1) ∧ VRel C sh g.2.2 p.2) ∧ PRel C sh place ps gs
  | _, _ => False

theorem fill_ok (place : Nat → Option (Nat × Nat)) : ∀ (ps : List (Nat × Value)) (gs : List (Nat × Nat × V)) {cells : List V} {cur : List Value} {out : List V},
    PRel C s.sh place ps gs → VList C s.sh cells cur → Ones cur → fillG cells gs = some out →
    ∃ res : List Value, Instr.fill place cur.toArray ps = some res.toArray ∧ VList C s.sh out res ∧ Ones res
  | [], [], cells, cur, out, _, hv, h1, h => by cases h; exact ⟨cur, rfl, hv, h1⟩
  | (i, u) :: ps, (off, n, x) :: gs, cells, cur, out, hp, hv, h1, h => by
    · obtain ⟨⟨q1, q2⟩, hr⟩ := hp
      simp only [fillG] at h
      split at h
      · rename_i xs hx
        split at h
        · rename_i hc
          obtain ⟨c1, c2⟩ := hc
          obtain ⟨us, p1, p2, p3⟩ := cells_ok hx q2
          have hlen := p2.length
          have hcl := hv.length
          have hv' := hv.splice off p2
          have h1' := ones_splice (n := off + us.length) h1 off p3
          obtain ⟨res, g1, g2⟩ := fill_ok place ps gs hr hv' h1' h
          refine ⟨res, ?_, g2⟩
          simp only [Instr.fill, q1]
          have hsz : u.cells.size = n := by rw [p1]; simp; omega
          rw [if_neg (by rw [hsz]; simp; omega)]
          have := setAll_ok off u.cells cur.toArray (by rw [hsz]; simp; omega)
          rw [this, p1]
          simp only [List.size_toArray]
          exact g1
        · cases h
      · cases h
  | [], _ :: _, _, _, _, hp, _, _, _ => hp.elim
  | _ :: _, [], _, _, _, hp, _, _, _ => hp.elim

theorem parts_ok (ht : TRel C s.sh s.tmps a) {fs : Array Field} {places : List (Nat × Nat)} (hpl : fs.toList.mapM (fun f => (P.info? f.type).map fun i => (f.offset, i.size)) = some places) :
    ∀ (ps : List (Nat × Operand)) {gs : List (Nat × Nat × Opd)}, trParts P fs ps = some gs →
      PRel C s.sh (fun i => (places.toArray[i]? : Option (Nat × Nat))) (ps.map fun (i, x) => (i, a.eval x)) (gs.map fun (off, n, x) => (off, n, x.ev s))
  | [], gs, h => by cases h; exact trivial
  | (i, x) :: r, gs, h => by
    simp only [trParts] at h
    split at h
    · rename_i f hf
      split at h
      · rename_i n y t h1 h2 h3
        cases h
        refine ⟨⟨?_, eval_ok h2 ht⟩, parts_ok ht hpl r h3⟩
        have key : ∀ (l : List Field) (pl : List (Nat × Nat)), l.mapM (fun f => (P.info? f.type).map fun i => (f.offset, i.size)) = some pl → ∀ (i : Nat) (f : Field), l[i]? = some f → ∀ n, szOf P f.type = some n → pl[i]? = some (f.offset, n) := by
          intro l
          induction l with
          | nil => intro pl _ i f hf; simp at hf
          | cons g l ih =>
            intro pl hpl i f hf n hn
            simp only [List.mapM_cons, Option.bind_eq_bind, Option.pure_def] at hpl
            cases hi : P.info? g.type with
            | none => simp [hi] at hpl
            | some ig =>
              cases hr : l.mapM (fun f => (P.info? f.type).map fun i => (f.offset, i.size)) with
              | none => simp [hi, hr] at hpl
              | some rest =>
                simp [hi, hr] at hpl
                subst hpl
                cases i with
                | zero =>
                  simp at hf
                  subst hf
                  simp [szOf, hi] at hn
                  simp [hn]
                | succ i => simpa using ih rest hr i f (by simpa using hf) n hn
        have := key fs.toList places hpl i f (by simpa using hf) n h1
        simpa using this
      · cases h
    · cases h

theorem places_some (P : Program) : ∀ (fs : List Field), allSizes P fs = true → ∃ pl, fs.mapM (fun f => (P.info? f.type).map fun i => (f.offset, i.size)) = some pl
  | [], _ => ⟨[], rfl⟩
  | f :: r, h => by
    simp only [allSizes, Bool.and_eq_true] at h
    obtain ⟨pl, hp⟩ := places_some P r h.2
    obtain ⟨i, hi⟩ := Option.isSome_iff_exists.1 h.1
    exact ⟨(f.offset, i.size) :: pl, by simp [List.mapM_cons, hi, hp]⟩

theorem bu_ok (h : SRel w0 E0 M0 C s a w) {t : TypeId} {parts : Array (Nat × Operand)} {fs : Array Field} {z : List D} {gs : List (Nat × Nat × Opd)} (e1 : fieldsOf? P t = some fs) (e2 : zeroOf P t = some z)
    (e3 : allSizes P fs.toList = true) (e4 : trParts P fs parts.toList = some gs) (hr : run1 call s (.bu z gs) = some (v, s')) : Runs P w0 E0 M0 C s s' v w (execOp a.eval ⟨dst, .build t parts, ty, pos, after, gd⟩) := by
  have hu : P.underlying t = some (.struct fs) := by
    unfold fieldsOf? at e1
    split at e1
    · cases e1; assumption
    · cases e1
  simp only [run1] at hr
  split at hr
  · rename_i cs hf
    cases hmk : mkV true cs with
    | none => rw [hmk] at hr; cases hr
    | some v' =>
      rw [hmk] at hr
      simp only [Option.map_some, Option.some.injEq, Prod.mk.injEq] at hr
      obtain ⟨rfl, rfl⟩ := hr
      obtain ⟨pl, hpl⟩ := places_some P fs.toList e3
      obtain ⟨it, zv, g1, g2, g3, g4⟩ := zero_ok (M := C.M) e2
      obtain ⟨res, q1, q2, q3⟩ := fill_ok (fun i => (pl.toArray[i]? : Option (Nat × Nat))) _ _ (parts_ok h.tmps hpl parts.toList e4) (VList.of_d g3) g4 hf
      have hb : P.built t ((parts.map fun (i, x) => (i, a.eval x)).toList) = some res.toArray := by
        unfold Program.built
        simp only [g1, hu, g2, hpl]
        simpa using q1
      refine Runs.pure h.world (x := .agg res.toArray) ?_ (mkV_agg hmk q2 q3)
      have := run_build (P := P) w t (parts.map fun (i, x) => (i, a.eval x)) res.toArray hb
      simp [execOp, this]
  · cases hr

theorem elems_ok (ht : TRel C s.sh s.tmps a) {es : Nat} : ∀ (ps : List (Nat × Operand)) {gs : List (Nat × Opd)}, trElems ps = some gs →
      PRel C s.sh (fun i => some (i * es, es)) (ps.map fun (i, x) => (i, a.eval x)) (gs.map fun (i, x) => (i * es, es, x.ev s))
  | [], gs, h => by cases h; exact trivial
  | (i, x) :: r, gs, h => by
    simp only [trElems] at h
    split at h
    · rename_i y t h1 h2
      cases h
      exact ⟨⟨rfl, eval_ok h1 ht⟩, elems_ok ht r h2⟩
    · cases h

/-- An array, out of its elements. -/
theorem bua_ok (h : SRel w0 E0 M0 C s a w) {t e : TypeId} {len : Nat} {parts : Array (Nat × Operand)} {z : List D} {es : Nat} {ps : List (Nat × Opd)} (hu : P.underlying t = some (.array len e)) (e2 : zeroOf P t = some z)
    (e3 : szOf P e = some es) (e4 : trElems parts.toList = some ps) (hr : run1 call s (.bu z (ps.map fun (i, x) => (i * es, es, x))) = some (v, s')) : Runs P w0 E0 M0 C s s' v w (execOp a.eval ⟨dst, .build t parts, ty, pos, after, gd⟩) := by
  simp only [run1] at hr
  split at hr
  · rename_i cs hf
    cases hmk : mkV true cs with
    | none => rw [hmk] at hr; cases hr
    | some v' =>
      rw [hmk] at hr
      simp only [Option.map_some, Option.some.injEq, Prod.mk.injEq] at hr
      obtain ⟨rfl, rfl⟩ := hr
      obtain ⟨it, zv, g1, g2, g3, g4⟩ := zero_ok (M := C.M) e2
      have hie : ∃ ie, P.info? e = some ie ∧ ie.size = es := by
        unfold szOf at e3
        cases hi : P.info? e with
        | none => rw [hi] at e3; cases e3
        | some ie => rw [hi] at e3; cases e3; exact ⟨ie, rfl, rfl⟩
      obtain ⟨ie, i1, i2⟩ := hie
      have hf' : fillG (z.map V.d) (ps.map fun (i, x) => (i * es, es, x.ev s)) = some cs := by
        rw [List.map_map] at hf
        exact hf
      obtain ⟨res, q1, q2, q3⟩ := fill_ok (fun i => some (i * es, es)) _ _ (elems_ok h.tmps parts.toList e4) (VList.of_d g3) g4 hf'
      have hb : P.built t ((parts.map fun (i, x) => (i, a.eval x)).toList) = some res.toArray := by
        unfold Program.built
        simp only [g1, hu, g2, i1, i2]
        simpa using q1
      refine Runs.pure h.world (x := .agg res.toArray) ?_ (mkV_agg hmk q2 q3)
      have := run_build (P := P) w t (parts.map fun (i, x) => (i, a.eval x)) res.toArray hb
      simp [execOp, this]
  · cases hr

theorem made_flat (z : Array Value) (hz : 0 < z.size) : ∀ n : Nat, (Array.range (n * z.size)).map (fun i => z[i % z.size]!) = ((List.replicate n z.toList).flatten).toArray
  | 0 => by simp
  | n + 1 => by
    have ih := made_flat z hz n
    apply Array.ext'
    have ih' : (List.range (n * z.size)).map (fun i => z[i % z.size]!) = (List.replicate n z.toList).flatten := by
      have := congrArg Array.toList ih
      simpa using this
    simp only [Array.toList_map, Array.toList_range]
    rw [Nat.succ_mul, List.range_add, List.map_append, ih', List.replicate_succ', List.flatten_append]
    congr 1
    simp only [List.flatten_cons, List.flatten_nil, List.append_nil, List.map_map]
    apply List.ext_getElem
    · simp
    · intro i h1 h2
      simp at h1
      simp only [List.getElem_map, List.getElem_range, Function.comp]
      rw [show (n * z.size + i) % z.size = i from by rw [Nat.mul_comm, Nat.mul_add_mod]; exact Nat.mod_eq_of_lt h1]
      simp [h1]

theorem vlist_rep {z : List V} {us : List Value} (h : VList C s.sh z us) : ∀ n : Nat, VList C s.sh (List.replicate n z).flatten (List.replicate n us).flatten
  | 0 => trivial
  | n + 1 => by simp only [List.replicate_succ, List.flatten_cons]; exact h.append (vlist_rep h n)
theorem ones_rep {us : List Value} (h : Ones us) (n : Nat) : Ones (List.replicate n us).flatten := by
  intro u hu
  simp only [List.mem_flatten, List.mem_replicate] at hu
  obtain ⟨l, ⟨_, rfl⟩, hu⟩ := hu
  exact h u hu

theorem bl_ok (h : SRel w0 E0 M0 C s a w) {t e : TypeId} {len es : Nat} {parts : Array (Nat × Operand)} {z : List D} {gs : List (Nat × Opd)} (e1 : P.underlying t = some (.slice e)) (e2 : zeroOf P e = some z) (e0 : szOf P e = some es)
    (e3 : z.length = es) (e5 : len * es ≤ 16777216) (e6 : 0 < es) (e4 : trElems parts.toList = some gs) (hr : run1 call s (.bl es len z gs) = some (v, s')) : Runs P w0 E0 M0 C s s' v w (execOp a.eval ⟨dst, .buildSlice t len parts, ty, pos, after, gd⟩) := by
  simp only [run1] at hr
  split at hr
  · rename_i cs hf
    split at hr
    · rename_i ds hd
      simp only [Option.some.injEq, Prod.mk.injEq] at hr
      obtain ⟨rfl, rfl⟩ := hr
      obtain ⟨ie, zv, g1, g2, g3, g4⟩ := zero_ok (M := C.M) e2
      have hes : ie.size = es := by simpa [szOf, g1] using e0
      have hzs : zv.cells.size = es := by rw [← e3, g3.length]; simp
      obtain ⟨res, q1, q2, q3⟩ := fill_ok (fun i => some (i * es, es)) _ _ (elems_ok h.tmps parts.toList e4) (vlist_rep (VList.of_d g3) len) (ones_rep g4 len) hf
      rw [allD_ok hd] at q2
      have hd2 := dlist_of_v q2
      have hrun : (Instr.buildSlice t len (parts.map fun (i, x) => (i, a.eval x))).run P w = .ok (.slice (some ⟨w.heap.size, 0, Option.none⟩) len len) (w.alloc (.cells res.toArray e)) := by
        have hfill : Instr.fill (fun i => some (i * ie.size, ie.size)) ((Array.range (len * ie.size)).map (zv.cells[· % zv.cells.size]!)) ((parts.map fun (i, x) => (i, a.eval x)).toList) = some res.toArray := by
          rw [hes]
          have := made_flat zv.cells (by omega) len
          rw [hzs] at this
          rw [hzs, this]
          simpa using q1
        by_cases hl : len * ie.size = 0
        · simp only [hl, Array.range_zero', Array.map_empty, Array.toList_map] at hfill
          simp [Instr.buildSlice, run_underlying e1, sizeOf, typeInfo, g1, hl, newRow, hfill, Array.range_zero']
        · exact run_buildSlice w t e len _ _ ie zv e1 g1 g2 (by rw [hes]; omega) hl hfill
      have hlen : ds.length = len * es := by
        have hl1 : ∀ (gs : List (Nat × Nat × V)) (cells out : List V), fillG cells gs = some out → out.length = cells.length := by
          intro gs
          induction gs with
          | nil => intro cells out h; cases h; rfl
          | cons g r ih =>
            intro cells out h
            obtain ⟨off, n, x⟩ := g
            simp only [fillG] at h
            split at h
            · split at h
              · rename_i xs _ hc
                rw [ih _ _ h, splice_length (by omega)]
              · cases h
            · cases h
        have := hl1 _ _ _ hf
        rw [allD_ok hd] at this
        simp at this
        rw [this, e3]
      refine ⟨{ C with M := C.M.add w.heap.size res }, _, _, (by simp only [execOp, Sem.run_bind]; rw [hrun]; rfl), .inr ⟨_, rfl, ?_⟩, CtxLe.addM s.sh (Mem.le.add res h.world.newM), h.world.lit res e, rfl⟩
      refine ⟨⟨w.heap.size, 0, Option.none⟩, len, by rw [chunk_length], by rw [chunk_length]; exact Nat.le_refl _, ?_, fun _ => by rw [chunk_length], fun _ => rfl, ?_⟩
      · have : len ≤ len * es := Nat.le_mul_of_pos_right len e6
        simp only [maxLen]; omega
      · refine drow_chunk len hlen (dcells_of (DList.mono (Mem.le.add res h.world.newM) ds hd2) q3 fun i u hi => ?_)
        show (if w.heap.size = w.heap.size then res[0 + i]? else C.M w.heap.size (0 + i)) = some u
        rw [if_pos rfl, Nat.zero_add]; exact hi
    · cases hr
  · cases hr
end
end Go.Gm
