/-
  TreePlain, proved: for every two values that can be read as an int and a tree, however they lie in memory, on every schedule, the law returns true, and both read afterwards as they did.
  Conditions: none beyond the row's own.
-/
import Derived.Test.YtlkhddnagmmepaaRows
import Derived.Test.YtlkhddnagmmepaaTj
import Derived.Test.YtlkhddnagmmepaaTk
import Derived.Test.YtlkhddnagmmepaaGmU
import Derived.ProofKit
import Derived.Deep.Slices
namespace Go.Proofs.Ytlkhddnagmmepaa
open Go.ChangeShapes Go.WideShapes Go.ChangeAt Go.RowKit Go.Gm Go.Proofs.Try
set_option maxHeartbeats 4000000
set_option linter.unusedSimpArgs false
set_option linter.unusedVariables false

theorem own : ownKnob Try.prog.godebug = none := by kernel_rfl
theorem laidOut : laidOutB Try.prog = true := by kernel_rfl
theorem cells3 : Try.prog.cellsOf 22 = 1 := by kernel_rfl
theorem cells4 : Try.prog.cellsOf 4 = 1 := by kernel_rfl
theorem cells23 : Try.prog.cellsOf 23 = 1 := by kernel_rfl
theorem cells25 : Try.prog.cellsOf 25 = 1 := by kernel_rfl
theorem cells26 : Try.prog.cellsOf 26 = 1 := by kernel_rfl
theorem cells27 : Try.prog.cellsOf 27 = 1 := by kernel_rfl
theorem cells29 : Try.prog.cellsOf 29 = 7 := by kernel_rfl

/-- All cells of a world. -/
def allOf (W : World) : Mem := fun k o => W.cell? ⟨k, o, Option.none⟩

theorem spot_none {W : World} {a : Addr} {u : Value} (h : W.cell? a = some u) : a.spot = Option.none := by
  unfold World.cell? at h
  split at h
  · split at h
    · cases h
    · rename_i hs; simpa using hs
  · cases h

section
variable {H : Type} {enc : TypeId × Value → H} {W : World}

/-- A slice of 64-bit numbers that can be read shows such numbers. -/
theorem read_nums {fuel : Nat} {cs : List Value} {x : DataW H × List MemPlace} (h : DataW.trod enc Try.prog W 0 (fun _ => true) true fuel 23 cs = some x) :
    ∃ k l, Fit k l ∧ DList (allOf W) [S k l] cs ∧ Ones cs := by
  rcases open_ints Try.underlying23 Try.underlying26 cells26 h with ⟨rfl, _⟩ | ⟨a, len, cap, zs, rfl, _, hl, hm, hz, _, hc, hw⟩
  · exact ⟨Option.none, [], fit_nil, ⟨rfl, trivial⟩, fun u hu => by simp at hu; subst hu; rfl⟩
  · simp only [if_true] at hz
    have hr : ∀ n ∈ zs, 0 ≤ n ∧ n ≤ 18446744073709551615 := fun n hn => by
      have := hw n hn
      simpa [Lit.wf, IntKind.min, IntKind.max, IntKind.signed, IntKind.bits] using this
    refine ⟨some false, (zs.take len).map Int.toNat, ⟨nofun, fun n hn => ?_⟩, ⟨?_, trivial⟩, fun u hu => by simp at hu; subst hu; rfl⟩
    · obtain ⟨z, hz1, rfl⟩ := List.mem_map.1 hn
      have := hr z (List.mem_of_mem_take hz1)
      omega
    · have hlen : ((zs.take len).map Int.toNat).length = len := by simp; omega
      refine ⟨a, cap, ?_, ?_, hm, nofun, ?_, ?_⟩
      · simp only [List.length_map] at hlen ⊢
        rw [hlen]
      · simp only [List.length_map] at hlen ⊢
        omega
      · intro hne
        have h0 : 0 < zs.length := by
          rcases Nat.eq_zero_or_pos zs.length with h0 | h0
          · exfalso
            apply hne
            have : zs = [] := by simpa using h0
            simp [this]
          · exact h0
        have := spot_none (hc 0 h0)
        simpa [Addr.add] using this
      · -- the cells
        have hspot : ∀ i, i < zs.length → W.cell? ⟨a.block, a.off + i, Option.none⟩ = some (.int .u64 (zs.getD i 0)) := fun i hi => by
          have h1 := hc i hi
          have h2 := hc 0 (by omega)
          have hs : a.spot = Option.none := by simpa [Addr.add] using spot_none h2
          obtain ⟨b, o, s⟩ := a
          simp only at hs
          subst hs
          rwa [add_addr] at h1
        have key : ∀ (n : Nat) (ys : List Int) (i : Nat), zs.drop i = ys → n ≤ ys.length → DRow (allOf W) 1 (((ys.take n).map Int.toNat).map fun m : Nat => [D.int .u64 (m : Int)]) a.block (a.off + i) := by
          intro n
          induction n with
          | zero => intro ys i _ _; simp [DRow]
          | succ n ih =>
            intro ys i hd hn
            cases ys with
            | nil => simp at hn
            | cons y r =>
              have hi : i < zs.length := by
                rcases Nat.lt_or_ge i zs.length with q | q
                · exact q
                · rw [List.drop_eq_nil_of_le q] at hd; cases hd
              have hy : zs.getD i 0 = y := by
                have := List.drop_eq_getElem_cons hi
                rw [hd] at this
                simp only [List.cons.injEq] at this
                simp [hi, this.1]
              have hr' : zs.drop (i + 1) = r := by
                have := List.drop_eq_getElem_cons hi
                rw [hd] at this
                simp only [List.cons.injEq] at this
                exact this.2.symm
              have hy0 := hr y (by rw [← hy]; simp [hi])
              refine ⟨rfl, ⟨⟨_, hspot i hi, rfl, ?_⟩, trivial⟩, ?_⟩
              · show Value.int .u64 (zs.getD i 0) = .int .u64 ((y.toNat : Nat) : Int)
                rw [hy]; congr 1; omega
              · have := ih r (i + 1) hr' (by simpa using hn)
                rwa [← Nat.add_assoc] at this
        have := key len zs 0 rfl (by omega)
        simpa using this

/-- A tree that can be read shows a tree. -/
theorem read_tree : ∀ (fuel : Nat) {cs : List Value} {x : DataW H × List MemPlace}, DataW.trod enc Try.prog W 0 (fun _ => true) true fuel 29 cs = some x →
    ∃ t : Tr, t.Ok ∧ DList (allOf W) t.cells cs ∧ Ones cs := by
  intro fuel
  induction fuel using Nat.strongRecOn with
  | _ fuel ih =>
    intro cs x h
    obtain ⟨xs, n, rfl, _, hlen, hxs, hf⟩ := DataW.trod_struct Try.underlying29 h
    rw [cells29] at hlen
    match cs, hlen with
    | [c0, c1, c2, c3, c4, c5, c6], _ =>
      have f0 : DataW.trod enc Try.prog W 0 (fun _ => true) true n 22 (List.take (Try.prog.cellsOf 22) (List.drop 0 [c0, c1, c2, c3, c4, c5, c6])) = xs[0]? := hf 0 _ rfl
      rw [cells3] at f0
      change DataW.trod enc Try.prog W 0 (fun _ => true) true n 22 [c0] = xs[0]? at f0
      have f1 : DataW.trod enc Try.prog W 0 (fun _ => true) true n 25 (List.take (Try.prog.cellsOf 25) (List.drop 1 [c0, c1, c2, c3, c4, c5, c6])) = xs[1]? := hf 1 _ rfl
      rw [cells25] at f1
      change DataW.trod enc Try.prog W 0 (fun _ => true) true n 25 [c1] = xs[1]? at f1
      have f2 : DataW.trod enc Try.prog W 0 (fun _ => true) true n 26 (List.take (Try.prog.cellsOf 26) (List.drop 2 [c0, c1, c2, c3, c4, c5, c6])) = xs[2]? := hf 2 _ rfl
      rw [cells26] at f2
      change DataW.trod enc Try.prog W 0 (fun _ => true) true n 26 [c2] = xs[2]? at f2
      have f3 : DataW.trod enc Try.prog W 0 (fun _ => true) true n 4 (List.take (Try.prog.cellsOf 4) (List.drop 3 [c0, c1, c2, c3, c4, c5, c6])) = xs[3]? := hf 3 _ rfl
      rw [cells4] at f3
      change DataW.trod enc Try.prog W 0 (fun _ => true) true n 4 [c3] = xs[3]? at f3
      have f4 : DataW.trod enc Try.prog W 0 (fun _ => true) true n 4 (List.take (Try.prog.cellsOf 4) (List.drop 4 [c0, c1, c2, c3, c4, c5, c6])) = xs[4]? := hf 4 _ rfl
      rw [cells4] at f4
      change DataW.trod enc Try.prog W 0 (fun _ => true) true n 4 [c4] = xs[4]? at f4
      have f5 : DataW.trod enc Try.prog W 0 (fun _ => true) true n 26 (List.take (Try.prog.cellsOf 26) (List.drop 5 [c0, c1, c2, c3, c4, c5, c6])) = xs[5]? := hf 5 _ rfl
      rw [cells26] at f5
      change DataW.trod enc Try.prog W 0 (fun _ => true) true n 26 [c5] = xs[5]? at f5
      have f6 : DataW.trod enc Try.prog W 0 (fun _ => true) true n 27 (List.take (Try.prog.cellsOf 27) (List.drop 6 [c0, c1, c2, c3, c4, c5, c6])) = xs[6]? := hf 6 _ rfl
      rw [cells27] at f6
      change DataW.trod enc Try.prog W 0 (fun _ => true) true n 27 [c6] = xs[6]? at f6
      have hx : ∀ i, i < 7 → ∃ y, xs[i]? = some y := fun i hi => ⟨_, List.getElem?_eq_getElem (by rw [hxs]; exact hi)⟩
      obtain ⟨y0, g0⟩ := hx 0 (by decide)
      obtain ⟨y1, g1⟩ := hx 1 (by decide)
      obtain ⟨y2, g2⟩ := hx 2 (by decide)
      obtain ⟨y3, g3⟩ := hx 3 (by decide)
      obtain ⟨y4, g4⟩ := hx 4 (by decide)
      obtain ⟨y5, g5⟩ := hx 5 (by decide)
      obtain ⟨y6, g6⟩ := hx 6 (by decide)
      rw [g0] at f0
      rw [g1] at f1
      rw [g2] at f2
      rw [g3] at f3
      rw [g4] at f4
      rw [g5] at f5
      rw [g6] at f6
      obtain ⟨k, e0, _, w0⟩ := DataW.trod_int Try.underlying22 f0
      obtain ⟨tr, e2, _, w2⟩ := DataW.trod_int Try.underlying26 f2
      obtain ⟨s, e3, _⟩ := DataW.trod_bool Try.underlying4 f3
      obtain ⟨b, e4, _⟩ := DataW.trod_bool Try.underlying4 f4
      obtain ⟨tp, e5, _, w5⟩ := DataW.trod_int Try.underlying26 f5
      obtain ⟨xs1, n1, _, _, _, hxs1, hf1⟩ := DataW.trod_struct Try.underlying25 f1
      have q0 := hf1 0 _ rfl
      obtain ⟨z0, hz0⟩ : ∃ z, xs1[0]? = some z := ⟨_, List.getElem?_eq_getElem (by rw [hxs1]; decide)⟩
      rw [hz0] at q0
      change DataW.trod enc Try.prog W 0 (fun _ => true) true n1 23 (List.take (Try.prog.cellsOf 23) [c1]) = some z0 at q0
      rw [cells23] at q0
      change DataW.trod enc Try.prog W 0 (fun _ => true) true n1 23 [c1] = some z0 at q0
      obtain ⟨kn, l, r1, r2, r3⟩ := read_nums q0
      obtain rfl := (List.cons.inj e0).1
      obtain rfl := (List.cons.inj e2).1
      obtain rfl := (List.cons.inj e3).1
      obtain rfl := (List.cons.inj e4).1
      obtain rfl := (List.cons.inj e5).1
      have hk : -9223372036854775808 ≤ k ∧ k ≤ 9223372036854775807 := by simpa [Lit.wf, IntKind.min, IntKind.max, IntKind.signed, IntKind.bits] using w0
      have htr : 0 ≤ tr ∧ tr ≤ 18446744073709551615 := by simpa [Lit.wf, IntKind.min, IntKind.max, IntKind.signed, IntKind.bits] using w2
      have htp : 0 ≤ tp ∧ tp ≤ 18446744073709551615 := by simpa [Lit.wf, IntKind.min, IntKind.max, IntKind.signed, IntKind.bits] using w5
      -- the parts
      have hparts : ∃ (kp : Option Bool) (ps : List Tr), (kp = Option.none → ps = []) ∧ Oks ps ∧ DRel (allOf W) (Pt kp (cellss ps)) c6 ∧ c6.oneCell' = true := by
        rcases DataW.trod_slice Try.underlying27 f6 with ⟨e6, _⟩ | ⟨a, len, cap, elems, rest, n', hn', e6, _, _, hl, hm, hel, hit, _⟩
        · simp only [List.cons.injEq, and_true] at e6
          subst e6
          exact ⟨Option.none, [], fun _ => rfl, trivial, rfl, rfl⟩
        · simp only [List.cons.injEq, and_true] at e6
          subst e6
          rw [cells29] at hit
          have each : ∀ i, i < len → ∃ (us : List Value) (t : Tr), W.cells? 0 (a.add (i * 7)) 7 = some us ∧ t.Ok ∧ DList (allOf W) t.cells us ∧ Ones us := by
            intro i hi
            have h1 := hit i hi
            rw [List.getElem?_eq_getElem (by omega)] at h1
            cases hc : W.cells? 0 (a.add (i * 7)) 7 with
            | none => rw [hc] at h1; cases h1
            | some us =>
              rw [hc] at h1
              obtain ⟨t, q1, q2, q3⟩ := ih n' (by omega) h1
              exact ⟨us, t, rfl, q1, q2, q3⟩
          have hspot : 0 < len → a.spot = Option.none := fun h0 => by
            obtain ⟨us, t, h1, _⟩ := each 0 h0
            obtain ⟨_, h2, h3⟩ := World.cells?_some h1
            have h4 := h3 0 (by decide)
            rw [List.getElem?_eq_getElem (by omega)] at h4
            simpa [Addr.add] using spot_none h4
          have key : ∀ (m i : Nat), i + m ≤ len → ∃ ps : List Tr, ps.length = m ∧ Oks ps ∧ DRow (allOf W) 7 (cellss ps) a.block (a.off + i * 7) := by
            intro m
            induction m with
            | zero => intro i _; exact ⟨[], rfl, trivial, trivial⟩
            | succ m ihm =>
              intro i hi
              obtain ⟨us, t, h1, h2, h3, h4⟩ := each i (by omega)
              obtain ⟨ps, p1, p2, p3⟩ := ihm (i + 1) (by omega)
              obtain ⟨_, h5, h6⟩ := World.cells?_some h1
              have hs := hspot (by omega)
              refine ⟨t :: ps, by simp [p1], ⟨h2, p2⟩, cells_length t, ?_, ?_⟩
              · refine dcells_of h3 h4 fun j v hj => ?_
                have hj7 : j < 7 := by rw [← h5]; exact (List.getElem?_eq_some_iff.1 hj).1
                have h7 := h6 j hj7
                rw [hj] at h7
                obtain ⟨ab, ao, asp⟩ := a
                simp only at hs
                subst hs
                rw [add_addr, add_addr] at h7
                exact h7
              · rw [Nat.succ_mul] at p3
                rwa [show a.off + i * 7 + 7 = a.off + (i * 7 + 7) from by omega]
          obtain ⟨ps, p1, p2, p3⟩ := key len 0 (by omega)
          refine ⟨some false, ps, nofun, p2, ?_, rfl⟩
          refine ⟨a, cap, ?_, ?_, hm, nofun, ?_, ?_⟩
          · rw [cellss_length, p1]
          · rw [cellss_length, p1]; exact hl
          · intro hne
            apply hspot
            rw [← p1, ← cellss_length]
            rcases Nat.eq_zero_or_pos (cellss ps).length with h0 | h0
            · exact absurd (by simpa using h0) hne
            · exact h0
          · simpa using p3
      obtain ⟨kp, ps, hkp, hok, hrel, h1c⟩ := hparts
      refine ⟨.mk k kn l tr.toNat s b tp.toNat kp ps, ⟨hk, r1, by omega, by omega, hkp, hok⟩, ?_, ?_⟩
      · have etr : ((tr.toNat : Nat) : Int) = tr := by omega
        have etp : ((tp.toNat : Nat) : Int) = tp := by omega
        simp only [Tr.cells, etr, etp]
        exact ⟨rfl, r2.1, rfl, rfl, rfl, rfl, hrel, trivial⟩
      · intro u hu
        simp only [List.mem_cons, List.not_mem_nil, or_false] at hu
        rcases hu with rfl | rfl | rfl | rfl | rfl | rfl | rfl
        · rfl
        · exact r3 _ (by simp)
        · rfl
        · rfl
        · rfl
        · rfl
        · exact h1c
end

theorem toD_bool {sh : List Blk} {n : Nat} {v : V} {b : Bool} {l : List Nat} (h : toD sh n v = some (.bool b, l)) : v = .d (.bool b) := by
  cases n with
  | zero =>
    cases v with
    | d x => rw [toD_d] at h; cases h; rfl
    | _ => simp only [toD] at h; cases h
  | succ n =>
    cases v with
    | d x => rw [toD_d] at h; cases h; rfl
    | rs b off len =>
      simp only [toD] at h
      split at h
      · split at h
        · split at h <;> cases h
        · cases h
      · cases h
    | sp b off len =>
      simp only [toD] at h
      split at h
      · split at h
        · split at h <;> cases h
        · cases h
      · cases h
    | agg cs => simp only [toD] at h; split at h <;> cases h
    | tup cs => simp only [toD] at h; split at h <;> cases h
    | fn f a c => simp only [toD] at h; split at h <;> cases h
    | lp _ _ => simp only [toD] at h; cases h
    | none => simp only [toD] at h; cases h

/-- A call that answers a truth answers it in the model. -/
theorem calls_of_ret {f : FuncId} {args : List D} {b : Bool} (h : Ret table f args (.bool b)) {W : World} {us : List Value} (hu : DList (allOf W) args us) :
    Calls Try.prog f us.toArray W fun e W' => e = .returned (.bool b) ∧ Below W.heap.size W W' := by
  obtain ⟨v, sh, l, h1, h2⟩ := h
  have hv := toD_bool h2
  subst hv
  obtain ⟨_, hs⟩ := lim_sound mixed table_ok _ _ _ _ _ h1
  refine (hs W W [] (allOf W) ⟨allOf W, [], []⟩ us rfl (WRel.entry fun _ _ _ e => e) rfl (VList.of_d hu)).mono fun e W' ⟨u, C', he, hr, _, hw⟩ => ?_
  subst he
  have hr' : u = .bool b := hr
  subst hr'
  exact ⟨rfl, below_of_keeps hw⟩

set_option maxRecDepth 100000 in
theorem lifted (os : Os) (started : os.Started) (H : Type) (enc : TypeId × Value → H) :
    ReturnsInHanded {} Try.checked os 3 .any (Rows.treePlainSpec.pre6 enc Try.prog Try.f3 Rows.treePlainRow.domain false) (Rows.treePlainSpec.post enc Try.prog Try.f3 false true false false) := by
  refine returnsInHanded_of_change (C := Try.checked) own started (by kernel_rfl) Try.func3
    (ChangeSpec.witness6 (enc := enc) (C := Try.checked) false ⟨#[], #[.int .i64 0, .agg #[.int .i64 0, .slice none 0 0, .int .u64 0, .bool false, .bool false, .int .u64 0, .slice none 0 0]], []⟩ 8 (by kernel_rfl) (by kernel_rfl) (by kernel_rfl) (by kernel_rfl)) ?_
  intro W base args ds gs before hval0 hW hcnd _
  have hval : ∀ (j : Nat) t v, Try.f3.params[j]? = some t → args[j]? = some v → Value.okWide Try.prog W .any base t v := hval0
  have hW' := hW
  obtain ⟨p, q, hA0, hV, rfl, hfz, hnd⟩ := hW
  have hA : DataW.TrodAll enc Try.prog W 0 (fun _ => true) true Try.f3.params.toList args.toList ds p := hA0
  rw [Try.params3] at hA hval
  obtain ⟨v0, v1, d0, d1, p0, p1, rfl, rfl, rfl, h0, h1⟩ := trodAll_two hA
  obtain ⟨rfl, rfl⟩ := trodVars_none hV
  have h1k := h1
  obtain ⟨a, rfl, rfl, rfl, wa⟩ := open_int Try.underlying3 (hval 0 3 v0 rfl rfl) h0
  have hagg := hval 1 29 v1 rfl rfl
  unfold Value.okWide at hagg
  rw [Try.underlying29] at hagg
  obtain ⟨cs, rfl, _, _⟩ := hagg
  obtain ⟨fuel, h1⟩ := h1
  obtain ⟨t, ht, hd, hones⟩ := read_tree fuel h1
  have hcs : (Value.agg cs).cells.toList = cs.toList := rfl
  rw [hcs] at hd hones
  have hdl : DList (allOf W) [.int .i64 a, t.d] [.int .i64 a, .agg cs] := ⟨rfl, ⟨cs.toList, by simp, hones, hd⟩, trivial⟩
  have hcall := calls_of_ret (r_law r_works (lim0 := a) ht) hdl
  refine Calls.mono (hcall) fun e W' ⟨he, hb⟩ => ?_
  subst he
  simp only [List.nil_append, List.append_nil] at hW'
  have hlt : ∀ x ∈ p1, x.block < W.heap.size := fun x hx => by simpa using hW'.lt x (by simpa using hx)
  refine ⟨_, rfl, _, _, _, [], [] ++ p1, [], hW', trodAll_mk1 (shut_bool Try.underlying4 _), trodAll_mk2 (shut_int Try.underlying3 wa) (Below.trod laidOut (by kernel_rfl) (of_decide_eq_true (by kernel_rfl)) h1k hb hlt), rfl, hb.frame _, fun h => by cases h⟩

theorem treePlain_holds : Rows.TreePlainSaid :=
  OpenClaim.holds_of_wide 3 Try.f3 rfl rfl rfl rfl rfl rfl rfl ⟨rfl, rfl, rfl, rfl, rfl⟩ rfl rfl rfl rfl rfl (by kernel_rfl) Try.func3 (by kernel_rfl)
    (of_decide_eq_true (by kernel_rfl)) (by unfold Func.isWrapper; first | (rw [if_pos (by decide +kernel)]; kernel_rfl) | (rw [if_neg (by decide +kernel)]; exact ⟨rfl, rfl⟩))
    (fun os started H enc _ => lifted os started H enc)
#print axioms treePlain_holds
end Go.Proofs.Ytlkhddnagmmepaa
