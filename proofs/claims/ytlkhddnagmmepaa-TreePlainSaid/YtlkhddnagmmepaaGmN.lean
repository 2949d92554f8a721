/-
  Calls of the ghost machine: of data alone, and such as see the caller's memory.
-/
import Derived.Test.YtlkhddnagmmepaaGmM
namespace Go.Gm
set_option linter.unusedSimpArgs false
set_option linter.unusedVariables false
open Go.RowKit
section
variable {P : Program} {w0 w w' : World} {E0 : List Nat} {M0 : Mem} {C C' : Ctx} {sh : List Blk} {ph : List (List V)}

mutual
theorem VRel.noLp {H : List Blk} (hM : C'.M = C.M) (hk : C'.ks = C.ks) : ∀ (x : V) {u : Value}, noLp x = true → VRel C H x u → VRel C' H x u
  | .d x, _, _, h => by
    have h' : DRel C.M x _ := h
    show DRel C'.M x _
    rw [hM]; exact h'
  | .rs b off len, _, _, ⟨h0, blk, h1, h2, h3⟩ => ⟨h0, blk, h1, h2, fun e => by rw [hk]; exact h3 e⟩
  | .sp b n off, _, _, ⟨h0, blk, h1, h2, h3⟩ => ⟨h0, blk, h1, h2, fun e => by rw [hk]; exact h3 e⟩
  | .agg cs, _, hn, ⟨us, e, h0, h1⟩ => ⟨us, e, h0, VList.noLp hM hk cs hn h1⟩
  | .fn _ first caps, _, hn, ⟨us, ws, e, h1, h2⟩ => by
    simp only [Gm.noLp, Bool.and_eq_true] at hn
    exact ⟨us, ws, e, VList.noLp hM hk first hn.1 h1, VList.noLp hM hk caps hn.2 h2⟩
  | .tup vs, _, hn, ⟨us, e, h1⟩ => ⟨us, e, VList.noLp hM hk vs hn h1⟩
  | .lp _ _, _, hn, _ => by cases hn
  | .none, _, hn, _ => by cases hn
theorem VList.noLp {H : List Blk} (hM : C'.M = C.M) (hk : C'.ks = C.ks) : ∀ (xs : List V) {us : List Value}, noLps xs = true → VList C H xs us → VList C' H xs us
  | [], [], _, _ => trivial
  | x :: r, _ :: _, hn, ⟨h1, h2⟩ => by
    simp only [noLps, Bool.and_eq_true] at hn
    exact ⟨VRel.noLp hM hk x hn.1 h1, VList.noLp hM hk r hn.2 h2⟩
end

/-- The private variables are forgotten. -/
theorem WRel.dropP (h : WRel w0 E0 M0 C ph sh w) : WRel w0 E0 M0 ⟨C.M, [], C.ks⟩ [] sh w where
  mem := h.mem
  plen := rfl
  pcell := fun i cells k e => by simp at e
  slen := h.slen
  scell := fun b blk k n e1 e2 => by
    obtain ⟨cur, rest, q1, q2, q3, q4⟩ := h.scell b blk k n e1 e2
    exact ⟨cur, rest, q1, q2, VList.noLp (C := C) (C' := ⟨C.M, [], C.ks⟩) rfl rfl _ (h.snl b blk e1) q3, q4⟩
  pnl := fun i cells e => by simp at e
  snl := h.snl
  new := h.new
  old := h.old
  pM := fun i k e => by simp at e
  sM := h.sM
  pp := fun i j k e => by simp at e
  ss := h.ss
  ps := fun i b k n e => by simp at e
  pfresh := fun i k e => by simp at e
  sfresh := h.sfresh
  os := h.os
  tape := h.tape
  output := h.output
  size := h.size
  keeps := h.keeps

/-- At the begin of a call among data alone. -/
theorem WRel.entry {M : Mem} (h : ∀ (k o : Nat) (u : Value), M k o = some u → w.cell? ⟨k, o, Option.none⟩ = some u) : WRel w [] M ⟨M, [], []⟩ [] [] w where
  mem := h
  plen := rfl
  pcell := fun i cells k e => by simp at e
  slen := rfl
  scell := fun b blk k n e => by simp at e
  pnl := fun i cells e => by simp at e
  snl := fun i cells e => by simp at e
  new := fun _ _ _ h => .inl h
  old := Mem.le.refl _
  pM := fun i k e => by simp at e
  sM := fun b k n blk e => by simp at e
  pp := fun i j k e => by simp at e
  ss := fun b b' k n n' e => by simp at e
  ps := fun i b k n e => by simp at e
  pfresh := fun i k e => by simp at e
  sfresh := fun b k n e => by simp at e
  os := rfl
  tape := rfl
  output := rfl
  size := Nat.le_refl _
  keeps := fun _ _ _ => rfl

def blocksOf (C : Ctx) : List Nat := C.ks.map (·.1)
theorem mem_blocksOf {C : Ctx} {k : Nat} : k ∈ blocksOf C ↔ ∃ b n : Nat, C.ks[b]? = some (k, n) := by
  unfold blocksOf
  constructor
  · intro h
    obtain ⟨⟨k', n⟩, h1, rfl⟩ := List.mem_map.1 h
    obtain ⟨b, hb⟩ := List.getElem?_of_mem h1
    exact ⟨b, n, hb⟩
  · rintro ⟨b, n, hb⟩
    exact List.mem_map.2 ⟨(k, n), List.mem_of_getElem? hb, rfl⟩

/-- At the begin of a call that sees the caller's memory. -/
theorem WRel.share (h : WRel w0 E0 M0 C ph sh w) : WRel w (blocksOf C) C.M ⟨C.M, [], C.ks⟩ [] sh w where
  mem := h.mem
  plen := rfl
  pcell := fun i cells k e => by simp at e
  slen := h.slen
  scell := fun b blk k n e1 e2 => by
    obtain ⟨cur, rest, q1, q2, q3, q4⟩ := h.scell b blk k n e1 e2
    exact ⟨cur, rest, q1, q2, VList.noLp (C := C) (C' := ⟨C.M, [], C.ks⟩) rfl rfl _ (h.snl b blk e1) q3, q4⟩
  pnl := fun i cells e => by simp at e
  snl := h.snl
  new := fun _ _ _ h => .inl h
  old := Mem.le.refl _
  pM := fun i k e => by simp at e
  sM := h.sM
  pp := fun i j k e => by simp at e
  ss := h.ss
  ps := fun i b k n e => by simp at e
  pfresh := fun i k e => by simp at e
  sfresh := fun b k n e => .inr (mem_blocksOf.2 ⟨b, n, e⟩)
  os := rfl
  tape := rfl
  output := rfl
  size := Nat.le_refl _
  keeps := fun _ _ _ => rfl

/-- Behind such a call. -/
theorem WRel.back {C'' : Ctx} {sh' : List Blk} (h : WRel w0 E0 M0 C ph sh w) (hc : WRel w (blocksOf C) C.M C'' [] sh' w') (hle : CtxLe ⟨C.M, [], C.ks⟩ sh C'' sh') :
    WRel w0 E0 M0 ⟨C''.M, C.kp, C''.ks⟩ ph sh' w' ∧ CtxLe C sh ⟨C''.M, C.kp, C''.ks⟩ sh' := by
  have hle' : CtxLe C sh ⟨C''.M, C.kp, C''.ks⟩ sh' := ⟨hle.mem, fun _ _ e => e, hle.sh⟩
  have hsf : ∀ k : Nat, k ∈ blocksOf C → w0.heap.size ≤ k ∨ k ∈ E0 := fun k hk => by
    obtain ⟨b, n, e⟩ := mem_blocksOf.1 hk
    exact h.sfresh b k n e
  have hkp : ∀ (i k : Nat), C.kp[i]? = some k → k ∉ blocksOf C := fun i k e hk => by
    obtain ⟨b, n, e'⟩ := mem_blocksOf.1 hk
    exact h.ps i b k n e e'
  refine ⟨{ mem := hc.mem, plen := h.plen, pcell := ?_, slen := hc.slen, scell := ?_, pnl := h.pnl, snl := hc.snl, new := ?_, old := h.old.trans hle.mem, pM := ?_, sM := hc.sM, pp := h.pp, ss := hc.ss, ps := ?_, pfresh := h.pfresh, sfresh := ?_, os := hc.os.trans h.os, tape := hc.tape.trans h.tape, output := hc.output.trans h.output, size := Nat.le_trans h.size hc.size, keeps := ?_ }, hle'⟩
  · intro i cells k e1 e2
    obtain ⟨cur, t, q1, q2, q3⟩ := h.pcell i cells k e1 e2
    exact ⟨cur, t, (hc.keeps k (h.plt e2) (hkp i k e2)).trans q1, q2.mono hle', q3⟩
  · intro b blk k n e1 e2
    obtain ⟨cur, rest, q1, q2, q3, q4⟩ := hc.scell b blk k n e1 e2
    exact ⟨cur, rest, q1, q2, VList.noLp (C := C'') (C' := ⟨C''.M, C.kp, C''.ks⟩) rfl rfl _ (hc.snl b blk e1) q3, q4⟩
  · intro k o u e
    rcases hc.new k o u e with q | q | q
    · exact h.new k o u q
    · exact .inr (.inl (Nat.le_trans h.size q))
    · exact .inr (hsf k q)
  · intro i k e o
    cases e' : C''.M k o with
    | none => rfl
    | some u =>
      rcases hc.new k o u e' with q | q | q
      · rw [h.pM i k e o] at q; cases q
      · have := h.plt e; omega
      · exact absurd q (hkp i k e)
  · intro i b k n e1 e2
    rcases hc.sfresh b k n e2 with q | q
    · have := h.plt e1; omega
    · exact hkp i k e1 q
  · intro b k n e
    rcases hc.sfresh b k n e with q | q
    · exact .inl (Nat.le_trans h.size q)
    · exact hsf k q
  · intro k hk hn
    have hnb : k ∉ blocksOf C := fun hm => by
      rcases hsf k hm with q | q
      · omega
      · exact hn q
    exact (hc.keeps k (Nat.lt_of_lt_of_le hk h.size) hnb).trans (h.keeps k hk hn)

/-- Whatever the ghost's calls come to, the model's do. -/
def Sound (P : Program) (call : CallG) : Prop :=
  ∀ (f : FuncId) (args : List V) (sh : List Blk) (v : V) (sh' : List Blk), call f args sh = some (v, sh') → (noLp v = true ∧ ∃ fn, P.funcs[f]? = some fn ∧ (fn.name == "runtime.NumGoroutine") = false ∧ fn.body.isNone = false) ∧
    ∀ (w w0 : World) (E0 : List Nat) (M0 : Mem) (C : Ctx) (us : List Value), C.kp = [] → WRel w0 E0 M0 C [] sh w → w0 = w → VList C sh args us →
      Calls P f us.toArray w fun e w' => ∃ (u : Value) (C' : Ctx), e = .returned u ∧ VRel C' sh' v u ∧ CtxLe C sh C' sh' ∧ WRel w0 E0 M0 C' [] sh' w'

theorem below_of_keeps (h : WRel w [] M0 C ph sh w') : Below w.heap.size w w' := ⟨h.os, h.tape, h.output, h.size, fun k hk => h.keeps k hk (by simp)⟩

theorem pureCall_ok {call : CallG} (hS : Sound P call) {s s' : St} {v : V} {f : FuncId} {args : List V} {us : List Value} (h : WRel w0 E0 M0 C s.ph s.sh w) (hv : VList C s.sh args us)
    (hr : pureCall call s f args = some (v, s')) : Calls P f us.toArray w fun e w' => ∃ (u : Value) (C' : Ctx), e = .returned u ∧ VRel C' s'.sh v u ∧ CtxLe C s.sh C' s'.sh ∧ WRel w0 E0 M0 C' s'.ph s'.sh w' ∧ s'.tmps = s.tmps := by
  unfold pureCall at hr
  split at hr
  · rename_i ds l hd
    split at hr
    · rename_i r sh' hcall
      split at hr
      · rename_i x l' hx
        cases hr
        obtain ⟨M1, f1, f2, f3⟩ := h.freeze l
        have hds : DList M1 ds us := toDs_ok h f2.mem deepest args hd hv f3
        have hent : WRel w [] M1 ⟨M1, [], []⟩ [] [] w := WRel.entry f1.mem
        refine ((hS f _ [] r sh' hcall).2 w w [] M1 ⟨M1, [], []⟩ us rfl hent rfl (VList.of_d hds)).mono ?_
        rintro e w2 ⟨u, C2, rfl, g1, g2, g3⟩
        obtain ⟨M3, p1, p2, p3⟩ := g3.freeze l'
        have hxu : DRel M3 x u := toD_ok g3 p2.mem deepest r hx g1 p3
        have hb := below_of_keeps g3
        have hgr := f1.grown hb
        have hM13 : M1.le M3 := fun k o y hy => p1.old k o y hy
        refine ⟨u, { C with M := M3 }, rfl, hxu, ?_, ?_, rfl⟩
        · exact f2.trans (CtxLe.addM (C := { C with M := M1 }) _ hM13)
        · refine (hgr.moreM (M := M3) hM13 fun k o y hy => ?_)
          rcases p1.new k o y hy with q | q | q
          · exact .inl q
          · exact .inr ⟨p1.mem k o y hy, .inl (Nat.le_trans f1.size q), fun i e => by have := f1.plt e; omega, fun b n blk e => by have := f1.slt e; omega⟩
          · simp at q
      · cases hr
    · cases hr
  · cases hr

theorem dataCall_ok {call : CallG} (hS : Sound P call) {s s' : St} {v : V} {f : FuncId} {args : List V} {us : List Value} (h : WRel w0 E0 M0 C s.ph s.sh w) (hv : VList C s.sh args us)
    (hr : dataCall call s f args = some (v, s')) : Calls P f us.toArray w fun e w' => ∃ (u : Value) (C' : Ctx), e = .returned u ∧ VRel C' s'.sh v u ∧ CtxLe C s.sh C' s'.sh ∧ WRel w0 E0 M0 C' s'.ph s'.sh w' ∧ s'.tmps = s.tmps := by
  unfold dataCall at hr
  split at hr
  · rename_i ds hd
    split at hr
    · rename_i r sh' hcall
      split at hr
      · rename_i x l' hx
        cases hr
        rw [allD_ok hd] at hv
        have hds : DList C.M ds us := dlist_of_v hv
        have hent : WRel w [] C.M ⟨C.M, [], []⟩ [] [] w := WRel.entry h.mem
        refine ((hS f _ [] r sh' hcall).2 w w [] C.M ⟨C.M, [], []⟩ us rfl hent rfl (VList.of_d hds)).mono ?_
        rintro e w2 ⟨u, C2, rfl, g1, g2, g3⟩
        obtain ⟨M3, p1, p2, p3⟩ := g3.freeze l'
        have hxu : DRel M3 x u := toD_ok g3 p2.mem deepest r hx g1 p3
        have hgr := h.grown (below_of_keeps g3)
        have hM13 : C.M.le M3 := fun k o y hy => p1.old k o y hy
        refine ⟨u, { C with M := M3 }, rfl, hxu, CtxLe.addM _ hM13, ?_, rfl⟩
        refine (hgr.moreM (M := M3) hM13 fun k o y hy => ?_)
        rcases p1.new k o y hy with q | q | q
        · exact .inl q
        · exact .inr ⟨p1.mem k o y hy, .inl (Nat.le_trans h.size q), fun i e => by have := h.plt e; omega, fun b n blk e => by have := h.slt e; omega⟩
        · simp at q
      · cases hr
    · cases hr
  · cases hr

theorem sharedCall_ok {call : CallG} (hS : Sound P call) {s s' : St} {v : V} {f : FuncId} {args : List V} {us : List Value} (h : WRel w0 E0 M0 C s.ph s.sh w) (hv : VList C s.sh args us)
    (hr : sharedCall call s f args = some (v, s')) : Calls P f us.toArray w fun e w' => ∃ (u : Value) (C' : Ctx), e = .returned u ∧ VRel C' s'.sh v u ∧ CtxLe C s.sh C' s'.sh ∧ WRel w0 E0 M0 C' s'.ph s'.sh w' ∧ s'.tmps = s.tmps := by
  unfold sharedCall at hr
  split at hr
  · rename_i hn
    split at hr
    · rename_i r sh' hcall
      cases hr
      have hargs : VList ⟨C.M, [], C.ks⟩ s.sh args us := VList.noLp (C := C) (C' := ⟨C.M, [], C.ks⟩) rfl rfl args hn hv
      refine ((hS f args s.sh v sh' hcall).2 w w (blocksOf C) C.M ⟨C.M, [], C.ks⟩ us rfl h.share rfl hargs).mono ?_
      rintro e w2 ⟨u, C2, rfl, g1, g2, g3⟩
      obtain ⟨q1, q2⟩ := h.back g3 g2
      exact ⟨u, ⟨C2.M, C.kp, C2.ks⟩, rfl, VRel.noLp (C := C2) (C' := ⟨C2.M, C.kp, C2.ks⟩) rfl rfl v (hS f args s.sh v sh' hcall).1.1 g1, q2, q1, rfl⟩
    · cases hr
  · cases hr
end
end Go.Gm
