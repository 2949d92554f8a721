/-
  Ghost machine values V (pure data, or references into the ghost's own memory), ghost states, and how they show in the model's world.
-/
import Derived.Test.YtlkhddnagmmepaaGmA
namespace Go.Gm
set_option linter.unusedSimpArgs false
set_option linter.unusedVariables false
open Go.RowKit

inductive V where
  | d (x : D)
  | rs (b off len : Nat)
  | lp (i off : Nat)
  | sp (b n off : Nat)
  | agg (cs : List V)
  | fn (f : Fn) (first caps : List V)
  | tup (vs : List V)
  | none
  deriving Inhabited

/-- A block that others may hold, too: its cells so far, how many a slice's element has, of which type, and whether it is written no more. -/
structure Blk where
  cells : List V
  es : Nat
  ety : TypeId
  frozen : Bool

structure St where
  tmps : List V
  ph : List (List V)
  sh : List Blk

structure Ctx where
  M : Mem
  kp : List Nat
  ks : List (Nat × Nat)

mutual
def VRel (C : Ctx) (H : List Blk) : V → Value → Prop
  | .d x, u => DRel C.M x u
  | .rs b off len, u => (∃ A l c, u = .slice A l c) ∧ ∃ blk, H[b]? = some blk ∧ off + len * blk.es ≤ blk.cells.length ∧ (blk.cells.length = off + len * blk.es →
      ∃ k n cap, C.ks[b]? = some (k, n) ∧ u = .slice (some ⟨k, off, Option.none⟩) len cap ∧ n = off + cap * blk.es ∧ cap ≤ maxLen ∧ len ≤ cap)
  | .lp i off, u => ∃ k, C.kp[i]? = some k ∧ u = .pointer (some ⟨k, off, Option.none⟩)
  | .sp b n off, u => (∃ A, u = .pointer (some A)) ∧ ∃ blk, H[b]? = some blk ∧ n ≤ blk.cells.length ∧ (blk.cells.length = n → ∃ k m, C.ks[b]? = some (k, m) ∧ u = .pointer (some ⟨k, off, Option.none⟩))
  | .agg cs, u => ∃ us : List Value, u = .agg us.toArray ∧ Ones us ∧ VList C H cs us
  | .fn f first caps, u => ∃ us ws : List Value, u = .func f us.toArray ws.toArray ∧ VList C H first us ∧ VList C H caps ws
  | .tup vs, u => ∃ us : List Value, u = .tuple us.toArray ∧ VList C H vs us
  | .none, _ => True
def VList (C : Ctx) (H : List Blk) : List V → List Value → Prop
  | [], [] => True
  | x :: r, u :: s => VRel C H x u ∧ VList C H r s
  | _, _ => False
end

/-- What was so in one context is so in another one. -/
structure CtxLe (C : Ctx) (H : List Blk) (C' : Ctx) (H' : List Blk) : Prop where
  mem : C.M.le C'.M
  kp : ∀ i k : Nat, C.kp[i]? = some k → C'.kp[i]? = some k
  sh : ∀ (b : Nat) (blk : Blk), H[b]? = some blk → ∃ blk' : Blk, H'[b]? = some blk' ∧ blk'.es = blk.es ∧
    ((blk'.cells.length = blk.cells.length ∧ C'.ks[b]? = C.ks[b]?) ∨ blk.cells.length < blk'.cells.length)

theorem CtxLe.refl (C : Ctx) (H : List Blk) : CtxLe C H C H := ⟨Mem.le.refl _, fun _ _ h => h, fun _ blk h => ⟨blk, h, rfl, .inl ⟨rfl, rfl⟩⟩⟩
theorem CtxLe.trans {C C' C'' : Ctx} {H H' H'' : List Blk} (h : CtxLe C H C' H') (h' : CtxLe C' H' C'' H'') : CtxLe C H C'' H'' := by
  refine ⟨h.mem.trans h'.mem, fun i k e => h'.kp i k (h.kp i k e), fun b blk e => ?_⟩
  obtain ⟨blk', e', q1, q2⟩ := h.sh b blk e
  obtain ⟨blk'', e'', q3, q4⟩ := h'.sh b blk' e'
  refine ⟨blk'', e'', q3.trans q1, ?_⟩
  rcases q2 with ⟨q2, q5⟩ | q2 <;> rcases q4 with ⟨q4, q6⟩ | q4
  · exact .inl ⟨q4.trans q2, q6.trans q5⟩
  · exact .inr (by omega)
  · exact .inr (by omega)
  · exact .inr (by omega)

section
variable {C C' : Ctx} {H H' : List Blk}
mutual
theorem VRel.mono (h : CtxLe C H C' H') : ∀ (x : V) {u : Value}, VRel C H x u → VRel C' H' x u
  | .d x, _, e => DRel.mono h.mem x e
  | .rs b off len, _, ⟨e0, blk, e1, e2, e3⟩ => by
    obtain ⟨blk', q1, q2, q3⟩ := h.sh b blk e1
    refine ⟨e0, blk', q1, ?_, fun hl => ?_⟩
    · rw [q2]; rcases q3 with ⟨q3, _⟩ | q3 <;> omega
    · rw [q2] at hl
      rcases q3 with ⟨q3, q4⟩ | q3
      · obtain ⟨k, n, cap, g1, g2⟩ := e3 (by omega)
        exact ⟨k, n, cap, q4.trans g1, by rw [q2]; exact g2⟩
      · omega
  | .lp i off, _, ⟨k, e1, e2⟩ => ⟨k, h.kp i k e1, e2⟩
  | .sp b n off, _, ⟨e0, blk, e1, e2, e3⟩ => by
    obtain ⟨blk', q1, q2, q3⟩ := h.sh b blk e1
    refine ⟨e0, blk', q1, ?_, fun hl => ?_⟩
    · rcases q3 with ⟨q3, _⟩ | q3 <;> omega
    · rcases q3 with ⟨q3, q4⟩ | q3
      · obtain ⟨k, m, g1, g2⟩ := e3 (by omega)
        exact ⟨k, m, q4.trans g1, g2⟩
      · omega
  | .agg cs, _, ⟨us, e, h0, h1⟩ => ⟨us, e, h0, VList.mono h cs h1⟩
  | .fn _ first caps, _, ⟨us, ws, e, h1, h2⟩ => ⟨us, ws, e, VList.mono h first h1, VList.mono h caps h2⟩
  | .tup vs, _, ⟨us, e, h1⟩ => ⟨us, e, VList.mono h vs h1⟩
  | .none, _, _ => trivial
theorem VList.mono (h : CtxLe C H C' H') : ∀ (xs : List V) {us : List Value}, VList C H xs us → VList C' H' xs us
  | [], [], _ => trivial
  | x :: r, _ :: _, ⟨h1, h2⟩ => ⟨VRel.mono h x h1, VList.mono h r h2⟩
end
theorem VList.length : ∀ {xs : List V} {us : List Value}, VList C H xs us → xs.length = us.length
  | [], [], _ => rfl
  | _ :: _, _ :: _, ⟨_, h⟩ => by simp [VList.length h]
theorem VList.at_ : ∀ {xs : List V} {us : List Value}, VList C H xs us → ∀ {i : Nat} {x : V}, xs[i]? = some x → ∃ u, us[i]? = some u ∧ VRel C H x u
  | x :: r, u :: s, ⟨h1, h2⟩, 0, y, e => ⟨u, rfl, by simp at e; exact e ▸ h1⟩
  | _ :: r, _ :: s, ⟨_, h2⟩, i + 1, y, e => by
    obtain ⟨u, h3, h4⟩ := VList.at_ h2 (i := i) (x := y) (by simpa using e)
    exact ⟨u, by simpa using h3, h4⟩
theorem VList.append : ∀ {xs ys : List V} {us vs : List Value}, VList C H xs us → VList C H ys vs → VList C H (xs ++ ys) (us ++ vs)
  | [], _, [], _, _, h => h
  | _ :: _, _, _ :: _, _, ⟨h1, h2⟩, h => ⟨h1, VList.append h2 h⟩
theorem VList.set_ : ∀ {xs : List V} {us : List Value}, VList C H xs us → ∀ (i : Nat) {x : V} {u : Value}, VRel C H x u → VList C H (xs.set i x) (us.set i u)
  | [], [], _, _, _, _, _ => trivial
  | _ :: _, _ :: _, ⟨_, h2⟩, 0, _, _, h => ⟨h, h2⟩
  | _ :: _, _ :: _, ⟨h1, h2⟩, i + 1, _, _, h => ⟨h1, VList.set_ h2 i h⟩
theorem VList.drop : ∀ {xs : List V} {us : List Value}, VList C H xs us → ∀ (n : Nat), VList C H (xs.drop n) (us.drop n)
  | xs, us, h, 0 => by simpa using h
  | [], [], _, n + 1 => by simp [VList]
  | _ :: _, _ :: _, ⟨_, h2⟩, n + 1 => by simpa using VList.drop h2 n
theorem VList.take : ∀ {xs : List V} {us : List Value}, VList C H xs us → ∀ (n : Nat), VList C H (xs.take n) (us.take n)
  | _, _, _, 0 => by simp [VList]
  | [], [], _, n + 1 => by simp [VList]
  | _ :: _, _ :: _, ⟨h1, h2⟩, n + 1 => by simp only [List.take_succ_cons]; exact ⟨h1, VList.take h2 n⟩
theorem VList.of_d : ∀ {xs : List D} {us : List Value}, DList C.M xs us → VList C H (xs.map V.d) us
  | [], [], _ => trivial
  | _ :: _, _ :: _, ⟨h1, h2⟩ => ⟨h1, VList.of_d h2⟩
end

mutual
/-- No pointer to a private variable is in it. -/
def noLp : V → Bool
  | .d _ => true
  | .rs _ _ _ => true
  | .lp _ _ => false
  | .sp _ _ _ => true
  | .agg cs => noLps cs
  | .fn _ first caps => noLps first && noLps caps
  | .tup vs => noLps vs
  | .none => false
def noLps : List V → Bool
  | [] => true
  | x :: r => noLp x && noLps r
end

/-- The ghost's memory shows in the world w; of what the world w0 had, all but the blocks E0 is as it was. -/
structure WRel (w0 : World) (E0 : List Nat) (M0 : Mem) (C : Ctx) (ph : List (List V)) (sh : List Blk) (w : World) : Prop where
  mem : ∀ (k o : Nat) (u : Value), C.M k o = some u → w.cell? ⟨k, o, Option.none⟩ = some u
  plen : ph.length = C.kp.length
  pcell : ∀ (i : Nat) (cells : List V) (k : Nat), ph[i]? = some cells → C.kp[i]? = some k → ∃ (cur : List Value) (t : TypeId), w.heap[k]? = some (Obj.cells cur.toArray t (0, 0)) ∧ VList C sh cells cur ∧ Ones cur
  slen : sh.length = C.ks.length
  scell : ∀ (b : Nat) (blk : Blk) (k n : Nat), sh[b]? = some blk → C.ks[b]? = some (k, n) → ∃ cur rest : List Value, w.heap[k]? = some (Obj.cells (cur ++ rest).toArray blk.ety (0, 0)) ∧ cur.length + rest.length = n ∧ VList C sh blk.cells cur ∧ Ones cur
  pnl : ∀ (i : Nat) (cells : List V), ph[i]? = some cells → noLps cells = true
  snl : ∀ (b : Nat) (blk : Blk), sh[b]? = some blk → noLps blk.cells = true
  new : ∀ (k o : Nat) (u : Value), C.M k o = some u → M0 k o = some u ∨ w0.heap.size ≤ k ∨ k ∈ E0
  old : M0.le C.M
  pM : ∀ i k : Nat, C.kp[i]? = some k → ∀ o : Nat, C.M k o = Option.none
  sM : ∀ (b k n : Nat) (blk : Blk), C.ks[b]? = some (k, n) → sh[b]? = some blk → ∀ (o : Nat) (u : Value), C.M k o = some u → blk.frozen = true ∧ o < blk.cells.length
  pp : ∀ i j k : Nat, C.kp[i]? = some k → C.kp[j]? = some k → i = j
  ss : ∀ b b' k n n' : Nat, C.ks[b]? = some (k, n) → C.ks[b']? = some (k, n') → b = b'
  ps : ∀ i b k n : Nat, C.kp[i]? = some k → C.ks[b]? ≠ some (k, n)
  pfresh : ∀ i k : Nat, C.kp[i]? = some k → w0.heap.size ≤ k
  sfresh : ∀ b k n : Nat, C.ks[b]? = some (k, n) → w0.heap.size ≤ k ∨ k ∈ E0
  os : w.os = w0.os
  tape : w.tape = w0.tape
  output : w.output = w0.output
  size : w0.heap.size ≤ w.heap.size
  keeps : ∀ k : Nat, k < w0.heap.size → k ∉ E0 → w.heap[k]? = w0.heap[k]?

def TRel (C : Ctx) (sh : List Blk) (tmps : List V) (a : Act) : Prop := a.defers = [] ∧ VList C sh tmps a.tmps.toList

structure SRel (w0 : World) (E0 : List Nat) (M0 : Mem) (C : Ctx) (st : St) (a : Act) (w : World) : Prop where
  world : WRel w0 E0 M0 C st.ph st.sh w
  tmps : TRel C st.sh st.tmps a

theorem lt_of_block {w : World} {k : Nat} {o : Obj} (h : w.heap[k]? = some o) : k < w.heap.size := (Array.getElem?_eq_some_iff.1 h).1

section
variable {w0 w : World} {E0 : List Nat} {M0 : Mem} {C : Ctx} {ph : List (List V)} {sh : List Blk}
theorem WRel.mlt (h : WRel w0 E0 M0 C ph sh w) {k o : Nat} {u : Value} (e : C.M k o = some u) : k < w.heap.size := World.block_lt_of_cell? w ⟨k, o, Option.none⟩ (h.mem k o u e)
theorem WRel.plt (h : WRel w0 E0 M0 C ph sh w) {i k : Nat} (e : C.kp[i]? = some k) : k < w.heap.size := by
  have hi : i < ph.length := by rw [h.plen]; exact (List.getElem?_eq_some_iff.1 e).1
  obtain ⟨cur, t, q, _⟩ := h.pcell i _ k (List.getElem?_eq_getElem hi) e
  exact lt_of_block q
theorem WRel.slt (h : WRel w0 E0 M0 C ph sh w) {b k n : Nat} (e : C.ks[b]? = some (k, n)) : k < w.heap.size := by
  have hi : b < sh.length := by rw [h.slen]; exact (List.getElem?_eq_some_iff.1 e).1
  obtain ⟨cur, rest, q, _⟩ := h.scell b _ k n (List.getElem?_eq_getElem hi) e
  exact lt_of_block q
theorem WRel.drew (h : WRel w0 E0 M0 C ph sh w) : WRel w0 E0 M0 C ph sh w.drew := ⟨h.mem, h.plen, h.pcell, h.slen, h.scell, h.pnl, h.snl, h.new, h.old, h.pM, h.sM, h.pp, h.ss, h.ps, h.pfresh, h.sfresh, h.os, h.tape, h.output, h.size, h.keeps⟩

/-- Whatever leaves all old blocks as they are. -/
theorem WRel.grown {w' : World} (h : WRel w0 E0 M0 C ph sh w) (hb : Below w.heap.size w w') : WRel w0 E0 M0 C ph sh w' where
  mem := fun k o u e => (hb.cell (p := ⟨k, o, Option.none⟩) (h.mlt e)).trans (h.mem k o u e)
  plen := h.plen
  pcell := fun i cells k e1 e2 => by
    obtain ⟨cur, t, q, q'⟩ := h.pcell i cells k e1 e2
    exact ⟨cur, t, (hb.block k (h.plt e2)).trans q, q'⟩
  slen := h.slen
  scell := fun b blk k n e1 e2 => by
    obtain ⟨cur, rest, q, q'⟩ := h.scell b blk k n e1 e2
    exact ⟨cur, rest, (hb.block k (h.slt e2)).trans q, q'⟩
  pnl := h.pnl
  snl := h.snl
  new := h.new
  old := h.old
  pM := h.pM
  sM := h.sM
  pp := h.pp
  ss := h.ss
  ps := h.ps
  pfresh := h.pfresh
  sfresh := h.sfresh
  os := hb.os.trans h.os
  tape := hb.tape.trans h.tape
  output := hb.output.trans h.output
  size := Nat.le_trans h.size hb.size
  keeps := fun k hk hn => (hb.block k (Nat.lt_of_lt_of_le hk h.size)).trans (h.keeps k hk hn)

theorem below_alloc (w : World) (o : Obj) : Below w.heap.size w (w.alloc o) := (Below.refl _ _).alloc (Nat.le_refl _) o
end

end Go.Gm
