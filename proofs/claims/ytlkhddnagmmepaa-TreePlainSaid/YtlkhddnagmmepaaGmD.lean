/-
  How the relation between the ghost's memory and the world goes over new blocks, stores, and what is frozen.
-/
import Derived.Test.YtlkhddnagmmepaaGmC
namespace Go.Gm
set_option linter.unusedSimpArgs false
set_option linter.unusedVariables false
open Go.RowKit
section
variable {w0 w w' : World} {E0 : List Nat} {M0 : Mem} {C : Ctx} {ph : List (List V)} {sh : List Blk}

theorem get_snoc {α : Type} {l : List α} {x y : α} {i : Nat} (h : (l ++ [x])[i]? = some y) : l[i]? = some y ∨ (i = l.length ∧ x = y) := by
  rcases Nat.lt_trichotomy i l.length with hl | hl | hl
  · rw [List.getElem?_append_left hl] at h; exact .inl h
  · subst hl; rw [List.getElem?_append_right (Nat.le_refl _)] at h; simp at h; exact .inr ⟨rfl, h⟩
  · rw [List.getElem?_eq_none (by simp; omega)] at h; cases h
theorem get_snoc_old {α : Type} {l : List α} {x y : α} {i : Nat} (h : l[i]? = some y) : (l ++ [x])[i]? = some y := by
  rw [List.getElem?_append_left (List.getElem?_eq_some_iff.1 h).1]; exact h
theorem get_snoc_new {α : Type} {l : List α} {x : α} : (l ++ [x])[l.length]? = some x := by simp

theorem CtxLe.addP (C : Ctx) (H : List Blk) (k : Nat) : CtxLe C H { C with kp := C.kp ++ [k] } H :=
  ⟨Mem.le.refl _, fun _ _ h => get_snoc_old h, fun _ blk h => ⟨blk, h, rfl, .inl ⟨rfl, rfl⟩⟩⟩

theorem WRel.addP (h : WRel w0 E0 M0 C ph sh w) {k : Nat} {cs : List V} {us : List Value} {t : TypeId} (hk : w.heap[k]? = some (Obj.cells us.toArray t (0, 0)))
    (fresh : w0.heap.size ≤ k) (np : ∀ i : Nat, C.kp[i]? ≠ some k) (ns : ∀ b n : Nat, C.ks[b]? ≠ some (k, n)) (nM : ∀ o : Nat, C.M k o = Option.none)
    (hv : VList C sh cs us) (h1 : Ones us) (hn : noLps cs = true) : WRel w0 E0 M0 { C with kp := C.kp ++ [k] } (ph ++ [cs]) sh w where
  mem := h.mem
  plen := by simp [h.plen]
  pcell := fun i cells k' e1 e2 => by
    rcases get_snoc e2 with e2 | ⟨e2, e3⟩
    · have hi : i < ph.length := by rw [h.plen]; exact (List.getElem?_eq_some_iff.1 e2).1
      rw [List.getElem?_append_left hi] at e1
      obtain ⟨cur, t', q1, q2, q3⟩ := h.pcell i cells k' e1 e2
      exact ⟨cur, t', q1, q2.mono (CtxLe.addP C sh k), q3⟩
    · subst e2; subst e3
      rw [← h.plen, get_snoc_new] at e1
      cases e1
      exact ⟨us, t, hk, hv.mono (CtxLe.addP C sh k), h1⟩
  slen := h.slen
  scell := fun b blk k' n e1 e2 => by
    obtain ⟨cur, rest, q1, q2, q3, q4⟩ := h.scell b blk k' n e1 e2
    exact ⟨cur, rest, q1, q2, q3.mono (CtxLe.addP C sh k), q4⟩
  pnl := fun i cells e => by
    rcases get_snoc e with e | ⟨_, e⟩
    · exact h.pnl i cells e
    · subst e; exact hn
  snl := h.snl
  new := h.new
  old := h.old
  pM := fun i k' e o => by
    rcases get_snoc e with e | ⟨_, e⟩
    · exact h.pM i k' e o
    · subst e; exact nM o
  sM := h.sM
  pp := fun i j k' e1 e2 => by
    rcases get_snoc e1 with e1 | ⟨i1, e1⟩ <;> rcases get_snoc e2 with e2 | ⟨i2, e2⟩
    · exact h.pp i j k' e1 e2
    · subst e2; exact absurd e1 (np i)
    · subst e1; exact absurd e2 (np j)
    · rw [i1, i2]
  ss := h.ss
  ps := fun i b k' n e1 => by
    rcases get_snoc e1 with e1 | ⟨_, e1⟩
    · exact h.ps i b k' n e1
    · subst e1; exact ns b n
  pfresh := fun i k' e => by
    rcases get_snoc e with e | ⟨_, e⟩
    · exact h.pfresh i k' e
    · subst e; exact fresh
  sfresh := h.sfresh
  os := h.os
  tape := h.tape
  output := h.output
  size := h.size
  keeps := h.keeps

theorem CtxLe.addS (C : Ctx) (H : List Blk) (hl : H.length = C.ks.length) (k n : Nat) (blk : Blk) : CtxLe C H { C with ks := C.ks ++ [(k, n)] } (H ++ [blk]) :=
  ⟨Mem.le.refl _, fun _ _ h => h, fun b blk' h => ⟨blk', get_snoc_old h, rfl, .inl ⟨rfl, by
    have hb : b < H.length := (List.getElem?_eq_some_iff.1 h).1
    exact List.getElem?_append_left (by omega)⟩⟩⟩

theorem WRel.addS (h : WRel w0 E0 M0 C ph sh w) {k n : Nat} {blk : Blk} {cur rest : List Value} (hk : w.heap[k]? = some (Obj.cells (cur ++ rest).toArray blk.ety (0, 0)))
    (hlen : cur.length + rest.length = n) (fresh : w0.heap.size ≤ k) (np : ∀ i : Nat, C.kp[i]? ≠ some k) (ns : ∀ b n : Nat, C.ks[b]? ≠ some (k, n)) (nM : ∀ o : Nat, C.M k o = Option.none)
    (hv : VList C sh blk.cells cur) (h1 : Ones cur) (hn : noLps blk.cells = true) : WRel w0 E0 M0 { C with ks := C.ks ++ [(k, n)] } ph (sh ++ [blk]) w where
  mem := h.mem
  plen := h.plen
  pcell := fun i cells k' e1 e2 => by
    obtain ⟨c, t', q1, q2, q3⟩ := h.pcell i cells k' e1 e2
    exact ⟨c, t', q1, q2.mono (CtxLe.addS C sh h.slen k n blk), q3⟩
  slen := by simp [h.slen]
  scell := fun b blk' k' n' e1 e2 => by
    rcases get_snoc e2 with e2 | ⟨e2, e3⟩
    · have hi : b < sh.length := by rw [h.slen]; exact (List.getElem?_eq_some_iff.1 e2).1
      rw [List.getElem?_append_left hi] at e1
      obtain ⟨c, r, q1, q2, q3, q4⟩ := h.scell b blk' k' n' e1 e2
      exact ⟨c, r, q1, q2, q3.mono (CtxLe.addS C sh h.slen k n blk), q4⟩
    · subst e2; cases e3
      rw [← h.slen, get_snoc_new] at e1
      cases e1
      exact ⟨cur, rest, hk, hlen, hv.mono (CtxLe.addS C sh h.slen k n blk), h1⟩
  pnl := h.pnl
  snl := fun b blk' e => by
    rcases get_snoc e with e | ⟨_, e⟩
    · exact h.snl b blk' e
    · subst e; exact hn
  new := h.new
  old := h.old
  pM := h.pM
  sM := fun b k' n' blk' e1 e2 o u e3 => by
    rcases get_snoc e1 with e1 | ⟨_, e1⟩
    · have hi : b < sh.length := by rw [h.slen]; exact (List.getElem?_eq_some_iff.1 e1).1
      rw [List.getElem?_append_left hi] at e2
      exact h.sM b k' n' blk' e1 e2 o u e3
    · cases e1; rw [nM o] at e3; cases e3
  pp := h.pp
  ss := fun b b' k' n1 n2 e1 e2 => by
    rcases get_snoc e1 with e1 | ⟨i1, e1⟩ <;> rcases get_snoc e2 with e2 | ⟨i2, e2⟩
    · exact h.ss b b' k' n1 n2 e1 e2
    · cases e2; exact absurd e1 (ns b n1)
    · cases e1; exact absurd e2 (ns b' n2)
    · rw [i1, i2]
  ps := fun i b k' n' e1 e2 => by
    rcases get_snoc e2 with e2 | ⟨_, e2⟩
    · exact h.ps i b k' n' e1 e2
    · cases e2; exact np i e1
  pfresh := h.pfresh
  sfresh := fun b k' n' e => by
    rcases get_snoc e with e | ⟨_, e⟩
    · exact h.sfresh b k' n' e
    · cases e; exact .inl fresh
  os := h.os
  tape := h.tape
  output := h.output
  size := h.size
  keeps := h.keeps

theorem WRel.newp (h : WRel w0 E0 M0 C ph sh w) : ∀ i : Nat, C.kp[i]? ≠ some w.heap.size := fun i e => by have := h.plt e; omega
theorem WRel.news (h : WRel w0 E0 M0 C ph sh w) : ∀ b n : Nat, C.ks[b]? ≠ some (w.heap.size, n) := fun b n e => by have := h.slt e; omega
theorem WRel.newM (h : WRel w0 E0 M0 C ph sh w) : ∀ o : Nat, C.M w.heap.size o = Option.none := fun o => by
  cases e : C.M w.heap.size o with
  | none => rfl
  | some u => have := h.mlt e; omega

/-- A new private variable. -/
theorem WRel.boxP (h : WRel w0 E0 M0 C ph sh w) {cs : List V} {us : List Value} (t : TypeId) (hv : VList C sh cs us) (h1 : Ones us) (hn : noLps cs = true) :
    WRel w0 E0 M0 { C with kp := C.kp ++ [w.heap.size] } (ph ++ [cs]) sh (w.alloc (.cells us.toArray t)) :=
  (h.grown (below_alloc w _)).addP (heap_alloc_new w _) h.size h.newp h.news h.newM hv h1 hn

/-- A new shared block. -/
theorem WRel.boxS (h : WRel w0 E0 M0 C ph sh w) {blk : Blk} {cur rest : List Value} (hv : VList C sh blk.cells cur) (h1 : Ones cur) (hn : noLps blk.cells = true) :
    WRel w0 E0 M0 { C with ks := C.ks ++ [(w.heap.size, cur.length + rest.length)] } ph (sh ++ [blk]) (w.alloc (.cells (cur ++ rest).toArray blk.ety)) :=
  (h.grown (below_alloc w _)).addS (heap_alloc_new w _) rfl h.size h.newp h.news h.newM hv h1 hn

/-! ### more that stays as it is -/
/-- The immutable memory, with one block more. -/
def Mem.add (M : Mem) (k : Nat) (us : List Value) : Mem := fun k' o => if k' = k then us[o]? else M k' o

theorem Mem.le.add {M : Mem} {k : Nat} (us : List Value) (h : ∀ o, M k o = Option.none) : M.le (M.add k us) := fun k' o u e => by
  unfold Mem.add
  by_cases hk : k' = k
  · subst hk; rw [h o] at e; cases e
  · rw [if_neg hk]; exact e

theorem CtxLe.addM {C : Ctx} {M : Mem} (H : List Blk) (h : C.M.le M) : CtxLe C H { C with M := M } H :=
  ⟨h, fun _ _ h => h, fun _ blk h => ⟨blk, h, rfl, .inl ⟨rfl, rfl⟩⟩⟩

/-- The immutable memory may grow by whatever is no variable's. -/
theorem WRel.moreM (h : WRel w0 E0 M0 C ph sh w) {M : Mem} (hM : C.M.le M) (hc : ∀ (k o : Nat) (u : Value), M k o = some u → C.M k o = some u ∨
      (w.cell? ⟨k, o, Option.none⟩ = some u ∧ (w0.heap.size ≤ k ∨ k ∈ E0) ∧ (∀ i : Nat, C.kp[i]? ≠ some k) ∧
        ∀ (b n : Nat) (blk : Blk), C.ks[b]? = some (k, n) → sh[b]? = some blk → blk.frozen = true ∧ o < blk.cells.length)) :
    WRel w0 E0 M0 { C with M := M } ph sh w where
  mem := fun k o u e => by
    rcases hc k o u e with e | e
    · exact h.mem k o u e
    · exact e.1
  plen := h.plen
  pcell := fun i cells k e1 e2 => by
    obtain ⟨cur, t, q1, q2, q3⟩ := h.pcell i cells k e1 e2
    exact ⟨cur, t, q1, q2.mono (CtxLe.addM sh hM), q3⟩
  slen := h.slen
  scell := fun b blk k n e1 e2 => by
    obtain ⟨cur, rest, q1, q2, q3, q4⟩ := h.scell b blk k n e1 e2
    exact ⟨cur, rest, q1, q2, q3.mono (CtxLe.addM sh hM), q4⟩
  pnl := h.pnl
  snl := h.snl
  new := fun k o u e => by
    rcases hc k o u e with e | e
    · exact h.new k o u e
    · exact .inr e.2.1
  old := h.old.trans hM
  pM := fun i k e o => by
    cases e' : M k o with
    | none => exact e'
    | some u =>
      rcases hc k o u e' with e1 | e1
      · rw [h.pM i k e o] at e1; cases e1
      · exact absurd e (e1.2.2.1 i)
  sM := fun b k n blk e1 e2 o u e3 => by
    rcases hc k o u e3 with e | e
    · exact h.sM b k n blk e1 e2 o u e
    · exact e.2.2.2 b n blk e1 e2
  pp := h.pp
  ss := h.ss
  ps := h.ps
  pfresh := h.pfresh
  sfresh := h.sfresh
  os := h.os
  tape := h.tape
  output := h.output
  size := h.size
  keeps := h.keeps

/-- A new block that stays as it is. -/
theorem WRel.lit (h : WRel w0 E0 M0 C ph sh w) (us : List Value) (t : TypeId) :
    WRel w0 E0 M0 { C with M := C.M.add w.heap.size us } ph sh (w.alloc (.cells us.toArray t)) := by
  refine (h.grown (below_alloc w _)).moreM (Mem.le.add us h.newM) fun k o u e => ?_
  unfold Mem.add at e
  by_cases hk : k = w.heap.size
  · subst hk
    rw [if_pos rfl] at e
    refine .inr ⟨?_, .inl h.size, h.newp, fun b n blk e1 => absurd e1 (h.news b n)⟩
    rw [World.cell?_alloc_new]
    simpa using e
  · rw [if_neg hk] at e
    exact .inl e

/-! ### stores -/
theorem below_setRow_block (w : World) (g : Nat) (cs : Array Value) (k : Nat) (h : k ≠ g) : (w.setRow g cs).heap[k]? = w.heap[k]? := by
  simp only [World.setRow, Array.getElem?_modify]
  rw [if_neg (by omega)]

theorem WRel.setP (h : WRel w0 E0 M0 C ph sh w) {i k : Nat} {cs : List V} {us : List Value} {t : TypeId} (hk : C.kp[i]? = some k)
    (hnew : w'.heap[k]? = some (Obj.cells us.toArray t (0, 0))) (hother : ∀ k' : Nat, k' ≠ k → w'.heap[k']? = w.heap[k']?) (hsize : w'.heap.size = w.heap.size)
    (hos : w'.os = w.os) (htape : w'.tape = w.tape) (hout : w'.output = w.output)
    (hv : VList C sh cs us) (h1 : Ones us) (hn : noLps cs = true) : WRel w0 E0 M0 C (ph.set i cs) sh w' where
  mem := fun k' o u e => by
    have hne : k' ≠ k := by rintro rfl; rw [h.pM i k' hk o] at e; cases e
    rw [World.cell?_of_block (w := w) (hother k' hne)]
    exact h.mem k' o u e
  plen := by simp [h.plen]
  pcell := fun j cells k' e1 e2 => by
    by_cases hj : j = i
    · subst hj
      have hi : j < ph.length := by rw [h.plen]; exact (List.getElem?_eq_some_iff.1 hk).1
      rw [List.getElem?_set_self hi] at e1
      cases e1
      rw [hk] at e2; cases e2
      exact ⟨us, t, hnew, hv, h1⟩
    · rw [List.getElem?_set_ne (fun e => hj e.symm)] at e1
      have hne : k' ≠ k := by rintro rfl; exact hj (h.pp j i k' e2 hk)
      rw [hother k' hne]
      exact h.pcell j cells k' e1 e2
  slen := h.slen
  scell := fun b blk k' n e1 e2 => by
    have hne : k' ≠ k := by rintro rfl; exact h.ps i b k' n hk e2
    rw [hother k' hne]
    exact h.scell b blk k' n e1 e2
  pnl := fun j cells e => by
    by_cases hj : j = i
    · subst hj
      have hi : j < ph.length := by rw [h.plen]; exact (List.getElem?_eq_some_iff.1 hk).1
      rw [List.getElem?_set_self hi] at e
      cases e; exact hn
    · rw [List.getElem?_set_ne (fun e => hj e.symm)] at e
      exact h.pnl j cells e
  snl := h.snl
  new := h.new
  old := h.old
  pM := h.pM
  sM := h.sM
  pp := h.pp
  ss := h.ss
  ps := h.ps
  pfresh := h.pfresh
  sfresh := h.sfresh
  os := hos.trans h.os
  tape := htape.trans h.tape
  output := hout.trans h.output
  size := by rw [hsize]; exact h.size
  keeps := fun k' hk' hn' => by
    have hne : k' ≠ k := by rintro rfl; have := h.pfresh i k' hk; omega
    exact (hother k' hne).trans (h.keeps k' hk' hn')

theorem CtxLe.setS (C : Ctx) {H : List Blk} {b : Nat} {blk blk' : Blk} (hb : H[b]? = some blk) (hl : blk'.cells.length = blk.cells.length) (he : blk'.es = blk.es) :
    CtxLe C H C (H.set b blk') :=
  ⟨Mem.le.refl _, fun _ _ h => h, fun b' x h => by
    by_cases hbb : b' = b
    · subst hbb
      rw [hb] at h; cases h
      exact ⟨blk', List.getElem?_set_self (List.getElem?_eq_some_iff.1 hb).1, he, .inl ⟨hl, rfl⟩⟩
    · exact ⟨x, by rw [List.getElem?_set_ne (fun e => hbb e.symm)]; exact h, rfl, .inl ⟨rfl, rfl⟩⟩⟩

/-- A shared block is written (as many cells as it had). -/
theorem WRel.setS (h : WRel w0 E0 M0 C ph sh w) {b k n : Nat} {blk blk' : Blk} {cur rest : List Value} (hb : sh[b]? = some blk) (hk : C.ks[b]? = some (k, n))
    (hnew : w'.heap[k]? = some (Obj.cells (cur ++ rest).toArray blk'.ety (0, 0))) (hlen : cur.length + rest.length = n)
    (hother : ∀ k' : Nat, k' ≠ k → w'.heap[k']? = w.heap[k']?) (hsize : w'.heap.size = w.heap.size)
    (hos : w'.os = w.os) (htape : w'.tape = w.tape) (hout : w'.output = w.output) (hfz : blk.frozen = false)
    (hl : blk'.cells.length = blk.cells.length) (he : blk'.es = blk.es)
    (hv : VList C sh blk'.cells cur) (h1 : Ones cur) (hn : noLps blk'.cells = true) : WRel w0 E0 M0 C ph (sh.set b blk') w' := by
  have hle : CtxLe C sh C (sh.set b blk') := CtxLe.setS C hb hl he
  have hbl : b < sh.length := (List.getElem?_eq_some_iff.1 hb).1
  refine { mem := ?_, plen := h.plen, pcell := ?_, slen := by simp [h.slen], scell := ?_, pnl := h.pnl, snl := ?_, new := h.new, old := h.old, pM := h.pM, sM := ?_, pp := h.pp, ss := h.ss, ps := h.ps, pfresh := h.pfresh, sfresh := h.sfresh, os := hos.trans h.os, tape := htape.trans h.tape, output := hout.trans h.output, size := by rw [hsize]; exact h.size, keeps := ?_ }
  · intro k' o u e
    have hne : k' ≠ k := by
      rintro rfl
      have := (h.sM b k' n blk hk hb o u e).1
      rw [hfz] at this; cases this
    rw [World.cell?_of_block (w := w) (hother k' hne)]
    exact h.mem k' o u e
  · intro i cells k' e1 e2
    have hne : k' ≠ k := by rintro rfl; exact h.ps i b k' n e2 hk
    obtain ⟨c, t, q1, q2, q3⟩ := h.pcell i cells k' e1 e2
    exact ⟨c, t, (hother k' hne).trans q1, q2.mono hle, q3⟩
  · intro b' x k' n' e1 e2
    by_cases hbb : b' = b
    · subst hbb
      rw [List.getElem?_set_self hbl] at e1
      cases e1
      rw [hk] at e2; cases e2
      exact ⟨cur, rest, hnew, hlen, hv.mono hle, h1⟩
    · rw [List.getElem?_set_ne (fun e => hbb e.symm)] at e1
      have hne : k' ≠ k := by rintro rfl; exact hbb (h.ss b' b k' n' n e2 hk)
      obtain ⟨c, r, q1, q2, q3, q4⟩ := h.scell b' x k' n' e1 e2
      exact ⟨c, r, (hother k' hne).trans q1, q2, q3.mono hle, q4⟩
  · intro b' x e
    by_cases hbb : b' = b
    · subst hbb
      rw [List.getElem?_set_self hbl] at e
      cases e; exact hn
    · rw [List.getElem?_set_ne (fun e => hbb e.symm)] at e
      exact h.snl b' x e
  · intro b' k' n' x e1 e2 o u e3
    by_cases hbb : b' = b
    · subst hbb
      rw [hk] at e1; cases e1
      have := (h.sM b' k n blk hk hb o u e3).1
      rw [hfz] at this; cases this
    · rw [List.getElem?_set_ne (fun e => hbb e.symm)] at e2
      exact h.sM b' k' n' x e1 e2 o u e3
  · intro k' hk' hn'
    have hne : k' ≠ k := by
      rintro rfl
      rcases h.sfresh b k' n hk with q | q
      · omega
      · exact hn' q
    exact (hother k' hne).trans (h.keeps k' hk' hn')

/-- A shared block has grown, in its old place or in a new one. -/
theorem WRel.moveS (h : WRel w0 E0 M0 C ph sh w) {b k n k' n' : Nat} {blk blk' : Blk} {cur rest : List Value} (hb : sh[b]? = some blk) (hk : C.ks[b]? = some (k, n))
    (hnew : w'.heap[k']? = some (Obj.cells (cur ++ rest).toArray blk'.ety (0, 0))) (hlen : cur.length + rest.length = n')
    (hk' : k' = k ∨ w.heap.size ≤ k') (hold : ∀ j : Nat, j < w.heap.size → j ≠ k → w'.heap[j]? = w.heap[j]?)
    (hM : ∀ (o : Nat) (u : Value), C.M k o = some u → w'.cell? ⟨k, o, Option.none⟩ = some u) (hsize : w.heap.size ≤ w'.heap.size)
    (hos : w'.os = w.os) (htape : w'.tape = w.tape) (hout : w'.output = w.output) (hfz : blk'.frozen = blk.frozen)
    (hl : blk.cells.length < blk'.cells.length) (he : blk'.es = blk.es)
    (hv : VList C sh blk'.cells cur) (h1 : Ones cur) (hn : noLps blk'.cells = true) :
    WRel w0 E0 M0 { C with ks := C.ks.set b (k', n') } ph (sh.set b blk') w' ∧ CtxLe C sh { C with ks := C.ks.set b (k', n') } (sh.set b blk') := by
  have hbl : b < sh.length := (List.getElem?_eq_some_iff.1 hb).1
  have hkl : b < C.ks.length := (List.getElem?_eq_some_iff.1 hk).1
  have hle : CtxLe C sh { C with ks := C.ks.set b (k', n') } (sh.set b blk') := by
    refine ⟨Mem.le.refl _, fun _ _ h => h, fun b' x e => ?_⟩
    by_cases hbb : b' = b
    · subst hbb
      rw [hb] at e; cases e
      exact ⟨blk', List.getElem?_set_self hbl, he, .inr hl⟩
    · exact ⟨x, by rw [List.getElem?_set_ne (fun e => hbb e.symm)]; exact e, rfl, .inl ⟨rfl, List.getElem?_set_ne (fun e => hbb e.symm)⟩⟩
  have hs : ∀ b' k'' n'' : Nat, b' ≠ b → C.ks[b']? = some (k'', n'') → k'' < w.heap.size ∧ k'' ≠ k := fun b' k'' n'' hbb e =>
    ⟨h.slt e, by rintro rfl; exact hbb (h.ss b' b _ n'' n e hk)⟩
  have hkM : ∀ o u, C.M k' o = some u → k' = k := fun o u e => by
    rcases hk' with q | q
    · exact q
    · have := h.mlt e; omega
  refine ⟨{ mem := ?_, plen := h.plen, pcell := ?_, slen := by simp [h.slen], scell := ?_, pnl := h.pnl, snl := ?_, new := h.new, old := h.old, pM := h.pM, sM := ?_, pp := h.pp, ss := ?_, ps := ?_, pfresh := h.pfresh, sfresh := ?_, os := hos.trans h.os, tape := htape.trans h.tape, output := hout.trans h.output, size := Nat.le_trans h.size hsize, keeps := ?_ }, hle⟩
  · intro j o u e
    by_cases hj : j = k
    · subst hj; exact hM o u e
    · rw [World.cell?_of_block (w := w) (hold j (h.mlt e) hj)]
      exact h.mem j o u e
  · intro i cells j e1 e2
    have hne : j ≠ k := by rintro rfl; exact h.ps i b j n e2 hk
    obtain ⟨c, t, q1, q2, q3⟩ := h.pcell i cells j e1 e2
    exact ⟨c, t, (hold j (h.plt e2) hne).trans q1, q2.mono hle, q3⟩
  · intro b' x j m e1 e2
    by_cases hbb : b' = b
    · subst hbb
      rw [List.getElem?_set_self hbl] at e1
      cases e1
      rw [List.getElem?_set_self hkl] at e2
      cases e2
      exact ⟨cur, rest, hnew, hlen, hv.mono hle, h1⟩
    · rw [List.getElem?_set_ne (fun e => hbb e.symm)] at e1
      rw [List.getElem?_set_ne (fun e => hbb e.symm)] at e2
      obtain ⟨hj1, hj2⟩ := hs b' j m hbb e2
      obtain ⟨c, r, q1, q2, q3, q4⟩ := h.scell b' x j m e1 e2
      exact ⟨c, r, (hold j hj1 hj2).trans q1, q2, q3.mono hle, q4⟩
  · intro b' x e
    by_cases hbb : b' = b
    · subst hbb
      rw [List.getElem?_set_self hbl] at e
      cases e; exact hn
    · rw [List.getElem?_set_ne (fun e => hbb e.symm)] at e
      exact h.snl b' x e
  · intro b' j m x e1 e2 o u e3
    by_cases hbb : b' = b
    · subst hbb
      rw [List.getElem?_set_self hkl] at e1
      cases e1
      rw [List.getElem?_set_self hbl] at e2
      cases e2
      have hkk := hkM o u e3
      subst hkk
      obtain ⟨q1, q2⟩ := h.sM b' _ n blk hk hb o u e3
      exact ⟨hfz.trans q1, by omega⟩
    · rw [List.getElem?_set_ne (fun e => hbb e.symm)] at e1
      rw [List.getElem?_set_ne (fun e => hbb e.symm)] at e2
      exact h.sM b' j m x e1 e2 o u e3
  · intro b1 b2 j m1 m2 e1 e2
    by_cases h1' : b1 = b <;> by_cases h2' : b2 = b
    · rw [h1', h2']
    · subst h1'
      rw [List.getElem?_set_self hkl] at e1
      rw [List.getElem?_set_ne (fun e => h2' e.symm)] at e2
      obtain ⟨hj1, hj2⟩ := hs b2 j m2 h2' e2
      cases e1
      rcases hk' with q | q <;> omega
    · subst h2'
      rw [List.getElem?_set_self hkl] at e2
      rw [List.getElem?_set_ne (fun e => h1' e.symm)] at e1
      obtain ⟨hj1, hj2⟩ := hs b1 j m1 h1' e1
      cases e2
      rcases hk' with q | q <;> omega
    · rw [List.getElem?_set_ne (fun e => h1' e.symm)] at e1
      rw [List.getElem?_set_ne (fun e => h2' e.symm)] at e2
      exact h.ss b1 b2 j m1 m2 e1 e2
  · intro i b' j m e1 e2
    by_cases hbb : b' = b
    · subst hbb
      rw [List.getElem?_set_self hkl] at e2
      cases e2
      rcases hk' with q | q
      · subst q; exact h.ps i b' _ n e1 hk
      · have := h.plt e1; omega
    · rw [List.getElem?_set_ne (fun e => hbb e.symm)] at e2
      exact h.ps i b' j m e1 e2
  · intro b' j m e
    by_cases hbb : b' = b
    · subst hbb
      rw [List.getElem?_set_self hkl] at e
      cases e
      rcases hk' with q | q
      · subst q; exact h.sfresh b' _ n hk
      · exact .inl (Nat.le_trans h.size q)
    · rw [List.getElem?_set_ne (fun e => hbb e.symm)] at e
      exact h.sfresh b' j m e
  · intro j hj hn'
    have hne : j ≠ k := by
      rintro rfl
      rcases h.sfresh b j n hk with q | q
      · omega
      · exact hn' q
    exact (hold j (Nat.lt_of_lt_of_le hj h.size) hne).trans (h.keeps j hj hn')

/-! ### what is frozen -/
def Covers (C : Ctx) (sh : List Blk) (w : World) (M : Mem) (l : List Nat) : Prop :=
  ∀ b ∈ l, ∀ (blk : Blk) (k n : Nat), sh[b]? = some blk → C.ks[b]? = some (k, n) → ∀ (o : Nat) (u : Value), o < blk.cells.length → w.cell? ⟨k, o, Option.none⟩ = some u → M k o = some u

theorem WRel.cellAt (h : WRel w0 E0 M0 C ph sh w) {b k n : Nat} {blk : Blk} (hb : sh[b]? = some blk) (hk : C.ks[b]? = some (k, n)) :
    ∃ cur : List Value, cur.length = blk.cells.length ∧ VList C sh blk.cells cur ∧ Ones cur ∧ ∀ (i : Nat) (u : Value), cur[i]? = some u → w.cell? ⟨k, i, Option.none⟩ = some u := by
  obtain ⟨cur, rest, q1, q2, q3, q4⟩ := h.scell b blk k n hb hk
  refine ⟨cur, q3.length.symm, q3, q4, fun i u hi => ?_⟩
  rw [cell_of_row w k i _ _ _ q1]
  simp only [List.getElem?_toArray]
  rw [List.getElem?_append_left (List.getElem?_eq_some_iff.1 hi).1]
  exact hi

theorem dcells_of {M : Mem} {k : Nat} : ∀ {ds : List D} {cur : List Value} {o : Nat}, DList M ds cur → Ones cur → (∀ (i : Nat) (u : Value), cur[i]? = some u → M k (o + i) = some u) → DCells M ds k o
  | [], [], _, _, _, _ => trivial
  | _ :: _, u :: s, o, ⟨h1, h2⟩, h3, h4 => ⟨⟨u, by simpa using h4 0 u rfl, h3 u (by simp), h1⟩, dcells_of h2 (fun v hv => h3 v (by simp [hv])) fun i v hi => by
      have := h4 (i + 1) v (by simpa using hi)
      rwa [show o + (i + 1) = o + 1 + i from by omega] at this⟩

theorem DCells.drop {M : Mem} {k : Nat} : ∀ {ds : List D} {o : Nat} (n : Nat), DCells M ds k o → DCells M (ds.drop n) k (o + n)
  | _, _, 0, h => by simpa using h
  | [], _, _ + 1, _ => by simp [DCells]
  | _ :: _, o, n + 1, ⟨_, h⟩ => by
    have := DCells.drop n h
    rw [List.drop_succ_cons, show o + (n + 1) = o + 1 + n from by omega]
    exact this
theorem DCells.take {M : Mem} {k : Nat} : ∀ {ds : List D} {o : Nat} (n : Nat), DCells M ds k o → DCells M (ds.take n) k o
  | _, _, 0, _ => by simp [DCells]
  | [], _, _ + 1, _ => by simp [DCells]
  | _ :: _, _, n + 1, ⟨h1, h⟩ => by rw [List.take_succ_cons]; exact ⟨h1, DCells.take n h⟩

theorem chunk_length (es : Nat) : ∀ (n : Nat) (xs : List D), (chunk es n xs).length = n
  | 0, _ => rfl
  | n + 1, xs => by simp [chunk, chunk_length es n]

theorem drow_chunk {M : Mem} {k es : Nat} : ∀ (n : Nat) {ds : List D} {o : Nat}, ds.length = n * es → DCells M ds k o → DRow M es (chunk es n ds) k o
  | 0, _, _, _, _ => by simp [chunk, DRow]
  | n + 1, ds, o, hl, h => by
    rw [Nat.succ_mul] at hl
    exact ⟨by simp; omega, DCells.take es h, drow_chunk n (by simp; omega) (DCells.drop es h)⟩

theorem toDs_of (h : WRel w0 E0 M0 C ph sh w) {M : Mem} {n : Nat} (one : ∀ (v : V) {x : D} {l : List Nat} {u : Value}, toD sh n v = some (x, l) → VRel C sh v u → Covers C sh w M l → DRel M x u) :
    ∀ (vs : List V) {xs : List D} {l : List Nat} {us : List Value}, allBy (toD sh n) vs = some (xs, l) → VList C sh vs us → Covers C sh w M l → DList M xs us
  | [], xs, l, us, e, hv, _ => by
    simp only [allBy, Option.some.injEq, Prod.mk.injEq] at e
    rw [← e.1]
    cases us with
    | nil => trivial
    | cons _ _ => exact hv.elim
  | v :: r, xs, l, us, e, hv, hc => by
    cases us with
    | nil => exact hv.elim
    | cons u s =>
      obtain ⟨h1, h2⟩ := hv
      simp only [allBy] at e
      split at e
      · rename_i y l1 s' l2 he1 he2
        simp only [Option.some.injEq, Prod.mk.injEq] at e
        rw [← e.1]
        exact ⟨one v he1 h1 (fun b hb => hc b (by rw [← e.2]; simp [hb])), toDs_of h one r he2 h2 (fun b hb => hc b (by rw [← e.2]; simp [hb]))⟩
      · cases e

theorem toD_ok (h : WRel w0 E0 M0 C ph sh w) {M : Mem} (hM : C.M.le M) : ∀ (n : Nat) (v : V) {x : D} {l : List Nat} {u : Value}, toD sh n v = some (x, l) → VRel C sh v u → Covers C sh w M l → DRel M x u
  | 0, v, x, l, u, e, hv, hc => by
    cases v <;> simp only [toD, Option.some.injEq, Prod.mk.injEq, reduceCtorEq] at e
    rw [← e.1]; exact DRel.mono hM _ hv
  | n + 1, v, x, l, u, e, hv, hc => by
    have ih := toDs_of h (M := M) (fun v => toD_ok h hM n v)
    cases v with
    | d x => simp only [toD, Option.some.injEq, Prod.mk.injEq] at e; rw [← e.1]; exact DRel.mono hM _ hv
    | rs b off len =>
      obtain ⟨_, blk, g1, g2, g3⟩ := hv
      simp only [toD, g1] at e
      split at e
      · rename_i hl
        split at e
        · rename_i ds l' he
          simp only [Option.some.injEq, Prod.mk.injEq] at e
          obtain ⟨k, m, cap, q1, q2, q3, q4, q5⟩ := g3 hl
          rw [← e.1, q2]
          obtain ⟨cur, c1, c2, c3, c4⟩ := h.cellAt g1 q1
          have hd := ih blk.cells he c2 (fun b' hb' => hc b' (by rw [← e.2]; simp [hb']))
          have hcells : DCells M ds k 0 := dcells_of hd c3 fun i v hi => by
            rw [Nat.zero_add]
            exact hc b (by rw [← e.2]; simp) blk k m g1 q1 i v (by rw [← c1]; exact (List.getElem?_eq_some_iff.1 hi).1) (c4 i v hi)
          have hlen : ds.length = off + len * blk.es := by rw [hd.length, c1, hl]
          refine ⟨⟨k, off, Option.none⟩, cap, ?_, ?_, q4, by simp, fun _ => rfl, ?_⟩
          · rw [chunk_length]
          · rw [chunk_length]; exact q5
          · refine drow_chunk len (by simp; omega) ?_
            have := DCells.drop off hcells
            rwa [Nat.zero_add] at this
        · cases e
      · cases e
    | sp b m off =>
      obtain ⟨_, blk, g1, g2, g3⟩ := hv
      simp only [toD, g1] at e
      split at e
      · rename_i hl
        split at e
        · rename_i ds l' he
          simp only [Option.some.injEq, Prod.mk.injEq] at e
          obtain ⟨k, m', q1, q2⟩ := g3 hl
          rw [← e.1, q2]
          obtain ⟨cur, c1, c2, c3, c4⟩ := h.cellAt g1 q1
          have hd := ih blk.cells he c2 (fun b' hb' => hc b' (by rw [← e.2]; simp [hb']))
          have hcells : DCells M ds k 0 := dcells_of hd c3 fun i v hi => by
            rw [Nat.zero_add]
            exact hc b (by rw [← e.2]; simp) blk k m' g1 q1 i v (by rw [← c1]; exact (List.getElem?_eq_some_iff.1 hi).1) (c4 i v hi)
          exact ⟨k, 0, by simp, hcells⟩
        · cases e
      · cases e
    | agg cs =>
      obtain ⟨us, q1, q2, q3⟩ := hv
      simp only [toD] at e
      split at e
      · rename_i ds l' he
        simp only [Option.some.injEq, Prod.mk.injEq] at e
        rw [← e.1]
        exact ⟨us, q1, q2, ih cs he q3 (by rw [e.2]; exact hc)⟩
      · cases e
    | tup cs =>
      obtain ⟨us, q1, q3⟩ := hv
      simp only [toD] at e
      split at e
      · rename_i ds l' he
        simp only [Option.some.injEq, Prod.mk.injEq] at e
        rw [← e.1]
        exact ⟨us, q1, ih cs he q3 (by rw [e.2]; exact hc)⟩
      · cases e
    | fn f first caps =>
      obtain ⟨us, ws, q1, q2, q3⟩ := hv
      simp only [toD] at e
      split at e
      · rename_i ds l' es l'' he1 he2
        simp only [Option.some.injEq, Prod.mk.injEq] at e
        rw [← e.1]
        exact ⟨us, ws, q1, ih first he1 q2 (fun b hb => hc b (by rw [← e.2]; simp [hb])), ih caps he2 q3 (fun b hb => hc b (by rw [← e.2]; simp [hb]))⟩
      · cases e
    | lp _ _ => simp [toD] at e
    | none => simp [toD] at e

theorem toDs_ok (h : WRel w0 E0 M0 C ph sh w) {M : Mem} (hM : C.M.le M) (n : Nat) (vs : List V) {xs : List D} {l : List Nat} {us : List Value} (e : toDs sh n vs = some (xs, l)) (hv : VList C sh vs us) (hc : Covers C sh w M l) : DList M xs us :=
  toDs_of h (fun v => toD_ok h hM n v) vs e hv hc

end
end Go.Gm
