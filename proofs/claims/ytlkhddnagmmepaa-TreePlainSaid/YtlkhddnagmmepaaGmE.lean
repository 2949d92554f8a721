/-
  Freezing; and each operation of the ghost machine is an operation of the model.
-/
import Derived.Test.YtlkhddnagmmepaaGmD
namespace Go.Gm
set_option linter.unusedSimpArgs false
set_option linter.unusedVariables false
open Go.RowKit
section
variable {w0 w w' : World} {E0 : List Nat} {M0 : Mem} {C : Ctx} {ph : List (List V)} {sh : List Blk}

theorem WRel.freeze1 (h : WRel w0 E0 M0 C ph sh w) {b : Nat} {blk : Blk} (hb : sh[b]? = some blk) :
    ∃ M : Mem, WRel w0 E0 M0 { C with M := M } ph (sh.set b { blk with frozen := true }) w ∧ CtxLe C sh { C with M := M } (sh.set b { blk with frozen := true }) ∧
      ∀ (k n : Nat), C.ks[b]? = some (k, n) → ∀ (o : Nat) (u : Value), o < blk.cells.length → w.cell? ⟨k, o, Option.none⟩ = some u → M k o = some u := by
  have hbl : b < sh.length := (List.getElem?_eq_some_iff.1 hb).1
  obtain ⟨⟨k, n⟩, hk⟩ : ∃ p, C.ks[b]? = some p := ⟨_, List.getElem?_eq_getElem (by rw [← h.slen]; exact hbl)⟩
  let M : Mem := fun k' o => if k' = k ∧ o < blk.cells.length then w.cell? ⟨k', o, Option.none⟩ else C.M k' o
  have hM : C.M.le M := fun k' o u e => by
    show (if k' = k ∧ o < blk.cells.length then w.cell? ⟨k', o, Option.none⟩ else C.M k' o) = some u
    split
    · exact h.mem k' o u e
    · exact e
  have hle : CtxLe C sh { C with M := M } (sh.set b { blk with frozen := true }) :=
    ⟨hM, fun _ _ e => e, (CtxLe.setS C (blk' := { blk with frozen := true }) hb rfl rfl).sh⟩
  refine ⟨M, ?_, hle, fun k' n' e o u ho hu => ?_⟩
  · have hMk : ∀ (k' o : Nat) (u : Value), M k' o = some u → C.M k' o = some u ∨ (k' = k ∧ o < blk.cells.length ∧ w.cell? ⟨k', o, Option.none⟩ = some u) := fun k' o u e => by
      have e' : (if k' = k ∧ o < blk.cells.length then w.cell? ⟨k', o, Option.none⟩ else C.M k' o) = some u := e
      split at e'
      · rename_i hc; exact .inr ⟨hc.1, hc.2, e'⟩
      · exact .inl e'
    refine { mem := ?_, plen := h.plen, pcell := ?_, slen := by simp [h.slen], scell := ?_, pnl := h.pnl, snl := ?_, new := ?_, old := h.old.trans hM, pM := ?_, sM := ?_, pp := h.pp, ss := h.ss, ps := h.ps, pfresh := h.pfresh, sfresh := h.sfresh, os := h.os, tape := h.tape, output := h.output, size := h.size, keeps := h.keeps }
    · intro k' o u e
      rcases hMk k' o u e with e | ⟨_, _, e⟩
      · exact h.mem k' o u e
      · exact e
    · intro i cells k' e1 e2
      obtain ⟨c, t, q1, q2, q3⟩ := h.pcell i cells k' e1 e2
      exact ⟨c, t, q1, q2.mono hle, q3⟩
    · intro b' x k' n' e1 e2
      by_cases hbb : b' = b
      · subst hbb
        rw [List.getElem?_set_self hbl] at e1
        cases e1
        obtain ⟨c, r, q1, q2, q3, q4⟩ := h.scell b' blk k' n' hb e2
        exact ⟨c, r, q1, q2, q3.mono hle, q4⟩
      · rw [List.getElem?_set_ne (fun e => hbb e.symm)] at e1
        obtain ⟨c, r, q1, q2, q3, q4⟩ := h.scell b' x k' n' e1 e2
        exact ⟨c, r, q1, q2, q3.mono hle, q4⟩
    · intro b' x e
      by_cases hbb : b' = b
      · subst hbb
        rw [List.getElem?_set_self hbl] at e
        cases e; exact h.snl b' blk hb
      · rw [List.getElem?_set_ne (fun e => hbb e.symm)] at e
        exact h.snl b' x e
    · intro k' o u e
      rcases hMk k' o u e with e | ⟨e, _, _⟩
      · exact h.new k' o u e
      · subst e; exact .inr (h.sfresh b k' n hk)
    · intro i k' e o
      cases e' : M k' o with
      | none => exact e'
      | some u =>
        rcases hMk k' o u e' with e1 | ⟨e1, _, _⟩
        · rw [h.pM i k' e o] at e1; cases e1
        · subst e1; exact absurd hk (h.ps i b k' n e)
    · intro b' k' n' x e1 e2 o u e3
      by_cases hbb : b' = b
      · subst hbb
        rw [hk] at e1; cases e1
        rw [List.getElem?_set_self hbl] at e2
        cases e2
        rcases hMk k o u e3 with e | ⟨_, e, _⟩
        · exact ⟨rfl, (h.sM b' k n blk hk hb o u e).2⟩
        · exact ⟨rfl, e⟩
      · rw [List.getElem?_set_ne (fun e => hbb e.symm)] at e2
        rcases hMk k' o u e3 with e | ⟨e, _, _⟩
        · exact h.sM b' k' n' x e1 e2 o u e
        · subst e; exact absurd (h.ss b' b k' n' n e1 hk) hbb
  · rw [hk] at e; cases e
    show (if k = k ∧ o < blk.cells.length then w.cell? ⟨k, o, Option.none⟩ else C.M k o) = some u
    rw [if_pos ⟨rfl, ho⟩]; exact hu

theorem freeze_get (l : List Nat) : ∀ (sh : List Blk) (b : Nat) (blk : Blk), (freeze sh l)[b]? = some blk → ∃ blk0, sh[b]? = some blk0 ∧ blk.cells = blk0.cells ∧ blk.es = blk0.es ∧ blk.ety = blk0.ety := by
  induction l with
  | nil => intro sh b blk e; exact ⟨blk, e, rfl, rfl, rfl⟩
  | cons a r ih =>
    intro sh b blk e
    obtain ⟨blk1, e1, q1, q2, q3⟩ := ih _ b blk e
    rw [List.getElem?_modify] at e1
    split at e1
    · cases e0 : sh[b]? with
      | none => rw [e0] at e1; cases e1
      | some blk0 =>
        rw [e0] at e1
        simp at e1
        subst e1
        exact ⟨blk0, rfl, q1, q2, q3⟩
    · cases e0 : sh[b]? with
      | none => rw [e0] at e1; cases e1
      | some blk0 =>
        rw [e0] at e1
        simp at e1
        subst e1
        exact ⟨blk0, rfl, q1, q2, q3⟩

theorem modify_eq_set {α : Type} (l : List α) (i : Nat) (f : α → α) {x : α} (h : l[i]? = some x) : l.modify i f = l.set i (f x) := by
  apply List.ext_getElem?
  intro j
  rw [List.getElem?_modify]
  by_cases hj : i = j
  · subst hj
    rw [List.getElem?_set_self (List.getElem?_eq_some_iff.1 h).1, h]
    simp
  · rw [List.getElem?_set_ne hj]
    simp [hj]
theorem modify_none {α : Type} (l : List α) (i : Nat) (f : α → α) (h : l[i]? = Option.none) : l.modify i f = l := by
  apply List.ext_getElem?
  intro j
  rw [List.getElem?_modify]
  by_cases hj : i = j
  · subst hj; rw [h]; rfl
  · simp [hj]

theorem WRel.freeze : ∀ (l : List Nat) {C : Ctx} {sh : List Blk}, WRel w0 E0 M0 C ph sh w → ∃ M : Mem, WRel w0 E0 M0 { C with M := M } ph (freeze sh l) w ∧ CtxLe C sh { C with M := M } (freeze sh l) ∧ Covers C sh w M l
  | [], C, sh, h => ⟨C.M, h, CtxLe.refl _ _, fun b hb => by simp at hb⟩
  | a :: r, C, sh, h => by
    cases e0 : sh[a]? with
    | none =>
      obtain ⟨M, h1, h2, h3⟩ := WRel.freeze r h
      unfold Gm.freeze
      rw [modify_none _ _ _ e0]
      refine ⟨M, h1, h2, fun b hb blk k n e1 e2 => ?_⟩
      rcases List.mem_cons.1 hb with q | q
      · subst q; rw [e0] at e1; cases e1
      · exact h3 b q blk k n e1 e2
    | some blk0 =>
      obtain ⟨M1, g1, g2, g3⟩ := h.freeze1 e0
      obtain ⟨M, h1, h2, h3⟩ := WRel.freeze r g1
      unfold Gm.freeze
      rw [modify_eq_set _ _ _ e0]
      refine ⟨M, h1, g2.trans h2, fun b hb blk k n e1 e2 o u ho hu => ?_⟩
      rcases List.mem_cons.1 hb with q | q
      · subst q
        rw [e0] at e1; cases e1
        exact h2.mem k o u (g3 k n e2 o u ho hu)
      · by_cases hba : b = a
        · subst hba
          rw [e0] at e1; cases e1
          exact h2.mem k o u (g3 k n e2 o u ho hu)
        · exact h3 b q blk k n (by rw [List.getElem?_set_ne (fun e => hba e.symm)]; exact e1) e2 o u ho hu
end
end Go.Gm
