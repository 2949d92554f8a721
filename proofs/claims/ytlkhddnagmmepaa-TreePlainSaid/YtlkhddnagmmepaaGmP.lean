/-
  Which operations of a region may change places: what an operation looks at, and what it writes.
-/
import Derived.Test.YtlkhddnagmmepaaGmO
import Derived.Orders
namespace Go.Gm
set_option linter.unusedSimpArgs false
set_option linter.unusedVariables false
open Go.RowKit

/-- What an operation does to the private variables, and to the shared memory: nothing (0), it looks (1), it writes (2). -/
def eff : GOp → Nat × Nat
  | .bp _ => (2, 0)
  | .bs _ _ => (0, 2)
  | .ld sh _ _ _ => if sh then (0, 1) else (1, 0)
  | .st sh _ _ _ => if sh then (0, 2) else (2, 0)
  | .el sh _ _ _ => (0, if sh then 1 else 0)
  | .ca k _ _ => (0, if k = 0 then 0 else 2)
  | .ln sh _ => (0, if sh then 1 else 0)
  | .ms _ _ _ _ _ _ => (0, 2)
  | .ap _ _ _ _ _ => (0, 2)
  | _ => (0, 0)

def opds : GOp → List Opd
  | .mv x => [x]
  | .bp x => [x]
  | .bs _ x => [x]
  | .ld _ a _ _ => [a]
  | .st _ a x _ => [a, x]
  | .ad a _ => [a]
  | .el _ x i _ => [x, i]
  | .ea x i _ _ => [x, i]
  | .bi _ x y => [x, y]
  | .be _ x y => [x, y]
  | .un _ x => [x]
  | .en _ x => [x]
  | .cv _ x => [x]
  | .pk c a b => [c, a, b]
  | .bu _ parts => parts.map (·.2.2)
  | .bl _ _ _ parts => parts.map (·.2)
  | .mf _ first caps => first ++ caps
  | .ms _ _ _ _ l c => [l, c]
  | .sl _ x lo hi => x :: (lo.toList ++ hi.toList)
  | .fi x _ _ _ => [x]
  | .ix x i _ _ _ _ => [x, i]
  | .ex x _ => [x]
  | .ca _ f args => f :: args
  | .ln _ x => [x]
  | .ls x => [x]
  | .mx args => args
  | .mn args => args
  | .ap _ _ _ s x => [s, x]
  | .a64 x y c => [x, y, c]
  | .xs x i => [x, i]

section
variable {call : CallG} {s t s' : St} {v : V} {g : GOp}

theorem load_congr {p : V} {n : Nat} (hp : p.near = true → s.ph = t.ph) (hs : p.far = true → s.sh = t.sh) : s.load p n = t.load p n := by
  cases p with
  | d x => cases x <;> rfl
  | lp i off => simp only [St.load, hp rfl]
  | sp b m off => simp only [St.load, hs rfl]
  | _ => rfl

theorem lenV_congr {p : V} (hs : p.far = true → s.sh = t.sh) : lenV s p = lenV t p := by
  cases p with
  | d x => cases x <;> rfl
  | rs b off len => simp only [lenV, hs rfl]
  | _ => rfl

theorem elemP_congr {p : V} {es : Nat} {n : Int} (hs : p.far = true → s.sh = t.sh) : elemP s es p n = elemP t es p n := by
  cases p with
  | d x => cases x <;> rfl
  | rs b off len => simp only [elemP, hs rfl]
  | _ => rfl

theorem rowOf_congr {p : V} {es : Nat} (hs : s.sh = t.sh) : rowOf s es p = rowOf t es p := by
  cases p with
  | d x => cases x <;> rfl
  | rs b off len => simp only [rowOf, hs]
  | _ => rfl

theorem pureLike {F : Option V} (h : (F.map fun v => (v, s)) = some (v, s')) : (F.map fun v => (v, t)) = some (v, t) ∧ s' = s := by
  cases F with
  | none => cases h
  | some x => cases h; exact ⟨rfl, rfl⟩

/-- What it comes to depends on what it looks at alone. -/
theorem run1_frame (h : run1 call s g = some (v, s')) (ho : ∀ x ∈ opds g, x.ev s = x.ev t) (hp : (eff g).1 ≠ 0 → s.ph = t.ph) (hs : (eff g).2 ≠ 0 → s.sh = t.sh) :
    run1 call t g = some (v, ⟨t.tmps, if (eff g).1 = 0 then t.ph else s'.ph, if (eff g).2 = 0 then t.sh else s'.sh⟩) ∧ s'.tmps = s.tmps ∧ ((eff g).1 ≤ 1 → s'.ph = s.ph) ∧ ((eff g).2 ≤ 1 → s'.sh = s.sh) := by
  have same : (eff g) = (0, 0) → run1 call t g = some (v, t) ∧ s' = s → run1 call t g = some (v, ⟨t.tmps, if (eff g).1 = 0 then t.ph else s'.ph, if (eff g).2 = 0 then t.sh else s'.sh⟩) ∧ s'.tmps = s.tmps ∧ ((eff g).1 ≤ 1 → s'.ph = s.ph) ∧ ((eff g).2 ≤ 1 → s'.sh = s.sh) := by
    rintro e ⟨e1, rfl⟩
    rw [e]
    exact ⟨e1, rfl, fun _ => rfl, fun _ => rfl⟩
  cases g with
  | mv x =>
    refine same rfl ?_
    have hx := ho x (by simp [opds])
    simp only [run1, hx, Option.some.injEq, Prod.mk.injEq] at h ⊢
    exact ⟨⟨h.1, trivial⟩, h.2.symm⟩
  | bp x =>
    have hx := ho x (by simp [opds])
    have hp := hp (by simp [eff])
    simp only [run1, hx, eff] at h ⊢
    split at h
    · split at h
      · cases h
        simp [hp]
        simp_all
      · cases h
    · cases h
  | bs ty x =>
    have hx := ho x (by simp [opds])
    have hs := hs (by simp [eff])
    simp only [run1, hx, eff] at h ⊢
    split at h
    · split at h
      · cases h
        simp [hs]
        simp_all
      · cases h
    · cases h
  | ld sh a n gg =>
    have hx := ho a (by simp [opds])
    simp only [run1, hx] at h ⊢
    split at h
    · cases h
    · rename_i hf
      have hl : s.load (a.ev t) n = t.load (a.ev t) n := by
        cases sh with
        | false =>
          refine load_congr (fun _ => hp (by simp [eff])) fun hfar => ?_
          simp [V.astray, hfar] at hf
        | true =>
          refine load_congr (fun hnear => ?_) fun _ => hs (by simp [eff])
          simp [V.astray, hnear] at hf
      rw [hl] at h
      rw [if_neg hf]
      split at h
      · rename_i cs hcs
        cases hm : mkV gg cs with
        | none => rw [hm] at h; cases h
        | some z =>
          rw [hm] at h
          cases h
          simp only [hcs, hm, Option.map_some]
          refine ⟨?_, trivial, fun _ => trivial, fun _ => trivial⟩
          cases sh with
          | false =>
            have hp' : s.ph = t.ph := hp (by simp [eff])
            simp [eff, hp']
          | true =>
            have hs' : s.sh = t.sh := hs (by simp [eff])
            simp [eff, hs']
      · cases h
  | st sh a x n =>
    have hx := ho x (by simp [opds])
    have ha := ho a (by simp [opds])
    simp only [run1, hx, ha] at h ⊢
    split at h
    · cases h
    · rename_i hf
      rw [if_neg hf]
      split at h
      · rename_i cs hcs
        split at h
        · rename_i hc
          simp only [hc, and_self, if_true]
          cases hst : s.store (a.ev t) cs with
          | none => rw [hst] at h; cases h
          | some z =>
            rw [hst] at h
            cases h
            cases hv : a.ev t with
            | lp i off =>
              have hsh : sh = false := by
                cases sh with
                | false => rfl
                | true => simp [V.astray, hv, V.near] at hf
              subst hsh
              have hp := hp (by simp [eff])
              rw [hv] at hst
              simp only [St.store] at hst ⊢
              rw [hp] at hst
              split at hst
              · split at hst
                · cases hst
                  rename_i h1 h2
                  simp only [h2, if_true, Option.map_some, eff]
                  refine ⟨?_, trivial, ?_, ?_⟩
                  · simp
                  · intro hh; simp at hh
                  · intro _; trivial
                · cases hst
              · cases hst
            | sp b m off =>
              have hsh : sh = true := by
                cases sh with
                | true => rfl
                | false => simp [V.astray, hv, V.far] at hf
              subst hsh
              have hs := hs (by simp [eff])
              rw [hv] at hst
              simp only [St.store] at hst ⊢
              rw [hs] at hst
              split at hst
              · split at hst
                · cases hst
                  rename_i h1 h2
                  simp only [h2, and_self, if_true, Option.map_some, eff]
                  refine ⟨?_, trivial, ?_, ?_⟩
                  · simp
                  · intro _; trivial
                  · intro hh; simp at hh
                · cases hst
              · cases hst
            | _ => rw [hv] at hst; simp [St.store] at hst
        · cases h
      · cases h
  | ad a off =>
    have hx := ho a (by simp [opds])
    refine same rfl ?_
    simp only [run1, hx] at h ⊢
    exact pureLike h
  | el sh x i es =>
    have hx := ho x (by simp [opds])
    have hi := ho i (by simp [opds])
    simp only [run1, hx, hi] at h ⊢
    split at h
    · cases h
    · rename_i hf
      rw [if_neg hf]
      split at h
      · rename_i k n hk
        have hl : elemP s es (x.ev t) n = elemP t es (x.ev t) n := elemP_congr fun hfar => hs (by simp [hfar] at hf; simp [eff, hf])
        rw [hl] at h
        obtain ⟨h1, h2⟩ := pureLike (t := t) h
        subst h2
        simp only [eff]
        refine ⟨?_, trivial, fun _ => trivial, fun _ => trivial⟩
        cases sh with
        | false => simpa using h1
        | true =>
          have := hs (by simp [eff])
          simp [h1, this]
      · cases h
  | ea x i len es =>
    have hx := ho x (by simp [opds])
    have hi := ho i (by simp [opds])
    refine same rfl ?_
    simp only [run1, hx, hi] at h ⊢
    split at h
    · split at h
      · rename_i hc
        rw [if_pos hc]
        exact pureLike h
      · cases h
    · cases h
  | bi op x y =>
    have hx := ho x (by simp [opds])
    have hi := ho y (by simp [opds])
    refine same rfl ?_
    simp only [run1, hx, hi] at h ⊢
    split at h
    · rename_i a b ha hb
      cases hm : bin op a b with
      | none => rw [hm] at h; cases h
      | some z => rw [hm] at h; cases h; exact ⟨rfl, rfl⟩
    · cases h
  | be neg x y =>
    have hx := ho x (by simp [opds])
    have hi := ho y (by simp [opds])
    refine same rfl ?_
    simp only [run1, hx, hi] at h ⊢
    split at h
    · rename_i a b ha hb
      cases h
      simp [ha, hb]
    · cases h
  | en neg x =>
    have hx := ho x (by simp [opds])
    refine same rfl ?_
    simp only [run1, hx] at h ⊢
    split at h
    · rename_i ha
      cases h
      simp [ha]
    · cases h
  | un op x =>
    have hx := ho x (by simp [opds])
    refine same rfl ?_
    simp only [run1, hx] at h ⊢
    split at h
    · rename_i a ha
      cases hm : una op a with
      | none => rw [hm] at h; cases h
      | some z => rw [hm] at h; cases h; exact ⟨rfl, rfl⟩
    · cases h
  | cv k x =>
    have hx := ho x (by simp [opds])
    refine same rfl ?_
    simp only [run1, hx] at h ⊢
    split at h
    · rename_i a ha
      cases h
      simp [ha]
    · cases h
  | pk c a b =>
    have hx := ho c (by simp [opds])
    have ha := ho a (by simp [opds])
    have hb := ho b (by simp [opds])
    refine same rfl ?_
    simp only [run1, hx, ha, hb] at h ⊢
    split at h
    · rename_i e; cases h; simp [e]
    · rename_i e; cases h; simp [e]
    · cases h
  | bu zero parts =>
    refine same rfl ?_
    have hx : (parts.map fun (off, n, x) => (off, n, x.ev s)) = (parts.map fun (off, n, x) => (off, n, x.ev t)) := by
      refine List.map_congr_left ?_
      rintro ⟨off, n, x⟩ hm
      simp only [ho x (List.mem_map.2 ⟨_, hm, rfl⟩)]
    simp only [run1] at h ⊢
    rw [hx] at h
    split at h
    · rename_i e1
      simp only [e1]
      exact pureLike h
    · cases h
  | bl es len zero parts =>
    refine same rfl ?_
    have hx : (parts.map fun (i, x) => (i * es, es, x.ev s)) = (parts.map fun (i, x) => (i * es, es, x.ev t)) := by
      refine List.map_congr_left ?_
      rintro ⟨i, x⟩ hm
      simp only [ho x (List.mem_map.2 ⟨_, hm, rfl⟩)]
    simp only [run1] at h ⊢
    rw [hx] at h
    split at h
    · split at h
      · cases h
        exact ⟨by simp_all, rfl⟩
      · cases h
    · cases h
  | mf f first caps =>
    refine same rfl ?_
    have h1 : first.map (Opd.ev s) = first.map (Opd.ev t) := List.map_congr_left fun x hm => ho x (by simp [opds, hm])
    have h2 : caps.map (Opd.ev s) = caps.map (Opd.ev t) := List.map_congr_left fun x hm => ho x (by simp [opds, hm])
    simp only [run1, h1, h2] at h ⊢
    generalize allD (first.map (Opd.ev t)) = A at *
    generalize allD (caps.map (Opd.ev t)) = B at *
    cases A <;> cases B <;> simp only at h ⊢ <;> first
      | (cases h; exact ⟨rfl, rfl⟩)
      | (split at h
         · rename_i hc
           rw [if_pos hc]
           cases h; exact ⟨rfl, rfl⟩
         · cases h)
  | ms ty es bytes zero l c =>
    have h1 := ho l (by simp [opds])
    have h2 := ho c (by simp [opds])
    have hs := hs (by simp [eff])
    simp only [run1, h1, h2, eff] at h ⊢
    split at h
    · split at h
      · rename_i hc
        cases h
        refine ⟨?_, rfl, fun _ => rfl, fun hh => by simp at hh⟩
        rw [if_pos hc]
        simp [hs]
      · cases h
    · cases h
  | sl es x lo hi =>
    refine same rfl ?_
    have hx := ho x (by simp [opds])
    have hlo : ∀ y, lo = some y → y.ev s = y.ev t := fun y e => ho y (by simp [opds, e])
    have hhi : ∀ y, hi = some y → y.ev s = y.ev t := fun y e => ho y (by simp [opds, e])
    simp only [run1, hx] at h ⊢
    cases lo with
    | none =>
      cases hi with
      | none => exact pureLike h
      | some b =>
        simp only [hhi b rfl] at h ⊢
        split at h
        · rename_i e1 e2
          exact pureLike h
        · cases h
    | some a =>
      simp only [hlo a rfl] at h ⊢
      cases hi with
      | none =>
        split at h
        · rename_i e1 e2
          simp only [e1]
          simp only [Option.some.injEq] at e2
          subst e2
          exact pureLike h
        · cases h
      | some b =>
        simp only [hhi b rfl] at h ⊢
        split at h
        · rename_i e1 e2
          exact pureLike h
        · cases h
  | fi x off n gg =>
    have hx := ho x (by simp [opds])
    refine same rfl ?_
    simp only [run1, hx] at h ⊢
    split at h
    · split at h
      · rename_i e1 _ _ e2
        exact pureLike h
      · cases h
    · split at h
      · rename_i e1 _ _ e2
        exact pureLike h
      · cases h
    · cases h
  | ix x i len es n gg =>
    have hx := ho x (by simp [opds])
    have hi := ho i (by simp [opds])
    refine same rfl ?_
    simp only [run1, hx, hi] at h ⊢
    split at h
    · split at h
      · rename_i hc
        split at h
        · rename_i e1 e2 _ _ e3
          simp only [e1, e2, hc, e3, and_self, if_true]
          exact pureLike h
        · cases h
      · cases h
    · cases h
  | ex x i =>
    have hx := ho x (by simp [opds])
    refine same rfl ?_
    simp only [run1, hx] at h ⊢
    split at h
    · rename_i e1
      cases hm : (_ : List D)[i]? with
      | none => rw [hm] at h; cases h
      | some z => rw [hm] at h; cases h; exact ⟨rfl, rfl⟩
    · rename_i e1
      exact pureLike h
    · cases h
  | ca k f args =>
    have hf := ho f (by simp [opds])
    have hx : args.map (Opd.ev s) = args.map (Opd.ev t) := List.map_congr_left fun x hm => ho x (by simp [opds, hm])
    simp only [run1, hf, hx] at h ⊢
    split at h
    · rename_i fid first caps hq
      split at h
      · simp only [dataCall] at h ⊢
        simp only [eff, if_true]
        split at h
        · split at h
          · split at h
            · cases h
              refine ⟨?_, rfl, fun _ => rfl, fun _ => rfl⟩
              simp_all
            · cases h
          · cases h
        · cases h
      · have hs := hs (by simp [eff])
        simp only [pureCall] at h ⊢
        rw [hs] at h
        simp only [eff]
        split at h
        · split at h
          · split at h
            · cases h
              refine ⟨?_, rfl, fun _ => rfl, fun hh => by simp at hh⟩
              simp_all
            · cases h
          · cases h
        · cases h
      · rename_i h0 h1
        have hk : ¬ (k = 0) := fun e => h0 e
        have hs := hs (by simp [eff, hk])
        simp only [sharedCall] at h ⊢
        rw [hs] at h
        simp only [eff]
        split at h
        · split at h
          · cases h
            refine ⟨?_, rfl, fun _ => rfl, fun hh => by simp [hk] at hh⟩
            simp_all
          · cases h
        · cases h
    · cases h
  | ln sh x =>
    have hx := ho x (by simp [opds])
    simp only [run1, hx] at h ⊢
    split at h
    · cases h
    · rename_i hf
      rw [if_neg hf]
      have hl : lenV s (x.ev t) = lenV t (x.ev t) := lenV_congr fun hfar => hs (by simp [hfar] at hf; simp [eff, hf])
      rw [hl] at h
      cases hm : lenV t (x.ev t) with
      | none => rw [hm] at h; cases h
      | some z =>
        rw [hm] at h
        cases h
        simp only [Option.map_some, eff]
        refine ⟨?_, trivial, fun _ => trivial, fun _ => trivial⟩
        cases sh with
        | false => simp
        | true =>
          have := hs (by simp [eff])
          simp [this]
  | ls x =>
    have hx := ho x (by simp [opds])
    refine same rfl ?_
    simp only [run1, hx] at h ⊢
    split at h
    · rename_i e1
      cases h
      simp [e1]
    · cases h
  | mx args =>
    have hx : args.map (Opd.ev s) = args.map (Opd.ev t) := List.map_congr_left fun x hm => ho x (by simpa [opds] using hm)
    refine same rfl ?_
    simp only [run1, hx] at h ⊢
    split at h
    · rename_i x r e1
      cases hm : foldD maxD x r with
      | none => rw [hm] at h; cases h
      | some z => rw [hm] at h; cases h; exact ⟨rfl, rfl⟩
    · cases h
  | mn args =>
    have hx : args.map (Opd.ev s) = args.map (Opd.ev t) := List.map_congr_left fun x hm => ho x (by simpa [opds] using hm)
    refine same rfl ?_
    simp only [run1, hx] at h ⊢
    split at h
    · rename_i x r e1
      cases hm : foldD minD x r with
      | none => rw [hm] at h; cases h
      | some z => rw [hm] at h; cases h; exact ⟨rfl, rfl⟩
    · cases h
  | a64 x y c =>
    have hx := ho x (by simp [opds])
    have hy := ho y (by simp [opds])
    have hc := ho c (by simp [opds])
    refine same rfl ?_
    simp only [run1, hx, hy, hc] at h ⊢
    split at h
    · split at h
      · rename_i hcond
        cases h
        simp [hcond]
      · cases h
    · cases h
  | xs x i =>
    have hx := ho x (by simp [opds])
    have hi := ho i (by simp [opds])
    refine same rfl ?_
    simp only [run1, hx, hi] at h ⊢
    split at h
    · split at h
      · cases h
        exact ⟨rfl, rfl⟩
      · cases h
    · cases h
  | ap ty es bytes x y =>
    have hx := ho x (by simp [opds])
    have hy := ho y (by simp [opds])
    have hs := hs (by simp [eff])
    simp only [run1, hx, hy] at h ⊢
    rw [rowOf_congr hs, lenV_congr (t := t) fun _ => hs] at h
    split at h
    · rename_i news m e1 e2
      have hap : appendV s ty es bytes (x.ev t) m news = appendV t ty es bytes (x.ev t) m news := by
        simp only [appendV, hs, lenV_congr (s := s) (t := t) fun _ => hs]
      rw [hap] at h
      cases hm : appendV t ty es bytes (x.ev t) m news with
      | none => rw [hm] at h; cases h
      | some z =>
        rw [hm] at h
        cases h
        simp [eff]
    · cases h
end
end Go.Gm
