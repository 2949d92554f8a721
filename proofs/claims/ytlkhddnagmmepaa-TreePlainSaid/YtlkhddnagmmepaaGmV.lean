/-
  The ghost machine's calls with as much fuel as they want: one call that is their limit, and its equation.
-/
import Derived.Test.YtlkhddnagmmepaaGmR
namespace Go.Gm
set_option linter.unusedSimpArgs false
set_option linter.unusedVariables false

def CLe (c c' : CallG) : Prop := ∀ (f : FuncId) (a : List V) (s : List Blk) (r : V × List Blk), c f a s = some r → c' f a s = some r
theorem CLe.refl (c : CallG) : CLe c c := fun _ _ _ _ h => h
theorem CLe.trans {c c' c'' : CallG} (h : CLe c c') (h' : CLe c' c'') : CLe c c'' := fun f a s r e => h' f a s r (h f a s r e)

section
variable {c c' : CallG}

theorem pureCall_mono (hc : CLe c c') {s : St} {f : FuncId} {args : List V} {r : V × St} (h : pureCall c s f args = some r) : pureCall c' s f args = some r := by
  unfold pureCall at h ⊢
  split at h
  · rename_i ds l h1
    split at h
    · rename_i v sh' h2
      rw [hc _ _ _ _ h2]
      exact h
    · cases h
  · cases h
theorem dataCall_mono (hc : CLe c c') {s : St} {f : FuncId} {args : List V} {r : V × St} (h : dataCall c s f args = some r) : dataCall c' s f args = some r := by
  unfold dataCall at h ⊢
  split at h
  · rename_i ds h1
    split at h
    · rename_i v sh' h2
      rw [hc _ _ _ _ h2]
      exact h
    · cases h
  · cases h
theorem sharedCall_mono (hc : CLe c c') {s : St} {f : FuncId} {args : List V} {r : V × St} (h : sharedCall c s f args = some r) : sharedCall c' s f args = some r := by
  unfold sharedCall at h ⊢
  split at h
  · rename_i h1
    rw [if_pos h1]
    split at h
    · rename_i v sh' h2
      rw [hc _ _ _ _ h2]
      exact h
    · cases h
  · cases h

theorem run1_mono (hc : CLe c c') {s : St} {g : GOp} {r : V × St} (h : run1 c s g = some r) : run1 c' s g = some r := by
  cases g with
  | ca k f args =>
    simp only [run1] at h ⊢
    split at h
    · rename_i ff first caps h1
      split at h
      · exact dataCall_mono hc h
      · exact pureCall_mono hc h
      · exact sharedCall_mono hc h
    · cases h
  | _ => exact h

theorem step1_mono (hc : CLe c c') {g : GOper} {s s' : St} (h : step1 c g s = some s') : step1 c' g s = some s' := by
  have key : ∀ {r : St}, ((run1 c s g.op).map fun (v, s') => put s' g.dst v) = some r → ((run1 c' s g.op).map fun (v, s') => put s' g.dst v) = some r := by
    intro r h
    cases h1 : run1 c s g.op with
    | none => rw [h1] at h; cases h
    | some x => rw [h1] at h; rw [run1_mono hc h1]; exact h
  unfold step1 at h ⊢
  split at h
  · exact key h
  · split at h
    · split at h
      · rename_i h1; rw [if_pos h1]; exact key h
      · rename_i h1; rw [if_neg h1]; exact h
    · exact h
    · cases h

theorem steps_mono (hc : CLe c c') : ∀ {l : List GOper} {s s' : St}, steps c l s = some s' → steps c' l s = some s'
  | [], _, _, h => h
  | g :: l, s, s', h => by
    simp only [steps] at h ⊢
    split at h
    · rename_i s1 h1
      rw [step1_mono hc h1]
      exact steps_mono hc h
    · cases h

theorem iter_mono {b b' : St → Option (GExit × St)} (hb : ∀ s r, b s = some r → b' s = some r) : ∀ {n m : Nat} {s : St} {r : GExit × St}, n ≤ m → iter b n s = some r → iter b' m s = some r
  | 0, _, _, _, _, h => by cases h
  | n + 1, 0, _, _, hl, _ => by omega
  | n + 1, m + 1, s, r, hl, h => by
    simp only [iter] at h ⊢
    split at h
    · rename_i s1 h1
      rw [hb _ _ h1]
      exact iter_mono hb (by omega) h
    · rename_i e s1 hne h1
      rw [hb _ _ h1]
      cases e with
      | normal => exact absurd rfl hne
      | brk i => exact h
      | ret => exact h
    · cases h

theorem atHead_mono {boxes live : List Nat} {f f' : St → Option (GExit × St)} (hf : ∀ s r, f s = some r → f' s = some r) : ∀ s r, atHead boxes live f s = some r → atHead boxes live f' s = some r := by
  intro s r h
  unfold atHead at h ⊢
  split at h
  · exact hf _ _ h
  · cases h

theorem gcode_mono (hc : CLe c c') {n m : Nat} (hl : n ≤ m) : ∀ {x : GCode} {s : St} {r : GExit × St}, gcode c n x s = some r → gcode c' m x s = some r
  | .skip, _, _, h => h
  | .label, _, _, h => h
  | .ret, _, _, h => h
  | .exit _, _, _, h => h
  | .ops _ l, s, r, h => by
    simp only [gcode, Option.map_eq_some_iff] at h ⊢
    obtain ⟨s', h1, h2⟩ := h
    exact ⟨s', steps_mono hc h1, h2⟩
  | .seq a b, s, r, h => by
    simp only [gcode] at h ⊢
    split at h
    · rename_i s1 h1
      rw [gcode_mono hc hl h1]
      exact gcode_mono hc hl h
    · rename_i e s1 hne h1
      rw [gcode_mono hc hl h1]
      cases e with
      | normal => exact absurd rfl hne
      | brk i => exact h
      | ret => exact h
    · cases h
  | .cond x a b, s, r, h => by
    simp only [gcode] at h ⊢
    split at h
    · rename_i v h1
      cases v with
      | true => exact gcode_mono hc hl h
      | false => exact gcode_mono hc hl h
    · cases h
  | .block id a, s, r, h => by
    simp only [gcode] at h ⊢
    split at h
    · rename_i i s1 h1
      rw [gcode_mono hc hl h1]
      exact h
    · rename_i e s1 hne h1
      rw [gcode_mono hc hl h1]
      cases e with
      | normal => exact h
      | brk i => exact absurd rfl (hne i)
      | ret => exact h
    · cases h
  | .loop boxes live boxes' live' a, s, r, h => by
    simp only [gcode] at h ⊢
    split at h
    · rename_i e s1 h1
      rw [iter_mono (atHead_mono fun s r h => gcode_mono hc hl h) hl h1]
      exact h
    · cases h
  | .scope a, s, r, h => by
    simp only [gcode] at h ⊢
    exact gcode_mono hc hl h

theorem body_mono (hc : CLe c c') {n m : Nat} (hl : n ≤ m) {f : GFn} {args : List V} {sh : List Blk} {r : V × List Blk} (h : body c n f args sh = some r) : body c' m f args sh = some r := by
  unfold body at h ⊢
  split at h
  · rename_i s h1; rw [gcode_mono hc hl h1]; exact h
  · rename_i s h1; rw [gcode_mono hc hl h1]; exact h
  · cases h
end

section
variable {T : FuncId → Option GFn}
theorem gcall_mono : ∀ {n m : Nat}, n ≤ m → CLe (gcall T n) (gcall T m)
  | 0, _, _ => fun _ _ _ _ h => by cases h
  | n + 1, 0, h => by omega
  | n + 1, m + 1, hl => fun f a s r h => by
    simp only [gcall] at h ⊢
    split at h
    · exact body_mono (gcall_mono (by omega)) (by omega) h
    · cases h

open Classical in
/-- A call, with as much fuel as it wants. -/
noncomputable def lim (T : FuncId → Option GFn) : CallG := fun f a s => if h : ∃ n, (gcall T n f a s).isSome = true then gcall T h.choose f a s else Option.none

theorem lim_iff {f : FuncId} {a : List V} {s : List Blk} {r : V × List Blk} : lim T f a s = some r ↔ ∃ n, gcall T n f a s = some r := by
  constructor
  · intro h
    unfold lim at h
    split at h
    · exact ⟨_, h⟩
    · cases h
  · rintro ⟨n, h⟩
    have hex : ∃ n, (gcall T n f a s).isSome = true := ⟨n, by rw [h]; rfl⟩
    unfold lim
    rw [dif_pos hex]
    have hs := hex.choose_spec
    cases h1 : gcall T hex.choose f a s with
    | none => rw [h1] at hs; cases hs
    | some r' =>
      have e1 := gcall_mono (T := T) (Nat.le_max_left n hex.choose) _ _ _ _ h
      have e2 := gcall_mono (T := T) (Nat.le_max_right n hex.choose) _ _ _ _ h1
      rw [e1] at e2
      exact e2.symm

theorem cle_lim (n : Nat) : CLe (gcall T n) (lim T) := fun _ _ _ _ h => lim_iff.2 ⟨n, h⟩

theorem run1_cont {s : St} {g : GOp} {r : V × St} (h : run1 (lim T) s g = some r) : ∃ n, run1 (gcall T n) s g = some r := by
  cases g with
  | ca k f args =>
    simp only [run1] at h ⊢
    split at h
    · rename_i ff first caps h1
      split at h
      · unfold dataCall at h ⊢
        split at h
        · rename_i ds h2
          split at h
          · rename_i v sh' h3
            obtain ⟨n, h4⟩ := lim_iff.1 h3
            refine ⟨n, ?_⟩
            simp only [h4]
            exact h
          · cases h
        · cases h
      · unfold pureCall at h ⊢
        split at h
        · rename_i ds l h2
          split at h
          · rename_i v sh' h3
            obtain ⟨n, h4⟩ := lim_iff.1 h3
            refine ⟨n, ?_⟩
            simp only [h4]
            exact h
          · cases h
        · cases h
      · unfold sharedCall at h ⊢
        split at h
        · rename_i h2
          split at h
          · rename_i v sh' h3
            obtain ⟨n, h4⟩ := lim_iff.1 h3
            refine ⟨n, ?_⟩
            rw [if_pos h2, h4]
            exact h
          · cases h
        · cases h
    · cases h
  | _ => exact ⟨0, h⟩

theorem step1_cont {g : GOper} {s s' : St} (h : step1 (lim T) g s = some s') : ∃ n, step1 (gcall T n) g s = some s' := by
  have key : ∀ {r : St}, ((run1 (lim T) s g.op).map fun (v, s') => put s' g.dst v) = some r → ∃ n, ((run1 (gcall T n) s g.op).map fun (v, s') => put s' g.dst v) = some r := by
    intro r h
    cases h1 : run1 (lim T) s g.op with
    | none => rw [h1] at h; cases h
    | some x =>
      rw [h1] at h
      obtain ⟨n, h2⟩ := run1_cont h1
      exact ⟨n, by rw [h2]; exact h⟩
  unfold step1 at h ⊢
  split at h
  · exact key h
  · split at h
    · split at h
      · rename_i h1; simp only [if_pos h1]; exact key h
      · rename_i h1; simp only [if_neg h1]; exact ⟨0, h⟩
    · exact ⟨0, h⟩
    · cases h

theorem steps_cont : ∀ {l : List GOper} {s s' : St}, steps (lim T) l s = some s' → ∃ n, steps (gcall T n) l s = some s'
  | [], _, _, h => ⟨0, h⟩
  | g :: l, s, s', h => by
    simp only [steps] at h ⊢
    split at h
    · rename_i s1 h1
      obtain ⟨n, e1⟩ := step1_cont h1
      obtain ⟨m, e2⟩ := steps_cont h
      refine ⟨max n m, ?_⟩
      rw [step1_mono (gcall_mono (Nat.le_max_left n m)) e1]
      exact steps_mono (gcall_mono (Nat.le_max_right n m)) e2
    · cases h

theorem iter_cont {b : Nat → St → Option (GExit × St)} {b' : St → Option (GExit × St)} (hm : ∀ n m s r, n ≤ m → b n s = some r → b m s = some r) (hb : ∀ s r, b' s = some r → ∃ n, b n s = some r) :
    ∀ {k : Nat} {s : St} {r : GExit × St}, iter b' k s = some r → ∃ n, iter (b n) k s = some r
  | 0, _, _, h => by cases h
  | k + 1, s, r, h => by
    simp only [iter] at h ⊢
    split at h
    · rename_i s1 h1
      obtain ⟨n, e1⟩ := hb _ _ h1
      obtain ⟨m, e2⟩ := iter_cont hm hb h
      refine ⟨max n m, ?_⟩
      rw [hm _ _ _ _ (Nat.le_max_left n m) e1]
      exact iter_mono (fun s r h => hm _ _ s r (Nat.le_max_right n m) h) (Nat.le_refl _) e2
    · rename_i e s1 hne h1
      obtain ⟨n, e1⟩ := hb _ _ h1
      refine ⟨n, ?_⟩
      rw [e1]
      cases e with
      | normal => exact absurd rfl hne
      | brk i => exact h
      | ret => exact h
    · cases h

theorem gcode_cont {k : Nat} : ∀ {x : GCode} {s : St} {r : GExit × St}, gcode (lim T) k x s = some r → ∃ n, gcode (gcall T n) k x s = some r
  | .skip, _, _, h => ⟨0, h⟩
  | .label, _, _, h => ⟨0, h⟩
  | .ret, _, _, h => ⟨0, h⟩
  | .exit _, _, _, h => ⟨0, h⟩
  | .ops _ l, s, r, h => by
    simp only [gcode, Option.map_eq_some_iff] at h ⊢
    obtain ⟨s', h1, h2⟩ := h
    obtain ⟨n, h3⟩ := steps_cont h1
    exact ⟨n, s', h3, h2⟩
  | .seq a b, s, r, h => by
    simp only [gcode] at h ⊢
    split at h
    · rename_i s1 h1
      obtain ⟨n, e1⟩ := gcode_cont h1
      obtain ⟨m, e2⟩ := gcode_cont h
      refine ⟨max n m, ?_⟩
      rw [gcode_mono (gcall_mono (Nat.le_max_left n m)) (Nat.le_refl _) e1]
      exact gcode_mono (gcall_mono (Nat.le_max_right n m)) (Nat.le_refl _) e2
    · rename_i e s1 hne h1
      obtain ⟨n, e1⟩ := gcode_cont h1
      refine ⟨n, ?_⟩
      rw [e1]
      cases e with
      | normal => exact absurd rfl hne
      | brk i => exact h
      | ret => exact h
    · cases h
  | .cond x a b, s, r, h => by
    simp only [gcode] at h ⊢
    split at h
    · rename_i v h1
      cases v with
      | true => exact gcode_cont h
      | false => exact gcode_cont h
    · cases h
  | .block id a, s, r, h => by
    simp only [gcode] at h ⊢
    split at h
    · rename_i i s1 h1
      obtain ⟨n, e1⟩ := gcode_cont h1
      exact ⟨n, by rw [e1]; exact h⟩
    · rename_i e s1 hne h1
      obtain ⟨n, e1⟩ := gcode_cont h1
      refine ⟨n, ?_⟩
      rw [e1]
      cases e with
      | normal => exact h
      | brk i => exact absurd rfl (hne i)
      | ret => exact h
    · cases h
  | .loop boxes live boxes' live' a, s, r, h => by
    simp only [gcode] at h ⊢
    split at h
    · rename_i e s1 h1
      obtain ⟨n, h2⟩ := iter_cont (b := fun n => atHead boxes live (gcode (gcall T n) k a)) (fun n m s r hl h => atHead_mono (fun s r h => gcode_mono (gcall_mono hl) (Nat.le_refl _) h) s r h) (fun s r h => by
          unfold atHead at h ⊢
          split at h
          · exact gcode_cont h
          · cases h) h1
      exact ⟨n, by rw [h2]; exact h⟩
    · cases h
  | .scope a, s, r, h => by
    simp only [gcode] at h ⊢
    exact gcode_cont h

/-- The limit's equation. -/
theorem lim_body {f : FuncId} {g : GFn} {args : List V} {sh : List Blk} {r : V × List Blk} (k : Nat) (hT : T f = some g) (h : body (lim T) k g args sh = some r) : lim T f args sh = some r := by
  have : ∃ n, body (gcall T n) k g args sh = some r := by
    unfold body at h ⊢
    split at h
    · rename_i s h1
      obtain ⟨n, e⟩ := gcode_cont h1
      exact ⟨n, by rw [e]; exact h⟩
    · rename_i s h1
      obtain ⟨n, e⟩ := gcode_cont h1
      exact ⟨n, by rw [e]; exact h⟩
    · cases h
  obtain ⟨n, e⟩ := this
  refine lim_iff.2 ⟨max n k + 1, ?_⟩
  simp only [gcall, hT]
  exact body_mono (gcall_mono (Nat.le_max_left n k)) (Nat.le_max_right n k) e

theorem lim_sound {P : Program} (hmix : P.follows .mixedOrders = true) (hT : TableOk P T) : Sound P (lim T) := by
  intro f args sh v sh' h
  obtain ⟨n, e⟩ := lim_iff.1 h
  exact gcall_sound hmix hT n f args sh v sh' e
end
end Go.Gm
