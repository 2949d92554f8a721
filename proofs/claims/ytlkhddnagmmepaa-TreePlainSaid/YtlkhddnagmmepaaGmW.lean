/-
  Words for proofs about runs of the ghost machine: code by its parts, calls by what they answer, loops by what holds at their heads, slices of numbers.
-/
import Derived.Test.YtlkhddnagmmepaaGmV
namespace Go.Gm
set_option linter.unusedSimpArgs false
set_option linter.unusedVariables false

section
variable {call : CallG} {lf : Nat} {s : St}
theorem g_skip : gcode call lf .skip s = some (.normal, s) := rfl
theorem g_label : gcode call lf .label s = some (.normal, s) := rfl
theorem g_ret : gcode call lf .ret s = some (.ret, s) := rfl
theorem g_exit {id : Nat} : gcode call lf (.exit id) s = some (.brk id, s) := rfl
theorem g_ops {d : Bool} {l : List GOper} : gcode call lf (.ops d l) s = (steps call l s).map fun s' => (.normal, s') := rfl
theorem g_seq {a b : GCode} : gcode call lf (.seq a b) s = (match gcode call lf a s with
    | some (.normal, s') => gcode call lf b s'
    | some (e, s') => some (e, s')
    | Option.none => Option.none) := rfl
theorem g_cond {x : Opd} {a b : GCode} : gcode call lf (.cond x a b) s = (match x.ev s with
    | .d (.bool c) => if c then gcode call lf a s else gcode call lf b s
    | _ => Option.none) := rfl
theorem g_block {id : Nat} {a : GCode} : gcode call lf (.block id a) s = (match gcode call lf a s with
    | some (.brk i, s') => if i = id then some (.normal, s') else some (.brk i, s')
    | some (e, s') => some (e, s')
    | Option.none => Option.none) := rfl
theorem g_scope {a : GCode} : gcode call lf (.scope a) s = gcode call lf a s := rfl

/-- A loop: L are the states at its head, each of a smaller measure than the one before; Post holds of what is behind it. -/
theorem loop_rule {α : Type} {bs vs bs' vs' : List Nat} {a : GCode} (L : α → St) (m : α → Nat) (I : α → Prop) (Post : GExit → St → Prop)
    (step : ∀ x, I x → (∃ s2 y, gcode call lf a (L x) = some (.normal, s2) ∧ canon bs vs s2 = some (L y) ∧ I y ∧ m y < m x) ∨
      (∃ e s2 s3, gcode call lf a (L x) = some (e, s2) ∧ e ≠ .normal ∧ canon bs' vs' s2 = some s3 ∧ Post e s3))
    {x : α} (hI : I x) (hl : m x < lf) : ∃ e s', Post e s' ∧ ∀ s, canon bs vs s = some (L x) → gcode call lf (.loop bs vs bs' vs' a) s = some (e, s') := by
  have key : ∀ (n : Nat) (x : α), I x → m x < n → ∃ e s3, Post e s3 ∧ ∀ s, canon bs vs s = some (L x) → ∃ s2, iter (atHead bs vs (gcode call lf a)) n s = some (e, s2) ∧ canon bs' vs' s2 = some s3 := by
    intro n
    induction n with
    | zero => intro x _ h; omega
    | succ n ih =>
      intro x hI hn
      rcases step x hI with ⟨s2, y, h1, h2, h3, h4⟩ | ⟨e, s2, s3, h1, h2, h3, h4⟩
      · obtain ⟨e, s3, q1, q2⟩ := ih y h3 (by omega)
        refine ⟨e, s3, q1, fun s hc => ?_⟩
        obtain ⟨s4, q3, q4⟩ := q2 s2 h2
        exact ⟨s4, by simp only [iter, atHead, hc, h1, q3], q4⟩
      · refine ⟨e, s3, h4, fun s hc => ⟨s2, ?_, h3⟩⟩
        cases e with
        | normal => exact absurd rfl h2
        | brk i => simp only [iter, atHead, hc, h1]
        | ret => simp only [iter, atHead, hc, h1]
  obtain ⟨e, s3, h1, h2⟩ := key lf x hI hl
  refine ⟨e, s3, h1, fun s hc => ?_⟩
  obtain ⟨s2, h3, h4⟩ := h2 s hc
  simp only [gcode, h3, h4, Option.map_some]
end

theorem cl_int {k : IntKind} {n : Int} : V.cells (.d (.int k n)) = some [.d (.int k n)] := rfl
theorem cl_bool {b : Bool} : V.cells (.d (.bool b)) = some [.d (.bool b)] := rfl
theorem cl_str {b : ByteArray} : V.cells (.d (.str b)) = some [.d (.str b)] := rfl
theorem cl_nil : V.cells (.d .nilSl) = some [.d .nilSl] := rfl
theorem cl_nilFn : V.cells (.d .nilFn) = some [.d .nilFn] := rfl
theorem cl_sl {f : Bool} {es : Nat} {xs : List (List D)} : V.cells (.d (.sl f es xs)) = some [.d (.sl f es xs)] := rfl
theorem cl_dfn {f : Fn} {a b : List D} : V.cells (.d (.fn f a b)) = some [.d (.fn f a b)] := rfl
theorem cl_agg {cs : List D} : V.cells (.d (.agg cs)) = some (cs.map V.d) := rfl
theorem cl_vagg {cs : List V} : V.cells (.agg cs) = some cs := rfl
theorem cl_rs {a b c : Nat} : V.cells (.rs a b c) = some [.rs a b c] := rfl
theorem cl_sp {a b c : Nat} : V.cells (.sp a b c) = some [.sp a b c] := rfl
theorem cl_lp {a b : Nat} : V.cells (.lp a b) = some [.lp a b] := rfl
theorem cl_fn {f : Fn} {a b : List V} : V.cells (.fn f a b) = some [.fn f a b] := rfl

/-! ### what calls answer -/
/-- A call of data answers data. -/
def Ret (T : FuncId → Option GFn) (f : FuncId) (args : List D) (x : D) : Prop :=
  ∃ (v : V) (sh : List Blk) (l : List Nat), lim T f (args.map V.d) [] = some (v, sh) ∧ toD sh deepest v = some (x, l)

section
variable {T : FuncId → Option GFn} {f : FuncId} {g : GFn}
theorem toD_d {sh : List Blk} {n : Nat} {x : D} : toD sh n (.d x) = some (x, []) := by cases n <;> rfl

theorem Ret.of {args : List D} {x : D} (lf : Nat) (hT : T f = some g) (h : ∃ (v : V) (sh : List Blk) (l : List Nat), body (lim T) lf g (args.map V.d) [] = some (v, sh) ∧ toD sh deepest v = some (x, l)) : Ret T f args x := by
  obtain ⟨v, sh, l, h1, h2⟩ := h
  exact ⟨v, sh, l, lim_body lf hT h1, h2⟩
theorem Ret.ofD {args : List D} {x : D} (lf : Nat) (hT : T f = some g) (h : ∃ sh : List Blk, body (lim T) lf g (args.map V.d) [] = some (.d x, sh)) : Ret T f args x := by
  obtain ⟨sh, h1⟩ := h
  exact ⟨_, sh, [], lim_body lf hT h1, toD_d⟩

theorem allD_map (ds : List D) : allD (ds.map V.d) = some ds := by
  induction ds with
  | nil => rfl
  | cons x r ih => simp [allD, ih]

theorem Ret.data {args : List D} {x : D} (h : Ret T f args x) (s : St) : dataCall (lim T) s f (args.map V.d) = some (.d x, s) := by
  obtain ⟨v, sh, l, h1, h2⟩ := h
  simp only [dataCall, allD_map, h1, h2]
theorem Ret.c0 {x : D} (h : Ret T f [] x) (s : St) : dataCall (lim T) s f [] = some (.d x, s) := h.data s
theorem Ret.c1 {a x : D} (h : Ret T f [a] x) (s : St) : dataCall (lim T) s f [.d a] = some (.d x, s) := h.data s
theorem Ret.c2 {a b x : D} (h : Ret T f [a, b] x) (s : St) : dataCall (lim T) s f [.d a, .d b] = some (.d x, s) := h.data s
theorem Ret.c3 {a b c x : D} (h : Ret T f [a, b, c] x) (s : St) : dataCall (lim T) s f [.d a, .d b, .d c] = some (.d x, s) := h.data s
theorem Ret.c4 {a b c d x : D} (h : Ret T f [a, b, c, d] x) (s : St) : dataCall (lim T) s f [.d a, .d b, .d c, .d d] = some (.d x, s) := h.data s

/-- A call of what comes to data. -/
theorem Ret.pure {args : List D} {x : D} {s : St} {vs : List V} {l : List Nat} (h : Ret T f args x) (hv : toDs s.sh deepest vs = some (args, l)) : pureCall (lim T) s f vs = some (.d x, { s with sh := freeze s.sh l }) := by
  obtain ⟨v, sh, l', h1, h2⟩ := h
  simp only [pureCall, hv, h1, h2]
end

/-! ### slices of numbers -/
/-- A slice of 64-bit numbers: nil, or one with or without room behind it. -/
def S (k : Option Bool) (l : List Nat) : D :=
  match k with
  | Option.none => .nilSl
  | some f => .sl f 1 (l.map fun n : Nat => [.int .u64 (n : Int)])
/-- Its numbers are such; nil has none. -/
def Fit (k : Option Bool) (l : List Nat) : Prop := (k = Option.none → l = []) ∧ ∀ n ∈ l, n < 18446744073709551616
/-- Limbs, as a struct. -/
abbrev N (k : Option Bool) (l : List Nat) : D := .agg [S k l]

section
variable {k : Option Bool} {l : List Nat} {s : St}
theorem S_nil : S Option.none [] = .nilSl := rfl
theorem fit_nil : Fit Option.none [] := ⟨fun _ => rfl, by simp⟩
theorem cells_S : V.cells (.d (S k l)) = some [.d (S k l)] := by cases k <;> rfl
theorem lenV_S (h : Fit k l) : lenV s (.d (S k l)) = some l.length := by
  cases k with
  | none => rw [h.1 rfl]; rfl
  | some f => simp [S, lenV]
theorem nilV_S : nilV (.d (S k l)) = some k.isNone := by cases k <;> rfl
theorem elemP_S (h : Fit k l) {i : Int} (h0 : 0 ≤ i) (h1 : i < l.length) : elemP s 1 (.d (S k l)) i = some (.d (.pp [.int .u64 ((l.getD i.toNat 0 : Nat) : Int)] 0)) := by
  cases k with
  | none => rw [h.1 rfl] at h1; simp at h1; omega
  | some f =>
    have : i.toNat < l.length := by omega
    simp [S, elemP, h0, this]
theorem elemP_rs {es b off len : Nat} {i : Int} : elemP s es (.rs b off len) i = (match s.sh[b]? with
    | some blk => if blk.cells.length = off + len * blk.es ∧ blk.es = es ∧ 0 ≤ i ∧ i < len then some (.sp b blk.cells.length (off + i.toNat * es)) else Option.none
    | Option.none => Option.none) := rfl
theorem sliceV_S (h : Fit k l) {i : Int} (h0 : 0 ≤ i) (h1 : i ≤ l.length) : sliceV 1 (.d (S k l)) Option.none (some i) = some (.d (S (k.map fun f => f && i == l.length) (l.take i.toNat))) := by
  cases k with
  | none =>
    rw [h.1 rfl] at h1
    simp at h1
    have : i = 0 := by omega
    subst this
    simp [S, sliceV]
  | some f => simp [S, sliceV, h0, h1, List.map_take]
theorem flat_nums : ∀ l : List Nat, ((l.map fun n : Nat => [D.int .u64 (n : Int)]).flatten).map V.d = l.map fun n : Nat => V.d (.int .u64 (n : Int))
  | [] => rfl
  | x :: r => by simp [flat_nums r]
theorem rowOf_S (h : Fit k l) : rowOf s 1 (.d (S k l)) = some (l.map fun n : Nat => V.d (.int .u64 (n : Int))) := by
  cases k with
  | none => rw [h.1 rfl]; rfl
  | some f => simp only [S, rowOf, if_true, flat_nums]
theorem Fit.take (h : Fit k l) (i : Nat) {k' : Option Bool} (hk : k' = Option.none → k = Option.none) : Fit k' (l.take i) := ⟨fun e => by rw [h.1 (hk e)]; simp, fun n hn => h.2 n (List.mem_of_mem_take hn)⟩
theorem Fit.sub (h : Fit k l) {k' : Option Bool} {l' : List Nat} (hk : k' = Option.none → l' = []) (hl : ∀ n ∈ l', n ∈ l) : Fit k' l' := ⟨hk, fun n hn => h.2 n (hl n hn)⟩
theorem Fit.getD (h : Fit k l) (i : Nat) : l.getD i 0 < 18446744073709551616 := by
  rw [List.getD_eq_getElem?_getD]
  cases e : l[i]? with
  | none => simp
  | some x => exact h.2 x (List.mem_of_getElem? e)

/-- A block of numbers, as data. -/
theorem allBy_nums (sh : List Blk) (n : Nat) : ∀ l : List Nat, allBy (toD sh n) (l.map fun m : Nat => V.d (.int .u64 (m : Int))) = some (l.map fun m : Nat => D.int .u64 (m : Int), [])
  | [] => rfl
  | x :: r => by simp only [List.map_cons, allBy, toD_d, allBy_nums sh n r, List.append_nil]
theorem chunk_nums : ∀ l : List Nat, chunk 1 l.length (l.map fun m : Nat => D.int .u64 (m : Int)) = l.map fun m : Nat => [D.int .u64 (m : Int)]
  | [] => rfl
  | x :: r => by simp [chunk, chunk_nums r]
/-- What is in a block of its own comes to a slice. -/
theorem toD_block {sh : List Blk} {b : Nat} {ety : TypeId} {fz : Bool} {l : List Nat} {n : Nat} (hb : sh[b]? = some ⟨l.map fun m : Nat => V.d (.int .u64 (m : Int)), 1, ety, fz⟩) :
    toD sh (n + 1) (.rs b 0 l.length) = some (S (some false) l, [b]) := by
  simp [toD, hb, allBy_nums, chunk_nums, S]
theorem noLps_nums : ∀ l : List Nat, noLps (l.map fun m : Nat => V.d (.int .u64 (m : Int))) = true
  | [] => rfl
  | x :: r => by simp [noLps, noLp, noLps_nums r]
end

theorem maxD_int {k k' : IntKind} {x y : Int} : maxD (.int k x) (.int k' y) = some (.int k (max x y)) := by
  simp only [maxD, Option.some.injEq, D.int.injEq, true_and]
  split <;> omega
theorem minD_int {k k' : IntKind} {x y : Int} : minD (.int k x) (.int k' y) = some (.int k (min x y)) := by
  simp only [minD, Option.some.injEq, D.int.injEq, true_and]
  split <;> omega
theorem b_lss {k : IntKind} {x y : Int} : bin .lss (.int k x) (.int k y) = some (.bool (decide (x < y))) := by simp [bin]
theorem b_gtr {k : IntKind} {x y : Int} : bin .gtr (.int k x) (.int k y) = some (.bool (decide (x > y))) := by simp [bin]
theorem b_geq {k : IntKind} {x y : Int} : bin .geq (.int k x) (.int k y) = some (.bool (decide (x ≥ y))) := by simp [bin]
theorem b_leq {k : IntKind} {x y : Int} : bin .leq (.int k x) (.int k y) = some (.bool (decide (x ≤ y))) := by simp [bin]
theorem b_eql {k : IntKind} {x y : Int} : bin .eql (.int k x) (.int k y) = some (.bool (x == y)) := by simp [bin]
theorem b_neq {k : IntKind} {x y : Int} : bin .neq (.int k x) (.int k y) = some (.bool (x != y)) := by simp [bin]
theorem b_add64 {x y : Int} : bin .add (.int .i64 x) (.int .i64 y) = some (.int .i64 (IntKind.i64.wrap (x + y))) := by simp [bin]
theorem b_sub64 {x y : Int} : bin .sub (.int .i64 x) (.int .i64 y) = some (.int .i64 (IntKind.i64.wrap (x - y))) := by simp [bin]
theorem w64 {n : Int} (h1 : -9223372036854775808 ≤ n) (h2 : n ≤ 9223372036854775807) : IntKind.i64.wrap n = n := by
  simp [IntKind.wrap, IntKind.signed, IntKind.bits]; omega
theorem wu64 {n : Int} (h1 : 0 ≤ n) (h2 : n ≤ 18446744073709551615) : IntKind.u64.wrap n = n := by
  simp [IntKind.wrap, IntKind.signed, IntKind.bits]; omega
end Go.Gm
namespace Go.Gm
/-- Temporaries: all nothing, but for some. -/
def rg (n : Nat) (l : List (Nat × V)) : List V := l.foldl (fun acc p => acc.set p.1 p.2) (List.replicate n V.none)
end Go.Gm
