/-
  Ghost values: pure data D, and what it means that a value of the model shows such data in memory that stays as it is.
-/
import Derived.WalkKit
import Derived.Calls
namespace Go.Gm
set_option linter.unusedSimpArgs false
set_option linter.unusedVariables false

/-- Pure data: a value together with all that it leads to, none of which will be written again. -/
inductive D where
  | int (k : IntKind) (n : Int)
  | bool (b : Bool)
  | str (s : ByteArray)
  | nilSl
  | sl (full : Bool) (es : Nat) (xs : List (List D))
  | agg (cs : List D)
  | pp (cells : List D) (off : Nat)
  | fn (f : Fn) (first caps : List D)
  | nilFn
  | nilPtr
  | iface (t : TypeId) (x : D)
  | nilIface
  | tup (vs : List D)
  deriving Inhabited

/-- Memory that stays as it is. -/
abbrev Mem := Nat → Nat → Option Value

def Mem.le (M M' : Mem) : Prop := ∀ k o u, M k o = some u → M' k o = some u
theorem Mem.le.refl (M : Mem) : M.le M := fun _ _ _ h => h
theorem Mem.le.trans {M M' M'' : Mem} (h : M.le M') (h' : M'.le M'') : M.le M'' := fun k o u e => h' k o u (h k o u e)

/-- All are one cell. -/
def Ones (us : List Value) : Prop := ∀ u ∈ us, u.oneCell' = true

mutual
/-- A value shows data. -/
def DRel (M : Mem) : D → Value → Prop
  | .int k n, v => v = .int k n
  | .bool b, v => v = .bool b
  | .str s, v => v = .string s
  | .nilSl, v => v = .slice none 0 0
  | .sl full es xs, v => ∃ (a : Addr) (cap : Nat), v = .slice (some a) xs.length cap ∧ xs.length ≤ cap ∧ cap ≤ maxLen ∧ (full = true → cap = xs.length) ∧ (xs ≠ [] → a.spot = none) ∧ DRow M es xs a.block a.off
  | .agg cs, v => ∃ us : List Value, v = .agg us.toArray ∧ Ones us ∧ DList M cs us
  | .pp cells off, v => ∃ k o, v = .pointer (some ⟨k, o + off, none⟩) ∧ DCells M cells k o
  | .fn f first caps, v => ∃ us ws : List Value, v = .func f us.toArray ws.toArray ∧ DList M first us ∧ DList M caps ws
  | .nilFn, v => v = .nilFunc
  | .nilPtr, v => v = .pointer none
  | .iface t x, v => ∃ u, v = .iface t u ∧ DRel M x u
  | .nilIface, v => v = .nilIface
  | .tup vs, v => ∃ us : List Value, v = .tuple us.toArray ∧ DList M vs us
def DRow (M : Mem) (es : Nat) : List (List D) → Nat → Nat → Prop
  | [], _, _ => True
  | ys :: r, k, o => ys.length = es ∧ DCells M ys k o ∧ DRow M es r k (o + es)
def DCells (M : Mem) : List D → Nat → Nat → Prop
  | [], _, _ => True
  | x :: r, k, o => (∃ u, M k o = some u ∧ u.oneCell' = true ∧ DRel M x u) ∧ DCells M r k (o + 1)
def DList (M : Mem) : List D → List Value → Prop
  | [], [] => True
  | x :: r, u :: s => DRel M x u ∧ DList M r s
  | _, _ => False
end

mutual
theorem DRel.mono {M M' : Mem} (h : M.le M') : ∀ (x : D) {v : Value}, DRel M x v → DRel M' x v
  | .int _ _, _, e => e
  | .bool _, _, e => e
  | .str _, _, e => e
  | .nilSl, _, e => e
  | .sl _ es xs, _, ⟨a, cap, e, h1, h2, h3, h4, h5⟩ => ⟨a, cap, e, h1, h2, h3, h4, DRow.mono h es xs h5⟩
  | .agg cs, _, ⟨us, e, h0, h1⟩ => ⟨us, e, h0, DList.mono h cs h1⟩
  | .pp cells _, _, ⟨k, o, e, h1⟩ => ⟨k, o, e, DCells.mono h cells h1⟩
  | .fn _ first caps, _, ⟨us, ws, e, h1, h2⟩ => ⟨us, ws, e, DList.mono h first h1, DList.mono h caps h2⟩
  | .nilFn, _, e => e
  | .nilPtr, _, e => e
  | .iface _ x, _, ⟨u, e, h1⟩ => ⟨u, e, DRel.mono h x h1⟩
  | .nilIface, _, e => e
  | .tup vs, _, ⟨us, e, h1⟩ => ⟨us, e, DList.mono h vs h1⟩
theorem DRow.mono {M M' : Mem} (h : M.le M') (es : Nat) : ∀ (xs : List (List D)) {k o : Nat}, DRow M es xs k o → DRow M' es xs k o
  | [], _, _, _ => trivial
  | ys :: r, _, _, ⟨h1, h2, h3⟩ => ⟨h1, DCells.mono h ys h2, DRow.mono h es r h3⟩
theorem DCells.mono {M M' : Mem} (h : M.le M') : ∀ (xs : List D) {k o : Nat}, DCells M xs k o → DCells M' xs k o
  | [], _, _, _ => trivial
  | x :: r, _, _, ⟨⟨u, h1, h2, h3⟩, h4⟩ => ⟨⟨u, h _ _ _ h1, h2, DRel.mono h x h3⟩, DCells.mono h r h4⟩
theorem DList.mono {M M' : Mem} (h : M.le M') : ∀ (xs : List D) {us : List Value}, DList M xs us → DList M' xs us
  | [], [], _ => trivial
  | x :: r, _ :: _, ⟨h1, h2⟩ => ⟨DRel.mono h x h1, DList.mono h r h2⟩
end

theorem DList.length {M : Mem} : ∀ {xs : List D} {us : List Value}, DList M xs us → xs.length = us.length
  | [], [], _ => rfl
  | _ :: _, _ :: _, ⟨_, h⟩ => by simp [DList.length h]
theorem DList.at_ {M : Mem} : ∀ {xs : List D} {us : List Value}, DList M xs us → ∀ {i : Nat} {x : D}, xs[i]? = some x → ∃ u, us[i]? = some u ∧ DRel M x u
  | x :: r, u :: s, ⟨h1, h2⟩, 0, y, e => ⟨u, rfl, by simp at e; exact e ▸ h1⟩
  | _ :: r, _ :: s, ⟨_, h2⟩, i + 1, y, e => by
    obtain ⟨u, h3, h4⟩ := DList.at_ h2 (i := i) (x := y) (by simpa using e)
    exact ⟨u, by simpa using h3, h4⟩
theorem DList.append {M : Mem} : ∀ {xs ys : List D} {us vs : List Value}, DList M xs us → DList M ys vs → DList M (xs ++ ys) (us ++ vs)
  | [], _, [], _, _, h => h
  | _ :: _, _, _ :: _, _, ⟨h1, h2⟩, h => ⟨h1, DList.append h2 h⟩
theorem DCells.at_ {M : Mem} : ∀ {xs : List D} {k o : Nat}, DCells M xs k o → ∀ {i : Nat} {x : D}, xs[i]? = some x → ∃ u, M k (o + i) = some u ∧ u.oneCell' = true ∧ DRel M x u
  | x :: r, k, o, ⟨⟨u, h1, h2, h3⟩, _⟩, 0, y, e => ⟨u, h1, h2, by simp at e; exact e ▸ h3⟩
  | _ :: r, k, o, ⟨_, h4⟩, i + 1, y, e => by
    obtain ⟨u, h1, h2, h3⟩ := DCells.at_ h4 (i := i) (x := y) (by simpa using e)
    exact ⟨u, by rw [show o + (i + 1) = o + 1 + i from by omega]; exact h1, h2, h3⟩
theorem DRow.at_ {M : Mem} {es : Nat} : ∀ {xs : List (List D)} {k o : Nat}, DRow M es xs k o → ∀ {i : Nat} {ys : List D}, xs[i]? = some ys → ys.length = es ∧ DCells M ys k (o + i * es)
  | ys :: r, k, o, ⟨h1, h2, _⟩, 0, y, e => by simp at e; subst e; simpa using ⟨h1, h2⟩
  | _ :: r, k, o, ⟨_, _, h3⟩, i + 1, y, e => by
    have h := DRow.at_ h3 (i := i) (ys := y) (by simpa using e)
    rw [Nat.succ_mul]
    rw [show o + (i * es + es) = o + es + i * es from by omega]
    exact h
theorem DRow.drop {M : Mem} {es : Nat} : ∀ {xs : List (List D)} {k o : Nat} (n : Nat), DRow M es xs k o → DRow M es (xs.drop n) k (o + n * es)
  | xs, k, o, 0, h => by simpa using h
  | [], _, _, n + 1, _ => by simp [DRow]
  | _ :: r, k, o, n + 1, ⟨_, _, h⟩ => by
    have := DRow.drop n h
    rw [Nat.succ_mul, List.drop_succ_cons, show o + (n * es + es) = o + es + n * es from by omega]
    exact this
theorem DRow.take {M : Mem} {es : Nat} : ∀ {xs : List (List D)} {k o : Nat} (n : Nat), DRow M es xs k o → DRow M es (xs.take n) k o
  | _, _, _, 0, _ => by simp [DRow]
  | [], _, _, _ + 1, _ => by simp [DRow]
  | _ :: _, _, _, n + 1, ⟨h1, h2, h3⟩ => by
    rw [List.take_succ_cons]
    exact ⟨h1, h2, DRow.take n h3⟩

end Go.Gm
