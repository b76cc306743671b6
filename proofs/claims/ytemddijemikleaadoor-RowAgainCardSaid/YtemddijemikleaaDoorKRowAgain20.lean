/- Part 20 of the proof of RowAgain: an abstract semantics that is proved sound for the model, contracts of functions in it, and plain facts (Abs20). No condition. -/
import Derived.Test.YtemddijemikleaaDoorKRowAgain19
import Derived.DataReads
import Derived.ChangeArms
set_option linter.all false
namespace Go.Abs
open Go.RowKit Go.ChangeShapes Go.WideShapes
variable {H : Type} {enc : TypeId × Value → H} {P : Program} {w : World}
/-- Types without programs, pointers and so on. A struct is cons .. (cons .. nil). -/
inductive TD where
  | bool
  | int (k : IntKind)
  | str
  | sl (e : TD)
  | nil
  | cons (a r : TD)
def TD.size : TD → Nat
  | .nil => 0
  | .cons a r => a.size + r.size
  | _ => 1
/-- These cells are of such a type. -/
def TD.Has : TD → List AV → Prop
  | .bool, l => ∃ b, l = [.bool b]
  | .int k, l => ∃ n, l = [.int k n] ∧ (Lit.int k n).wf = true
  | .str, l => ∃ s : List UInt8, l = [.str s] ∧ s.length ≤ maxLen
  | .sl e, l => ∃ xs : List (List AV), l = [.sl false xs.length xs.flatten] ∧ xs.length ≤ maxLen ∧ ∀ x ∈ xs, TD.Has e x
  | .nil, l => l = []
  | .cons a r, l => ∃ x y, l = x ++ y ∧ TD.Has a x ∧ TD.Has r y
theorem TD.Has.len : ∀ {d : TD} {l : List AV}, d.Has l → l.length = d.size
  | .bool, l, h => by obtain ⟨b, rfl⟩ := h; rfl
  | .int k, l, h => by obtain ⟨n, rfl, _⟩ := h; rfl
  | .str, l, h => by obtain ⟨n, rfl, _⟩ := h; rfl
  | .sl e, l, h => by obtain ⟨n, rfl, _⟩ := h; rfl
  | .nil, l, h => by subst h; rfl
  | .cons a r, l, h => by
    obtain ⟨x, y, rfl, hx, hy⟩ := h
    simp only [List.length_append, TD.size, hx.len, hy.len]
theorem RelC.flatten {g : Gh} {w : World} : ∀ {us : List (List AV)} {vs : List (List Value)}, us.length = vs.length → (∀ (i : Nat) (a : List AV) (v : List Value), us[i]? = some a → vs[i]? = some v → RelC g w a v) → RelC g w us.flatten vs.flatten
  | [], [], _, _ => by simpa using RelC.nil
  | a :: us, v :: vs, hl, h => by
    rw [List.flatten_cons, List.flatten_cons]
    exact (h 0 a v rfl rfl).append (RelC.flatten (by simpa using hl) fun i a v h1 h2 => h (i + 1) a v (by simpa using h1) (by simpa using h2))
end Go.Abs
