/-
  The arguments of chapter 26: queues and lists of items.
-/
import Derived.Test.YtelmgkneacbneaaQ5
import Derived.Test.YtelmgkneacbneaaAbs20
namespace Go.Proofs.Ytelmgkneacbneaa
open Go.Abs
set_option linter.all false
abbrev i64T : TD := .int .i64
def tdId : TD := .cons (.int .u64) (.cons (.int .u64) .nil)
def tdIt : TD := .cons i64T (.cons i64T (.cons (.sl tdId) (.cons (.sl i64T) (.cons (.sl i64T) (.cons i64T (.cons i64T .nil))))))
def tdQ : TD := .cons i64T (.cons (.sl tdIt) (.cons i64T .nil))
theorem has_id (l : List AV) (h : tdId.Has l) : ∃ y, l = cId y ∧ True := by
  obtain ⟨_, _, rfl, ⟨a, rfl, _⟩, _, _, rfl, ⟨b, rfl, _⟩, rfl⟩ := h
  exact ⟨(a, b), by simp [cId], trivial⟩
theorem has_int (l : List AV) (h : i64T.Has l) : ∃ y, l = cInt y ∧ (-9223372036854775808 ≤ y ∧ y ≤ 9223372036854775807) := by
  obtain ⟨a, rfl, h1⟩ := h
  exact ⟨a, by simp [cInt], by simpa [Lit.wf, IntKind.min, IntKind.max, IntKind.bits, IntKind.signed] using h1⟩
theorem has_it (l : List AV) (h : tdIt.Has l) : ∃ y, l = cIt y ∧ True := by
  obtain ⟨_, _, rfl, ⟨a, rfl, _⟩, _, _, rfl, ⟨b, rfl, _⟩, _, _, rfl, h1, _, _, rfl, h2, _, _, rfl, h3, _, _, rfl, ⟨c, rfl, _⟩, _, _, rfl, ⟨d, rfl, _⟩, rfl⟩ := h
  obtain ⟨x1, rfl, _⟩ := has_list has_id h1
  obtain ⟨x2, rfl, _⟩ := has_list has_int h2
  obtain ⟨x3, rfl, _⟩ := has_list has_int h3
  exact ⟨⟨a, b, x1, x2, x3, c, d⟩, by simp [cIt], trivial⟩
theorem has_q (l : List AV) (h : tdQ.Has l) : ∃ y, l = cQ y ∧ True := by
  obtain ⟨_, _, rfl, ⟨a, rfl, _⟩, _, _, rfl, h1, _, _, rfl, ⟨b, rfl, _⟩, rfl⟩ := h
  obtain ⟨x1, rfl, _⟩ := has_list has_it h1
  exact ⟨⟨a, x1, b⟩, by simp [cQ], trivial⟩
end Go.Proofs.Ytelmgkneacbneaa
