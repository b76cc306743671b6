/-
  The arguments of chapter 03: Ids, events, stored events.
-/
import Derived.Test.YtnmlhilckjmhnaaDoorEV4
import Derived.Test.YtnmlhilckjmhnaaDoorAbs20
namespace Go.Proofs.YtnmlhilckjmhnaaDoor
open Go.Abs
set_option linter.all false
def tdId : TD := .cons (.int .u64) (.cons (.int .u64) .nil)
def tdEv : TD := .cons (.int .u64) (.cons (.int .i64) (.cons (.int .i64) .nil))
def tdSt : TD := .cons tdId (.cons (.int .u64) (.cons (.int .u64) (.cons (.int .i64) (.cons (.int .i64) .nil))))
def cId (x : Int × Int) : List AV := [.int .u64 x.1, .int .u64 x.2]
def cEv (x : Int × Int × Int) : List AV := [.int .u64 x.1, .int .i64 x.2.1, .int .i64 x.2.2]
def cSt (x : Int × Int × Int × Int × Int × Int) : List AV := [.int .u64 x.1, .int .u64 x.2.1, .int .u64 x.2.2.1, .int .u64 x.2.2.2.1, .int .i64 x.2.2.2.2.1, .int .i64 x.2.2.2.2.2]
def U64 (n : Int) : Prop := 0 ≤ n ∧ n ≤ 18446744073709551615
theorem has_id (l : List AV) (h : tdId.Has l) : ∃ y, l = cId y ∧ (U64 y.1 ∧ U64 y.2) := by
  obtain ⟨_, _, rfl, ⟨a, rfl, h1⟩, _, _, rfl, ⟨b, rfl, h2⟩, rfl⟩ := h
  exact ⟨(a, b), by simp [cId], by simpa [U64, Lit.wf, IntKind.min, IntKind.max, IntKind.bits, IntKind.signed] using h1, by simpa [U64, Lit.wf, IntKind.min, IntKind.max, IntKind.bits, IntKind.signed] using h2⟩
theorem has_ev (l : List AV) (h : tdEv.Has l) : ∃ y, l = cEv y ∧ (U64 y.1 ∧ I64 y.2.1 ∧ I64 y.2.2) := by
  obtain ⟨_, _, rfl, ⟨a, rfl, h1⟩, _, _, rfl, ⟨b, rfl, h2⟩, _, _, rfl, ⟨c, rfl, h3⟩, rfl⟩ := h
  exact ⟨(a, b, c), by simp [cEv], by simpa [U64, Lit.wf, IntKind.min, IntKind.max, IntKind.bits, IntKind.signed] using h1, by simpa [I64, Lit.wf, IntKind.min, IntKind.max, IntKind.bits, IntKind.signed] using h2, by simpa [I64, Lit.wf, IntKind.min, IntKind.max, IntKind.bits, IntKind.signed] using h3⟩
theorem has_st (l : List AV) (h : tdSt.Has l) : ∃ y, l = cSt y ∧ True := by
  obtain ⟨_, _, rfl, ⟨_, _, rfl, ⟨a, rfl, _⟩, _, _, rfl, ⟨b, rfl, _⟩, rfl⟩, _, _, rfl, ⟨c, rfl, _⟩, _, _, rfl, ⟨d, rfl, _⟩, _, _, rfl, ⟨e, rfl, _⟩, _, _, rfl, ⟨f, rfl, _⟩, rfl⟩ := h
  exact ⟨(a, b, c, d, e, f), by simp [cSt], trivial⟩
end Go.Proofs.YtnmlhilckjmhnaaDoor
