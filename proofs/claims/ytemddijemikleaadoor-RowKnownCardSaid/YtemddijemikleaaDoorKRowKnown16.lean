/- Part 16 of the proof of RowKnown: an abstract semantics that is proved sound for the model, contracts of functions in it, and plain facts (RU). No condition. -/
import Derived.Test.YtemddijemikleaaDoorKRowKnown15
import Derived.Lib.Join
set_option linter.all false
namespace Go.Proofs.YtemddijemikleaaDoor
open Go.Abs
set_option linter.all false
set_option maxRecDepth 100000
def hexc (n : Nat) : UInt8 := ([48, 49, 50, 51, 52, 53, 54, 55, 56, 57, 97, 98, 99, 100, 101, 102] : List UInt8).getD n 0
def escB (b : UInt8) : List UInt8 := if isPlain b then [b] else if b = 34 ∨ b = 92 then [92, b] else [92, 120, hexc (b.toNat / 16), hexc (b.toNat % 16)]
def bareS (l : List UInt8) : Bool := l.all isBare && (match l with | [] => false | c :: _ => c != 35)
def wordT (q : Bool) (t : List UInt8) : Option (List UInt8) := if q then some (34 :: (t.flatMap escB ++ [34])) else if bareS t then some t else none
structure WI where
  q : Bool
  t : List UInt8
  a : Int
structure RI where
  a : Int
  ws : List WI
def cWI (w : WI) : List AV := [.bool w.q, .str w.t, .int .i64 w.a]
def cRI (r : RI) : List AV := [.int .i64 r.a, .sl false r.ws.length (r.ws.flatMap cWI)]
theorem cWI_len (l : List WI) : (l.flatMap cWI).length = l.length * 3 := flat_len (f := cWI) (fun _ => rfl) l
theorem cRI_len (l : List RI) : (l.flatMap cRI).length = l.length * 2 := flat_len (f := cRI) (fun _ => rfl) l
def toWI (w : Wd) : WI := ⟨w.q, w.t, (w.a : Nat)⟩
def toRI (r : Rw) : RI := ⟨(r.a : Nat), r.ws.map toWI⟩
def wordsT : List WI → Option (List (List UInt8))
  | [] => some []
  | w :: ws => match wordT w.q w.t, wordsT ws with
    | some x, some l => some (x :: l)
    | _, _ => none
def textG (out : List UInt8) : List RI → Except Nat (List UInt8)
  | [] => .ok out
  | r :: rs => if r.ws.length = 0 then .error 7 else match wordsT r.ws with
    | none => .error 3
    | some l => if 1000 < (Lib.join l [32]).length ∨ 20000 < (out ++ (Lib.join l [32] ++ [10])).length then .error 4 else textG (out ++ (Lib.join l [32] ++ [10])) rs
def textS (l : List RI) : Except Nat (List UInt8) := textG [] l
def textV : Except Nat (List UInt8) → AV
  | .error e => .tup [.str [], .int .i64 (e : Nat)]
  | .ok t => .tup [.str t, .int .i64 0]
def wordV : Option (List UInt8) → AV
  | none => .tup [.str [], .int .i64 3]
  | some t => .tup [.str t, .int .i64 0]
theorem escB_len (b : UInt8) : (escB b).length ≤ 4 ∧ 1 ≤ (escB b).length := by
  unfold escB; split
  · simp
  · split <;> simp
theorem esc_len (l : List UInt8) : (l.flatMap escB).length ≤ 4 * l.length := by
  induction l with
  | nil => simp
  | cons b l ih => have := (escB_len b).1; simp only [List.flatMap_cons, List.length_append, List.length_cons]; omega
theorem wordT_len {q : Bool} {t x : List UInt8} (h : wordT q t = some x) : x.length ≤ 4 * t.length + 2 := by
  unfold wordT at h
  have := esc_len t
  split at h
  · cases h; simp only [List.length_cons, List.length_append, List.length_nil]; omega
  · split at h
    · cases h; omega
    · cases h
def LightW (ws : List WI) : Prop := ws.length ≤ 1000 ∧ ∀ w ∈ ws, w.t.length ≤ 20000
def LightR (l : List RI) : Prop := l.length ≤ 1000 ∧ ∀ r ∈ l, LightW r.ws
theorem wordsT_snoc : ∀ (ws : List WI) (w : WI), wordsT (ws ++ [w]) = match wordsT ws, wordT w.q w.t with
    | some l, some x => some (l ++ [x])
    | _, _ => none
  | [], w => by simp only [List.nil_append, wordsT]; cases wordT w.q w.t <;> rfl
  | v :: ws, w => by
    simp only [List.cons_append, wordsT]
    rw [wordsT_snoc ws w]
    cases wordT v.q v.t <;> cases wordsT ws <;> cases wordT w.q w.t <;> rfl
theorem wordsT_bad : ∀ (ws : List WI) (k : Nat) (h : k < ws.length), wordT ws[k].q ws[k].t = none → wordsT ws = none
  | w :: ws, 0, _, h => by simp only [List.getElem_cons_zero] at h; simp [wordsT, h]
  | w :: ws, k + 1, hk, h => by
    simp only [List.getElem_cons_succ] at h
    have := wordsT_bad ws k (by simpa using hk) h
    simp only [wordsT, this]
    cases wordT w.q w.t <;> rfl
theorem wordsT_take {ws : List WI} {l : List (List UInt8)} {k : Nat} (hk : k < ws.length) (h : wordsT (ws.take k) = some l) {x : List UInt8} (hx : wordT ws[k].q ws[k].t = some x) : wordsT (ws.take (k + 1)) = some (l ++ [x]) := by
  rw [← List.take_append_getElem hk, wordsT_snoc, h, hx]
theorem wordsT_len : ∀ (ws : List WI) {l : List (List UInt8)}, wordsT ws = some l → l.length = ws.length ∧ (∀ n, (∀ w ∈ ws, w.t.length ≤ n) → ∀ x ∈ l, x.length ≤ 4 * n + 2)
  | [], l, h => by cases h; simp
  | w :: ws, l, h => by
    simp only [wordsT] at h
    cases hx : wordT w.q w.t with
    | none => rw [hx] at h; cases h
    | some x =>
      cases hl : wordsT ws with
      | none => rw [hx, hl] at h; cases h
      | some l' =>
        rw [hx, hl] at h; cases h
        obtain ⟨h1, h2⟩ := wordsT_len ws hl
        refine ⟨by simp [h1], fun n hn y hy => ?_⟩
        rcases List.mem_cons.1 hy with rfl | hy
        · have := wordT_len hx; have := hn w (by simp); omega
        · exact h2 n (fun w hw => hn w (by simp [hw])) y hy
theorem join_bnd (m : Nat) : ∀ (l : List (List UInt8)), (∀ x ∈ l, x.length ≤ m) → (Lib.join l [32]).length ≤ (m + 1) * l.length := by
  have lens : ∀ (l : List (List UInt8)), (∀ x ∈ l, x.length ≤ m) → Lib.lens l ≤ m * l.length := by
    intro l
    induction l with
    | nil => intro _; simp [Lib.lens]
    | cons x l ih =>
      intro h
      have h1 := h x (by simp)
      have h2 := ih (fun y hy => h y (by simp [hy]))
      simp only [Lib.lens, List.map_cons, List.sum_cons, List.length_cons, Nat.mul_add, Nat.mul_one] at h2 ⊢
      omega
  intro l h
  cases l with
  | nil => simp [Lib.join_nil]
  | cons x l =>
    have := lens (x :: l) h
    rw [Lib.join_length]
    simp only [List.length_cons, List.length_nil, Nat.add_mul, Nat.mul_add, Nat.mul_one, Nat.one_mul] at this ⊢
    omega
end Go.Proofs.YtemddijemikleaaDoor
