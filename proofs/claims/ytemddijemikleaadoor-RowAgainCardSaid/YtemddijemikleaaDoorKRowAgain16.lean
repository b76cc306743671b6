/- Part 16 of the proof of RowAgain: an abstract semantics that is proved sound for the model, contracts of functions in it, and plain facts (RU RP1 RQ1 RQ2 RQ3 RQ4). No condition. -/
import Derived.Test.YtemddijemikleaaDoorKRowAgain15
import Derived.Lib.Join
set_option linter.all false
namespace Go.Proofs.YtemddijemikleaaDoor
open Go.Abs
set_option linter.all false
set_option maxRecDepth 100000
def hexc (n : Nat) : UInt8 := ([48, 49, 50, 51, 52, 53, 54, 55, 56, 57, 97, 98, 99, 100, 101, 102] : List UInt8).getD n 0
def escB (b : UInt8) : List UInt8 := if isPlain b then [b] else if b = 34 ∨ b = 92 then [92, b] else [92, 120, hexc (b.toNat / 16), hexc (b.toNat % 16)]
def bareS (l : List UInt8) : Bool := l.all isBare && (match l with | [] => false | c :: _ => c != 35)
def wordT (q : Bool) (t : List UInt8) : Option (List UInt8) := if q then some (34 :: (t.flatMap escB ++ [34])) else if bareS t then some t else none
structure WI where
  q : Bool
  t : List UInt8
  a : Int
structure RI where
  a : Int
  ws : List WI
def cWI (w : WI) : List AV := [.bool w.q, .str w.t, .int .i64 w.a]
def cRI (r : RI) : List AV := [.int .i64 r.a, .sl false r.ws.length (r.ws.flatMap cWI)]
theorem cWI_len (l : List WI) : (l.flatMap cWI).length = l.length * 3 := flat_len (f := cWI) (fun _ => rfl) l
theorem cRI_len (l : List RI) : (l.flatMap cRI).length = l.length * 2 := flat_len (f := cRI) (fun _ => rfl) l
def toWI (w : Wd) : WI := ⟨w.q, w.t, (w.a : Nat)⟩
def toRI (r : Rw) : RI := ⟨(r.a : Nat), r.ws.map toWI⟩
def wordsT : List WI → Option (List (List UInt8))
  | [] => some []
  | w :: ws => match wordT w.q w.t, wordsT ws with
    | some x, some l => some (x :: l)
    | _, _ => none
def textG (out : List UInt8) : List RI → Except Nat (List UInt8)
  | [] => .ok out
  | r :: rs => if r.ws.length = 0 then .error 7 else match wordsT r.ws with
    | none => .error 3
    | some l => if 1000 < (Lib.join l [32]).length ∨ 20000 < (out ++ (Lib.join l [32] ++ [10])).length then .error 4 else textG (out ++ (Lib.join l [32] ++ [10])) rs
def textS (l : List RI) : Except Nat (List UInt8) := textG [] l
def textV : Except Nat (List UInt8) → AV
  | .error e => .tup [.str [], .int .i64 (e : Nat)]
  | .ok t => .tup [.str t, .int .i64 0]
def wordV : Option (List UInt8) → AV
  | none => .tup [.str [], .int .i64 3]
  | some t => .tup [.str t, .int .i64 0]
theorem escB_len (b : UInt8) : (escB b).length ≤ 4 ∧ 1 ≤ (escB b).length := by
  unfold escB; split
  · simp
  · split <;> simp
theorem esc_len (l : List UInt8) : (l.flatMap escB).length ≤ 4 * l.length := by
  induction l with
  | nil => simp
  | cons b l ih => have := (escB_len b).1; simp only [List.flatMap_cons, List.length_append, List.length_cons]; omega
theorem wordT_len {q : Bool} {t x : List UInt8} (h : wordT q t = some x) : x.length ≤ 4 * t.length + 2 := by
  unfold wordT at h
  have := esc_len t
  split at h
  · cases h; simp only [List.length_cons, List.length_append, List.length_nil]; omega
  · split at h
    · cases h; omega
    · cases h
def LightW (ws : List WI) : Prop := ws.length ≤ 1000 ∧ ∀ w ∈ ws, w.t.length ≤ 20000
def LightR (l : List RI) : Prop := l.length ≤ 1000 ∧ ∀ r ∈ l, LightW r.ws
theorem wordsT_snoc : ∀ (ws : List WI) (w : WI), wordsT (ws ++ [w]) = match wordsT ws, wordT w.q w.t with
    | some l, some x => some (l ++ [x])
    | _, _ => none
  | [], w => by simp only [List.nil_append, wordsT]; cases wordT w.q w.t <;> rfl
  | v :: ws, w => by
    simp only [List.cons_append, wordsT]
    rw [wordsT_snoc ws w]
    cases wordT v.q v.t <;> cases wordsT ws <;> cases wordT w.q w.t <;> rfl
theorem wordsT_bad : ∀ (ws : List WI) (k : Nat) (h : k < ws.length), wordT ws[k].q ws[k].t = none → wordsT ws = none
  | w :: ws, 0, _, h => by simp only [List.getElem_cons_zero] at h; simp [wordsT, h]
  | w :: ws, k + 1, hk, h => by
    simp only [List.getElem_cons_succ] at h
    have := wordsT_bad ws k (by simpa using hk) h
    simp only [wordsT, this]
    cases wordT w.q w.t <;> rfl
theorem wordsT_take {ws : List WI} {l : List (List UInt8)} {k : Nat} (hk : k < ws.length) (h : wordsT (ws.take k) = some l) {x : List UInt8} (hx : wordT ws[k].q ws[k].t = some x) : wordsT (ws.take (k + 1)) = some (l ++ [x]) := by
  rw [← List.take_append_getElem hk, wordsT_snoc, h, hx]
theorem wordsT_len : ∀ (ws : List WI) {l : List (List UInt8)}, wordsT ws = some l → l.length = ws.length ∧ (∀ n, (∀ w ∈ ws, w.t.length ≤ n) → ∀ x ∈ l, x.length ≤ 4 * n + 2)
  | [], l, h => by cases h; simp
  | w :: ws, l, h => by
    simp only [wordsT] at h
    cases hx : wordT w.q w.t with
    | none => rw [hx] at h; cases h
    | some x =>
      cases hl : wordsT ws with
      | none => rw [hx, hl] at h; cases h
      | some l' =>
        rw [hx, hl] at h; cases h
        obtain ⟨h1, h2⟩ := wordsT_len ws hl
        refine ⟨by simp [h1], fun n hn y hy => ?_⟩
        rcases List.mem_cons.1 hy with rfl | hy
        · have := wordT_len hx; have := hn w (by simp); omega
        · exact h2 n (fun w hw => hn w (by simp [hw])) y hy
theorem join_bnd (m : Nat) : ∀ (l : List (List UInt8)), (∀ x ∈ l, x.length ≤ m) → (Lib.join l [32]).length ≤ (m + 1) * l.length := by
  have lens : ∀ (l : List (List UInt8)), (∀ x ∈ l, x.length ≤ m) → Lib.lens l ≤ m * l.length := by
    intro l
    induction l with
    | nil => intro _; simp [Lib.lens]
    | cons x l ih =>
      intro h
      have h1 := h x (by simp)
      have h2 := ih (fun y hy => h y (by simp [hy]))
      simp only [Lib.lens, List.map_cons, List.sum_cons, List.length_cons, Nat.mul_add, Nat.mul_one] at h2 ⊢
      omega
  intro l h
  cases l with
  | nil => simp [Lib.join_nil]
  | cons x l =>
    have := lens (x :: l) h
    rw [Lib.join_length]
    simp only [List.length_cons, List.length_nil, Nat.add_mul, Nat.mul_add, Nat.mul_one, Nat.one_mul] at this ⊢
    omega
end Go.Proofs.YtemddijemikleaaDoor
namespace Go.Proofs.YtemddijemikleaaDoor
open Go.Abs
set_option linter.all false
set_option maxRecDepth 100000
theorem hexV_hexc : ∀ n, n < 16 → hexV (hexc n) = n := by decide
theorem plain_not {b : UInt8} (h : isPlain b = true) : b ≠ 34 ∧ b ≠ 92 ∧ b ≠ 10 := by
  refine ⟨?_, ?_, ?_⟩ <;> (rintro rfl; revert h; decide)
theorem hex_back (b : UInt8) : UInt8.ofNat (16 * (b.toNat / 16) + b.toNat % 16) = b := by
  rw [Nat.div_add_mod]; exact UInt8.ofNat_toNat
theorem escS_hex (b : UInt8) (r : List UInt8) : escS (120 :: hexc (b.toNat / 16) :: hexc (b.toNat % 16) :: r) = some (b, r) := by
  have h1 := hexV_hexc (b.toNat / 16) (by have := b.toNat_lt; omega)
  have h2 := hexV_hexc (b.toNat % 16) (by omega)
  simp only [escS, if_true, pairS, h1, h2]
  rw [if_pos (by have := b.toNat_lt; omega), hex_back]
theorem escS_one {b : UInt8} (h : b = 34 ∨ b = 92) (r : List UInt8) : escS (b :: r) = some (b, r) := by
  have : b ≠ 120 := by rcases h with rfl | rfl <;> decide
  simp only [escS, if_neg this, if_pos h]
theorem quotS_esc : ∀ (t r : List UInt8), quotS (t.flatMap escB ++ 34 :: r) = some (t, r)
  | [], r => by rw [List.flatMap_nil, List.nil_append, quotS_cons, if_pos rfl]
  | b :: t, r => by
    rw [List.flatMap_cons, List.append_assoc]
    have ih := quotS_esc t r
    by_cases hp : isPlain b = true
    · obtain ⟨h1, h2, _⟩ := plain_not hp
      rw [show escB b = [b] from if_pos hp, List.cons_append, List.nil_append, quotS_cons, if_neg h1, if_neg h2, if_pos hp, ih]; rfl
    · by_cases h : b = 34 ∨ b = 92
      · rw [show escB b = [92, b] by unfold escB; rw [if_neg hp, if_pos h], List.cons_append, List.cons_append, List.nil_append, quotS_cons, if_neg (by decide), if_pos rfl, escS_one h]
        simp only [ih]; rfl
      · rw [show escB b = [92, 120, hexc (b.toNat / 16), hexc (b.toNat % 16)] by unfold escB; rw [if_neg hp, if_neg h], List.cons_append, List.cons_append, List.cons_append, List.cons_append, List.nil_append, quotS_cons, if_neg (by decide), if_pos rfl, escS_hex]
        simp only [ih]; rfl
theorem takeWhile_all {p : UInt8 → Bool} : ∀ {t r : List UInt8}, t.all p = true → (∀ c ∈ r.head?, p c = false) → (t ++ r).takeWhile p = t ∧ (t ++ r).dropWhile p = r
  | [], [], _, _ => by simp
  | [], c :: r, _, h => by
    have := h c (by simp)
    simp [List.takeWhile_cons, List.dropWhile_cons, this]
  | b :: t, r, ht, h => by
    simp only [List.all_cons, Bool.and_eq_true] at ht
    have ih := takeWhile_all ht.2 h
    simp [List.takeWhile_cons, List.dropWhile_cons, ht.1, ih.1, ih.2]
theorem blank_bare {c : UInt8} (h : isBlank c = true) : isBare c = false := by
  simp only [isBlank, Bool.or_eq_true, beq_iff_eq] at h
  have : c = 32 ∨ c = 9 := by
    rcases h with h | h
    · left; exact UInt8.toNat_inj.1 (by show c.toNat = 32; omega)
    · right; exact UInt8.toNat_inj.1 (by show c.toNat = 9; omega)
  rcases this with rfl | rfl <;> decide
theorem endOk_head {r : List UInt8} (h : endOk r = true) : ∀ c ∈ r.head?, isBare c = false := by
  cases r with
  | nil => simp
  | cons c r => intro d hd; simp at hd; subst hd; exact blank_bare h
/-- The head of a written word: there is one, no blank, no number sign. -/
theorem wordT_head {q : Bool} {t x : List UInt8} (h : wordT q t = some x) : ∃ c y, x = c :: y ∧ isBlank c = false ∧ c ≠ 35 := by
  unfold wordT at h
  cases q with
  | true => rw [if_pos rfl] at h; cases h; exact ⟨34, _, rfl, by decide, by decide⟩
  | false =>
    rw [if_neg (by decide)] at h
    split at h
    · rename_i hb
      cases h
      cases t with
      | nil => simp [bareS] at hb
      | cons c y =>
        simp only [bareS, List.all_cons, Bool.and_eq_true, bne_iff_ne] at hb
        refine ⟨c, y, rfl, ?_, hb.2⟩
        cases hc : isBlank c with
        | false => rfl
        | true => have := blank_bare hc; rw [this] at hb; exact absurd hb.1.1 (by decide)
    · cases h
theorem wordS_word {q : Bool} {t x r : List UInt8} (h : wordT q t = some x) (hr : endOk r = true) : wordS (x ++ r) = some (q, t, r) := by
  unfold wordT at h
  cases q with
  | true =>
    rw [if_pos rfl] at h; cases h
    have e := quotS_esc t r
    simp only [List.cons_append, List.append_assoc, List.nil_append, wordS, if_true, e, hr]
  | false =>
    rw [if_neg (by decide)] at h
    split at h
    · rename_i hb
      cases h
      cases t with
      | nil => simp [bareS] at hb
      | cons c y =>
        simp only [bareS, Bool.and_eq_true] at hb
        obtain ⟨e1, e2⟩ := takeWhile_all hb.1 (endOk_head hr)
        have h34 : c ≠ 34 := by
          rintro rfl
          have := hb.1; simp only [List.all_cons, Bool.and_eq_true] at this
          exact absurd this.1 (by decide)
        simp only [List.cons_append] at e1 e2 ⊢
        simp only [wordS, if_neg h34, e1, e2, hr, List.isEmpty_cons, if_true]
        rfl
    · cases h
theorem no10_esc (b : UInt8) : ∀ c ∈ escB b, c ≠ 10 := by
  unfold escB
  split
  · rename_i h
    intro c hc; simp at hc; subst hc; exact (plain_not h).2.2
  · split
    · rename_i h
      intro c hc
      simp at hc
      rcases hc with rfl | rfl
      · decide
      · rcases h with rfl | rfl <;> decide
    · have hx : ∀ n, n < 16 → hexc n ≠ 10 := by decide
      intro c hc
      simp at hc
      rcases hc with rfl | rfl | rfl | rfl
      · decide
      · decide
      · exact hx _ (by have := b.toNat_lt; omega)
      · exact hx _ (by omega)
theorem wordT_no10 {q : Bool} {t x : List UInt8} (h : wordT q t = some x) : ∀ c ∈ x, c ≠ 10 := by
  unfold wordT at h
  cases q with
  | true =>
    rw [if_pos rfl] at h; cases h
    intro c hc
    simp only [List.mem_cons, List.mem_append, List.mem_flatMap, List.not_mem_nil, or_false] at hc
    rcases hc with rfl | ⟨b, _, hb⟩ | rfl
    · decide
    · exact no10_esc b c hb
    · decide
  | false =>
    rw [if_neg (by decide)] at h
    split at h
    · rename_i hb
      cases h
      simp only [bareS, Bool.and_eq_true, List.all_eq_true] at hb
      intro c hc e
      subst e
      exact absurd (hb.1 10 hc) (by decide)
    · cases h
theorem lines_no10 : ∀ {x : List UInt8}, (∀ c ∈ x, c ≠ 10) → lines x = [x]
  | [], _ => rfl
  | c :: x, h => by
    have ih := lines_no10 (x := x) (fun d hd => h d (by simp [hd]))
    simp only [lines, if_neg (h c (by simp)), ih]
theorem lines_app10 : ∀ (x y : List UInt8), lines (x ++ 10 :: y) = lines x ++ lines y
  | [], y => by simp [lines]
  | c :: x, y => by
    have ih := lines_app10 x y
    rw [List.cons_append]
    simp only [lines]
    by_cases hc : c = 10
    · rw [if_pos hc, if_pos hc, ih]; rfl
    · rw [if_neg hc, if_neg hc, ih]
      cases hl : lines x with
      | nil => exact absurd hl (lines_ne x)
      | cons z w => rfl
end Go.Proofs.YtemddijemikleaaDoor
namespace Go.Proofs.YtemddijemikleaaDoor
open Go.Abs
set_option linter.all false
set_option maxRecDepth 100000
/-- Words but for their places. -/
def bodyW (ws : List Wd) : List (Bool × List UInt8) := ws.map fun w => (w.q, w.t)
def bodyR (rs : List Rw) : List (List (Bool × List UInt8)) := rs.map fun r => bodyW r.ws
/-- What words are, with any places. -/
def wordsB : Except Nat (List Wd) → Option (List (Bool × List UInt8))
  | .error _ => none
  | .ok ws => some (bodyW ws)
theorem wordsB_cons (w : Wd) (e : Except Nat (List Wd)) : wordsB (consE w e) = (wordsB e).map ((w.q, w.t) :: ·) := by
  cases e <;> rfl
theorem wordsR_off : ∀ (n : Nat) (l : List UInt8) (a b : Nat), l.length ≤ n → wordsB (wordsR l a) = wordsB (wordsR l b) := by
  intro n
  induction n with
  | zero =>
    intro l a b h
    have : l = [] := List.eq_nil_of_length_eq_zero (by omega)
    subst this; rfl
  | succ n ih =>
    intro l a b h
    rw [wordsR_eq l a, wordsR_eq l b]
    have hd := dropWhile_len isBlank l
    cases hl : l.dropWhile isBlank with
    | nil => rfl
    | cons c r =>
      rw [hl] at hd
      simp only
      by_cases h35 : c = 35
      · rw [if_pos h35, if_pos h35]
      · rw [if_neg h35, if_neg h35]
        cases hw : wordS (c :: r) with
        | none => rfl
        | some q =>
          obtain ⟨q, t, r'⟩ := q
          have hlen := wordS_len hw
          simp only
          rw [wordsB_cons, wordsB_cons, ih r' _ (b + (l.length - r'.length)) (by omega)]
/-- The words of a line that is written. -/
theorem wordsR_join : ∀ (ws : List WI) (l : List (List UInt8)) (a : Nat), wordsT ws = some l → wordsB (wordsR (Lib.join l [32]) a) = some (ws.map fun w => (w.q, w.t))
  | [], l, a, h => by cases h; rfl
  | w :: ws, l, a, h => by
    simp only [wordsT] at h
    cases hx : wordT w.q w.t with
    | none => rw [hx] at h; cases h
    | some x =>
      cases hl : wordsT ws with
      | none => rw [hx, hl] at h; cases h
      | some l' =>
        rw [hx, hl] at h; cases h
        have ih := wordsR_join ws l'
        obtain ⟨c, y, e, hb, h35⟩ := wordT_head hx
        have rest : ∀ r, endOk r = true → (∀ b, wordsB (wordsR r b) = some (ws.map fun w => (w.q, w.t))) → wordsB (wordsR (x ++ r) a) = some ((w :: ws).map fun w => (w.q, w.t)) := by
          intro r hr hrr
          have hw := wordS_word hx hr
          have hd : (x ++ r).dropWhile isBlank = c :: (y ++ r) := by rw [e, List.cons_append, List.dropWhile_cons, if_neg (by rw [hb]; decide)]
          rw [wordsR_eq, hd]
          rw [e, List.cons_append] at hw
          simp only [if_neg h35, hw]
          rw [wordsB_cons, hrr]; rfl
        cases l' with
        | nil =>
          have hws : ws = [] := by
            have := (wordsT_len ws hl).1
            exact List.eq_nil_of_length_eq_zero (by simpa using this.symm)
          subst hws
          have := rest [] rfl (fun b => rfl)
          rw [List.append_nil] at this
          rw [show Lib.join [x] [32] = x from by simp [Lib.join]]
          exact this
        | cons z l' =>
          have ej : Lib.join (x :: z :: l') [32] = x ++ (32 :: Lib.join (z :: l') [32]) := by simp [Lib.join]
          rw [ej]
          refine rest _ (show isBlank 32 = true by decide) (fun b => ?_)
          have hz : wordsB (wordsR (Lib.join (z :: l') [32]) (b + 1)) = some (ws.map fun w => (w.q, w.t)) := ih (b + 1) hl
          obtain ⟨v, vs, hv⟩ : ∃ v vs, ws = v :: vs := by
            cases ws with
            | nil => cases hl
            | cons v vs => exact ⟨v, vs, rfl⟩
          have hzh : ∃ d u, Lib.join (z :: l') [32] = d :: u ∧ isBlank d = false := by
            subst hv
            simp only [wordsT] at hl
            cases hx2 : wordT v.q v.t with
            | none => rw [hx2] at hl; cases hl
            | some x2 =>
              cases hl2 : wordsT vs with
              | none => rw [hx2, hl2] at hl; cases hl
              | some l2 =>
                rw [hx2, hl2] at hl; cases hl
                obtain ⟨d, u, e2, hb2, _⟩ := wordT_head hx2
                cases l' with
                | nil => exact ⟨d, u, by simp [Lib.join, e2], hb2⟩
                | cons p l' => exact ⟨d, u ++ ([32] ++ Lib.join (p :: l') [32]), by simp [Lib.join, e2], hb2⟩
          obtain ⟨d, u, e2, hb2⟩ := hzh
          rw [wordsR_skip]
          have hd : (32 :: Lib.join (z :: l') [32]).dropWhile isBlank = Lib.join (z :: l') [32] := by
            rw [List.dropWhile_cons, if_pos (by decide), e2, List.dropWhile_cons, if_neg (by rw [hb2]; decide)]
          rw [hd, wordsR_off _ _ _ (b + 1) (Nat.le_refl _)]
          exact hz
theorem join_no10 : ∀ (ws : List WI) (l : List (List UInt8)), wordsT ws = some l → ∀ c ∈ Lib.join l [32], c ≠ 10
  | [], l, h => by cases h; intro c hc; simp [Lib.join] at hc
  | w :: ws, l, h => by
    simp only [wordsT] at h
    cases hx : wordT w.q w.t with
    | none => rw [hx] at h; cases h
    | some x =>
      cases hl : wordsT ws with
      | none => rw [hx, hl] at h; cases h
      | some l' =>
        rw [hx, hl] at h; cases h
        have ih := join_no10 ws l' hl
        cases l' with
        | nil => intro c hc; simp [Lib.join] at hc; exact wordT_no10 hx c hc
        | cons z l' =>
          intro c hc
          have ej : Lib.join (x :: z :: l') [32] = x ++ (32 :: Lib.join (z :: l') [32]) := by simp [Lib.join]
          rw [ej, List.mem_append, List.mem_cons] at hc
          rcases hc with hc | rfl | hc
          · exact wordT_no10 hx c hc
          · decide
          · exact ih c hc
end Go.Proofs.YtemddijemikleaaDoor
namespace Go.Proofs.YtemddijemikleaaDoor
open Go.Abs
set_option linter.all false
set_option maxRecDepth 100000
abbrev Body := List (Bool × List UInt8)
def rowsB : Except (Nat × Nat) (List Rw) → Option (List Body)
  | .error _ => none
  | .ok rs => some (bodyR rs)
def lineB (x : List UInt8) : Option (List Body) := if 1000 < x.length then none else match wordsB (wordsS x) with
  | none => none
  | some [] => some []
  | some (w :: ws) => some [w :: ws]
def rowsQ : List (List UInt8) → Option (List Body)
  | [] => some []
  | x :: r => (lineB x).bind fun p => (rowsQ r).map (p ++ ·)
theorem rowsB_bind (x y : Except (Nat × Nat) (List Rw)) : rowsB (bindR x y) = (rowsB x).bind fun p => (rowsB y).map (p ++ ·) := by
  cases x <;> cases y <;> simp [bindR, rowsB, bodyR]
theorem bodyW_shift (a : Nat) (ws : List Wd) : bodyW (ws.map (shiftW a)) = bodyW ws := by
  simp [bodyW, shiftW, Function.comp_def]
theorem rowsB_line (x : List UInt8) (a : Nat) : rowsB (lineRow x a) = lineB x := by
  unfold lineRow lineB
  split
  · rfl
  · cases wordsS x with
    | error b => rfl
    | ok ws =>
      cases ws with
      | nil => rfl
      | cons w ws =>
        show some [bodyW ((w :: ws).map (shiftW a))] = _
        rw [bodyW_shift]; rfl
theorem rowsB_rowsL : ∀ (l : List (List UInt8)) (a : Nat), rowsB (rowsL l a) = rowsQ l
  | [], _ => rfl
  | x :: l, a => by rw [rowsL, rowsB_bind, rowsB_line, rowsB_rowsL l]; rfl
theorem rowsB_rowsS {s : List UInt8} (h : s.length ≤ 20000) : rowsB (rowsS s) = rowsQ (lines s) := by
  unfold rowsS; rw [if_neg (by omega), rowsB_rowsL]
theorem rowsQ_app : ∀ (x y : List (List UInt8)), rowsQ (x ++ y) = (rowsQ x).bind fun p => (rowsQ y).map (p ++ ·)
  | [], y => by simp [rowsQ]
  | l :: x, y => by
    simp only [List.cons_append, rowsQ]
    rw [rowsQ_app x y]
    cases lineB l <;> cases rowsQ x <;> cases rowsQ y <;> simp
def bodyI (r : RI) : Body := r.ws.map fun w => (w.q, w.t)
theorem textG_back : ∀ (l : List RI) (out t : List UInt8), textG out l = .ok t → ∃ u, t = out ++ u ∧ (l ≠ [] → t.length ≤ 20000) ∧ rowsQ (lines u) = some (l.map bodyI)
  | [], out, t, h => by cases h; exact ⟨[], by simp, fun h => absurd rfl h, rfl⟩
  | r :: l, out, t, h => by
    simp only [textG] at h
    split at h
    · cases h
    · rename_i h0
      cases hw : wordsT r.ws with
      | none => rw [hw] at h; cases h
      | some x =>
        rw [hw] at h
        simp only at h
        split at h
        · cases h
        · rename_i hc
          obtain ⟨u, e, hl, hq⟩ := textG_back l _ t h
          refine ⟨Lib.join x [32] ++ 10 :: u, by rw [e]; simp, fun _ => ?_, ?_⟩
          · by_cases hn : l = []
            · subst hn; cases h; omega
            · exact hl hn
          · rw [lines_app10, lines_no10 (join_no10 _ _ hw), List.singleton_append, rowsQ, hq]
            have hj := wordsR_join r.ws x 0 hw
            have hb : lineB (Lib.join x [32]) = some [bodyI r] := by
              unfold lineB wordsS
              rw [if_neg (by omega), hj]
              obtain ⟨w, ws, hws⟩ : ∃ w ws, r.ws = w :: ws := by
                cases hr : r.ws with
                | nil => rw [hr] at h0; exact absurd rfl h0
                | cons w ws => exact ⟨w, ws, rfl⟩
              simp only [bodyI, hws, List.map_cons]
            rw [hb]; rfl
theorem text_back {l : List RI} {t : List UInt8} (h : textS l = .ok t) : t.length ≤ 20000 ∧ rowsB (rowsS t) = some (l.map bodyI) := by
  obtain ⟨u, e, hl, hq⟩ := textG_back l [] t h
  rw [List.nil_append] at e; subst e
  have h2 : t.length ≤ 20000 := by
    by_cases hn : l = []
    · subst hn; cases h; simp
    · exact hl hn
  exact ⟨h2, by rw [rowsB_rowsS h2, hq]⟩
theorem takeWhile_holds (p : UInt8 → Bool) : ∀ l : List UInt8, ∀ x ∈ l.takeWhile p, p x = true
  | [], x, h => by simp at h
  | c :: l, x, h => by
    rw [List.takeWhile_cons] at h
    split at h
    · rename_i hc
      rcases List.mem_cons.1 h with rfl | h
      · exact hc
      · exact takeWhile_holds p l x h
    · cases h
/-- Words that were read can be written. -/
def GoodW (w : Wd) : Prop := (wordT w.q w.t).isSome = true
theorem wordS_good {c : UInt8} {l : List UInt8} {q : Bool} {t r : List UInt8} (h35 : c ≠ 35) (h : wordS (c :: l) = some (q, t, r)) : (wordT q t).isSome = true := by
  simp only [wordS] at h
  split at h
  · split at h
    · split at h
      · cases h; rfl
      · cases h
    · cases h
  · split at h
    · cases h
    · rename_i hne
      split at h
      · cases h
        have hb : bareS ((c :: l).takeWhile isBare) = true := by
          unfold bareS
          rw [Bool.and_eq_true]
          refine ⟨List.all_eq_true.2 fun x hx => ?_, ?_⟩
          · exact takeWhile_holds _ _ x hx
          · rw [List.takeWhile_cons] at hne ⊢
            split
            · rename_i he; split at he <;> simp_all
            · rename_i d u he
              split at he
              · cases he; simpa using h35
              · cases he
        unfold wordT
        rw [if_neg (by decide), if_pos hb]; rfl
      · cases h
theorem wordsR_good : ∀ (n : Nat) (l : List UInt8) (a : Nat) (ws : List Wd), l.length ≤ n → wordsR l a = .ok ws → ∀ w ∈ ws, GoodW w := by
  intro n
  induction n with
  | zero =>
    intro l a ws h hw
    have : l = [] := List.eq_nil_of_length_eq_zero (by omega)
    subst this
    cases hw; intro w hw; cases hw
  | succ n ih =>
    intro l a ws h hw
    rw [wordsR_eq] at hw
    have hd := dropWhile_len isBlank l
    cases hl : l.dropWhile isBlank with
    | nil => rw [hl] at hw; cases hw; intro w hw; cases hw
    | cons c r =>
      rw [hl] at hd hw
      simp only at hw
      by_cases h35 : c = 35
      · rw [if_pos h35] at hw; cases hw; intro w hw; cases hw
      · rw [if_neg h35] at hw
        cases hws : wordS (c :: r) with
        | none => rw [hws] at hw; cases hw
        | some q =>
          obtain ⟨q, t, r'⟩ := q
          have hlen := wordS_len hws
          rw [hws] at hw
          simp only at hw
          cases hr : wordsR r' (a + (l.length - r'.length)) with
          | error b => rw [hr] at hw; cases hw
          | ok vs =>
            rw [hr] at hw; cases hw
            intro w hw
            rcases List.mem_cons.1 hw with rfl | hw
            · exact wordS_good h35 hws
            · exact ih r' _ vs (by omega) hr w hw
def GoodR (rs : List Rw) : Prop := ∀ r ∈ rs, r.ws ≠ [] ∧ ∀ w ∈ r.ws, GoodW w
theorem lineRow_good {x : List UInt8} {a : Nat} {rs : List Rw} (h : lineRow x a = .ok rs) : GoodR rs := by
  unfold lineRow at h
  split at h
  · cases h
  · cases hw : wordsS x with
    | error b => rw [hw] at h; cases h
    | ok ws =>
      have hg := wordsR_good _ _ _ _ (Nat.le_refl _) hw
      rw [hw] at h
      cases ws with
      | nil => cases h; intro r hr; cases hr
      | cons w ws =>
        cases h
        intro r hr
        have e := List.mem_singleton.1 hr
        subst e
        refine ⟨by simp, fun v hv => ?_⟩
        obtain ⟨u, hu, rfl⟩ := List.mem_map.1 hv
        exact hg u hu
theorem rowsL_good : ∀ (l : List (List UInt8)) (a : Nat) (rs : List Rw), rowsL l a = .ok rs → GoodR rs
  | [], _, rs, h => by cases h; intro r hr; cases hr
  | x :: l, a, rs, h => by
    rw [rowsL] at h
    cases h1 : lineRow x a with
    | error e => rw [h1] at h; cases h
    | ok p =>
      cases h2 : rowsL l (a + x.length + 1) with
      | error e => rw [h1, h2] at h; cases h
      | ok q =>
        rw [h1, h2] at h; cases h
        intro r hr
        rcases List.mem_append.1 hr with hr | hr
        · exact lineRow_good h1 r hr
        · exact rowsL_good l _ q h2 r hr
theorem wordsT_good : ∀ (ws : List Wd), (∀ w ∈ ws, GoodW w) → ∃ l, wordsT (ws.map toWI) = some l
  | [], _ => ⟨[], rfl⟩
  | w :: ws, h => by
    obtain ⟨l, e⟩ := wordsT_good ws (fun v hv => h v (by simp [hv]))
    obtain ⟨x, hx⟩ := Option.isSome_iff_exists.1 (h w (by simp))
    exact ⟨x :: l, by simp only [List.map_cons, wordsT, toWI, hx]; rw [show wordsT (ws.map toWI) = some l from e]⟩
/-- The text of good rows: too long, or there is one. -/
theorem textG_good : ∀ (rs : List Rw) (out : List UInt8), GoodR rs → textG out (rs.map toRI) = .error 4 ∨ ∃ t, textG out (rs.map toRI) = .ok t
  | [], out, _ => .inr ⟨out, rfl⟩
  | r :: rs, out, h => by
    obtain ⟨h1, h2⟩ := h r (by simp)
    obtain ⟨l, e⟩ := wordsT_good r.ws h2
    simp only [List.map_cons, textG]
    have h0 : ¬ (toRI r).ws.length = 0 := by
      simp only [toRI, List.length_map]
      intro h0; exact h1 (List.eq_nil_of_length_eq_zero h0)
    rw [if_neg h0, show wordsT (toRI r).ws = some l from e]
    simp only
    split
    · exact .inl rfl
    · exact textG_good rs _ (fun x hx => h x (by simp [hx]))
theorem rowsS_good {s : List UInt8} {rs : List Rw} (h : rowsS s = .ok rs) : GoodR rs := by
  unfold rowsS at h
  split at h
  · cases h
  · exact rowsL_good _ _ _ h
end Go.Proofs.YtemddijemikleaaDoor
namespace Go.Proofs.YtemddijemikleaaDoor
open Go.Abs
set_option linter.all false
set_option maxRecDepth 100000
theorem quotS_app : ∀ (n : Nat) (l z : List UInt8) {t r : List UInt8}, l.length ≤ n → quotS l = some (t, r) → quotS (l ++ z) = some (t, r ++ z) := by
  intro n
  induction n with
  | zero =>
    intro l z t r h hq
    have : l = [] := List.eq_nil_of_length_eq_zero (by omega)
    subst this; cases hq
  | succ n ih =>
    intro l z t r h hq
    cases l with
    | nil => cases hq
    | cons c l =>
      simp only [List.length_cons] at h
      rw [List.cons_append, quotS_cons]
      rw [quotS_cons] at hq
      split
      · rename_i hc; rw [if_pos hc] at hq; cases hq; rfl
      · rename_i hc; rw [if_neg hc] at hq
        split
        · rename_i h92; rw [if_pos h92] at hq
          cases he : escS l with
          | none => rw [he] at hq; cases hq
          | some q =>
            obtain ⟨x, r'⟩ := q
            have hlt := escS_len he
            rw [he] at hq
            simp only at hq
            have he2 : escS (l ++ z) = some (x, r' ++ z) := by
              cases l with
              | nil => cases he
              | cons d l =>
                rw [List.cons_append]
                simp only [escS] at he ⊢
                split
                · rename_i h120; rw [if_pos h120] at he
                  cases l with
                  | nil => cases he
                  | cons a l => cases l with
                    | nil => cases he
                    | cons b l =>
                      simp only [pairS, List.cons_append] at he ⊢
                      split
                      · rename_i hh; rw [if_pos hh] at he; cases he; rfl
                      · rename_i hh; rw [if_neg hh] at he; cases he
                · rename_i h120; rw [if_neg h120] at he
                  split
                  · rename_i h3; rw [if_pos h3] at he; cases he; rfl
                  · rename_i h3; rw [if_neg h3] at he; cases he
            rw [he2]
            simp only
            cases hr : quotS r' with
            | none => rw [hr] at hq; cases hq
            | some p =>
              obtain ⟨p1, p2⟩ := p
              rw [hr] at hq
              simp only [Option.map_some, Option.some.injEq, Prod.mk.injEq] at hq
              rw [ih r' z (by omega) hr]
              simp only [Option.map_some, hq.1]
              rw [hq.2]
        · rename_i h92; rw [if_neg h92] at hq
          split
          · rename_i hp; rw [if_pos hp] at hq
            cases hr : quotS l with
            | none => rw [hr] at hq; cases hq
            | some p =>
              obtain ⟨p1, p2⟩ := p
              rw [hr] at hq
              simp only [Option.map_some, Option.some.injEq, Prod.mk.injEq] at hq
              rw [ih l z (by omega) hr]
              simp only [Option.map_some, hq.1]
              rw [hq.2]
          · rename_i hp; rw [if_neg hp] at hq; cases hq
theorem span_app {p : UInt8 → Bool} {z : List UInt8} (hz : ∀ c ∈ z.head?, p c = false) : ∀ l : List UInt8, (l ++ z).takeWhile p = l.takeWhile p ∧ (l ++ z).dropWhile p = l.dropWhile p ++ z
  | [] => by
    cases z with
    | nil => simp
    | cons c z => have := hz c (by simp); simp [List.takeWhile_cons, List.dropWhile_cons, this]
  | c :: l => by
    obtain ⟨h1, h2⟩ := span_app hz l
    rw [List.cons_append, List.takeWhile_cons, List.dropWhile_cons, List.takeWhile_cons, List.dropWhile_cons, h1, h2]
    split <;> simp
theorem endOk_app {r z : List UInt8} (h : endOk r = true) (hz : endOk z = true) : endOk (r ++ z) = true := by
  cases r with
  | nil => exact hz
  | cons c r => exact h
theorem wordS_app {l z : List UInt8} {q : Bool} {t r : List UInt8} (hz : endOk z = true) (h : wordS l = some (q, t, r)) : wordS (l ++ z) = some (q, t, r ++ z) := by
  cases l with
  | nil => cases h
  | cons c l =>
    rw [List.cons_append]
    simp only [wordS] at h ⊢
    split
    · rename_i hc; rw [if_pos hc] at h
      cases hq : quotS l with
      | none => rw [hq] at h; cases h
      | some p =>
        obtain ⟨p1, p2⟩ := p
        rw [hq] at h
        rw [quotS_app l.length l z (Nat.le_refl _) hq]
        simp only at h ⊢
        split at h
        · rename_i he; cases h; rw [if_pos (endOk_app he hz)]
        · cases h
    · rename_i hc; rw [if_neg hc] at h
      obtain ⟨e1, e2⟩ := span_app (p := isBare) (endOk_head hz) (c :: l)
      rw [List.cons_append] at e1 e2
      rw [e1, e2]
      split at h
      · cases h
      · rename_i hn
        rw [if_neg hn]
        split at h
        · rename_i he; cases h; rw [if_pos (endOk_app he hz)]
        · cases h
/-- A remark behind a line. -/
theorem wordsR_rem (z : List UInt8) : ∀ (n : Nat) (l : List UInt8) (a : Nat) (b : Body), l.length ≤ n → wordsB (wordsR l a) = some b → wordsB (wordsR (l ++ 32 :: 35 :: z) a) = some b := by
  have hz : endOk (32 :: 35 :: z) = true := (show isBlank 32 = true by decide)
  have hend : ∀ a, wordsB (wordsR (32 :: 35 :: z) a) = some [] := fun a => by
    rw [wordsR_eq, List.dropWhile_cons, if_pos (by decide), List.dropWhile_cons, if_neg (by decide)]
    rfl
  intro n
  induction n with
  | zero =>
    intro l a b h hb
    have : l = [] := List.eq_nil_of_length_eq_zero (by omega)
    subst this
    cases hb
    exact hend a
  | succ n ih =>
    intro l a b h hb
    rw [wordsR_eq] at hb
    have hd := dropWhile_len isBlank l
    have hsplit : l.takeWhile isBlank ++ l.dropWhile isBlank = l := List.takeWhile_append_dropWhile
    cases hl : l.dropWhile isBlank with
    | nil =>
      rw [hl] at hb
      cases hb
      have hall : ∀ c ∈ l, isBlank c = true := by
        rw [hl, List.append_nil] at hsplit
        rw [← hsplit]; exact takeWhile_holds _ l
      have hdr : (l ++ 32 :: 35 :: z).dropWhile isBlank = 35 :: z := by
        clear hsplit hd hl h
        induction l with
        | nil => rw [List.nil_append, List.dropWhile_cons, if_pos (by decide), List.dropWhile_cons, if_neg (by decide)]
        | cons c l ih2 =>
          rw [List.cons_append, List.dropWhile_cons, if_pos (hall c (by simp))]
          exact ih2 (fun d hd => hall d (by simp [hd]))
      rw [wordsR_eq, hdr]; rfl
    | cons c r =>
      rw [hl] at hd hb
      simp only at hb
      have hnb : isBlank c = false := by
        have : ∀ l : List UInt8, ∀ c r, l.dropWhile isBlank = c :: r → isBlank c = false := by
          intro l
          induction l with
          | nil => intro c r h; cases h
          | cons d l ih2 =>
            intro c r h
            rw [List.dropWhile_cons] at h
            split at h
            · exact ih2 c r h
            · rename_i hx; cases h; simpa using hx
        exact this l c r hl
      have hdr : (l ++ 32 :: 35 :: z).dropWhile isBlank = c :: (r ++ 32 :: 35 :: z) := by
        have hall := takeWhile_holds isBlank l
        rw [hl] at hsplit
        rw [← hsplit]
        generalize l.takeWhile isBlank = p at hall
        clear hsplit hd hl h hb
        induction p with
        | nil => rw [List.nil_append, List.cons_append, List.dropWhile_cons, if_neg (by rw [hnb]; decide)]
        | cons d p ih2 =>
          rw [List.cons_append, List.cons_append, List.dropWhile_cons, if_pos (hall d (by simp))]
          exact ih2 (fun e he => hall e (by simp [he]))
      rw [wordsR_eq, hdr]
      simp only
      by_cases h35 : c = 35
      · rw [if_pos h35] at hb ⊢; exact hb
      · rw [if_neg h35] at hb ⊢
        cases hw : wordS (c :: r) with
        | none => rw [hw] at hb; cases hb
        | some q =>
          obtain ⟨q, t, r'⟩ := q
          have hlen := wordS_len hw
          have hw2 := wordS_app hz hw
          rw [List.cons_append] at hw2
          rw [hw] at hb
          rw [hw2]
          simp only at hb ⊢
          rw [wordsB_cons] at hb ⊢
          cases hr : wordsB (wordsR r' (a + (l.length - r'.length))) with
          | none => rw [hr] at hb; cases hb
          | some b' =>
            rw [hr] at hb
            rw [wordsR_off _ _ _ (a + (l.length - r'.length)) (Nat.le_refl _), ih r' _ b' (by omega) hr]
            exact hb
theorem lineB_rem (z x : List UInt8) (hx : x.length + z.length ≤ 998) {b : List Body} (h : lineB x = some b) : lineB (x ++ 32 :: 35 :: z) = some b := by
  unfold lineB at h ⊢
  rw [if_neg (by omega)] at h
  rw [if_neg (by simp; omega)]
  cases hw : wordsB (wordsS x) with
  | none => rw [hw] at h; cases h
  | some c =>
    rw [hw] at h
    have : wordsB (wordsS (x ++ 32 :: 35 :: z)) = some c := wordsR_rem z _ _ _ _ (Nat.le_refl _) hw
    rw [this]; exact h
theorem lineB_pre (x : List UInt8) (hx : x.length ≤ 998) : lineB (32 :: 9 :: x) = lineB x := by
  unfold lineB
  rw [if_neg (by simp; omega), if_neg (by omega)]
  have : wordsB (wordsS (32 :: 9 :: x)) = wordsB (wordsS x) := by
    unfold wordsS
    rw [wordsR_skip, wordsR_skip x]
    have e : (32 :: 9 :: x).dropWhile isBlank = x.dropWhile isBlank := by
      rw [List.dropWhile_cons, if_pos (by decide), List.dropWhile_cons, if_pos (by decide)]
    rw [e]
    exact wordsR_off _ _ _ _ (Nat.le_refl _)
  rw [this]
theorem lines_len : ∀ (s : List UInt8), (∀ x ∈ lines s, x.length ≤ s.length) ∧ (lines s).length ≤ s.length + 1
  | [] => by simp [lines]
  | c :: s => by
    obtain ⟨h1, h2⟩ := lines_len s
    simp only [lines]
    split
    · refine ⟨fun x hx => ?_, by simp; omega⟩
      rcases List.mem_cons.1 hx with rfl | hx
      · simp
      · have := h1 x hx; simp; omega
    · cases hl : lines s with
      | nil => exact absurd hl (lines_ne s)
      | cons y r =>
        rw [hl] at h1 h2
        refine ⟨fun x hx => ?_, by simp at h2 ⊢; omega⟩
        rcases List.mem_cons.1 hx with rfl | hx
        · have := h1 y (by simp); simp; omega
        · have := h1 x (by simp [hx]); simp; omega
theorem lines_pre (s : List UInt8) : ∃ x r, lines s = x :: r ∧ lines (32 :: 9 :: s) = (32 :: 9 :: x) :: r := by
  cases hl : lines s with
  | nil => exact absurd hl (lines_ne s)
  | cons x r => exact ⟨x, r, rfl, by simp [lines, hl]⟩
theorem lines_suf {z : List UInt8} (hz : ∀ c ∈ z, c ≠ 10) : ∀ (s : List UInt8), ∃ i x, lines s = i ++ [x] ∧ lines (s ++ z) = i ++ [x ++ z]
  | [] => ⟨[], [], rfl, by rw [List.nil_append, lines_no10 hz]; rfl⟩
  | c :: s => by
    obtain ⟨i, x, h1, h2⟩ := lines_suf hz s
    rw [List.cons_append]
    simp only [lines]
    by_cases hc : c = 10
    · rw [if_pos hc, if_pos hc]
      exact ⟨[] :: i, x, by rw [h1]; rfl, by rw [h2]; rfl⟩
    · rw [if_neg hc, if_neg hc, h1, h2]
      cases i with
      | nil => exact ⟨[], c :: x, rfl, rfl⟩
      | cons y i => exact ⟨(c :: y) :: i, x, rfl, rfl⟩
theorem lineB_some : ∀ {ls : List (List UInt8)} {b : List Body}, rowsQ ls = some b → ∀ x ∈ ls, ∃ p, lineB x = some p
  | [], _, _, x, h => by cases h
  | y :: ls, b, hb, x, h => by
    rw [rowsQ] at hb
    cases hy : lineB y with
    | none => rw [hy] at hb; cases hb
    | some p =>
      cases hq : rowsQ ls with
      | none => rw [hy, hq] at hb; cases hb
      | some q =>
        rcases List.mem_cons.1 h with rfl | h
        · exact ⟨p, hy⟩
        · exact lineB_some hq x h
theorem rows_both {s t : List UInt8} {p q : List Body} (hs : s.length ≤ 300) (ht : t.length ≤ 300) (h1 : rowsB (rowsS s) = some p) (h2 : rowsB (rowsS t) = some q) : rowsB (rowsS (s ++ 10 :: t)) = some (p ++ q) := by
  rw [rowsB_rowsS (by omega)] at h1 h2
  rw [rowsB_rowsS (by simp; omega), lines_app10, rowsQ_app, h1, h2]; rfl
def wideT (s t : List UInt8) : List UInt8 := [35, 32, 111, 110, 101, 10, 10, 32, 9] ++ s ++ [10, 32, 10, 35, 10] ++ t ++ [32, 35, 32, 116, 119, 111]
theorem rows_wide {s t : List UInt8} {p q : List Body} (hs : s.length ≤ 300) (ht : t.length ≤ 300) (h1 : rowsB (rowsS s) = some p) (h2 : rowsB (rowsS t) = some q) : rowsB (rowsS (wideT s t)) = some (p ++ q) := by
  rw [rowsB_rowsS (by omega)] at h1 h2
  have hlen : (wideT s t).length ≤ 20000 := by simp [wideT]; omega
  rw [rowsB_rowsS hlen]
  have e : wideT s t = [35, 32, 111, 110, 101] ++ 10 :: ([] ++ 10 :: ((32 :: 9 :: s) ++ 10 :: ([32] ++ 10 :: ([35] ++ 10 :: (t ++ [32, 35, 32, 116, 119, 111]))))) := by simp [wideT]
  rw [e, lines_app10, lines_app10, lines_app10, lines_app10, lines_app10]
  obtain ⟨x, r, ex1, ex2⟩ := lines_pre s
  obtain ⟨i, y, ey1, ey2⟩ := lines_suf (z := [32, 35, 32, 116, 119, 111]) (by decide) t
  have hx := (lines_len s).1 x (by rw [ex1]; simp)
  have hy := (lines_len t).1 y (by rw [ey1]; simp)
  have g1 : rowsQ (lines (32 :: 9 :: s)) = some p := by
    rw [ex2, rowsQ, lineB_pre x (by omega), ← h1, ex1, rowsQ]
  have g2 : rowsQ (lines (t ++ [32, 35, 32, 116, 119, 111])) = some q := by
    obtain ⟨c, hc⟩ := lineB_some h2 y (by rw [ey1]; simp)
    have hr := lineB_rem [32, 116, 119, 111] y (by simp; omega) hc
    rw [ey1, rowsQ_app] at h2
    rw [ey2, rowsQ_app, ← h2]
    simp only [rowsQ, hc, hr]
  rw [rowsQ_app, rowsQ_app, rowsQ_app, rowsQ_app, rowsQ_app, g1, g2]
  have f1 : rowsQ (lines [35, 32, 111, 110, 101]) = some [] := by kernel_rfl
  have f2 : rowsQ (lines []) = some [] := by kernel_rfl
  have f3 : rowsQ (lines [32]) = some [] := by kernel_rfl
  have f4 : rowsQ (lines [35]) = some [] := by kernel_rfl
  rw [f1, f2, f3, f4]
  simp
end Go.Proofs.YtemddijemikleaaDoor
namespace Go.Proofs.YtemddijemikleaaDoor
open Go.Abs
set_option linter.all false
set_option maxRecDepth 100000
theorem quotF_tlen : ∀ (n : Nat) (l : List UInt8) {t r : List UInt8}, quotF n l = some (t, r) → t.length ≤ l.length
  | 0, _, _, _, h => by simp [quotF] at h
  | _ + 1, [], _, _, h => by simp [quotF] at h
  | n + 1, c :: l, t, r, h => by
    simp only [quotF] at h
    split at h
    · cases h; simp
    · split at h
      · split at h
        · rename_i x r' he
          have h1 := escS_len he
          cases hq : quotF n r' with
          | none => rw [hq] at h; cases h
          | some q =>
            rw [hq] at h; simp only [Option.map_some, Option.some.injEq, Prod.mk.injEq] at h
            have h2 := quotF_tlen n r' hq
            rw [← h.1]; simp; omega
        · cases h
      · split at h
        · cases hq : quotF n l with
          | none => rw [hq] at h; cases h
          | some q =>
            rw [hq] at h; simp only [Option.map_some, Option.some.injEq, Prod.mk.injEq] at h
            have h2 := quotF_tlen n l hq
            rw [← h.1]; simp; omega
        · cases h
theorem takeWhile_len2 (p : UInt8 → Bool) (l : List UInt8) : (l.takeWhile p).length ≤ l.length := by
  have h := congrArg List.length (List.takeWhile_append_dropWhile (p := p) (l := l))
  rw [List.length_append] at h; omega
theorem wordS_tlen {l : List UInt8} {q : Bool} {t r : List UInt8} (h : wordS l = some (q, t, r)) : t.length ≤ l.length := by
  unfold wordS at h
  split at h
  · cases h
  · rename_i c l
    split at h
    · split at h
      · rename_i t' r' hq
        split at h
        · cases h
          have := quotF_tlen _ _ hq
          simp; omega
        · cases h
      · cases h
    · split at h
      · cases h
      · split at h
        · cases h
          exact takeWhile_len2 _ _
        · cases h
def LightP (n : Nat) (b : Body) : Prop := b.length ≤ n ∧ ∀ w ∈ b, w.2.length ≤ n
theorem wordsR_lightP : ∀ (n : Nat) (l : List UInt8) (a : Nat) (b : Body), l.length ≤ n → wordsB (wordsR l a) = some b → LightP l.length b := by
  intro n
  induction n with
  | zero =>
    intro l a b h hb
    have : l = [] := List.eq_nil_of_length_eq_zero (by omega)
    subst this; cases hb; exact ⟨Nat.zero_le _, fun w hw => by cases hw⟩
  | succ n ih =>
    intro l a b h hb
    rw [wordsR_eq] at hb
    have hd := dropWhile_len isBlank l
    cases hl : l.dropWhile isBlank with
    | nil => rw [hl] at hb; cases hb; exact ⟨Nat.zero_le _, fun w hw => by cases hw⟩
    | cons c r =>
      rw [hl] at hd hb
      simp only at hb
      by_cases h35 : c = 35
      · rw [if_pos h35] at hb; cases hb; exact ⟨Nat.zero_le _, fun w hw => by cases hw⟩
      · rw [if_neg h35] at hb
        cases hw : wordS (c :: r) with
        | none => rw [hw] at hb; cases hb
        | some q =>
          obtain ⟨q, t, r'⟩ := q
          have hlen := wordS_len hw
          have htl := wordS_tlen hw
          rw [hw] at hb
          simp only at hb
          rw [wordsB_cons] at hb
          cases hr : wordsB (wordsR r' (a + (l.length - r'.length))) with
          | none => rw [hr] at hb; cases hb
          | some b' =>
            rw [hr] at hb; cases hb
            obtain ⟨i1, i2⟩ := ih r' _ b' (by omega) hr
            refine ⟨by simp; omega, fun w hw => ?_⟩
            rcases List.mem_cons.1 hw with rfl | hw
            · show t.length ≤ _; omega
            · have := i2 w hw; omega
theorem lineB_light {x : List UInt8} {p : List Body} (h : lineB x = some p) : p.length ≤ 1 ∧ ∀ b ∈ p, LightP x.length b := by
  unfold lineB at h
  split at h
  · cases h
  · cases hw : wordsB (wordsS x) with
    | none => rw [hw] at h; cases h
    | some b =>
      have hl := wordsR_lightP _ _ _ _ (Nat.le_refl _) hw
      rw [hw] at h
      cases b with
      | nil => cases h; exact ⟨Nat.zero_le _, fun w hw => by cases hw⟩
      | cons w ws => cases h; exact ⟨by simp, fun b hb => by rw [List.mem_singleton.1 hb]; exact hl⟩
theorem rowsQ_light {n : Nat} : ∀ {ls : List (List UInt8)} {p : List Body}, (∀ x ∈ ls, x.length ≤ n) → rowsQ ls = some p → p.length ≤ ls.length ∧ ∀ b ∈ p, LightP n b
  | [], p, _, h => by cases h; exact ⟨Nat.zero_le _, fun w hw => by cases hw⟩
  | x :: ls, p, hx, h => by
    rw [rowsQ] at h
    cases hy : lineB x with
    | none => rw [hy] at h; cases h
    | some p1 =>
      cases hq : rowsQ ls with
      | none => rw [hy, hq] at h; cases h
      | some p2 =>
        rw [hy, hq] at h; cases h
        obtain ⟨a1, a2⟩ := lineB_light hy
        obtain ⟨b1, b2⟩ := rowsQ_light (fun z hz => hx z (by simp [hz])) hq
        refine ⟨by simp; omega, fun b hb => ?_⟩
        rcases List.mem_append.1 hb with hb | hb
        · have := a2 b hb
          have hn := hx x (by simp)
          exact ⟨by have := this.1; omega, fun w hw => by have := this.2 w hw; omega⟩
        · exact b2 b hb
def LightQ (p : List Body) : Prop := p.length ≤ 1000 ∧ ∀ b ∈ p, b.length ≤ 1000 ∧ ∀ w ∈ b, w.2.length ≤ 20000
theorem bodyI_toRI (rs : List Rw) : (rs.map toRI).map bodyI = bodyR rs := by
  simp [bodyR, bodyI, toRI, toWI, bodyW, Function.comp_def]
theorem light_body {l : List RI} (h : LightQ (l.map bodyI)) : LightR l := by
  obtain ⟨h1, h2⟩ := h
  refine ⟨by simpa using h1, fun r hr => ?_⟩
  obtain ⟨h3, h4⟩ := h2 (bodyI r) (List.mem_map.2 ⟨r, hr, rfl⟩)
  refine ⟨by simpa [bodyI] using h3, fun w hw => ?_⟩
  exact h4 (w.q, w.t) (List.mem_map.2 ⟨w, hw, rfl⟩)
theorem rowsS_light {s : List UInt8} {p : List Body} (hs : s.length ≤ 300) (h : rowsB (rowsS s) = some p) : p.length ≤ 301 ∧ ∀ b ∈ p, LightP 300 b := by
  rw [rowsB_rowsS (by omega)] at h
  obtain ⟨l1, l2⟩ := lines_len s
  obtain ⟨a1, a2⟩ := rowsQ_light (n := 300) (fun x hx => by have := l1 x hx; omega) h
  exact ⟨by omega, a2⟩
theorem lightQ_of {p : List Body} (h1 : p.length ≤ 1000) (h2 : ∀ b ∈ p, LightP 300 b) : LightQ p :=
  ⟨h1, fun b hb => ⟨by have := (h2 b hb).1; omega, fun w hw => by have := (h2 b hb).2 w hw; omega⟩⟩
theorem lineRow_err2 {x : List UInt8} {a c b : Nat} (h : lineRow x a = .error (c, b)) : c = 3 ∨ c = 4 := by
  unfold lineRow at h
  split at h
  · cases h; exact .inr rfl
  · cases hw : wordsS x with
    | error d => rw [hw] at h; cases h; exact .inl rfl
    | ok ws =>
      rw [hw] at h
      cases ws <;> cases h
theorem rowsL_err2 : ∀ {l : List (List UInt8)} {a c b : Nat}, rowsL l a = .error (c, b) → c = 3 ∨ c = 4
  | [], _, _, _, h => by cases h
  | x :: l, a, c, b, h => by
    rw [rowsL] at h
    cases h1 : lineRow x a with
    | error e =>
      rw [h1] at h
      obtain ⟨e1, e2⟩ := e
      cases h; exact lineRow_err2 h1
    | ok p =>
      cases h2 : rowsL l (a + x.length + 1) with
      | error e =>
        rw [h1, h2] at h
        obtain ⟨e1, e2⟩ := e
        cases h; exact rowsL_err2 h2
      | ok q => rw [h1, h2] at h; cases h
theorem rowsS_err2 {s : List UInt8} {c b : Nat} (h : rowsS s = .error (c, b)) : c = 3 ∨ c = 4 := by
  unfold rowsS at h
  split at h
  · cases h; exact .inr rfl
  · exact rowsL_err2 h
theorem rowsB_ok {e : Except (Nat × Nat) (List Rw)} {p : List Body} (h : rowsB e = some p) : ∃ rs, e = .ok rs ∧ bodyR rs = p := by
  cases e with
  | error e => cases h
  | ok rs => cases h; exact ⟨rs, rfl, rfl⟩
end Go.Proofs.YtemddijemikleaaDoor
