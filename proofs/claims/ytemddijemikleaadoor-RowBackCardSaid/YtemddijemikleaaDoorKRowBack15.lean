/- Part 15 of the proof of RowBack: an abstract semantics that is proved sound for the model, contracts of functions in it, and plain facts (RU RP1 RQ1 RQ2 RQ4). No condition. -/
import Derived.Test.YtemddijemikleaaDoorKRowBack14
import Derived.Lib.Join
set_option linter.all false
namespace Go.Proofs.YtemddijemikleaaDoor
open Go.Abs
set_option linter.all false
set_option maxRecDepth 100000
def hexc (n : Nat) : UInt8 := ([48, 49, 50, 51, 52, 53, 54, 55, 56, 57, 97, 98, 99, 100, 101, 102] : List UInt8).getD n 0
def escB (b : UInt8) : List UInt8 := if isPlain b then [b] else if b = 34 ∨ b = 92 then [92, b] else [92, 120, hexc (b.toNat / 16), hexc (b.toNat % 16)]
def bareS (l : List UInt8) : Bool := l.all isBare && (match l with | [] => false | c :: _ => c != 35)
def wordT (q : Bool) (t : List UInt8) : Option (List UInt8) := if q then some (34 :: (t.flatMap escB ++ [34])) else if bareS t then some t else none
structure WI where
  q : Bool
  t : List UInt8
  a : Int
structure RI where
  a : Int
  ws : List WI
def cWI (w : WI) : List AV := [.bool w.q, .str w.t, .int .i64 w.a]
def cRI (r : RI) : List AV := [.int .i64 r.a, .sl false r.ws.length (r.ws.flatMap cWI)]
theorem cWI_len (l : List WI) : (l.flatMap cWI).length = l.length * 3 := flat_len (f := cWI) (fun _ => rfl) l
theorem cRI_len (l : List RI) : (l.flatMap cRI).length = l.length * 2 := flat_len (f := cRI) (fun _ => rfl) l
def toWI (w : Wd) : WI := ⟨w.q, w.t, (w.a : Nat)⟩
def toRI (r : Rw) : RI := ⟨(r.a : Nat), r.ws.map toWI⟩
def wordsT : List WI → Option (List (List UInt8))
  | [] => some []
  | w :: ws => match wordT w.q w.t, wordsT ws with
    | some x, some l => some (x :: l)
    | _, _ => none
def textG (out : List UInt8) : List RI → Except Nat (List UInt8)
  | [] => .ok out
  | r :: rs => if r.ws.length = 0 then .error 7 else match wordsT r.ws with
    | none => .error 3
    | some l => if 1000 < (Lib.join l [32]).length ∨ 20000 < (out ++ (Lib.join l [32] ++ [10])).length then .error 4 else textG (out ++ (Lib.join l [32] ++ [10])) rs
def textS (l : List RI) : Except Nat (List UInt8) := textG [] l
def textV : Except Nat (List UInt8) → AV
  | .error e => .tup [.str [], .int .i64 (e : Nat)]
  | .ok t => .tup [.str t, .int .i64 0]
def wordV : Option (List UInt8) → AV
  | none => .tup [.str [], .int .i64 3]
  | some t => .tup [.str t, .int .i64 0]
theorem escB_len (b : UInt8) : (escB b).length ≤ 4 ∧ 1 ≤ (escB b).length := by
  unfold escB; split
  · simp
  · split <;> simp
theorem esc_len (l : List UInt8) : (l.flatMap escB).length ≤ 4 * l.length := by
  induction l with
  | nil => simp
  | cons b l ih => have := (escB_len b).1; simp only [List.flatMap_cons, List.length_append, List.length_cons]; omega
theorem wordT_len {q : Bool} {t x : List UInt8} (h : wordT q t = some x) : x.length ≤ 4 * t.length + 2 := by
  unfold wordT at h
  have := esc_len t
  split at h
  · cases h; simp only [List.length_cons, List.length_append, List.length_nil]; omega
  · split at h
    · cases h; omega
    · cases h
def LightW (ws : List WI) : Prop := ws.length ≤ 1000 ∧ ∀ w ∈ ws, w.t.length ≤ 20000
def LightR (l : List RI) : Prop := l.length ≤ 1000 ∧ ∀ r ∈ l, LightW r.ws
theorem wordsT_snoc : ∀ (ws : List WI) (w : WI), wordsT (ws ++ [w]) = match wordsT ws, wordT w.q w.t with
    | some l, some x => some (l ++ [x])
    | _, _ => none
  | [], w => by simp only [List.nil_append, wordsT]; cases wordT w.q w.t <;> rfl
  | v :: ws, w => by
    simp only [List.cons_append, wordsT]
    rw [wordsT_snoc ws w]
    cases wordT v.q v.t <;> cases wordsT ws <;> cases wordT w.q w.t <;> rfl
theorem wordsT_bad : ∀ (ws : List WI) (k : Nat) (h : k < ws.length), wordT ws[k].q ws[k].t = none → wordsT ws = none
  | w :: ws, 0, _, h => by simp only [List.getElem_cons_zero] at h; simp [wordsT, h]
  | w :: ws, k + 1, hk, h => by
    simp only [List.getElem_cons_succ] at h
    have := wordsT_bad ws k (by simpa using hk) h
    simp only [wordsT, this]
    cases wordT w.q w.t <;> rfl
theorem wordsT_take {ws : List WI} {l : List (List UInt8)} {k : Nat} (hk : k < ws.length) (h : wordsT (ws.take k) = some l) {x : List UInt8} (hx : wordT ws[k].q ws[k].t = some x) : wordsT (ws.take (k + 1)) = some (l ++ [x]) := by
  rw [← List.take_append_getElem hk, wordsT_snoc, h, hx]
theorem wordsT_len : ∀ (ws : List WI) {l : List (List UInt8)}, wordsT ws = some l → l.length = ws.length ∧ (∀ n, (∀ w ∈ ws, w.t.length ≤ n) → ∀ x ∈ l, x.length ≤ 4 * n + 2)
  | [], l, h => by cases h; simp
  | w :: ws, l, h => by
    simp only [wordsT] at h
    cases hx : wordT w.q w.t with
    | none => rw [hx] at h; cases h
    | some x =>
      cases hl : wordsT ws with
      | none => rw [hx, hl] at h; cases h
      | some l' =>
        rw [hx, hl] at h; cases h
        obtain ⟨h1, h2⟩ := wordsT_len ws hl
        refine ⟨by simp [h1], fun n hn y hy => ?_⟩
        rcases List.mem_cons.1 hy with rfl | hy
        · have := wordT_len hx; have := hn w (by simp); omega
        · exact h2 n (fun w hw => hn w (by simp [hw])) y hy
theorem join_bnd (m : Nat) : ∀ (l : List (List UInt8)), (∀ x ∈ l, x.length ≤ m) → (Lib.join l [32]).length ≤ (m + 1) * l.length := by
  have lens : ∀ (l : List (List UInt8)), (∀ x ∈ l, x.length ≤ m) → Lib.lens l ≤ m * l.length := by
    intro l
    induction l with
    | nil => intro _; simp [Lib.lens]
    | cons x l ih =>
      intro h
      have h1 := h x (by simp)
      have h2 := ih (fun y hy => h y (by simp [hy]))
      simp only [Lib.lens, List.map_cons, List.sum_cons, List.length_cons, Nat.mul_add, Nat.mul_one] at h2 ⊢
      omega
  intro l h
  cases l with
  | nil => simp [Lib.join_nil]
  | cons x l =>
    have := lens (x :: l) h
    rw [Lib.join_length]
    simp only [List.length_cons, List.length_nil, Nat.add_mul, Nat.mul_add, Nat.mul_one, Nat.one_mul] at this ⊢
    omega
end Go.Proofs.YtemddijemikleaaDoor
namespace Go.Proofs.YtemddijemikleaaDoor
open Go.Abs
set_option linter.all false
set_option maxRecDepth 100000
theorem hexV_hexc : ∀ n, n < 16 → hexV (hexc n) = n := by decide
theorem plain_not {b : UInt8} (h : isPlain b = true) : b ≠ 34 ∧ b ≠ 92 ∧ b ≠ 10 := by
  refine ⟨?_, ?_, ?_⟩ <;> (rintro rfl; revert h; decide)
theorem hex_back (b : UInt8) : UInt8.ofNat (16 * (b.toNat / 16) + b.toNat % 16) = b := by
  rw [Nat.div_add_mod]; exact UInt8.ofNat_toNat
theorem escS_hex (b : UInt8) (r : List UInt8) : escS (120 :: hexc (b.toNat / 16) :: hexc (b.toNat % 16) :: r) = some (b, r) := by
  have h1 := hexV_hexc (b.toNat / 16) (by have := b.toNat_lt; omega)
  have h2 := hexV_hexc (b.toNat % 16) (by omega)
  simp only [escS, if_true, pairS, h1, h2]
  rw [if_pos (by have := b.toNat_lt; omega), hex_back]
theorem escS_one {b : UInt8} (h : b = 34 ∨ b = 92) (r : List UInt8) : escS (b :: r) = some (b, r) := by
  have : b ≠ 120 := by rcases h with rfl | rfl <;> decide
  simp only [escS, if_neg this, if_pos h]
theorem quotS_esc : ∀ (t r : List UInt8), quotS (t.flatMap escB ++ 34 :: r) = some (t, r)
  | [], r => by rw [List.flatMap_nil, List.nil_append, quotS_cons, if_pos rfl]
  | b :: t, r => by
    rw [List.flatMap_cons, List.append_assoc]
    have ih := quotS_esc t r
    by_cases hp : isPlain b = true
    · obtain ⟨h1, h2, _⟩ := plain_not hp
      rw [show escB b = [b] from if_pos hp, List.cons_append, List.nil_append, quotS_cons, if_neg h1, if_neg h2, if_pos hp, ih]; rfl
    · by_cases h : b = 34 ∨ b = 92
      · rw [show escB b = [92, b] by unfold escB; rw [if_neg hp, if_pos h], List.cons_append, List.cons_append, List.nil_append, quotS_cons, if_neg (by decide), if_pos rfl, escS_one h]
        simp only [ih]; rfl
      · rw [show escB b = [92, 120, hexc (b.toNat / 16), hexc (b.toNat % 16)] by unfold escB; rw [if_neg hp, if_neg h], List.cons_append, List.cons_append, List.cons_append, List.cons_append, List.nil_append, quotS_cons, if_neg (by decide), if_pos rfl, escS_hex]
        simp only [ih]; rfl
theorem takeWhile_all {p : UInt8 → Bool} : ∀ {t r : List UInt8}, t.all p = true → (∀ c ∈ r.head?, p c = false) → (t ++ r).takeWhile p = t ∧ (t ++ r).dropWhile p = r
  | [], [], _, _ => by simp
  | [], c :: r, _, h => by
    have := h c (by simp)
    simp [List.takeWhile_cons, List.dropWhile_cons, this]
  | b :: t, r, ht, h => by
    simp only [List.all_cons, Bool.and_eq_true] at ht
    have ih := takeWhile_all ht.2 h
    simp [List.takeWhile_cons, List.dropWhile_cons, ht.1, ih.1, ih.2]
theorem blank_bare {c : UInt8} (h : isBlank c = true) : isBare c = false := by
  simp only [isBlank, Bool.or_eq_true, beq_iff_eq] at h
  have : c = 32 ∨ c = 9 := by
    rcases h with h | h
    · left; exact UInt8.toNat_inj.1 (by show c.toNat = 32; omega)
    · right; exact UInt8.toNat_inj.1 (by show c.toNat = 9; omega)
  rcases this with rfl | rfl <;> decide
theorem endOk_head {r : List UInt8} (h : endOk r = true) : ∀ c ∈ r.head?, isBare c = false := by
  cases r with
  | nil => simp
  | cons c r => intro d hd; simp at hd; subst hd; exact blank_bare h
theorem wordT_head {q : Bool} {t x : List UInt8} (h : wordT q t = some x) : ∃ c y, x = c :: y ∧ isBlank c = false ∧ c ≠ 35 := by
  unfold wordT at h
  cases q with
  | true => rw [if_pos rfl] at h; cases h; exact ⟨34, _, rfl, by decide, by decide⟩
  | false =>
    rw [if_neg (by decide)] at h
    split at h
    · rename_i hb
      cases h
      cases t with
      | nil => simp [bareS] at hb
      | cons c y =>
        simp only [bareS, List.all_cons, Bool.and_eq_true, bne_iff_ne] at hb
        refine ⟨c, y, rfl, ?_, hb.2⟩
        cases hc : isBlank c with
        | false => rfl
        | true => have := blank_bare hc; rw [this] at hb; exact absurd hb.1.1 (by decide)
    · cases h
theorem wordS_word {q : Bool} {t x r : List UInt8} (h : wordT q t = some x) (hr : endOk r = true) : wordS (x ++ r) = some (q, t, r) := by
  unfold wordT at h
  cases q with
  | true =>
    rw [if_pos rfl] at h; cases h
    have e := quotS_esc t r
    simp only [List.cons_append, List.append_assoc, List.nil_append, wordS, if_true, e, hr]
  | false =>
    rw [if_neg (by decide)] at h
    split at h
    · rename_i hb
      cases h
      cases t with
      | nil => simp [bareS] at hb
      | cons c y =>
        simp only [bareS, Bool.and_eq_true] at hb
        obtain ⟨e1, e2⟩ := takeWhile_all hb.1 (endOk_head hr)
        have h34 : c ≠ 34 := by
          rintro rfl
          have := hb.1; simp only [List.all_cons, Bool.and_eq_true] at this
          exact absurd this.1 (by decide)
        simp only [List.cons_append] at e1 e2 ⊢
        simp only [wordS, if_neg h34, e1, e2, hr, List.isEmpty_cons, if_true]
        rfl
    · cases h
theorem no10_esc (b : UInt8) : ∀ c ∈ escB b, c ≠ 10 := by
  unfold escB
  split
  · rename_i h
    intro c hc; simp at hc; subst hc; exact (plain_not h).2.2
  · split
    · rename_i h
      intro c hc
      simp at hc
      rcases hc with rfl | rfl
      · decide
      · rcases h with rfl | rfl <;> decide
    · have hx : ∀ n, n < 16 → hexc n ≠ 10 := by decide
      intro c hc
      simp at hc
      rcases hc with rfl | rfl | rfl | rfl
      · decide
      · decide
      · exact hx _ (by have := b.toNat_lt; omega)
      · exact hx _ (by omega)
theorem wordT_no10 {q : Bool} {t x : List UInt8} (h : wordT q t = some x) : ∀ c ∈ x, c ≠ 10 := by
  unfold wordT at h
  cases q with
  | true =>
    rw [if_pos rfl] at h; cases h
    intro c hc
    simp only [List.mem_cons, List.mem_append, List.mem_flatMap, List.not_mem_nil, or_false] at hc
    rcases hc with rfl | ⟨b, _, hb⟩ | rfl
    · decide
    · exact no10_esc b c hb
    · decide
  | false =>
    rw [if_neg (by decide)] at h
    split at h
    · rename_i hb
      cases h
      simp only [bareS, Bool.and_eq_true, List.all_eq_true] at hb
      intro c hc e
      subst e
      exact absurd (hb.1 10 hc) (by decide)
    · cases h
theorem lines_no10 : ∀ {x : List UInt8}, (∀ c ∈ x, c ≠ 10) → lines x = [x]
  | [], _ => rfl
  | c :: x, h => by
    have ih := lines_no10 (x := x) (fun d hd => h d (by simp [hd]))
    simp only [lines, if_neg (h c (by simp)), ih]
theorem lines_app10 : ∀ (x y : List UInt8), lines (x ++ 10 :: y) = lines x ++ lines y
  | [], y => by simp [lines]
  | c :: x, y => by
    have ih := lines_app10 x y
    rw [List.cons_append]
    simp only [lines]
    by_cases hc : c = 10
    · rw [if_pos hc, if_pos hc, ih]; rfl
    · rw [if_neg hc, if_neg hc, ih]
      cases hl : lines x with
      | nil => exact absurd hl (lines_ne x)
      | cons z w => rfl
end Go.Proofs.YtemddijemikleaaDoor
namespace Go.Proofs.YtemddijemikleaaDoor
open Go.Abs
set_option linter.all false
set_option maxRecDepth 100000
def bodyW (ws : List Wd) : List (Bool × List UInt8) := ws.map fun w => (w.q, w.t)
def bodyR (rs : List Rw) : List (List (Bool × List UInt8)) := rs.map fun r => bodyW r.ws
def wordsB : Except Nat (List Wd) → Option (List (Bool × List UInt8))
  | .error _ => none
  | .ok ws => some (bodyW ws)
theorem wordsB_cons (w : Wd) (e : Except Nat (List Wd)) : wordsB (consE w e) = (wordsB e).map ((w.q, w.t) :: ·) := by
  cases e <;> rfl
theorem wordsR_off : ∀ (n : Nat) (l : List UInt8) (a b : Nat), l.length ≤ n → wordsB (wordsR l a) = wordsB (wordsR l b) := by
  intro n
  induction n with
  | zero =>
    intro l a b h
    have : l = [] := List.eq_nil_of_length_eq_zero (by omega)
    subst this; rfl
  | succ n ih =>
    intro l a b h
    rw [wordsR_eq l a, wordsR_eq l b]
    have hd := dropWhile_len isBlank l
    cases hl : l.dropWhile isBlank with
    | nil => rfl
    | cons c r =>
      rw [hl] at hd
      simp only
      by_cases h35 : c = 35
      · rw [if_pos h35, if_pos h35]
      · rw [if_neg h35, if_neg h35]
        cases hw : wordS (c :: r) with
        | none => rfl
        | some q =>
          obtain ⟨q, t, r'⟩ := q
          have hlen := wordS_len hw
          simp only
          rw [wordsB_cons, wordsB_cons, ih r' _ (b + (l.length - r'.length)) (by omega)]
theorem wordsR_join : ∀ (ws : List WI) (l : List (List UInt8)) (a : Nat), wordsT ws = some l → wordsB (wordsR (Lib.join l [32]) a) = some (ws.map fun w => (w.q, w.t))
  | [], l, a, h => by cases h; rfl
  | w :: ws, l, a, h => by
    simp only [wordsT] at h
    cases hx : wordT w.q w.t with
    | none => rw [hx] at h; cases h
    | some x =>
      cases hl : wordsT ws with
      | none => rw [hx, hl] at h; cases h
      | some l' =>
        rw [hx, hl] at h; cases h
        have ih := wordsR_join ws l'
        obtain ⟨c, y, e, hb, h35⟩ := wordT_head hx
        have rest : ∀ r, endOk r = true → (∀ b, wordsB (wordsR r b) = some (ws.map fun w => (w.q, w.t))) → wordsB (wordsR (x ++ r) a) = some ((w :: ws).map fun w => (w.q, w.t)) := by
          intro r hr hrr
          have hw := wordS_word hx hr
          have hd : (x ++ r).dropWhile isBlank = c :: (y ++ r) := by rw [e, List.cons_append, List.dropWhile_cons, if_neg (by rw [hb]; decide)]
          rw [wordsR_eq, hd]
          rw [e, List.cons_append] at hw
          simp only [if_neg h35, hw]
          rw [wordsB_cons, hrr]; rfl
        cases l' with
        | nil =>
          have hws : ws = [] := by
            have := (wordsT_len ws hl).1
            exact List.eq_nil_of_length_eq_zero (by simpa using this.symm)
          subst hws
          have := rest [] rfl (fun b => rfl)
          rw [List.append_nil] at this
          rw [show Lib.join [x] [32] = x from by simp [Lib.join]]
          exact this
        | cons z l' =>
          have ej : Lib.join (x :: z :: l') [32] = x ++ (32 :: Lib.join (z :: l') [32]) := by simp [Lib.join]
          rw [ej]
          refine rest _ (show isBlank 32 = true by decide) (fun b => ?_)
          have hz : wordsB (wordsR (Lib.join (z :: l') [32]) (b + 1)) = some (ws.map fun w => (w.q, w.t)) := ih (b + 1) hl
          obtain ⟨v, vs, hv⟩ : ∃ v vs, ws = v :: vs := by
            cases ws with
            | nil => cases hl
            | cons v vs => exact ⟨v, vs, rfl⟩
          have hzh : ∃ d u, Lib.join (z :: l') [32] = d :: u ∧ isBlank d = false := by
            subst hv
            simp only [wordsT] at hl
            cases hx2 : wordT v.q v.t with
            | none => rw [hx2] at hl; cases hl
            | some x2 =>
              cases hl2 : wordsT vs with
              | none => rw [hx2, hl2] at hl; cases hl
              | some l2 =>
                rw [hx2, hl2] at hl; cases hl
                obtain ⟨d, u, e2, hb2, _⟩ := wordT_head hx2
                cases l' with
                | nil => exact ⟨d, u, by simp [Lib.join, e2], hb2⟩
                | cons p l' => exact ⟨d, u ++ ([32] ++ Lib.join (p :: l') [32]), by simp [Lib.join, e2], hb2⟩
          obtain ⟨d, u, e2, hb2⟩ := hzh
          rw [wordsR_skip]
          have hd : (32 :: Lib.join (z :: l') [32]).dropWhile isBlank = Lib.join (z :: l') [32] := by
            rw [List.dropWhile_cons, if_pos (by decide), e2, List.dropWhile_cons, if_neg (by rw [hb2]; decide)]
          rw [hd, wordsR_off _ _ _ (b + 1) (Nat.le_refl _)]
          exact hz
theorem join_no10 : ∀ (ws : List WI) (l : List (List UInt8)), wordsT ws = some l → ∀ c ∈ Lib.join l [32], c ≠ 10
  | [], l, h => by cases h; intro c hc; simp [Lib.join] at hc
  | w :: ws, l, h => by
    simp only [wordsT] at h
    cases hx : wordT w.q w.t with
    | none => rw [hx] at h; cases h
    | some x =>
      cases hl : wordsT ws with
      | none => rw [hx, hl] at h; cases h
      | some l' =>
        rw [hx, hl] at h; cases h
        have ih := join_no10 ws l' hl
        cases l' with
        | nil => intro c hc; simp [Lib.join] at hc; exact wordT_no10 hx c hc
        | cons z l' =>
          intro c hc
          have ej : Lib.join (x :: z :: l') [32] = x ++ (32 :: Lib.join (z :: l') [32]) := by simp [Lib.join]
          rw [ej, List.mem_append, List.mem_cons] at hc
          rcases hc with hc | rfl | hc
          · exact wordT_no10 hx c hc
          · decide
          · exact ih c hc
end Go.Proofs.YtemddijemikleaaDoor
namespace Go.Proofs.YtemddijemikleaaDoor
open Go.Abs
set_option linter.all false
set_option maxRecDepth 100000
abbrev Body := List (Bool × List UInt8)
def rowsB : Except (Nat × Nat) (List Rw) → Option (List Body)
  | .error _ => none
  | .ok rs => some (bodyR rs)
def lineB (x : List UInt8) : Option (List Body) := if 1000 < x.length then none else match wordsB (wordsS x) with
  | none => none
  | some [] => some []
  | some (w :: ws) => some [w :: ws]
def rowsQ : List (List UInt8) → Option (List Body)
  | [] => some []
  | x :: r => (lineB x).bind fun p => (rowsQ r).map (p ++ ·)
theorem rowsB_bind (x y : Except (Nat × Nat) (List Rw)) : rowsB (bindR x y) = (rowsB x).bind fun p => (rowsB y).map (p ++ ·) := by
  cases x <;> cases y <;> simp [bindR, rowsB, bodyR]
theorem bodyW_shift (a : Nat) (ws : List Wd) : bodyW (ws.map (shiftW a)) = bodyW ws := by
  simp [bodyW, shiftW, Function.comp_def]
theorem rowsB_line (x : List UInt8) (a : Nat) : rowsB (lineRow x a) = lineB x := by
  unfold lineRow lineB
  split
  · rfl
  · cases wordsS x with
    | error b => rfl
    | ok ws =>
      cases ws with
      | nil => rfl
      | cons w ws =>
        show some [bodyW ((w :: ws).map (shiftW a))] = _
        rw [bodyW_shift]; rfl
theorem rowsB_rowsL : ∀ (l : List (List UInt8)) (a : Nat), rowsB (rowsL l a) = rowsQ l
  | [], _ => rfl
  | x :: l, a => by rw [rowsL, rowsB_bind, rowsB_line, rowsB_rowsL l]; rfl
theorem rowsB_rowsS {s : List UInt8} (h : s.length ≤ 20000) : rowsB (rowsS s) = rowsQ (lines s) := by
  unfold rowsS; rw [if_neg (by omega), rowsB_rowsL]
def bodyI (r : RI) : Body := r.ws.map fun w => (w.q, w.t)
theorem textG_back : ∀ (l : List RI) (out t : List UInt8), textG out l = .ok t → ∃ u, t = out ++ u ∧ (l ≠ [] → t.length ≤ 20000) ∧ rowsQ (lines u) = some (l.map bodyI)
  | [], out, t, h => by cases h; exact ⟨[], by simp, fun h => absurd rfl h, rfl⟩
  | r :: l, out, t, h => by
    simp only [textG] at h
    split at h
    · cases h
    · rename_i h0
      cases hw : wordsT r.ws with
      | none => rw [hw] at h; cases h
      | some x =>
        rw [hw] at h
        simp only at h
        split at h
        · cases h
        · rename_i hc
          obtain ⟨u, e, hl, hq⟩ := textG_back l _ t h
          refine ⟨Lib.join x [32] ++ 10 :: u, by rw [e]; simp, fun _ => ?_, ?_⟩
          · by_cases hn : l = []
            · subst hn; cases h; omega
            · exact hl hn
          · rw [lines_app10, lines_no10 (join_no10 _ _ hw), List.singleton_append, rowsQ, hq]
            have hj := wordsR_join r.ws x 0 hw
            have hb : lineB (Lib.join x [32]) = some [bodyI r] := by
              unfold lineB wordsS
              rw [if_neg (by omega), hj]
              obtain ⟨w, ws, hws⟩ : ∃ w ws, r.ws = w :: ws := by
                cases hr : r.ws with
                | nil => rw [hr] at h0; exact absurd rfl h0
                | cons w ws => exact ⟨w, ws, rfl⟩
              simp only [bodyI, hws, List.map_cons]
            rw [hb]; rfl
theorem text_back {l : List RI} {t : List UInt8} (h : textS l = .ok t) : t.length ≤ 20000 ∧ rowsB (rowsS t) = some (l.map bodyI) := by
  obtain ⟨u, e, hl, hq⟩ := textG_back l [] t h
  rw [List.nil_append] at e; subst e
  have h2 : t.length ≤ 20000 := by
    by_cases hn : l = []
    · subst hn; cases h; simp
    · exact hl hn
  exact ⟨h2, by rw [rowsB_rowsS h2, hq]⟩
end Go.Proofs.YtemddijemikleaaDoor
namespace Go.Proofs.YtemddijemikleaaDoor
open Go.Abs
set_option linter.all false
set_option maxRecDepth 100000
def LightQ (p : List Body) : Prop := p.length ≤ 1000 ∧ ∀ b ∈ p, b.length ≤ 1000 ∧ ∀ w ∈ b, w.2.length ≤ 20000
theorem bodyI_toRI (rs : List Rw) : (rs.map toRI).map bodyI = bodyR rs := by
  simp [bodyR, bodyI, toRI, toWI, bodyW, Function.comp_def]
theorem light_body {l : List RI} (h : LightQ (l.map bodyI)) : LightR l := by
  obtain ⟨h1, h2⟩ := h
  refine ⟨by simpa using h1, fun r hr => ?_⟩
  obtain ⟨h3, h4⟩ := h2 (bodyI r) (List.mem_map.2 ⟨r, hr, rfl⟩)
  refine ⟨by simpa [bodyI] using h3, fun w hw => ?_⟩
  exact h4 (w.q, w.t) (List.mem_map.2 ⟨w, hw, rfl⟩)
theorem rowsB_ok {e : Except (Nat × Nat) (List Rw)} {p : List Body} (h : rowsB e = some p) : ∃ rs, e = .ok rs ∧ bodyR rs = p := by
  cases e with
  | error e => cases h
  | ok rs => cases h; exact ⟨rs, rfl, rfl⟩
end Go.Proofs.YtemddijemikleaaDoor
