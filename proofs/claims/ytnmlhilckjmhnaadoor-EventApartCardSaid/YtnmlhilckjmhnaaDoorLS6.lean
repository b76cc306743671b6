/-
  Labels: a label's text is read back, and only it is.
-/
import Derived.Test.YtnmlhilckjmhnaaDoorLS4
namespace Go.Proofs.YtnmlhilckjmhnaaDoor
open Go.Abs
theorem byteAt_drop {s : List UInt8} {a : Nat} (h : a < s.length) : s.drop a = byteAt s a :: s.drop (a + 1) := by
  rw [List.drop_eq_getElem_cons h]
  simp [byteAt, h]
theorem byteAt_of {s r : List UInt8} {a : Nat} {c : UInt8} (h : s.drop a = c :: r) : a < s.length ∧ byteAt s a = c ∧ s.drop (a + 1) = r := by
  have hl : a < s.length := by
    rcases Nat.lt_or_ge a s.length with h1 | h1
    · exact h1
    · rw [List.drop_eq_nil_of_le h1] at h; cases h
  rw [byteAt_drop hl] at h
  cases h
  exact ⟨hl, rfl, rfl⟩
theorem dig_ofNat {d : Nat} (h : d < 10) : dig (UInt8.ofNat (48 + d)) = true ∧ (UInt8.ofNat (48 + d)).toNat = 48 + d := by
  have e : (UInt8.ofNat (48 + d)).toNat = 48 + d := by simp; omega
  refine ⟨?_, e⟩
  simp only [dig, e, Bool.and_eq_true, decide_eq_true_eq]; omega
theorem ofNat_dig {c : UInt8} (h : dig c = true) : ∃ d, d < 10 ∧ c = UInt8.ofNat (48 + d) := by
  simp only [dig, Bool.and_eq_true, decide_eq_true_eq] at h
  refine ⟨c.toNat - 48, by omega, ?_⟩
  apply UInt8.toNat_inj.1
  simp; omega
theorem scan_fuel (s : List UInt8) (f0 a n : Nat) {F : Nat} (h : ¬ (a < s.length ∧ dig (byteAt s a) = true)) : scan s f0 F a n = (true, a, n) := scan_stop s f0 F a n h
/-- A number's digits are scanned. -/
theorem scan_dec {s r : List UInt8} {a k : Nat} {c : UInt8} (hk : k < 100) (h : s.drop a = dec2 k ++ c :: r) (hc : dig c = false) : scan s a (s.length - a) a 0 = (true, a + (dec2 k).length, k) := by
  have hno : ∀ x, s.drop x = c :: r → ¬ (x < s.length ∧ dig (byteAt s x) = true) := fun x hx hh => by
    rw [(byteAt_of hx).2.1, hc] at hh; cases hh.2
  unfold dec2 at h ⊢
  split at h
  · rename_i h10
    rw [if_pos h10]
    obtain ⟨h1, h2, h3⟩ := byteAt_of h
    obtain ⟨d1, d2⟩ := dig_ofNat (d := k) h10
    obtain ⟨f, hf⟩ : ∃ f, s.length - a = f + 1 := ⟨s.length - a - 1, by omega⟩
    rw [hf, scan_go s a f a 0 ⟨h1, by rw [h2]; exact d1⟩ (by omega), scan_stop _ _ _ _ _ (hno _ h3), h2, d2]
    simp; omega
  · rename_i h10
    rw [if_neg h10]
    obtain ⟨h1, h2, h3⟩ := byteAt_of h
    obtain ⟨h4, h5, h6⟩ := byteAt_of h3
    obtain ⟨d1, d2⟩ := dig_ofNat (d := k / 10) (by omega)
    obtain ⟨d3, d4⟩ := dig_ofNat (d := k % 10) (by omega)
    obtain ⟨f, hf⟩ : ∃ f, s.length - a = f + 1 + 1 := ⟨s.length - a - 2, by omega⟩
    have hz : ¬ (a < a + 1 ∧ byteAt s a = 48) := fun hh => by
      have := hh.2
      rw [h2] at this
      have := congrArg UInt8.toNat this
      rw [d2] at this
      simp at this; omega
    rw [hf, scan_go s a (f + 1) a 0 ⟨h1, by rw [h2]; exact d1⟩ (by omega), scan_go s a f (a + 1) _ ⟨h4, by rw [h5]; exact d3⟩ hz, scan_stop _ _ _ _ _ (hno _ h6), h2, h5, d2, d4]
    simp; omega
theorem scan_big (s : List UInt8) (f0 : Nat) : ∀ (f a n : Nat), 100 ≤ n → 100 ≤ (scan s f0 f a n).2.2
  | 0, _, _, h => h
  | f + 1, a, n, h => by
    unfold scan
    split
    · split
      · exact h
      · exact scan_big s f0 f (a + 1) _ (by omega)
    · exact h
/-- What is scanned is a number's digits. -/
theorem scan_only {s : List UInt8} {a b n : Nat} (h : scan s a (s.length - a) a 0 = (true, b, n)) (hb : b ≠ a) (hn : n ≤ 63) : s.drop a = dec2 n ++ s.drop b := by
  by_cases h0 : a < s.length ∧ dig (byteAt s a) = true
  · obtain ⟨d0, hd0, e0⟩ := ofNat_dig h0.2
    obtain ⟨f, hf⟩ : ∃ f, s.length - a = f + 1 := ⟨s.length - a - 1, by omega⟩
    rw [hf, scan_go s a f a 0 h0 (by omega)] at h
    have v0 : min 1000 (10 * 0 + ((byteAt s a).toNat - 48)) = d0 := by rw [e0, (dig_ofNat hd0).2]; omega
    rw [v0] at h
    by_cases h1 : a + 1 < s.length ∧ dig (byteAt s (a + 1)) = true
    · obtain ⟨d1, hd1, e1⟩ := ofNat_dig h1.2
      obtain ⟨f2, rfl⟩ : ∃ f2, f = f2 + 1 := ⟨f - 1, by omega⟩
      by_cases hz : byteAt s a = 48
      · rw [scan_zero s a f2 (a + 1) d0 h1 ⟨by omega, hz⟩] at h; cases h
      · have hd0' : d0 ≠ 0 := by rintro rfl; exact hz e0
        rw [scan_go s a f2 (a + 1) d0 h1 (fun hh => hz hh.2)] at h
        have v1 : min 1000 (10 * d0 + ((byteAt s (a + 1)).toNat - 48)) = 10 * d0 + d1 := by rw [e1, (dig_ofNat hd1).2]; omega
        rw [v1] at h
        by_cases h2 : a + 1 + 1 < s.length ∧ dig (byteAt s (a + 1 + 1)) = true
        · obtain ⟨f3, rfl⟩ : ∃ f3, f2 = f3 + 1 := ⟨f2 - 1, by omega⟩
          rw [scan_go s a f3 (a + 1 + 1) _ h2 (fun hh => hz hh.2)] at h
          have := scan_big s a f3 (a + 1 + 1 + 1) (min 1000 (10 * (10 * d0 + d1) + ((byteAt s (a + 1 + 1)).toNat - 48))) (by omega)
          rw [h] at this
          simp at this; omega
        · rw [scan_stop _ _ _ _ _ h2] at h
          cases h
          rw [byteAt_drop h0.1, byteAt_drop h1.1, e0, e1, dec2, if_neg (by omega), show (10 * d0 + d1) / 10 = d0 by omega, show (10 * d0 + d1) % 10 = d1 by omega]
          rfl
    · rw [scan_stop _ _ _ _ _ h1] at h
      cases h
      rw [byteAt_drop h0.1, e0, dec2, if_pos hd0]
      rfl
  · rw [scan_stop _ _ _ _ _ h0] at h
    cases h; exact (hb rfl).elim
/-- Strictly ascending categories above one. -/
def Inc (last : Int) : List Nat → Prop
  | [] => True
  | k :: ks => last < (k : Int) ∧ k ≤ 63 ∧ Inc (k : Int) ks
def orBits (l : BitVec 64) (ks : List Nat) : BitVec 64 := ks.foldl (fun b c => b ||| 1#64 <<< c) l
theorem commas_head (ks : List Nat) (r : List UInt8) : ∃ c q, commas ks ++ 125 :: r = c :: q ∧ dig c = false ∧ (ks = [] → c = 125 ∧ q = r) ∧ ∀ k ks', ks = k :: ks' → c = 44 ∧ q = dec2 k ++ (commas ks' ++ 125 :: r) := by
  cases ks with
  | nil => exact ⟨125, r, rfl, by decide, fun _ => ⟨rfl, rfl⟩, fun k ks' h => by cases h⟩
  | cons k ks => exact ⟨44, dec2 k ++ (commas ks ++ 125 :: r), by simp [commas], by decide, (fun h => by cases h), (fun k' ks' h => by cases h; exact ⟨rfl, rfl⟩)⟩
theorem nums_dec (s r : List UInt8) : ∀ (ks : List Nat) (k f : Nat) (l : BitVec 64) (last : Int) (a : Nat), Inc last (k :: ks) → ks.length < f → s.drop a = dec2 k ++ (commas ks ++ 125 :: r) →
    nums s f l last a = ⟨orBits l (k :: ks), a + (dec2 k).length + (commas ks).length + 1, 0, 0⟩
  | ks, k, 0, _, _, _, _, hf, _ => by omega
  | ks, k, f + 1, l, last, a, hi, hf, h => by
    obtain ⟨h1, h2, h3⟩ := hi
    obtain ⟨c, q, e, hc, hn, hs⟩ := commas_head ks r
    rw [e] at h
    have hsc := scan_dec (by omega) h hc
    have hd := dec2_len k
    have hdr : s.drop (a + (dec2 k).length) = c :: q := by
      rw [← List.drop_drop, h]; simp
    obtain ⟨p1, p2, p3⟩ := byteAt_of hdr
    unfold nums
    rw [hsc]
    simp only
    rw [if_neg (by simp), if_neg (by omega), if_neg (by omega), if_neg (by omega), if_neg (by omega), p2]
    cases ks with
    | nil =>
      obtain ⟨rfl, rfl⟩ := hn rfl
      rw [if_pos rfl]
      simp [orBits, commas]
    | cons k2 ks =>
      obtain ⟨rfl, rfl⟩ := hs _ _ rfl
      rw [if_neg (by decide), if_neg (by decide)]
      rw [nums_dec s r ks k2 f _ _ _ h3 (by simp at hf; omega) p3]
      simp only [orBits, List.foldl_cons, commas, List.length_cons, List.length_append, RL.mk.injEq, and_true, true_and]
      omega
theorem nums_only (s : List UInt8) : ∀ (f : Nat) (l : BitVec 64) (last : Int) (a : Nat), a ≤ s.length → (nums s f l last a).err = 0 →
    ∃ k ks, Inc last (k :: ks) ∧ (nums s f l last a).l = orBits l (k :: ks) ∧ s.drop a = dec2 k ++ (commas ks ++ 125 :: s.drop (nums s f l last a).used)
  | 0, _, _, _, _, h => by simp [nums, bad] at h
  | f + 1, l, last, a, ha, h => by
    obtain ⟨⟨ok, b, n⟩, hsc⟩ : ∃ x, scan s a (s.length - a) a 0 = x := ⟨_, rfl⟩
    have hle := scan_le s a (s.length - a) a 0 ha
    unfold nums at h ⊢
    rw [hsc] at h hle ⊢
    simp only at h hle ⊢
    split at h
    · simp [bad] at h
    rename_i h1
    rw [if_neg h1]
    split at h
    · simp [bad] at h
    rename_i h2
    rw [if_neg h2]
    split at h
    · simp [bad] at h
    rename_i h3
    rw [if_neg h3]
    split at h
    · simp [bad] at h
    rename_i h4
    rw [if_neg h4]
    split at h
    · simp [bad] at h
    rename_i h5
    rw [if_neg h5]
    obtain rfl : ok = true := by simpa using h1
    have hdr := scan_only hsc h2 (by omega)
    have hb : b < s.length := by omega
    split at h
    · rename_i h6
      rw [if_pos h6]
      refine ⟨n, [], ⟨by omega, by omega, trivial⟩, by simp [orBits], ?_⟩
      rw [hdr, byteAt_drop hb, h6]; rfl
    rename_i h6
    rw [if_neg h6]
    split at h
    · simp [bad] at h
    rename_i h7
    rw [if_neg h7]
    obtain ⟨k, ks, q1, q2, q3⟩ := nums_only s f _ _ _ (by omega) h
    refine ⟨n, k :: ks, ⟨by omega, by omega, q1⟩, by rw [q2]; simp [orBits], ?_⟩
    have h8 : byteAt s b = 44 := by simpa using h7
    rw [hdr, byteAt_drop hb, h8, q3]
    simp [commas]
theorem Inc.all : ∀ {ks : List Nat} {last : Int}, Inc last ks → ∀ x ∈ ks, last < (x : Int) ∧ x ≤ 63
  | k :: ks, last, h, x, hx => by
    obtain ⟨h1, h2, h3⟩ := h
    rcases List.mem_cons.1 hx with rfl | hx
    · exact ⟨h1, h2⟩
    · have := Inc.all h3 x hx; omega
theorem inc_of : ∀ (ks : List Nat) (last : Int), ks.Pairwise (· < ·) → (∀ x ∈ ks, last < (x : Int) ∧ x ≤ 63) → Inc last ks
  | [], _, _, _ => trivial
  | k :: ks, last, hp, h => by
    rw [List.pairwise_cons] at hp
    refine ⟨(h k (by simp)).1, (h k (by simp)).2, inc_of ks k hp.2 fun x hx => ⟨by have := hp.1 x hx; omega, (h x (by simp [hx])).2⟩⟩
theorem inc_cats (a : BitVec 64) : Inc (-1) (cats a) := by
  refine inc_of _ _ ((List.pairwise_lt_range (n := 64)).filter _) fun x hx => ?_
  have := cats_lt hx; omega
theorem filter_inc : ∀ (n m : Nat) (ks : List Nat), Inc ((m : Int) - 1) ks → (∀ x ∈ ks, x < m + n) → (List.range' m n).filter (fun i => decide (i ∈ ks)) = ks
  | 0, m, ks, hi, hl => by
    cases ks with
    | nil => rfl
    | cons k ks => have := hl k (by simp); have := hi.1; omega
  | n + 1, m, ks, hi, hl => by
    rw [List.range'_succ, List.filter_cons]
    cases ks with
    | nil => simp
    | cons k ks =>
      obtain ⟨h1, h2, h3⟩ := hi
      by_cases e : m = k
      · subst e
        rw [if_pos (by simp)]
        congr 1
        have ih := filter_inc n (m + 1) ks (by have : ((m + 1 : Nat) : Int) - 1 = m := by omega
                                               rw [this]; exact h3) (fun x hx => by have := hl x (by simp [hx]); omega)
        refine Eq.trans (List.filter_congr fun x hx => ?_) ih
        have : m + 1 ≤ x := (List.mem_range'_1.1 hx).1
        have : x ≠ m := by omega
        simp [this]
      · have hne : ∀ x ∈ k :: ks, m ≠ x := fun x hx he => by
          subst he
          rcases List.mem_cons.1 hx with rfl | hx
          · exact e rfl
          · have := (h3.all _ hx).1; omega
        rw [if_neg (by simp only [decide_eq_true_eq]; intro hm; exact hne m hm rfl)]
        exact filter_inc n (m + 1) (k :: ks) ⟨by omega, h2, h3⟩ (fun x hx => by have := hl x hx; omega)
theorem orBits_ofCats (ks : List Nat) : orBits 0#64 ks = ofCats ks := rfl
theorem cats_ofCats {ks : List Nat} (h : Inc (-1) ks) : cats (ofCats ks) = ks := by
  have h1 : ∀ i, i < 64 → (ofCats ks).getLsbD i = decide (i ∈ ks) := fun i hi => by
    unfold ofCats; rw [ofCats_bits]; simp [hi]
  unfold cats
  rw [List.range_eq_range']
  have e : (List.range' 0 64).filter (ofCats ks).getLsbD = (List.range' 0 64).filter (fun i => decide (i ∈ ks)) := by
    apply List.filter_congr
    intro x hx
    exact h1 x (by have := (List.mem_range'_1.1 hx).2; omega)
  rw [e]
  exact filter_inc 64 0 ks h (fun x hx => by have := (h.all x hx).2; omega)
theorem byteAt_app {s t : List UInt8} {i : Nat} (h : i < s.length) : byteAt (s ++ t) i = byteAt s i := by
  simp [byteAt, List.getElem?_append_left h]
/-- A text that begins with a label's text. -/
theorem readL_text (a : BitVec 64) (r : List UInt8) : readL (textL a ++ r) = ⟨a, (textL a).length, 0, 0⟩ := by
  have hlen : (textL a ++ r).length = (bodyT (cats a)).length + r.length + 2 := by simp [textL]; omega
  have h0 : byteAt (textL a ++ r) 0 = 123 := rfl
  have hd1 : (textL a ++ r).drop 1 = bodyT (cats a) ++ 125 :: r := by simp [textL]
  unfold readL
  rw [if_neg (by rw [h0]; simp only [ne_eq, not_true, or_false]; omega)]
  have hi := inc_cats a
  have hof := ofCats_cats a
  generalize hcs : cats a = cs at hlen hd1 hi hof
  cases cs with
  | nil =>
    obtain ⟨p1, p2, p3⟩ := byteAt_of hd1
    rw [if_pos ⟨p1, p2⟩]
    have : a = 0#64 := by rw [← hof]; rfl
    subst this
    simp [textL, hcs, bodyT]
  | cons k ks =>
    have hd1' : (textL a ++ r).drop 1 = dec2 k ++ (commas ks ++ 125 :: r) := by rw [hd1]; simp [bodyT]
    have hne : ¬ (1 < (textL a ++ r).length ∧ byteAt (textL a ++ r) 1 = 125) := by
      rintro ⟨h1, h2⟩
      rw [byteAt_drop h1, h2] at hd1'
      unfold dec2 at hd1'
      have hk := hi.2.1
      split at hd1' <;> simp only [List.cons_append, List.cons.injEq] at hd1'
      · have := congrArg UInt8.toNat hd1'.1
        simp at this; omega
      · have := congrArg UInt8.toNat hd1'.1
        simp at this; omega
    rw [if_neg hne, nums_dec _ r ks k _ _ _ 1 hi (by
      have h1 := (inc_cats a)
      have : ∀ ks : List Nat, ks.length ≤ (commas ks).length := fun ks => by
        induction ks with
        | nil => simp
        | cons x l ih => simp only [commas, List.length_cons, List.length_append]; omega
      have := this ks
      rw [hlen]
      simp only [bodyT, List.length_append]; omega) hd1']
    simp only [RL.mk.injEq, and_true]
    refine ⟨hof, ?_⟩
    simp only [textL, hcs, bodyT, List.length_cons, List.length_append, List.length_nil]; omega
theorem parseL_text (a : BitVec 64) : parseL (textL a) = ⟨a, 0, 0, 0⟩ := by
  have h := readL_text a []
  rw [List.append_nil] at h
  unfold parseL
  rw [h]
  simp
theorem parseL_only {s : List UInt8} (h1 : (parseL s).err = 0) : textL (parseL s).l = s := by
  unfold parseL at h1 ⊢
  split at h1
  · rename_i h; simp at h1; exact (h h1).elim
  rename_i h2
  rw [if_neg h2]
  split at h1
  · simp [bad] at h1
  rename_i h3
  rw [if_neg h3]
  have h2 : (readL s).err = 0 := by simpa using h2
  simp only
  unfold readL at h2 h3 ⊢
  split at h2
  · simp [bad] at h2
  rename_i h4
  rw [if_neg h4] at h3 ⊢
  have hs0 : s = 123 :: s.drop 1 := by
    have h5 : s.length ≠ 0 ∧ byteAt s 0 = 123 := by simpa using h4
    have := byteAt_drop (s := s) (a := 0) (by omega)
    rw [h5.2] at this
    exact this
  split at h2
  · rename_i h6
    rw [if_pos h6] at h3 ⊢
    simp only at h3 ⊢
    have h7 := byteAt_drop h6.1
    have hz : s.drop (1 + 1) = [] := List.drop_eq_nil_of_le (by omega)
    rw [h6.2, hz] at h7
    rw [hs0, h7]
    simp [textL, cats_zero, bodyT]
  · rename_i h6
    rw [if_neg h6] at h3 ⊢
    obtain ⟨k, ks, q1, q2, q3⟩ := nums_only s _ _ _ 1 (by have h5 : s.length ≠ 0 := (by simpa using h4 : s.length ≠ 0 ∧ _).1; omega) h2
    rw [q2, orBits_ofCats, textL, cats_ofCats q1]
    have hz : s.drop (nums s (s.length + 1) 0#64 (-1) 1).used = [] := List.drop_eq_nil_of_le (by omega)
    rw [hz] at q3
    rw [hs0, q3]
    simp [bodyT]
end Go.Proofs.YtnmlhilckjmhnaaDoor
