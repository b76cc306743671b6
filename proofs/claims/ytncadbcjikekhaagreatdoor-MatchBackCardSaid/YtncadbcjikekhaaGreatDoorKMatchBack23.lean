/- Part 23 of the proof of MatchBack: an abstract semantics that is proved sound for the model, contracts of functions in it, and plain facts (O3 O4 O5 O6 O7 O8 A17 A17b). No condition. -/
import Derived.Test.YtncadbcjikekhaaGreatDoorKMatchBack22
set_option linter.all false
namespace Go.Proofs.YtncadbcjikekhaaGreatDoor
open Go.Abs Go.Lib
theorem nE_z {e x : Int} (h : nE e x = 0) : e = 0 ∧ x = 0 := by
  unfold nE at h
  by_cases hx : x = 0
  · subst hx; exact ⟨by simpa using h, rfl⟩
  · have hx2 : (x != 0) = true := by rw [bne_iff_ne]; exact hx
    rw [hx2] at h
    cases he : (e != 3) with
    | true => rw [he] at h; exact absurd h hx
    | false =>
      rw [he] at h
      have : e = 3 := by simpa using he
      subst this; simp at h
theorem nE_0 (e : Int) : nE e 0 = e := rfl
theorem nE_3 {e : Int} : nE e 3 ≠ 0 := fun h => by have := (nE_z h).2; omega
theorem lastI_app (c : UInt8) (t : List UInt8) (ht : c ∉ t) : ∀ p, lastI (p ++ c :: t) c = p.length
  | [] => by
    have h0 : lastI t c = -1 := by
      induction t with
      | nil => rfl
      | cons x t ih =>
        have h2 : c ∉ t := fun h => ht (List.mem_cons_of_mem _ h)
        have h3 : (x == c) = false := by rw [beq_eq_false_iff_ne]; rintro rfl; exact ht List.mem_cons_self
        unfold lastI; rw [ih h2, h3]; rfl
    show lastI (c :: t) c = _
    unfold lastI; rw [h0]; simp
  | x :: p => by
    have ih := lastI_app c t ht p
    rw [List.cons_append]
    unfold lastI
    rw [ih, decide_eq_true (by omega)]; simp
theorem lastI_split {s : List UInt8} {c : UInt8} (h : 0 ≤ lastI s c) : s.take (lastI s c).toNat ++ c :: s.drop ((lastI s c).toNat + 1) = s := by
  induction s with
  | nil => simp [lastI] at h
  | cons x s ih =>
    unfold lastI at h ⊢
    cases h1 : decide (0 ≤ lastI s c) with
    | true =>
      have h2 : 0 ≤ lastI s c := by simpa using h1
      simp only [cond_true]
      have e : (lastI s c + 1).toNat = (lastI s c).toNat + 1 := by omega
      rw [e, List.take_succ_cons, List.drop_succ_cons, List.cons_append, ih h2]
    | false =>
      rw [h1] at h
      cases h3 : (x == c) with
      | true => have : x = c := by simpa using h3
                subst this; simp
      | false => rw [h3] at h; simp at h
theorem num_read (n : Int) (h0 : 0 ≤ n) (hn : n ≤ 9223372036854775807) : numX (itoa n) = n ∧ natE (itoa n) numM = 0 := by
  have h := nat_read n numM h0 (by unfold numM; omega) (by unfold numM; omega)
  exact h
theorem ev_parts (d : Idd) (a : Int) : lastI (evT d a) 58 = ((textL (lblB d.l) ++ [35] ++ itoa d.n).length : Nat) ∧ preS (evT d a) = textL (lblB d.l) ++ [35] ++ itoa d.n ∧ atS (evT d a) = itoa a ∧
    lastI (preS (evT d a)) 35 = ((textL (lblB d.l)).length : Nat) ∧ labS (preS (evT d a)) = textL (lblB d.l) ∧ noS (preS (evT d a)) = itoa d.n := by
  have h58 : (58 : UInt8) ∉ itoa a := itoa_chars _ (by decide) (by decide)
  have h35 : (35 : UInt8) ∉ itoa d.n := itoa_chars _ (by decide) (by decide)
  have e1 : evT d a = (textL (lblB d.l) ++ [35] ++ itoa d.n) ++ 58 :: itoa a := by simp [evT]
  have l1 : lastI (evT d a) 58 = ((textL (lblB d.l) ++ [35] ++ itoa d.n).length : Nat) := by rw [e1]; exact lastI_app 58 _ h58 _
  have p1 : preS (evT d a) = textL (lblB d.l) ++ [35] ++ itoa d.n := by
    unfold preS; rw [l1, Int.toNat_natCast, e1, List.take_left]
  have a1 : atS (evT d a) = itoa a := by
    unfold atS; rw [l1, Int.toNat_natCast, e1, List.drop_append]; simp
  have e2 : textL (lblB d.l) ++ [35] ++ itoa d.n = textL (lblB d.l) ++ 35 :: itoa d.n := by simp
  have l2 : lastI (preS (evT d a)) 35 = ((textL (lblB d.l)).length : Nat) := by rw [p1, e2]; exact lastI_app 35 _ h35 _
  refine ⟨l1, p1, a1, l2, ?_, ?_⟩
  · unfold labS; rw [l2, Int.toNat_natCast, p1, e2, List.take_left]
  · unfold noS; rw [l2, Int.toNat_natCast, p1, e2, List.drop_append]; simp
theorem ev_read (d : Idd) (a : Int) (hd : U64 d.l) (h1 : 0 ≤ d.n ∧ d.n ≤ 9223372036854775807) (h2 : 0 ≤ a ∧ a ≤ 9223372036854775807) : evI (evT d a) = d ∧ evA (evT d a) = a ∧ ∀ e, evE (evT d a) e = e := by
  obtain ⟨l1, p1, a1, l2, b1, n1⟩ := ev_parts d a
  have k1 : evNo (evT d a) = false := by unfold evNo; rw [l1, decide_eq_false (by omega)]
  have k2 : evNo2 (evT d a) = false := by unfold evNo2; rw [l2, decide_eq_false (by omega)]
  obtain ⟨e1, e2, e3⟩ := ev_eq k1 k2
  have r1 := num_read d.n h1.1 h1.2
  have r2 := num_read a h2.1 h2.2
  have hp := parseL_text (lblB d.l)
  refine ⟨?_, ?_, fun e => ?_⟩
  · rw [e1, b1, n1, hp, r1.1, lblB_nat hd]
  · rw [e2, a1, r2.1]
  · rw [e3]
    have hb : evBadL (evT d a) = false := by unfold evBadL; rw [b1, hp]; rfl
    simp only
    rw [hb, cond_false]
    unfold numE
    rw [n1, a1, r1.2, r2.2]; rfl
theorem ev_only {s : List UInt8} {e : Int} (h : evE s e = 0) : e = 0 ∧ evT (evI s) (evA s) = s := by
  cases k1 : evNo s with
  | true => unfold evE at h; rw [k1] at h; exact absurd h nE_3
  | false =>
    cases k2 : evNo2 s with
    | true => unfold evE at h; rw [k1, k2] at h; exact absurd h nE_3
    | false =>
      obtain ⟨e1, e2, e3⟩ := ev_eq k1 k2
      rw [e3] at h
      simp only at h
      unfold numE at h
      obtain ⟨h1, h2⟩ := nE_z h
      cases hb : evBadL s with
      | true => rw [hb] at h1; exact absurd h1 nE_3
      | false =>
        rw [hb] at h1
        obtain ⟨h3, h4⟩ := nE_z h1
        refine ⟨h3, ?_⟩
        have hl : (parseL (labS (preS s))).err = 0 := by unfold evBadL at hb; simpa using hb
        have t1 := parseL_only hl
        have t2 : itoa (numX (noS (preS s))) = noS (preS s) := nat_only h2
        have t3 : itoa (numX (atS s)) = atS s := nat_only h4
        have s1 := lastI_split (s := s) (c := 58) (by unfold evNo at k1; simpa using k1)
        have s2 := lastI_split (s := preS s) (c := 35) (by unfold evNo2 at k2; simpa using k2)
        have hlb : lblB (((parseL (labS (preS s))).l.toNat : Nat) : Int) = (parseL (labS (preS s))).l := by
          unfold lblB; rw [BitVec.ofInt_natCast, BitVec.ofNat_toNat, BitVec.setWidth_eq]
        rw [e1, e2]
        unfold evT
        simp only
        rw [hlb, t1, t2, t3]
        have s3 : labS (preS s) ++ 35 :: noS (preS s) = preS s := s2
        have s4 : preS s ++ 58 :: atS s = s := s1
        have : labS (preS s) ++ [35] ++ noS (preS s) ++ [58] ++ atS s = (labS (preS s) ++ 35 :: noS (preS s)) ++ 58 :: atS s := by simp
        rw [this, s3, s4]
theorem dec2_no {c : UInt8} (hc : dg c = false) : ∀ k, k < 100 → c ∉ dec2 k := by
  intro k hk hm
  have hd : ∀ d, d < 10 → dg (UInt8.ofNat (48 + d)) = true := by
    intro d hd
    have e : (UInt8.ofNat (48 + d)).toNat = 48 + d := by simp; omega
    unfold dg; rw [e]; simp; omega
  unfold dec2 at hm
  split at hm
  · rename_i h
    simp only [List.mem_singleton] at hm
    subst hm; rw [hd k h] at hc; cases hc
  · simp only [List.mem_cons, List.not_mem_nil, or_false] at hm
    rcases hm with hm | hm
    · subst hm; rw [hd _ (by omega)] at hc; cases hc
    · subst hm; rw [hd _ (by omega)] at hc; cases hc
theorem commas_no {c : UInt8} (hc : dg c = false) (h44 : c ≠ 44) : ∀ l, (∀ k ∈ l, k < 100) → c ∉ commas l
  | [], _ => by simp [commas]
  | k :: l, h => by
    unfold commas
    simp only [List.mem_cons, List.mem_append, not_or]
    exact ⟨h44, dec2_no hc k (h k List.mem_cons_self), commas_no hc h44 l (fun x hx => h x (List.mem_cons_of_mem _ hx))⟩
theorem textL_no {c : UInt8} (hc : dg c = false) (h44 : c ≠ 44) (h1 : c ≠ 123) (h2 : c ≠ 125) (a : BitVec 64) : c ∉ textL a := by
  have hk : ∀ k ∈ cats a, k < 100 := fun k hk => by
    have := Inc.all (inc_cats a) k hk; omega
  unfold textL
  simp only [List.mem_cons, List.mem_append, List.not_mem_nil, or_false, not_or]
  refine ⟨h1, ?_, h2⟩
  cases hc2 : cats a with
  | nil => simp [bodyT]
  | cons k l =>
    rw [hc2] at hk
    unfold bodyT
    simp only [List.mem_append, not_or]
    exact ⟨dec2_no hc k (hk k List.mem_cons_self), commas_no hc h44 l (fun x hx => hk x (List.mem_cons_of_mem _ hx))⟩
theorem ev_no (d : Idd) (a : Int) : (32 : UInt8) ∉ evT d a := by
  unfold evT
  simp only [List.mem_append, List.mem_singleton, not_or]
  exact ⟨⟨⟨⟨textL_no (by decide) (by decide) (by decide) (by decide) _, by decide⟩, itoa_chars _ (by decide) (by decide)⟩, by decide⟩, itoa_chars _ (by decide) (by decide)⟩
theorem ev_is (d : Idd) (a : Int) : isEv (evT d a) = true := by
  have : evT d a ≠ [61] ∧ evT d a ≠ [33] := by
    unfold evT textL
    refine ⟨fun h => ?_, fun h => ?_⟩ <;> simp at h
  unfold isEv
  simp only [Bool.and_eq_true, bne_iff_ne]
  exact this
end Go.Proofs.YtncadbcjikekhaaGreatDoor
namespace Go.Proofs.YtncadbcjikekhaaGreatDoor
open Go.Abs Go.Lib
theorem numE_z {s : List UInt8} {e : Int} (h : numE s e = 0) : e = 0 ∧ itoa (numX s) = s := by
  unfold numE at h
  obtain ⟨h1, h2⟩ := nE_z h
  exact ⟨h1, nat_only h2⟩
theorem wdE_z {ws : List (List UInt8)} {e : Int} (h : wdE ws e = 0) : e = 0 ∧ ws = wdH ws :: ws.tail := by
  cases ws with
  | nil => exact absurd h nE_3
  | cons w r => exact ⟨h, rfl⟩
theorem wnE_z {ws : List (List UInt8)} {e : Int} (h : wnE ws e = 0) : e = 0 ∧ ws = itoa (wnX ws) :: ws.tail := by
  unfold wnE at h
  obtain ⟨h1, h2⟩ := numE_z h
  obtain ⟨h3, h4⟩ := wdE_z h1
  refine ⟨h3, ?_⟩
  unfold wnX
  rw [h2]; exact h4
theorem evs_z : ∀ (l : List (List UInt8)) {e : Int}, l.foldl (fun e w => evE w e) e = 0 → e = 0 ∧ ((l.map evI).zip (l.map evA)).map (fun q => evT q.1 q.2) = l
  | [], _, h => ⟨h, rfl⟩
  | w :: l, e, h => by
    obtain ⟨h1, h2⟩ := evs_z l (e := evE w e) h
    obtain ⟨h3, h4⟩ := ev_only h1
    refine ⟨h3, ?_⟩
    simp only [List.map_cons, List.zip_cons_cons]
    rw [h4, h2]
theorem vals_z : ∀ (l : List (List UInt8)) {e : Int}, l.foldl valE e = 0 → e = 0 ∧ (l.map intX).map itoa = l
  | [], _, h => ⟨h, rfl⟩
  | w :: l, e, h => by
    obtain ⟨h1, h2⟩ := vals_z l (e := valE e w) h
    obtain ⟨h3, h4⟩ := nE_z h1
    refine ⟨h3, ?_⟩
    simp only [List.map_cons]
    rw [write_read w h4, h2]
theorem erN_z {w : List UInt8} {e : Int} (h : erN w e = 0) : e = 0 ∧ erE w ≠ 0 ∧ errS (erE w) = w := by
  unfold erN at h
  unfold erE
  cases h1 : (w == e7) with
  | true =>
    rw [h1] at h
    have : w = e7 := by simpa using h1
    exact ⟨h, by rw [cond_true]; decide, by rw [cond_true, err_7, this]⟩
  | false =>
    rw [h1] at h
    cases h2 : (w == e16) with
    | true =>
      rw [h2] at h
      have : w = e16 := by simpa using h2
      exact ⟨h, by rw [cond_false, cond_true]; decide, by rw [cond_false, cond_true, err_16, this]⟩
    | false => rw [h2] at h; exact absurd h nE_3
theorem ntN_z {w : List UInt8} {e : Int} (h : ntN w e = 0) : e = 0 ∧ errS (ntE w) = w := by
  unfold ntN at h
  unfold ntE
  cases h1 : (w == e17) with
  | true =>
    rw [h1] at h
    have : w = e17 := by simpa using h1
    exact ⟨h, by rw [cond_true, err_17, this]⟩
  | false =>
    rw [h1] at h
    cases h2 : (w == e18) with
    | true =>
      rw [h2] at h
      have : w = e18 := by simpa using h2
      exact ⟨h, by rw [cond_false, cond_true, err_18, this]⟩
    | false =>
      rw [h2] at h
      cases h3 : (w == e19) with
      | true =>
        rw [h3] at h
        have : w = e19 := by simpa using h3
        exact ⟨h, by rw [cond_false, cond_false, cond_true, err_19, this]⟩
      | false => rw [h3] at h; exact absurd h nE_3
theorem what_only {ws : List (List UInt8)} {e : Int} (h : whatE ws e = 0) (hr : whatR ws = []) : e = 0 ∧ itemL (whatI ws) = ws := by
  have hk : ((whatI ws).k == 2) = false := rfl
  have hsplit : ws.tail = whEvs ws ++ whRest ws := by
    have h1 : whEvs ws = ws.tail.take (whEvs ws).length := by
      have := List.takeWhile_prefix isEv (l := ws.tail)
      exact (List.prefix_iff_eq_take.1 this)
    unfold whRest
    conv => lhs; rw [← List.take_append_drop (whEvs ws).length ws.tail]
    rw [← h1]
  have key : whE0 ws e = 0 → e = 0 ∧ ws = itoa (wnX ws) :: ws.tail ∧ evsT (whatI ws) = whEvs ws := by
    intro h0
    unfold whE0 at h0
    cases hem : (whEvs ws).isEmpty with
    | true => rw [hem] at h0; exact absurd h0 nE_3
    | false =>
      rw [hem] at h0
      unfold whX at h0
      simp only [cond_false, List.take_length] at h0
      obtain ⟨h1, h2⟩ := evs_z _ h0
      obtain ⟨h3, h4⟩ := wnE_z h1
      exact ⟨h3, h4, h2⟩
  unfold itemL
  rw [hk, cond_false]
  unfold whatE at h
  unfold whatR at hr
  cases hq : whRest ws with
  | nil =>
    rw [hq] at h
    obtain ⟨h1, h2, h3⟩ := key h
    refine ⟨h1, ?_⟩
    have ht : tailW (whatI ws) = [] := by unfold tailW whatI; simp only; rw [hq]; rfl
    rw [ht, h3, List.append_nil]
    rw [hq, List.append_nil] at hsplit
    conv => rhs; rw [h2, hsplit]
    rfl
  | cons w r =>
    rw [hq] at h hr
    simp only [whTE, whR] at h hr
    cases hw : (w == [33]) with
    | true =>
      rw [hw] at h hr
      simp only [cond_true] at h hr
      obtain ⟨h1, h2, h3⟩ := erN_z h
      obtain ⟨h4, h5⟩ := wdE_z h1
      obtain ⟨h6, h7, h8⟩ := key h4
      refine ⟨h6, ?_⟩
      have hw2 : w = [33] := by simpa using hw
      have hE : (whatI ws).e = erE (wdH r) := by unfold whatI; simp only; rw [hq]; simp only [whER]; rw [hw]; rfl
      have ht : tailW (whatI ws) = [[33], wdH r] := by
        unfold tailW
        rw [hE, show (erE (wdH r) != 0) = true by rw [bne_iff_ne]; exact h2, cond_true, h3]
      rw [ht, h8]
      rw [hr] at h5
      rw [hq, hw2, h5] at hsplit
      conv => rhs; rw [h7, hsplit]
      rfl
    | false =>
      rw [hw] at h hr
      simp only [cond_false] at h hr
      obtain ⟨h1, h2⟩ := vals_z _ h
      obtain ⟨h3, h4⟩ := nE_z h1
      obtain ⟨h5, h6⟩ := wdE_z h3
      obtain ⟨h7, h8, h9⟩ := key h5
      refine ⟨h7, ?_⟩
      have hw2 : w = [61] := by
        rcases tw_end (p := isEv) ws.tail with h0 | ⟨w', r', h0, hp⟩
        · have : whRest ws = [] := h0
          rw [this] at hq; cases hq
        · have h10 : whRest ws = w' :: r' := h0
          rw [h10] at hq
          cases hq
          unfold isEv at hp
          simp only [bne, hw, Bool.not_false, Bool.and_true, Bool.not_eq_false'] at hp
          simpa using hp
      have hE : (whatI ws).e = 0 := by unfold whatI; simp only; rw [hq]; simp only [whER]; rw [hw]; rfl
      have hV : (whatI ws).va = (wdH r :: r.tail).map intX := by unfold whatI; simp only; rw [hq]; simp only [whV]; rw [hw]; rfl
      have ht : tailW (whatI ws) = [61] :: r := by
        unfold tailW
        rw [hE, hV]
        simp only [bne_self_eq_false, cond_false, List.map_cons, List.length_cons]
        rw [decide_eq_true (by omega), cond_true, write_read _ h4, h2, ← h6]
      rw [ht, h9]
      rw [hq, hw2] at hsplit
      conv => rhs; rw [h8, hsplit]
      rfl
theorem told_only {ws : List (List UInt8)} {e : Int} (h : toldE ws e = 0) (hr : ws.tail.tail.tail = []) : e = 0 ∧ itemL (toldI ws) = ws := by
  have hk : ((toldI ws).k == 2) = true := rfl
  unfold itemL
  rw [hk, cond_true]
  unfold toldE at h
  obtain ⟨h1, h2⟩ := wnE_z h
  obtain ⟨h3, h4⟩ := ntN_z h1
  obtain ⟨h5, h6⟩ := wdE_z h3
  obtain ⟨h7, h8⟩ := wnE_z h5
  refine ⟨h7, ?_⟩
  show [itoa (wnX ws), errS (ntE (wdH ws.tail)), itoa (wnX ws.tail.tail)] = ws
  rw [h4]
  conv => rhs; rw [h8, h6, h2, hr]
theorem item_only {s : List UInt8} (h : ipE s = 0) : rightS (ipX s) = 0 ∧ itemS (ipX s) = s := by
  have hor : ipK s = true ∨ ipK s = false ∧ ipN s = true := by
    cases hk : ipK s with
    | true => exact .inl rfl
    | false =>
      cases hn : ipN s with
      | true => exact .inr ⟨rfl, rfl⟩
      | false => unfold ipE at h; rw [hk, hn] at h; simp at h
  have hI : ipE2 s = 0 := by rcases hor with k | k <;> (unfold ipE at h; simpa only [k, cond_true, cond_false] using h)
  unfold ipE2 at hI
  cases h1 : (ipE1 s == 0) with
  | false => rw [h1] at hI; simp only [cond_false] at hI; rw [hI] at h1; cases h1
  | true =>
    rw [h1, cond_true] at hI
    refine ⟨hI, ?_⟩
    have h2 : ipE1 s = 0 := by simpa using h1
    unfold ipE1 at h2
    cases hR : (ipR s).isEmpty with
    | false => rw [hR] at h2; exact absurd h2 nE_3
    | true =>
      rw [hR, cond_true] at h2
      have hR2 : ipR s = [] := List.isEmpty_iff.1 hR
      have hj := parts_join 32 _ s (Nat.le_refl _)
      have hcons : partsL s 32 = wdH (partsL s 32) :: (partsL s 32).tail := by
        cases hp : partsL s 32 with
        | nil => exact absurd hp hj.2
        | cons w r => rfl
      unfold itemS
      rcases hor with k | ⟨k, k2⟩
      · unfold ipE0 at h2
        unfold ipR at hR2
        unfold ipX
        rw [k] at h2 hR2 ⊢
        simp only [cond_true] at h2 hR2 ⊢
        rw [(what_only h2 hR2).2]
        have hh : itemH (whatI (partsL s 32).tail) = wdH (partsL s 32) := by
          unfold ipK at k
          have : wdH (partsL s 32) = sFound := by simpa using k
          rw [this]; rfl
        rw [hh, ← hcons]
        exact hj.1
      · unfold ipE0 at h2
        unfold ipR at hR2
        unfold ipX
        rw [k] at h2 hR2 ⊢
        simp only [cond_false] at h2 hR2 ⊢
        rw [(told_only h2 hR2).2]
        have hh : itemH (toldI (partsL s 32).tail) = wdH (partsL s 32) := by
          unfold ipN at k2
          have : wdH (partsL s 32) = sNotice := by simpa using k2
          rw [this]; rfl
        rw [hh, ← hcons]
        exact hj.1
end Go.Proofs.YtncadbcjikekhaaGreatDoor
namespace Go.Proofs.YtncadbcjikekhaaGreatDoor
open Go.Abs Go.Lib
theorem found_parts {x : It} (hk : x.k = 1) (h : rightS x = 0) : (1 ≤ x.q ∧ x.q ≤ 1099511627776) ∧ x.ids ≠ [] ∧ x.at'.length = x.ids.length ∧ (∀ q ∈ x.ids.zip x.at', idBad q = false) ∧ restS x = 0 := by
  have h1 : rightS x = foundS x := by unfold rightS; rw [hk]; rfl
  rw [h1] at h
  unfold foundS at h
  cases c1 : countB x.q with
  | false => rw [c1] at h; simp at h
  | true =>
    rw [c1] at h
    simp only [Bool.not_true, cond_false] at h
    cases c2 : decide (x.ids.length = 0) with
    | true => rw [c2] at h; simp at h
    | false =>
      cases c3 : decide (12 < x.ids.length) with
      | true => rw [c2, c3] at h; simp at h
      | false =>
        cases c4 : decide (x.at'.length = x.ids.length) with
        | false => rw [c2, c3, c4] at h; simp at h
        | true =>
          cases c5 : (x.ids.zip x.at').any idBad with
          | true => rw [c2, c3, c4, c5] at h; simp at h
          | false =>
            rw [c2, c3, c4, c5] at h
            simp only [Bool.not_true, cond_false] at h
            refine ⟨?_, ?_, by simpa using c4, ?_, h⟩
            · unfold countB at c1; simpa using c1
            · rintro h0; rw [h0] at c2; simp at c2
            · intro q hq
              have := List.any_eq_false.1 c5 q hq
              simpa using this
theorem rest_parts {x : It} (h : restS x = 0) : (x.e = 0 ∨ (x.e = 7 ∨ x.e = 16) ∧ x.va = []) ∧ x.c = 0 ∧ x.va.length ≤ 4 := by
  unfold restS at h
  cases h1 : (((x.e != 0) && (x.e != 7)) && (x.e != 16)) with
  | true => rw [h1] at h; simp at h
  | false =>
    cases h2 : ((x.e != 0) && decide ((0 : Int) < (x.va.length : Int))) with
    | true => rw [h1, h2] at h; simp at h
    | false =>
      cases h3 : decide ((4 : Int) < (x.va.length : Int)) with
      | true => rw [h1, h2, h3] at h; simp at h
      | false =>
        cases h4 : (x.c != 0) with
        | true => rw [h1, h2, h3, h4] at h; simp at h
        | false =>
          simp only [Bool.and_eq_false_iff, bne_eq_false_iff_eq, decide_eq_false_iff_not] at h1 h2 h3 h4
          refine ⟨?_, h4, by omega⟩
          by_cases he : x.e = 0
          · exact .inl he
          · refine .inr ⟨by omega, ?_⟩
            rcases h2 with h2 | h2
            · exact absurd h2 he
            · cases hv : x.va with
              | nil => rfl
              | cons a l => rw [hv] at h2; simp at h2
theorem tail_no {x : It} (h : restS x = 0) (hv : ∀ v ∈ x.va, I64 v) : ∀ w ∈ tailW x, (32 : UInt8) ∉ w := by
  obtain ⟨h1, _, _⟩ := rest_parts h
  intro w hw
  unfold tailW at hw
  rcases h1 with h1 | ⟨h1, _⟩
  · rw [h1] at hw
    simp only [bne_self_eq_false, cond_false] at hw
    cases hl : decide (0 < x.va.length) with
    | false => rw [hl] at hw; simp at hw
    | true =>
      rw [hl] at hw
      simp only [cond_true, List.mem_cons, List.mem_map] at hw
      rcases hw with rfl | ⟨v, hv', rfl⟩
      · decide
      · exact itoa_chars _ (by decide) (by decide)
  · have h2 : (x.e != 0) = true := by rw [bne_iff_ne]; omega
    rw [h2] at hw
    simp only [cond_true, List.mem_cons, List.not_mem_nil, or_false] at hw
    rcases hw with rfl | rfl
    · decide
    · rcases h1 with h1 | h1
      · rw [h1, err_7]; decide
      · rw [h1, err_16]; decide
theorem zip_ev : ∀ (l : List Idd) (m : List Int), m.length = l.length → (∀ q ∈ l.zip m, idBad q = false) → (∀ d ∈ l, U64 d.l) → ((l.zip m).map fun q => evT q.1 q.2).map evI = l ∧ ((l.zip m).map fun q => evT q.1 q.2).map evA = m ∧ ∀ e, ((l.zip m).map fun q => evT q.1 q.2).foldl (fun e w => evE w e) e = e
  | [], [], _, _, _ => ⟨rfl, rfl, fun _ => rfl⟩
  | [], _ :: _, h, _, _ => by simp at h
  | _ :: _, [], h, _, _ => by simp at h
  | d :: l, a :: m, h, hb, hd => by
    have ih := zip_ev l m (by simpa using h) (fun q hq => hb q (by rw [List.zip_cons_cons]; exact List.mem_cons_of_mem _ hq)) (fun d hd' => hd d (List.mem_cons_of_mem _ hd'))
    have hb0 := hb (d, a) (by rw [List.zip_cons_cons]; exact List.mem_cons_self)
    unfold idBad at hb0
    simp only [Bool.or_eq_false_iff, decide_eq_false_iff_not] at hb0
    obtain ⟨e1, e2, e3⟩ := ev_read d a (hd d List.mem_cons_self) (by omega) (by omega)
    simp only [List.zip_cons_cons, List.map_cons, List.foldl_cons]
    rw [e1, e2, ih.1, ih.2.1]
    exact ⟨rfl, rfl, fun e => by rw [e3]; exact ih.2.2 e⟩
theorem tw_all {p : List UInt8 → Bool} : ∀ (l r : List (List UInt8)), (∀ w ∈ l, p w = true) → (r = [] ∨ ∃ w t, r = w :: t ∧ p w = false) → (l ++ r).takeWhile p = l
  | [], r, _, h => by
    rcases h with rfl | ⟨w, t, rfl, h⟩
    · rfl
    · rw [List.nil_append, List.takeWhile_cons_of_neg]; simpa using h
  | w :: l, r, hl, h => by
    rw [List.cons_append, List.takeWhile_cons_of_pos (hl w List.mem_cons_self), tw_all l r (fun x hx => hl x (List.mem_cons_of_mem _ hx)) h]
theorem vals_read : ∀ (l : List Int), (∀ v ∈ l, I64 v) → (l.map itoa).map intX = l ∧ ∀ e, (l.map itoa).foldl valE e = e
  | [], _ => ⟨rfl, fun _ => rfl⟩
  | v :: l, h => by
    have ih := vals_read l (fun x hx => h x (List.mem_cons_of_mem _ hx))
    obtain ⟨r1, r2⟩ := read_itoa v (h v List.mem_cons_self)
    simp only [List.map_cons, List.foldl_cons]
    rw [r1, ih.1]
    refine ⟨rfl, fun e => ?_⟩
    have : valE e (itoa v) = e := by unfold valE; rw [r2, nE_0]
    rw [this]; exact ih.2 e
theorem item_back {x : It} (hk : x.k = 1) (h : rightS x = 0) (hd : ∀ d ∈ x.ids, U64 d.l) (hv : ∀ v ∈ x.va, I64 v) : ipE (itemS x) = 0 ∧ ipX (itemS x) = x := by
  obtain ⟨hq, hne, hl, hb, hrs⟩ := found_parts hk h
  obtain ⟨he, hc, hvl⟩ := rest_parts hrs
  have hk2 : (x.k == 2) = false := by rw [hk]; rfl
  have hL : itemL x = itoa x.q :: (evsT x ++ tailW x) := by unfold itemL; rw [hk2]; rfl
  have hH : itemH x = sFound := by unfold itemH; rw [hk2]; rfl
  have hp : partsL (itemS x) 32 = sFound :: itemL x := by
    unfold itemS
    rw [hH]
    refine join_parts 32 _ (by simp) (fun w hw => ?_)
    rw [hL] at hw
    simp only [List.mem_cons, List.mem_append] at hw
    rcases hw with rfl | rfl | hw | hw
    · decide
    · exact itoa_chars _ (by decide) (by decide)
    · unfold evsT at hw
      obtain ⟨q, _, rfl⟩ := List.mem_map.1 hw
      exact ev_no _ _
    · exact tail_no hrs hv w hw
  have hK : ipK (itemS x) = true := by unfold ipK; rw [hp]; simp [wdH]
  obtain ⟨z1, z2, z3⟩ := zip_ev x.ids x.at' hl hb hd
  have hE : ∀ w ∈ evsT x, isEv w = true := by
    intro w hw
    unfold evsT at hw
    obtain ⟨q, _, rfl⟩ := List.mem_map.1 hw
    exact ev_is _ _
  have hT : tailW x = [] ∨ ∃ w t, tailW x = w :: t ∧ isEv w = false := by
    unfold tailW
    cases (x.e != 0) with
    | true => exact .inr ⟨_, _, rfl, by decide⟩
    | false =>
      cases decide (0 < x.va.length) with
      | true => exact .inr ⟨_, _, rfl, by decide⟩
      | false => exact .inl rfl
  have hW : whEvs (itemL x) = evsT x := by unfold whEvs; rw [hL, List.tail_cons]; exact tw_all _ _ hE hT
  have hR : whRest (itemL x) = tailW x := by unfold whRest; rw [hW, hL, List.tail_cons, List.drop_left]
  obtain ⟨n1, n2⟩ := num_read x.q (by omega) (by omega)
  have hn1 : wnX (itemL x) = x.q := by unfold wnX; rw [hL]; exact n1
  have hn2 : wnE (itemL x) 0 = 0 := by
    unfold wnE; rw [hL]
    show numE (itoa x.q) (wdE (itoa x.q :: _) 0) = 0
    unfold numE; rw [n2, nE_0]; rfl
  have hne2 : (evsT x).isEmpty = false := by
    unfold evsT
    cases h1 : x.ids with
    | nil => exact absurd h1 hne
    | cons d l =>
      cases h2 : x.at' with
      | nil => rw [h1, h2] at hl; simp at hl
      | cons a m => rfl
  have hE0 : whE0 (itemL x) 0 = 0 := by
    unfold whE0 whX
    rw [hW, hne2, cond_false, List.take_length, hn2]
    exact z3 0
  have key : whTE 0 (tailW x) = 0 ∧ whV (tailW x) = x.va ∧ whER (tailW x) = x.e ∧ whR (tailW x) = [] := by
    rcases he with he | ⟨he, hva⟩
    · unfold tailW
      rw [he]
      simp only [bne_self_eq_false, cond_false]
      cases hva : x.va with
      | nil => exact ⟨rfl, rfl, rfl, rfl⟩
      | cons v l =>
        rw [hva] at hv
        obtain ⟨r1, r2⟩ := vals_read (v :: l) hv
        simp only [List.length_cons, decide_eq_true (Nat.succ_pos _), cond_true]
        refine ⟨?_, ?_, rfl, rfl⟩
        · exact r2 0
        · exact r1
    · have h2 : (x.e != 0) = true := by rw [bne_iff_ne]; omega
      unfold tailW
      rw [h2, cond_true, hva]
      rcases he with he | he
      · rw [he, err_7]; exact ⟨rfl, rfl, rfl, rfl⟩
      · rw [he, err_16]; exact ⟨rfl, rfl, rfl, rfl⟩
  have hX : ipX (itemS x) = x := by
    unfold ipX
    rw [hK, cond_true, hp, List.tail_cons]
    unfold whatI
    rw [hW, hR, hn1, key.2.1, key.2.2.1]
    unfold evsT
    rw [z1, z2]
    cases x; simp_all
  have hE1 : ipE1 (itemS x) = 0 := by
    unfold ipE1 ipR ipE0
    rw [hK, cond_true, cond_true, hp, List.tail_cons]
    unfold whatR whatE
    rw [hR, key.2.2.2, hE0]
    exact key.1
  refine ⟨?_, hX⟩
  unfold ipE
  rw [hK, cond_true]
  unfold ipE2
  rw [hE1, hX]
  exact h
end Go.Proofs.YtncadbcjikekhaaGreatDoor
namespace Go.Proofs.YtncadbcjikekhaaGreatDoor
open Go.Abs Go.Lib
set_option linter.all false
set_option maxRecDepth 100000
theorem found_len {x : It} (hk : x.k = 1) (h : rightS x = 0) : x.ids.length ≤ 12 := by
  have h1 : rightS x = foundS x := by unfold rightS; rw [hk]; rfl
  rw [h1] at h
  unfold foundS at h
  cases c3 : decide (12 < x.ids.length) with
  | false => simpa using c3
  | true =>
    cases c1 : countB x.q with
    | false => rw [c1] at h; simp at h
    | true =>
      cases c2 : decide (x.ids.length = 0) with
      | true => rw [c1, c2] at h; simp at h
      | false => rw [c1, c2, c3] at h; simp at h
theorem notice_parts {x : It} (hk : x.k = 2) (h : rightS x = 0) : I64 x.q ∧ I64 x.e ∧ I64 x.c ∧ x.ids = [] ∧ x.at' = [] ∧ x.va = [] := by
  have h1 : rightS x = noticeS x := by unfold rightS; rw [hk]; rfl
  rw [h1] at h
  unfold noticeS at h
  cases c1 : (((x.e != 17) && (x.e != 18)) && (x.e != 19)) with
  | true => rw [c1] at h; simp at h
  | false =>
    cases c2 : (((x.e == 19) && (x.q != 0)) || ((x.e != 19) && !countB x.q)) with
    | true => rw [c1, c2] at h; simp at h
    | false =>
      cases c3 : (((x.e == 17) && (x.c != 0)) || ((x.e != 17) && !countB x.c)) with
      | true => rw [c1, c2, c3] at h; simp at h
      | false =>
        cases c4 : decide (0 < x.ids.length + x.at'.length + x.va.length) with
        | true => rw [c1, c2, c3, c4] at h; simp at h
        | false =>
          have l0 : x.ids.length + x.at'.length + x.va.length = 0 := by have := of_decide_eq_false c4; omega
          have e0 : x.e = 17 ∨ x.e = 18 ∨ x.e = 19 := by
            simp only [Bool.and_eq_false_iff, bne_eq_false_iff_eq] at c1; omega
          have q0 : I64 x.q := by
            unfold I64
            by_cases he : x.e = 19
            · have : x.q = 0 := by rw [he] at c2; simpa using c2
              omega
            · have : countB x.q = true := by
                cases hc : countB x.q with
                | true => rfl
                | false => rw [hc] at c2; have : (x.e != 19) = true := by rw [bne_iff_ne]; exact he
                           rw [this] at c2; simp at c2
              unfold countB at this
              simp only [Bool.and_eq_true, decide_eq_true_eq] at this
              omega
          have c0 : I64 x.c := by
            unfold I64
            by_cases he : x.e = 17
            · have : x.c = 0 := by rw [he] at c3; simpa using c3
              omega
            · have : countB x.c = true := by
                cases hc : countB x.c with
                | true => rfl
                | false => rw [hc] at c3; have : (x.e != 17) = true := by rw [bne_iff_ne]; exact he
                           rw [this] at c3; simp at c3
              unfold countB at this
              simp only [Bool.and_eq_true, decide_eq_true_eq] at this
              omega
          exact ⟨q0, by unfold I64; omega, c0, List.eq_nil_of_length_eq_zero (by omega), List.eq_nil_of_length_eq_zero (by omega), List.eq_nil_of_length_eq_zero (by omega)⟩
theorem right_ok {x : It} (h : rightS x = 0) (hd : ∀ d ∈ x.ids, U64 d.l) (hv : ∀ v ∈ x.va, I64 v) : OkIt x := by
  have hk : x.k = 1 ∨ x.k = 2 := by
    unfold rightS at h
    cases h1 : (x.k == 1) with
    | true => exact .inl (by simpa using h1)
    | false =>
      cases h2 : (x.k == 2) with
      | true => exact .inr (by simpa using h2)
      | false => rw [h1, h2] at h; simp at h
  rcases hk with hk | hk
  · obtain ⟨hq, hne, hl, hb, hrs⟩ := found_parts hk h
    obtain ⟨he, hc, hvl⟩ := rest_parts hrs
    have hl2 := found_len hk h
    have hz : ∀ (l : List Idd) (m : List Int), m.length = l.length → (∀ q ∈ l.zip m, idBad q = false) → (∀ d ∈ l, U64 d.n) ∧ ∀ a ∈ m, I64 a := by
      intro l
      induction l with
      | nil => intro m hm _; have : m = [] := List.eq_nil_of_length_eq_zero hm; subst this; simp
      | cons d l ih =>
        intro m hm hb
        cases m with
        | nil => simp at hm
        | cons a m =>
          obtain ⟨i1, i2⟩ := ih m (by simpa using hm) (fun q hq => hb q (by rw [List.zip_cons_cons]; exact List.mem_cons_of_mem _ hq))
          have hb0 := hb (d, a) (by rw [List.zip_cons_cons]; exact List.mem_cons_self)
          unfold idBad at hb0
          simp only [Bool.or_eq_false_iff, decide_eq_false_iff_not] at hb0
          refine ⟨fun x hx => ?_, fun x hx => ?_⟩
          · rcases List.mem_cons.1 hx with rfl | hx
            · unfold U64; omega
            · exact i1 x hx
          · rcases List.mem_cons.1 hx with rfl | hx
            · unfold I64; omega
            · exact i2 x hx
    obtain ⟨z1, z2⟩ := hz x.ids x.at' hl hb
    refine ⟨fun d hx => ⟨hd d hx, z1 d hx⟩, z2, hv, ?_, ?_, ?_, by omega, by omega, by omega⟩ <;> (unfold I64; omega)
  · obtain ⟨h1, h2, h3, h4, h5, h6⟩ := notice_parts hk h
    refine ⟨?_, ?_, hv, h1, h2, h3, ?_, ?_, ?_⟩
    · rw [h4]; simp
    · rw [h5]; simp
    · rw [h4]; simp
    · rw [h5]; simp
    · rw [h6]; simp
theorem intX_i64 (s : List UInt8) : I64 (intX s) := by
  unfold intX
  cases badI s with
  | true => unfold I64; simp
  | false =>
    cases h : fit (intV5 s) with
    | false => unfold I64; simp
    | true => unfold fit at h; unfold I64; simp at h ⊢; omega
theorem evI_u64 (s : List UInt8) : U64 (evI s).l := by
  unfold evI
  cases evNo s with
  | true => unfold U64; simp
  | false =>
    cases evNo2 s with
    | true => unfold U64; simp
    | false =>
      have := (parseL (labS (preS s))).l.isLt
      unfold U64; simp only [cond_false]; omega
theorem ip_ok {s : List UInt8} (h : ipE s = 0) : OkIt (ipX s) := by
  refine right_ok (item_only h).1 ?_ ?_
  · unfold ipX
    cases ipK s with
    | false => intro d hd; simp [toldI] at hd
    | true =>
      intro d hd
      simp only [cond_true, whatI, List.mem_map] at hd
      obtain ⟨w, _, rfl⟩ := hd
      exact evI_u64 w
  · unfold ipX
    cases ipK s with
    | false => intro d hd; simp [toldI] at hd
    | true =>
      intro v hv
      simp only [cond_true, whatI] at hv
      revert hv
      cases whRest (partsL s 32).tail with
      | nil => intro hv; simp [whV] at hv
      | cons w r =>
        intro hv
        have hv2 : v ∈ bif w == [33] then [] else (wdH r :: r.tail).map intX := hv
        cases hb : (w == [33]) with
        | true => rw [hb] at hv2; simp at hv2
        | false =>
          rw [hb] at hv2
          obtain ⟨x, _, rfl⟩ := List.mem_map.1 hv2
          exact intX_i64 x
def labV (k : Nat) : Int := if k % 16 = 15 then IntKind.u64.wrap (((k / 16 : Nat) : Int) * 11400714819323198485) else IntKind.u64.wrap (bits .and .i64 ((k % 16 : Nat) : Int) ((k / 16 % 16 : Nat) : Int))
theorem labV_u64 (k : Nat) : U64 (labV k) := by
  unfold labV U64
  have h : ∀ n : Int, 0 ≤ IntKind.u64.wrap n ∧ IntKind.u64.wrap n ≤ 18446744073709551615 := fun n => by
    have : IntKind.u64.wrap n = n % 18446744073709551616 := rfl
    rw [this]; omega
  split <;> exact h _
set_option maxHeartbeats 4000000 in
theorem p39 (k : Nat) (hk : k < 10000) : Pu Tryz.prog 39 [.int .i64 (k : Nat)] (.int .u64 (labV k)) := by
  have p40 := p40 (k : Int) 1099511627776 (by unfold I64; omega) (by omega)
  have e0 : (k : Int) % 1099511627776 = k := by omega
  rw [e0] at p40
  have q1 : Int.tmod (k : Int) 16 = ((k % 16 : Nat) : Int) := by rw [Int.tmod_eq_emod_of_nonneg (by omega)]; rfl
  have q2 : Int.tdiv (k : Int) 16 = ((k / 16 : Nat) : Int) := by rw [Int.tdiv_eq_ediv_of_nonneg (by omega)]; rfl
  have q3 : Int.tmod ((k / 16 : Nat) : Int) 16 = ((k / 16 % 16 : Nat) : Int) := by rw [Int.tmod_eq_emod_of_nonneg (by omega)]; rfl
  have q4 : IntKind.i64.wrap ((k / 16 : Nat) : Int) = ((k / 16 : Nat) : Int) := wrap64 (by omega) (by omega)
  have q5 : True := trivial
  have q6 : IntKind.u64.wrap ((k / 16 : Nat) : Int) = ((k / 16 : Nat) : Int) := by show ((k / 16 : Nat) : Int) % 18446744073709551616 = _; omega
  have q7 : True := trivial
  unfold labV
  by_cases h : k % 16 = 15
  · have q0 : (((k % 16 : Nat) : Int) == 15) = true := by rw [beq_iff_eq]; omega
    rw [if_pos h]
    (refine Pu_intro c39 b39 (Nat.le_of_ble_eq_true rfl) fun σ => ?_; simp only [c39, ↓R1, RR, seval, q0, q1, q2, q3, q4, q5, q6, q7])
    repeat' (first | (with_reducible rw [allocV_eq]) | (with_reducible refine And.intro ?_ ?_; focus (intros; (repeat' (with_reducible apply And.intro)) <;> first | omega | (simp only [RZ]; omega))) | (with_reducible apply And.intro) | ((first | (refine gdV_split (fun hc => ?_) (fun hc => ?_) <;> (try simp only [hc, ↓R1, RR, seval, q0, q1, q2, q3, q4, q5, q6, q7])) | refine condV_split (fun hc => ?_) (fun hc => ?_) | (with_reducible intro β hβ; (try simp only [RB] at hβ); (repeat (obtain ⟨⟨_, _⟩, hβ⟩ := hβ)); (try (have hbis := apart_is (by assumption) hβ; obtain ⟨_, _⟩ := hbis))) | refine Pt (p40) ?_ | refine Ct (p40) ?_) <;> (try simp only [↓R1, RR, seval, q0, q1, q2, q3, q4, q5, q6, q7])))
    (refine endP_pu (by simp) (by first | (simp [rvsS, rvS]; done) | (simp only [rvsS, rvS, ↓R1, RR, seval, q0, q1, q2, q3, q4, q5, q6, q7]; try simp)) (wk_of_eq ?_) (by (repeat (first | exact St.le_refl _ | (refine St.le_new ?_ (by assumption)) | (refine St.le_newT ?_ (by assumption))))))
    (simp only [resAV, rvV, List.map_cons, List.map_nil, ↓R1, RR, seval, q0, q1, q2, q3, q4, q5, q6, q7])
  · have q0 : (((k % 16 : Nat) : Int) == 15) = false := by rw [beq_eq_false_iff_ne]; omega
    rw [if_neg h]
    (refine Pu_intro c39 b39 (Nat.le_of_ble_eq_true rfl) fun σ => ?_; simp only [c39, ↓R1, RR, seval, q0, q1, q2, q3, q4, q5, q6, q7])
    repeat' (first | (with_reducible rw [allocV_eq]) | (with_reducible refine And.intro ?_ ?_; focus (intros; (repeat' (with_reducible apply And.intro)) <;> first | omega | (simp only [RZ]; omega))) | (with_reducible apply And.intro) | ((first | (refine gdV_split (fun hc => ?_) (fun hc => ?_) <;> (try simp only [hc, ↓R1, RR, seval, q0, q1, q2, q3, q4, q5, q6, q7])) | refine condV_split (fun hc => ?_) (fun hc => ?_) | (with_reducible intro β hβ; (try simp only [RB] at hβ); (repeat (obtain ⟨⟨_, _⟩, hβ⟩ := hβ)); (try (have hbis := apart_is (by assumption) hβ; obtain ⟨_, _⟩ := hbis))) | refine Pt (p40) ?_ | refine Ct (p40) ?_) <;> (try simp only [↓R1, RR, seval, q0, q1, q2, q3, q4, q5, q6, q7])))
    (refine endP_pu (by simp) (by first | (simp [rvsS, rvS]; done) | (simp only [rvsS, rvS, ↓R1, RR, seval, q0, q1, q2, q3, q4, q5, q6, q7]; try simp)) (wk_of_eq ?_) (by (repeat (first | exact St.le_refl _ | (refine St.le_new ?_ (by assumption)) | (refine St.le_newT ?_ (by assumption))))))
    (simp only [resAV, rvV, List.map_cons, List.map_nil, ↓R1, RR, seval, q0, q1, q2, q3, q4, q5, q6, q7])
def evK (j : Nat) : List Stt := (List.range j).map fun (i : Nat) => ⟨labV (i * 37), ((i + 1 : Nat) : Int), 0, 0, 0, 0⟩
theorem evK_succ (j : Nat) : (evK j).flatMap cSt ++ [.int .u64 (labV (j * 37)), .int .u64 ((j + 1 : Nat) : Int), .int .u64 0, .int .u64 0, .int .i64 0, .int .i64 0] = (evK (j + 1)).flatMap cSt := by
  unfold evK
  rw [List.range_succ, List.map_append, List.flatMap_append]; rfl
theorem evK_len (j : Nat) : (evK j).length = j := by simp [evK]
end Go.Proofs.YtncadbcjikekhaaGreatDoor
namespace Go.Proofs.YtncadbcjikekhaaGreatDoor
open Go.Abs Go.Lib
set_option linter.all false
set_option maxRecDepth 100000
theorem madeL_pos (k : Nat) : ∀ x ∈ madeL k, 0 ≤ x.p ∧ x.p < 20 := by
  intro x hx
  unfold madeL at hx
  obtain ⟨i, hi, rfl⟩ := List.mem_map.1 hx
  have hi2 : i ≤ 3 := by have := List.mem_range.1 hi; omega
  obtain ⟨d, hd⟩ : ∃ d, 1 + k / 36 % 2 = d := ⟨_, rfl⟩
  have hd2 : d ≤ 2 := by omega
  have hjd : i * d ≤ 6 := Nat.le_trans (Nat.mul_le_mul hi2 hd2) (by omega)
  simp only [hd]
  omega
theorem back_found (k : Nat) (q : Int) (va : List Int) (e : Int) (hq : 1 ≤ q ∧ q ≤ 4) (hv : va.length ≤ 4) (he : e = 0 ∨ e = 7 ∨ e = 16) :
    fndE q (madeL k) (evK 20) va e = 0 ∧ rightS (fndI q (madeL k) (evK 20) va e) = 0 := by
  have hc := made_check k
  have hl := made_len k
  have hp := madeL_pos k
  have hfar : (madeL k).any (farB (evK 20)) = false := by
    rw [List.any_eq_false]
    intro x hx
    have := hp x hx
    unfold farB
    rw [evK_len]
    simp; omega
  have hbad : ((madeL k).map (evId (evK 20))).zip ((madeL k).map (·.a)) = (madeL k).map fun x => (evId (evK 20) x, x.a) := by
    induction madeL k with
    | nil => rfl
    | cons x l ih => simp only [List.map_cons, List.zip_cons_cons]; rw [ih]
  have hpl := (check_parts hc).2
  have hR : rightS (fndI q (madeL k) (evK 20) va e) = 0 := by
    have h1 : rightS (fndI q (madeL k) (evK 20) va e) = foundS (fndI q (madeL k) (evK 20) va e) := rfl
    rw [h1]
    unfold foundS fndI
    simp only
    have c1 : countB q = true := by unfold countB; simp; omega
    have c2 : decide (((madeL k).map (evId (evK 20))).length = 0) = false := by simp only [List.length_map]; exact decide_eq_false hl.2
    have c3 : decide (12 < ((madeL k).map (evId (evK 20))).length) = false := by simp only [List.length_map]; exact decide_eq_false (by omega)
    have c4 : decide (((madeL k).map (·.a)).length = ((madeL k).map (evId (evK 20))).length) = true := by simp
    have c5 : (((madeL k).map (evId (evK 20))).zip ((madeL k).map (·.a))).any idBad = false := by
      rw [hbad, List.any_map, List.any_eq_false]
      intro x hx
      have h1 := hp x hx
      have h2 := hpl x hx
      unfold plBad at h2
      simp only [Bool.or_eq_false_iff, decide_eq_false_iff_not] at h2
      have h3 : (evId (evK 20) x).n = x.p + 1 := by
        unfold evId evK
        have : x.p.toNat < 20 := by omega
        rw [List.getElem?_map, List.getElem?_range this]
        simp; omega
      simp only [Function.comp, idBad, h3, Bool.or_eq_true, decide_eq_true_eq]
      omega
    rw [c1, c2, c3, c4, c5]
    simp only [Bool.not_true, cond_false]
    unfold restS
    simp only
    rcases he with rfl | rfl | rfl
    · have c6 : decide ((4 : Int) < (va.length : Int)) = false := decide_eq_false (by omega)
      simp [c6]
    · simp
    · simp
  refine ⟨?_, hR⟩
  unfold fndE
  rw [hc, hfar, hR]; rfl
theorem back_u64 (k : Nat) (q : Int) (va : List Int) (e : Int) : ∀ d ∈ (fndI q (madeL k) (evK 20) va e).ids, U64 d.l := by
  intro d hd
  simp only [fndI, List.mem_map] at hd
  obtain ⟨x, _, rfl⟩ := hd
  unfold evId
  cases h : (evK 20)[x.p.toNat]? with
  | none => unfold U64; simp
  | some s =>
    have := List.mem_of_getElem? h
    unfold evK at this
    obtain ⟨i, _, rfl⟩ := List.mem_map.1 this
    exact labV_u64 _
theorem back_i64 (k : Nat) (q : Int) (va : List Int) (e : Int) (hv : ∀ v ∈ va, I64 v) : ∀ v ∈ (fndI q (madeL k) (evK 20) va e).va, I64 v := by
  intro v hx
  simp only [fndI] at hx
  cases he : (e == 0) with
  | true => rw [he] at hx; exact hv v hx
  | false => rw [he] at hx; simp at hx
theorem back_mlen (k : Nat) : (matchT (madeL k)).length ≤ 10000 := by
  have hpl := (check_parts (made_check k)).2
  have h := accT_len (madeL k) (by have := made_len k; omega) (fun x hx => by
    have h2 := hpl x hx
    unfold plBad at h2
    simp only [Bool.or_eq_false_iff, decide_eq_false_iff_not] at h2
    unfold I64; omega) (madeL k).length
  unfold accT at h
  rw [List.take_length] at h
  exact h
theorem back_ilen {x : It} (ox : OkIt x) (hk : x.k = 1) (h : rightS x = 0) : (itemS x).length ≤ 100000 := by
  obtain ⟨hq, hne, hl, hb, hrs⟩ := found_parts hk h
  obtain ⟨he, hc, hvl⟩ := rest_parts hrs
  have hl2 := found_len hk h
  have hk2 : (x.k == 2) = false := by rw [hk]; rfl
  have hL : itemL x = itoa x.q :: (evsT x ++ tailW x) := by unfold itemL; rw [hk2]; rfl
  have hH : itemH x = sFound := by unfold itemH; rw [hk2]; rfl
  have hz : ∀ w ∈ itemL x, w.length ≤ 500 := by
    intro w hw
    rw [hL] at hw
    simp only [List.mem_cons, List.mem_append] at hw
    rcases hw with rfl | hw | hw
    · have := itoa_len x.q ox.q; omega
    · unfold evsT at hw
      obtain ⟨⟨d, a⟩, hq, rfl⟩ := List.mem_map.1 hw
      have hb2 := hb _ hq
      unfold idBad at hb2
      simp only [Bool.or_eq_false_iff, decide_eq_false_iff_not] at hb2
      exact evT_len (show I64 d.n by unfold I64; omega) (show I64 a by unfold I64; omega)
    · unfold tailW at hw
      revert hw
      cases (x.e != 0) with
      | true =>
        intro hw
        simp only [cond_true, List.mem_cons, List.not_mem_nil, or_false] at hw
        rcases hw with rfl | rfl
        · simp
        · have := errS_len x.e; omega
      | false =>
        cases decide (0 < x.va.length) with
        | true =>
          intro hw
          simp only [cond_true, cond_false, List.mem_cons, List.mem_map] at hw
          rcases hw with rfl | ⟨v, hv, rfl⟩
          · simp
          · have := itoa_len v (ox.va v hv); omega
        | false => intro hw; simp at hw
  have hn : (itemL x).length ≤ 1 + (12 + 5) := by
    rw [hL, List.length_cons, List.length_append]
    have h1 : (evsT x).length ≤ 12 := by unfold evsT; rw [List.length_map, List.length_zip]; omega
    have h2 : (tailW x).length ≤ 5 := by
      unfold tailW
      cases (x.e != 0) with
      | true => simp
      | false =>
        cases decide (0 < x.va.length) with
        | true => simp; omega
        | false => simp
    omega
  unfold itemS
  have h3 := join_len (itemH x :: itemL x) [32] 500 (fun w hw => by
    rcases List.mem_cons.1 hw with rfl | hw
    · rw [hH]; decide
    · exact hz w hw)
  refine Nat.le_trans h3 ?_
  rw [List.length_cons]
  have : ((itemL x).length + 1) * (500 + [(32 : UInt8)].length) ≤ 19 * 501 := Nat.mul_le_mul (by omega) (by decide)
  omega
theorem parL_len (s : List UInt8) : (parL s).length ≤ s.length + 1 := by
  unfold parL
  have := parts_len s
  cases (parE s == 0) <;> simp <;> omega
end Go.Proofs.YtncadbcjikekhaaGreatDoor
namespace Go.Proofs.YtncadbcjikekhaaGreatDoor
open Go.Abs Go.Lib
set_option linter.all false
set_option maxRecDepth 100000
theorem cI_take (l : List Int) (n : Nat) : (l.flatMap cI).take n = (l.take n).flatMap cI := by
  induction l generalizing n with
  | nil => simp
  | cons x l ih => cases n with
    | zero => rfl
    | succ n => simp only [List.flatMap_cons, cI, List.cons_append, List.nil_append, List.take_succ_cons, ih]
set_option maxHeartbeats 8000000 in
theorem law_MatchBack (ns vs : List Int) (wh : Int) (s : List UInt8) (hr : ∀ x ∈ ns, I64 x) (hv : ∀ v ∈ vs, I64 v) (hwh : I64 wh) :
    PuG Tryz.prog gl3 7 [.sl false ns.length (ns.flatMap cI), .sl false vs.length (vs.flatMap cI), .int .i64 wh, .str s] (.bool true) := by
  have kn := known_pu
  have q0 : True := trivial
  have q1 : True := trivial
  have q2 : True := trivial
  have q3 : True := trivial
  have q4 : True := trivial
  have hw : True := trivial
  have hw2 : True := trivial
  have hw3 : True := trivial
  have hd : True := trivial
  have hq2 : True := trivial
  have hlY : True := trivial
  have hor : (False ∨ True) = True := by simp
  by_cases hs : s.length ≤ 200
  · have q0 : decide ((200 : Int) < (s.length : Int)) = false := by rw [decide_eq_false_iff_not]; omega
    have hm0 := p38 ns 0 hr
    obtain ⟨k, hk⟩ : ∃ k, madeN ns 0 = k := ⟨_, rfl⟩
    rw [hk] at hm0
    have hml := made_len k
    have ht := p26 (madeL k) (by omega)
    have hp1 := p33 (matchT (madeL k)) (by have := back_mlen k; omega)
    have hp2 := p33 s (by omega)
    have hpl := parL_len s
    obtain ⟨mb1, mb2⟩ := match_back (made_check k)
    rw [mb1, mb2] at hp1
    unfold matchV at ht
    rw [made_check] at ht
    have hsm := p20 (madeL k) (madeL k) (by omega) (by omega)
    rw [decide_eq_true rfl] at hsm
    have htb := p26 (parL s) (by omega)
    have hmod3 := p40 wh 3 hwh (by omega)
    have hmod4 := p40 wh 4 hwh (by omega)
    obtain ⟨l, hl⟩ : ∃ l, madeL k = l := ⟨_, rfl⟩
    rw [hl] at hm0 ht hp1 hsm
    simp only [show ((0 : Int) == 0) = true from rfl, cond_true] at ht
    have hx : (parE s == 0) = false ∨ ((parE s == 0) = true ∧ matchV (parL s) = [.str s, .int .i64 0]) := by
      cases h : (parE s == 0) with
      | false => exact .inl rfl
      | true =>
        obtain ⟨m1, m2⟩ := match_only (s := s) (by simpa using h)
        exact .inr ⟨rfl, by unfold matchV; rw [m1, m2]; rfl⟩
    rcases hx with q1 | ⟨q1, hmv⟩
    all_goals (try rw [hmv] at htb)
    all_goals ((refine PuG_intro c7 b7 (Nat.le_of_ble_eq_true rfl) fun σ hσ => ?_; simp only [c7, ↓R1, RR, seval, q0, q1, q2, q3, q4, hq2, hw, hw2, hw3, hd, hor, hlY, bne_self_eq_false, beq_self_eq_true, decide_eq_true_eq]))
    all_goals (repeat' (first | (with_reducible rw [allocV_eq]) | (with_reducible refine And.intro ?_ ?_; focus (intros; (repeat' (with_reducible apply And.intro)) <;> first | omega | (simp only [RZ, cP_len, cI_len, cSt_len]; omega))) | (with_reducible apply And.intro) | ((first | (refine gdV_split (fun hc => ?_) (fun hc => ?_) <;> (try simp only [hc, ↓R1, RR, seval, q0, q1, q2, q3, q4, hq2, hw, hw2, hw3, hd, hor, hlY, bne_self_eq_false, beq_self_eq_true, decide_eq_true_eq])) | refine condV_split (fun hc => ?_) (fun hc => ?_) | (with_reducible intro β hβ; (try simp only [RB] at hβ); (repeat (obtain ⟨⟨_, _⟩, hβ⟩ := hβ)); (try (have hbis := apart_is (by assumption) hβ; obtain ⟨_, _⟩ := hbis))) | ((first | refine appD_tslK (.inr rfl) rfl ?_ ?_ ?_ ?_ ?_ ?_ | refine appV_tslK rfl ?_ ?_ ?_ ?_ ?_ ?_); (first | rfl | exact St.tip_same _ _ _ | simp only [↓R1, RR, seval, q0, q1, q2, q3, q4, hq2, hw, hw2, hw3, hd, hor, hlY, bne_self_eq_false, beq_self_eq_true, decide_eq_true_eq]); (iterate 2 (first | omega | (simp only [RZ, cP_len, cI_len, cSt_len]; first | done | omega) | rfl)); (unfold maxLen; omega); omega) | refine PuG.to (kn) hσ (wkL_refl _) ?_ | refine Pt (hm0) ?_ | refine Ct (hm0) ?_ | refine PuG.to (ht) hσ (wkL_refl _) ?_ | refine Pt (hp1) ?_ | refine Ct (hp1) ?_ | refine Pt (hp2) ?_ | refine Ct (hp2) ?_ | refine Pt (hsm) ?_ | refine Ct (hsm) ?_ | (refine callGV_pu (fun hgv => ⟨?_, (hsm), wkL_refl _⟩) ?_; (first | trivial | (focus (simp only [↓R1, RR, seval, q0, q1, q2, q3, q4, hq2, hw, hw2, hw3, hd, hor, hlY, bne_self_eq_false, beq_self_eq_true, decide_eq_true_eq]; done)))) | refine PuG.to (htb) hσ (wkL_refl _) ?_) <;> (try simp only [↓R1, RR, seval, q0, q1, q2, q3, q4, hq2, hw, hw2, hw3, hd, hor, hlY, bne_self_eq_false, beq_self_eq_true, decide_eq_true_eq]))))
    all_goals
      rename_i b10 h10 b13 a1 a2 h13 a3 a4 a5 a6 a7 a8 a9 a10 a11 a12
      refine loopV_forT 20 19 65 6 0 [] (fun τ j => [(1, .sl false vs.length (vs.flatMap cI)), (2, .int .i64 wh), (3, .str s), (9, .bool true), (10, .ptr b10 0), (19, .tsl τ j ((evK j).flatMap cSt)), (20, .int .i64 (j : Nat))]) (fun τ j => St.setTip _ τ (65, 6, j)) (fun _ => True) (by simp only [fresh, slot, ↓R1, RR, seval, q0, q1, q2, q3, q4, hq2, hw, hw2, hw3, hd, hor, hlY, bne_self_eq_false, beq_self_eq_true, decide_eq_true_eq]) (by simp only [slv, slot, ↓R1, RR, seval, q0, q1, q2, q3, q4, hq2, hw, hw2, hw3, hd, hor, hlY, bne_self_eq_false, beq_self_eq_true, decide_eq_true_eq]) trivial
        (fun τ => by simp [subF, slot, wk_refl, evK]) (fun τ hτ => St.le_refl _) (fun τ hτ j hj _ => ?_)
      by_cases hlt : j < 20
      · have q0 : decide ((j : Int) < 20) = true := by rw [decide_eq_true_eq]; omega
        have hd := evK_succ j
        have hw : IntKind.i64.wrap ((j : Int) * 37) = ((j * 37 : Nat) : Int) := by rw [wrap64 (by omega) (by omega)]; omega
        have hlab := p39 (j * 37) (by omega)
        have hw2 : IntKind.i64.wrap ((j : Int) + 1) = ((j + 1 : Nat) : Int) := by rw [wrap64 (by omega) (by omega)]; omega
        have hw3 : IntKind.u64.wrap ((j + 1 : Nat) : Int) = ((j + 1 : Nat) : Int) := by show _ % 18446744073709551616 = _; omega
        have hcl : ((evK j).flatMap cSt).length = j * 6 := by rw [cSt_len, evK_len]
        simp only [q0, ↓R1, RR, seval, q0, q1, q2, q3, q4, hq2, hw, hw2, hw3, hd, hor, hlY, bne_self_eq_false, beq_self_eq_true, decide_eq_true_eq]
        repeat' (first | (with_reducible rw [allocV_eq]) | (with_reducible refine And.intro ?_ ?_; focus (intros; (repeat' (with_reducible apply And.intro)) <;> first | omega | (simp only [RZ, cP_len, cI_len, cSt_len]; omega))) | (with_reducible apply And.intro) | ((first | (refine gdV_split (fun hc => ?_) (fun hc => ?_) <;> (try simp only [hc, ↓R1, RR, seval, q0, q1, q2, q3, q4, hq2, hw, hw2, hw3, hd, hor, hlY, bne_self_eq_false, beq_self_eq_true, decide_eq_true_eq])) | refine condV_split (fun hc => ?_) (fun hc => ?_) | (with_reducible intro β hβ; (try simp only [RB] at hβ); (repeat (obtain ⟨⟨_, _⟩, hβ⟩ := hβ)); (try (have hbis := apart_is (by assumption) hβ; obtain ⟨_, _⟩ := hbis))) | ((first | refine appD_tslK (.inr rfl) rfl ?_ ?_ ?_ ?_ ?_ ?_ | refine appV_tslK rfl ?_ ?_ ?_ ?_ ?_ ?_); (first | rfl | exact St.tip_same _ _ _ | simp only [↓R1, RR, seval, q0, q1, q2, q3, q4, hq2, hw, hw2, hw3, hd, hor, hlY, bne_self_eq_false, beq_self_eq_true, decide_eq_true_eq]); (iterate 2 (first | omega | (simp only [RZ, cP_len, cI_len, cSt_len]; first | done | omega) | rfl)); (unfold maxLen; omega); omega) | refine Pt (hlab) ?_ | refine Ct (hlab) ?_) <;> (try simp only [↓R1, RR, seval, q0, q1, q2, q3, q4, hq2, hw, hw2, hw3, hd, hor, hlY, bne_self_eq_false, beq_self_eq_true, decide_eq_true_eq])))
        · simp [subF, slot, wk_refl]
        · exact St.le_refl _
      · have hje : j = 20 := by omega
        subst hje
        have q0 : decide (((20 : Nat) : Int) < 20) = false := by decide
        simp only [q0, ↓R1, RR, seval, q0, q1, q2, q3, q4, hq2, hw, hw2, hw3, hd, hor, hlY, bne_self_eq_false, beq_self_eq_true, decide_eq_true_eq]
        have hcv := cI_len vs
        obtain ⟨va, hva⟩ : ∃ va, vs.take 4 = va := ⟨_, rfl⟩
        have hval : va.length = min 4 vs.length := by rw [← hva, List.length_take]
        have hw : (if (vs.length : Int) < 4 then (vs.length : Int) else 4) = (va.length : Int) := by split <;> omega
        have hd : List.take (va.length * 1) (vs.flatMap cI) = va.flatMap cI := by
          rw [Nat.mul_one, cI_take, ← hva]
          congr 1
          rw [hva, hval]
          rcases Nat.le_total 4 vs.length with h | h
          · rw [Nat.min_eq_left h]; exact hva
          · rw [Nat.min_eq_right h, List.take_length, ← hva, List.take_of_length_le h]
        have hw2 : IntKind.i64.wrap (1 + wh % 4) = 1 + wh % 4 := wrap64 (by omega) (by omega)
        have hmi : I64 (1 + wh % 4) := by unfold I64; omega
        have h64 : ∀ v ∈ va, I64 v := by intro v hx; rw [← hva] at hx; exact hv v (List.mem_of_mem_take hx)
        obtain ⟨er, he, hq2⟩ : ∃ er : Int, (er = 0 ∨ er = 7 ∨ er = 16) ∧ (List.take 1 (List.drop ((wh % 3).toNat * 1) [AV.int IntKind.i64 0, AV.int IntKind.i64 16, AV.int IntKind.i64 7]))[0]?.getD AV.junk = .int .i64 er := by
          have h3 : wh % 3 = 0 ∨ wh % 3 = 1 ∨ wh % 3 = 2 := by omega
          rcases h3 with h3 | h3 | h3 <;> rw [h3]
          · exact ⟨0, .inl rfl, rfl⟩
          · exact ⟨16, .inr (.inr rfl), rfl⟩
          · exact ⟨7, .inr (.inl rfl), rfl⟩
        have hF := p15 (1 + wh % 4) (madeL k) (evK 20) va er (by omega) (by rw [evK_len]; omega) (by omega)
        obtain ⟨f1, f2⟩ := back_found k (1 + wh % 4) va er (by omega) (by omega) he
        have f3 := back_u64 k (1 + wh % 4) va er
        have f4 := back_i64 k (1 + wh % 4) va er h64
        have f5 : (fndI (1 + wh % 4) (madeL k) (evK 20) va er).ids.length = l.length := by rw [← hl]; simp [fndI]
        have f6 : (fndI (1 + wh % 4) (madeL k) (evK 20) va er).va.length ≤ 4 := (rest_parts (found_parts rfl f2).2.2.2.2).2.2
        unfold fndC at hF
        rw [f1, evK_len, hl] at hF
        simp only [show ((0 : Int) == 0) = true from rfl, cond_true] at hF
        rw [hl] at f2 f3 f4 f5 f6
        obtain ⟨X, hX⟩ : ∃ X, fndI (1 + wh % 4) l (evK 20) va er = X := ⟨_, rfl⟩
        have hXk : X.k = 1 := by rw [← hX]; rfl
        rw [hX] at hF f2 f3 f4 f5 f6
        have oX := right_ok f2 f3 f4
        obtain ⟨i1, i2⟩ := item_back hXk f2 f3 f4
        have hT := p11 X oX
        unfold itemV at hT
        rw [f2] at hT
        simp only [show ((0 : Int) == 0) = true from rfl, cond_true] at hT
        have hP := p35 (itemS X) (back_ilen oX hXk f2)
        unfold ipC at hP
        rw [i1, i2] at hP
        simp only [show ((0 : Int) == 0) = true from rfl, cond_true] at hP
        have hS := p19 X (by have := oX.li; omega) (by have := oX.la; omega) (by have := oX.lv; omega)
        have hP2 := p35 s (by omega)
        have q3 : ((X.ids.length : Int) != (l.length : Int)) = false := by rw [f5]; simp
        have q4 : decide ((4 : Int) < (X.va.length : Int)) = false := by rw [decide_eq_false_iff_not]; omega
        have hx2 : (ipE s != 0) = true ∨ ((ipE s != 0) = false ∧ PuG Tryz.prog gl3 11 [.agg (ipC s)] (.tup [.str s, .int .i64 0])) := by
          cases h : (ipE s != 0) with
          | true => exact .inl rfl
          | false =>
            have h0 : ipE s = 0 := by simpa using h
            obtain ⟨r1, r2⟩ := item_only h0
            have hT2 := p11 (ipX s) (ip_ok h0)
            unfold itemV at hT2
            rw [r1, r2] at hT2
            refine .inr ⟨rfl, ?_⟩
            unfold ipC
            rw [h0]
            exact hT2
        have hcl : (ipC s).length = 7 := by unfold ipC; cases (ipE s == 0) <;> rfl
        obtain ⟨Y, hY⟩ : ∃ Y, ipC s = Y := ⟨_, rfl⟩
        rw [hY] at hx2 hP2 hcl
        have hlY : Y.take 7 = Y := List.take_of_length_le (by omega)
        rcases hx2 with q2 | ⟨q2, hT2⟩
        all_goals (simp only [itL] at hF hT hP hS)
        all_goals (repeat' (first | (with_reducible rw [allocV_eq]) | (with_reducible refine And.intro ?_ ?_; focus (intros; (repeat' (with_reducible apply And.intro)) <;> first | omega | (simp only [RZ, cP_len, cI_len, cSt_len]; omega))) | (with_reducible apply And.intro) | ((first | (refine gdV_split (fun hc => ?_) (fun hc => ?_) <;> (try simp only [hc, ↓R1, RR, seval, q0, q1, q2, q3, q4, hq2, hw, hw2, hw3, hd, hor, hlY, bne_self_eq_false, beq_self_eq_true, decide_eq_true_eq])) | refine condV_split (fun hc => ?_) (fun hc => ?_) | (with_reducible intro β hβ; (try simp only [RB] at hβ); (repeat (obtain ⟨⟨_, _⟩, hβ⟩ := hβ)); (try (have hbis := apart_is (by assumption) hβ; obtain ⟨_, _⟩ := hbis))) | ((first | refine appD_tslK (.inr rfl) rfl ?_ ?_ ?_ ?_ ?_ ?_ | refine appV_tslK rfl ?_ ?_ ?_ ?_ ?_ ?_); (first | rfl | exact St.tip_same _ _ _ | simp only [↓R1, RR, seval, q0, q1, q2, q3, q4, hq2, hw, hw2, hw3, hd, hor, hlY, bne_self_eq_false, beq_self_eq_true, decide_eq_true_eq]); (iterate 2 (first | omega | (simp only [RZ, cP_len, cI_len, cSt_len]; first | done | omega) | rfl)); (unfold maxLen; omega); omega) | refine Pt (hmod3) ?_ | refine Ct (hmod3) ?_ | refine callDV_pu (hmod4) (wkL_refl _) ?_ | (refine callDV_pu hF (.cons (wk_refl _) (.cons (wk_refl _) (.cons (wk_tsl _ _ _) (wkL_refl _)))) ?_) | refine PuG.to (hT) hσ (wkL_refl _) ?_ | refine Pt (hP) ?_ | refine Ct (hP) ?_ | (refine callGV_pu (fun hgv => ⟨?_, (hS), wkL_refl _⟩) ?_; (first | trivial | (focus (simp only [↓R1, RR, seval, q0, q1, q2, q3, q4, hq2, hw, hw2, hw3, hd, hor, hlY, bne_self_eq_false, beq_self_eq_true, decide_eq_true_eq]; done)))) | refine Pt (hS) ?_ | refine Ct (hS) ?_ | refine Pt (hP2) ?_ | refine Ct (hP2) ?_ | refine PuG.to (hT2) hσ (wkL_refl _) ?_) <;> (try simp only [↓R1, RR, seval, q0, q1, q2, q3, q4, hq2, hw, hw2, hw3, hd, hor, hlY, bne_self_eq_false, beq_self_eq_true, decide_eq_true_eq]))))
        all_goals ((refine endP_pu (by simp) (by first | (simp [rvsS, rvS]; done) | (simp only [rvsS, rvS, ↓R1, RR, seval, q0, q1, q2, q3, q4, hq2, hw, hw2, hw3, hd, hor, hlY, bne_self_eq_false, beq_self_eq_true, decide_eq_true_eq]; try simp)) (wk_of_eq ?_) (by (repeat (first | exact St.le_refl _ | (refine St.le_new ?_ (by assumption)) | (refine St.le_newT ?_ (by assumption)))))))
        all_goals ((simp only [resAV, rvV, List.map_cons, List.map_nil, ↓R1, RR, seval, q0, q1, q2, q3, q4, hq2, hw, hw2, hw3, hd, hor, hlY, bne_self_eq_false, beq_self_eq_true, decide_eq_true_eq]))
  · have q0 : decide ((200 : Int) < (s.length : Int)) = true := by rw [decide_eq_true_eq]; omega
    (refine PuG_intro c7 b7 (Nat.le_of_ble_eq_true rfl) fun σ hσ => ?_; simp only [c7, ↓R1, RR, seval, q0, q1, q2, q3, q4, hq2, hw, hw2, hw3, hd, hor, hlY, bne_self_eq_false, beq_self_eq_true, decide_eq_true_eq])
    repeat' (first | (with_reducible rw [allocV_eq]) | (with_reducible refine And.intro ?_ ?_; focus (intros; (repeat' (with_reducible apply And.intro)) <;> first | omega | (simp only [RZ, cP_len, cI_len, cSt_len]; omega))) | (with_reducible apply And.intro) | ((first | (refine gdV_split (fun hc => ?_) (fun hc => ?_) <;> (try simp only [hc, ↓R1, RR, seval, q0, q1, q2, q3, q4, hq2, hw, hw2, hw3, hd, hor, hlY, bne_self_eq_false, beq_self_eq_true, decide_eq_true_eq])) | refine condV_split (fun hc => ?_) (fun hc => ?_) | (with_reducible intro β hβ; (try simp only [RB] at hβ); (repeat (obtain ⟨⟨_, _⟩, hβ⟩ := hβ)); (try (have hbis := apart_is (by assumption) hβ; obtain ⟨_, _⟩ := hbis))) | ((first | refine appD_tslK (.inr rfl) rfl ?_ ?_ ?_ ?_ ?_ ?_ | refine appV_tslK rfl ?_ ?_ ?_ ?_ ?_ ?_); (first | rfl | exact St.tip_same _ _ _ | simp only [↓R1, RR, seval, q0, q1, q2, q3, q4, hq2, hw, hw2, hw3, hd, hor, hlY, bne_self_eq_false, beq_self_eq_true, decide_eq_true_eq]); (iterate 2 (first | omega | (simp only [RZ, cP_len, cI_len, cSt_len]; first | done | omega) | rfl)); (unfold maxLen; omega); omega) | refine PuG.to (kn) hσ (wkL_refl _) ?_) <;> (try simp only [↓R1, RR, seval, q0, q1, q2, q3, q4, hq2, hw, hw2, hw3, hd, hor, hlY, bne_self_eq_false, beq_self_eq_true, decide_eq_true_eq])))
    (refine endP_pu (by simp) (by first | (simp [rvsS, rvS]; done) | (simp only [rvsS, rvS, ↓R1, RR, seval, q0, q1, q2, q3, q4, hq2, hw, hw2, hw3, hd, hor, hlY, bne_self_eq_false, beq_self_eq_true, decide_eq_true_eq]; try simp)) (wk_of_eq ?_) (by (repeat (first | exact St.le_refl _ | (refine St.le_new ?_ (by assumption)) | (refine St.le_newT ?_ (by assumption))))))
    (simp only [resAV, rvV, List.map_cons, List.map_nil, ↓R1, RR, seval, q0, q1, q2, q3, q4, hq2, hw, hw2, hw3, hd, hor, hlY, bne_self_eq_false, beq_self_eq_true, decide_eq_true_eq])
end Go.Proofs.YtncadbcjikekhaaGreatDoor
namespace Go.Proofs.YtncadbcjikekhaaGreatDoor
open Go.Abs
set_option linter.all false
theorem has_i64 (l : List AV) (h : (TD.int .i64).Has l) : ∃ y, l = cI y ∧ I64 y := by
  obtain ⟨a, rfl, h1⟩ := h
  exact ⟨a, by simp [cI], by simpa [I64, Lit.wf, IntKind.min, IntKind.max, IntKind.bits, IntKind.signed] using h1⟩
end Go.Proofs.YtncadbcjikekhaaGreatDoor
namespace Go.Proofs.YtncadbcjikekhaaGreatDoor
open Go.Abs
set_option linter.all false
theorem arg_MatchBack (ns vs : List Int) (wh : Int) (s : List UInt8) (hr : ∀ x ∈ ns, I64 x) (hv : ∀ v ∈ vs, I64 v) (hwh : I64 wh) : PuG Tryz.prog gl3 7 [.sl false ns.length (ns.flatMap cI), .sl false vs.length (vs.flatMap cI), .int .i64 wh, .str s] (.bool true) :=
  law_MatchBack ns vs wh s hr hv hwh
end Go.Proofs.YtncadbcjikekhaaGreatDoor
