/- Part 23 of the proof of RowBytes: an abstract semantics that is proved sound for the model, contracts of functions in it, and plain facts (RW4 RX2 RX3 RX4 RX5 RW5 RW6 RW7). No condition. -/
import Derived.Test.YtemddijemikleaaDoorKRowBytes22
set_option linter.all false
namespace Go.Abs
theorem callGV_le {P : Program} {σ : St} {K : AV → St → Prop} {f : Nat} {xs ys : List AV} {v : AV} {b : Bool} {p : Prop} {h : Hold (σ, K)} (hp : b = true → p ∧ (∀ σ2, St.le σ σ2 → AC P f ys σ2 (fun x s => x = v ∧ s = σ2)) ∧ wkL xs ys) (hK : K (.opt b v) σ) : callGV P b f p xs σ K h :=
  ⟨v, fun hb => ⟨(hp hb).1, fun σ2 hl => ((hp hb).2.1 σ2 hl).wk (hp hb).2.2⟩, hK⟩
theorem callGV_no {P : Program} {σ : St} {K : AV → St → Prop} {f : Nat} {xs : List AV} {p : Prop} {h : Hold (σ, K)} (hK : K (.opt false .junk) σ) : callGV P false f p xs σ K h :=
  ⟨.junk, (fun hb => by cases hb), hK⟩
end Go.Abs
namespace Go.Proofs.YtemddijemikleaaDoor
open Go.Abs
set_option linter.all false
set_option maxRecDepth 100000
def wdV (k : Nat) (p : Bool × List UInt8) : AV := .agg [.bool p.1, .str p.2, .int .i64 (k : Nat)]
theorem take_of_drop {l : List UInt8} {k j : Nat} (hkj : k ≤ j) (hj : j ≤ l.length) {p : UInt8 → Bool} (h : (l.drop k).dropWhile p = l.drop j) : (l.drop k).takeWhile p = (l.drop k).take (j - k) := by
  have h1 := List.takeWhile_append_dropWhile (p := p) (l := l.drop k)
  have h2 := List.take_append_drop (j - k) (l.drop k)
  rw [List.drop_drop, show k + (j - k) = j by omega] at h2
  rw [h] at h1
  exact List.append_cancel_right (h1.trans h2.symm)
def WTook (σ : St) (β : Nat) (l : List UInt8) (k : Nat) (o : Option (Bool × List UInt8 × List UInt8)) (r : AV) (s : St) : Prop :=
  match o with
  | some (q, t, m) => r = .tup [wdV k (q, t), .bool true] ∧ s = σ.setBox β [.str l, .int .i64 (posOf l m : Nat)]
  | none => ∃ p j, r = .tup [wdV k p, .bool false] ∧ s = σ.setBox β [.str l, .int .i64 (j : Nat)]
theorem le_two {σ : St} {u γ : Nat} {c d : List AV} (hn : σ.box γ = none) (h : Apart γ u) : St.le (σ.setBox u c) ((σ.setBox γ d).setBox u c) := by
  refine ⟨fun δ x hx => ?_, fun _ _ h => h, fun _ _ h => h, fun _ _ h => h, fun _ _ h => h⟩
  simp only [St.setBox, upd] at hx ⊢
  split
  · rename_i e; rw [if_pos e] at hx; exact hx
  · rename_i e
    rw [if_neg e] at hx
    rw [if_neg]
    · exact hx
    · rintro rfl; rw [hn] at hx; cases hx
set_option maxHeartbeats 4000000 in
theorem a_word {σ : St} {u k : Nat} {l : List UInt8} {c : UInt8} {r : List UInt8} (hb : σ.box u = some [.str l, .int .i64 k]) (hr : l.drop k = c :: r) (hl : l.length ≤ 1000000) : AC Tryd.prog 61 [.ptr u 0] σ (WTook σ u l k (wordS (c :: r))) := by
  have hc1 : True := trivial
  have q1 : True := trivial
  have q2 : True := trivial
  have q3 : True := trivial
  have hw : True := trivial
  haveI hbi : BoxIs σ u [.str l, .int .i64 k] := ⟨hb⟩
  have hlt : k < l.length := (get_drop hr).2.1
  have hp1 : posOf l r = k + 1 := pos_cons hr
  have hw : IntKind.i64.wrap ((k : Int) + 1) = ((k + 1 : Nat) : Int) := by rw [wrap64 (by omega) (by omega)]; omega
  by_cases h34 : c = 34
  · have q1 : decide (c = 34) = true := by simpa using h34
    have e1 : wordS (c :: r) = match quotS r with
      | some (t, r') => if endOk r' then some (true, t, r') else none
      | none => none := by simp only [wordS, if_pos h34]; rfl
    have hrr : l.drop (k + 1) = r := (get_drop hr).2.2
    cases hq : quotS r with
    | none =>
      rw [hq] at e1
      have a4 : ∀ s : St, s.box u = some [.str l, .int .i64 (k + 1 : Nat)] → AC Tryd.prog 70 [.ptr u 0] s (QTook s u l none) := fun s hs => by
        have := a_quoted hs hlt hl
        rwa [hrr, hq] at this
      (refine AC_intro c61 b61 (Nat.le_of_ble_eq_true rfl) ?_; simp only [c61, ↓R1, R2, R3, R4, R5, Nat.reduceEqDiff, Nat.reduceAdd, Nat.reduceMul, Nat.reduceSub, Nat.reduceLeDiff, Nat.reduceLT, reduceIte, reduceCtorEq, Int.reduceBNe, Int.reduceBEq, u8_34, hc1, q1, q2, q3, hw])
      repeat' (first | (with_reducible rw [allocV_eq]) | (refine gdV_split (fun hc => ?_) (fun hc => ?_) <;> (try simp only [hc, ↓R1, R2, R3, R4, R5, Nat.reduceEqDiff, Nat.reduceAdd, Nat.reduceMul, Nat.reduceSub, Nat.reduceLeDiff, Nat.reduceLT, reduceIte, reduceCtorEq, Int.reduceBNe, Int.reduceBEq, u8_34, hc1, q1, q2, q3, hw])) | ((first | refine condV_split (fun hc => ?_) (fun hc => ?_) | (with_reducible intro β hβ; (try simp only [St.box_noneA, St.tip_noneA, St.tip_set, St.box_tip, St.box_lp, St.tip_lp] at hβ); (repeat (obtain ⟨⟨_, _⟩, hβ⟩ := hβ)); (try (have hbis := apart_is (by assumption) hβ; obtain ⟨_, _⟩ := hbis)))) <;> (try simp only [↓R1, R2, R3, R4, R5, Nat.reduceEqDiff, Nat.reduceAdd, Nat.reduceMul, Nat.reduceSub, Nat.reduceLeDiff, Nat.reduceLT, reduceIte, reduceCtorEq, Int.reduceBNe, Int.reduceBEq, u8_34, hc1, q1, q2, q3, hw])) | (with_reducible refine And.intro ?_ ?_; (focus (first | omega | (intros; (repeat' (with_reducible apply And.intro)) <;> first | omega | (simp only [List.length_map]; omega))))) | (with_reducible apply And.intro) | ((first | (refine AC.mono (AC.wk (a_peek (k := k) (l := l) (by simp only [↓R1, R2, R3, R4, R5, Nat.reduceEqDiff, Nat.reduceAdd, Nat.reduceMul, Nat.reduceSub, Nat.reduceLeDiff, Nat.reduceLT, reduceIte, reduceCtorEq, Int.reduceBNe, Int.reduceBEq, u8_34, hc1, q1, q2, q3, hw]) hr) (wkL_refl _)) ?_; (rintro _ _ ⟨rfl, rfl⟩))); (try simp only [↓R1, R2, R3, R4, R5, Nat.reduceEqDiff, Nat.reduceAdd, Nat.reduceMul, Nat.reduceSub, Nat.reduceLeDiff, Nat.reduceLT, reduceIte, reduceCtorEq, Int.reduceBNe, Int.reduceBEq, u8_34, hc1, q1, q2, q3, hw])))
      refine (AC.wk (a4 _ (by simp only [↓R1, R2, R3, R4, R5, Nat.reduceEqDiff, Nat.reduceAdd, Nat.reduceMul, Nat.reduceSub, Nat.reduceLeDiff, Nat.reduceLT, reduceIte, reduceCtorEq, Int.reduceBNe, Int.reduceBEq, u8_34, hc1, q1, q2, q3, hw])) (wkL_refl _)).mono ?_
      rintro _ _ ⟨j, rfl, rfl⟩
      simp only [↓R1, R2, R3, R4, R5, Nat.reduceEqDiff, Nat.reduceAdd, Nat.reduceMul, Nat.reduceSub, Nat.reduceLeDiff, Nat.reduceLT, reduceIte, reduceCtorEq, Int.reduceBNe, Int.reduceBEq, u8_34, hc1, q1, q2, q3, hw]
      repeat' (first | (with_reducible rw [allocV_eq]) | (refine gdV_split (fun hc => ?_) (fun hc => ?_) <;> (try simp only [hc, ↓R1, R2, R3, R4, R5, Nat.reduceEqDiff, Nat.reduceAdd, Nat.reduceMul, Nat.reduceSub, Nat.reduceLeDiff, Nat.reduceLT, reduceIte, reduceCtorEq, Int.reduceBNe, Int.reduceBEq, u8_34, hc1, q1, q2, q3, hw])) | ((first | refine condV_split (fun hc => ?_) (fun hc => ?_) | (with_reducible intro β hβ; (try simp only [St.box_noneA, St.tip_noneA, St.tip_set, St.box_tip, St.box_lp, St.tip_lp] at hβ); (repeat (obtain ⟨⟨_, _⟩, hβ⟩ := hβ)); (try (have hbis := apart_is (by assumption) hβ; obtain ⟨_, _⟩ := hbis)))) <;> (try simp only [↓R1, R2, R3, R4, R5, Nat.reduceEqDiff, Nat.reduceAdd, Nat.reduceMul, Nat.reduceSub, Nat.reduceLeDiff, Nat.reduceLT, reduceIte, reduceCtorEq, Int.reduceBNe, Int.reduceBEq, u8_34, hc1, q1, q2, q3, hw])) | (with_reducible refine And.intro ?_ ?_; (focus (first | omega | (intros; (repeat' (with_reducible apply And.intro)) <;> first | omega | (simp only [List.length_map]; omega))))) | (with_reducible apply And.intro) | ((first | (refine callGV_no ?_)); (try simp only [↓R1, R2, R3, R4, R5, Nat.reduceEqDiff, Nat.reduceAdd, Nat.reduceMul, Nat.reduceSub, Nat.reduceLeDiff, Nat.reduceLT, reduceIte, reduceCtorEq, Int.reduceBNe, Int.reduceBEq, u8_34, hc1, q1, q2, q3, hw])))
      refine endP_intro (r := .tup [wdV k (true, []), .bool false]) (by simp) (by first | (simp [rvsS, rvS]; done) | (simp only [rvsS, rvS, ↓R1, R2, R3, R4, R5, Nat.reduceEqDiff, Nat.reduceAdd, Nat.reduceMul, Nat.reduceSub, Nat.reduceLeDiff, Nat.reduceLT, reduceIte, reduceCtorEq, Int.reduceBNe, Int.reduceBEq, u8_34, hc1, q1, q2, q3, hw]; try simp)) (wk_of_eq (by (simp only [resAV, rvV, List.map_cons, List.map_nil, ↓R1, R2, R3, R4, R5, Nat.reduceEqDiff, Nat.reduceAdd, Nat.reduceMul, Nat.reduceSub, Nat.reduceLeDiff, Nat.reduceLT, reduceIte, reduceCtorEq, Int.reduceBNe, Int.reduceBEq, u8_34, hc1, q1, q2, q3, hw]); rfl)) (le_two hβ (by assumption)) ?_
      rw [e1]
      exact ⟨_, j, rfl, rfl⟩
    | some q =>
      obtain ⟨t, m⟩ := q
      rw [hq] at e1
      simp only at e1
      have a4 : ∀ s : St, s.box u = some [.str l, .int .i64 (k + 1 : Nat)] → AC Tryd.prog 70 [.ptr u 0] s (QTook s u l (some (t, m))) := fun s hs => by
        have := a_quoted hs hlt hl
        rwa [hrr, hq] at this
      obtain ⟨hdm, hml⟩ := drop_pos ((quotS_suf hq).trans (by rw [← hrr]; exact drop_suf l (k + 1)))
      obtain ⟨i, hi⟩ : ∃ i, posOf l m = i := ⟨_, rfl⟩
      rw [hi] at hdm hml
      have key : ∀ v, (v = .tup [wdV k (true, t), .bool true] ∧ endOk m = true) ∨ (v = .tup [wdV k (true, t), .bool false] ∧ endOk m = false) → WTook σ u l k (wordS (c :: r)) v (σ.setBox u [.str l, .int .i64 (i : Nat)]) := by
        rintro v (⟨rfl, hm⟩ | ⟨rfl, hm⟩)
        · rw [e1, if_pos hm]; simp only [WTook, hi, and_self]
        · rw [e1, if_neg (by simp [hm])]; exact ⟨_, i, rfl, rfl⟩
      (refine AC_intro c61 b61 (Nat.le_of_ble_eq_true rfl) ?_; simp only [c61, ↓R1, R2, R3, R4, R5, Nat.reduceEqDiff, Nat.reduceAdd, Nat.reduceMul, Nat.reduceSub, Nat.reduceLeDiff, Nat.reduceLT, reduceIte, reduceCtorEq, Int.reduceBNe, Int.reduceBEq, u8_34, hc1, q1, q2, q3, hw])
      repeat' (first | (with_reducible rw [allocV_eq]) | (refine gdV_split (fun hc => ?_) (fun hc => ?_) <;> (try simp only [hc, ↓R1, R2, R3, R4, R5, Nat.reduceEqDiff, Nat.reduceAdd, Nat.reduceMul, Nat.reduceSub, Nat.reduceLeDiff, Nat.reduceLT, reduceIte, reduceCtorEq, Int.reduceBNe, Int.reduceBEq, u8_34, hc1, q1, q2, q3, hw])) | ((first | refine condV_split (fun hc => ?_) (fun hc => ?_) | (with_reducible intro β hβ; (try simp only [St.box_noneA, St.tip_noneA, St.tip_set, St.box_tip, St.box_lp, St.tip_lp] at hβ); (repeat (obtain ⟨⟨_, _⟩, hβ⟩ := hβ)); (try (have hbis := apart_is (by assumption) hβ; obtain ⟨_, _⟩ := hbis)))) <;> (try simp only [↓R1, R2, R3, R4, R5, Nat.reduceEqDiff, Nat.reduceAdd, Nat.reduceMul, Nat.reduceSub, Nat.reduceLeDiff, Nat.reduceLT, reduceIte, reduceCtorEq, Int.reduceBNe, Int.reduceBEq, u8_34, hc1, q1, q2, q3, hw])) | (with_reducible refine And.intro ?_ ?_; (focus (first | omega | (intros; (repeat' (with_reducible apply And.intro)) <;> first | omega | (simp only [List.length_map]; omega))))) | (with_reducible apply And.intro) | ((first | (refine AC.mono (AC.wk (a_peek (k := k) (l := l) (by simp only [↓R1, R2, R3, R4, R5, Nat.reduceEqDiff, Nat.reduceAdd, Nat.reduceMul, Nat.reduceSub, Nat.reduceLeDiff, Nat.reduceLT, reduceIte, reduceCtorEq, Int.reduceBNe, Int.reduceBEq, u8_34, hc1, q1, q2, q3, hw]) hr) (wkL_refl _)) ?_; (rintro _ _ ⟨rfl, rfl⟩))); (try simp only [↓R1, R2, R3, R4, R5, Nat.reduceEqDiff, Nat.reduceAdd, Nat.reduceMul, Nat.reduceSub, Nat.reduceLeDiff, Nat.reduceLT, reduceIte, reduceCtorEq, Int.reduceBNe, Int.reduceBEq, u8_34, hc1, q1, q2, q3, hw])))
      refine (AC.wk (a4 _ (by simp only [↓R1, R2, R3, R4, R5, Nat.reduceEqDiff, Nat.reduceAdd, Nat.reduceMul, Nat.reduceSub, Nat.reduceLeDiff, Nat.reduceLT, reduceIte, reduceCtorEq, Int.reduceBNe, Int.reduceBEq, u8_34, hc1, q1, q2, q3, hw])) (wkL_refl _)).mono ?_
      rintro _ _ ⟨rfl, rfl⟩
      rw [hi]
      simp only [↓R1, R2, R3, R4, R5, Nat.reduceEqDiff, Nat.reduceAdd, Nat.reduceMul, Nat.reduceSub, Nat.reduceLeDiff, Nat.reduceLT, reduceIte, reduceCtorEq, Int.reduceBNe, Int.reduceBEq, u8_34, hc1, q1, q2, q3, hw]
      rcases drop_cases l i hml with ⟨hd, he⟩ | ⟨c2, r2, hd2, hlt2⟩
      · have hc1 : decide ((i : Int) < (l.length : Int)) = false := by simp; omega
        repeat' (first | (with_reducible rw [allocV_eq]) | (refine gdV_split (fun hc => ?_) (fun hc => ?_) <;> (try simp only [hc, ↓R1, R2, R3, R4, R5, Nat.reduceEqDiff, Nat.reduceAdd, Nat.reduceMul, Nat.reduceSub, Nat.reduceLeDiff, Nat.reduceLT, reduceIte, reduceCtorEq, Int.reduceBNe, Int.reduceBEq, u8_34, hc1, q1, q2, q3, hw])) | ((first | refine condV_split (fun hc => ?_) (fun hc => ?_) | (with_reducible intro β hβ; (try simp only [St.box_noneA, St.tip_noneA, St.tip_set, St.box_tip, St.box_lp, St.tip_lp] at hβ); (repeat (obtain ⟨⟨_, _⟩, hβ⟩ := hβ)); (try (have hbis := apart_is (by assumption) hβ; obtain ⟨_, _⟩ := hbis)))) <;> (try simp only [↓R1, R2, R3, R4, R5, Nat.reduceEqDiff, Nat.reduceAdd, Nat.reduceMul, Nat.reduceSub, Nat.reduceLeDiff, Nat.reduceLT, reduceIte, reduceCtorEq, Int.reduceBNe, Int.reduceBEq, u8_34, hc1, q1, q2, q3, hw])) | (with_reducible refine And.intro ?_ ?_; (focus (first | omega | (intros; (repeat' (with_reducible apply And.intro)) <;> first | omega | (simp only [List.length_map]; omega))))) | (with_reducible apply And.intro) | ((first | (refine callGV_le (fun hgv => ⟨?_, ((fun σ2 hle => a_left (k := i) (l := l) (hle.1 _ _ (by simp only [↓R1, R2, R3, R4, R5, Nat.reduceEqDiff, Nat.reduceAdd, Nat.reduceMul, Nat.reduceSub, Nat.reduceLeDiff, Nat.reduceLT, reduceIte, reduceCtorEq, Int.reduceBNe, Int.reduceBEq, u8_34, hc1, q1, q2, q3, hw])))), wkL_refl _⟩) ?_; (first | trivial | (focus (simp only [↓R1, R2, R3, R4, R5, Nat.reduceEqDiff, Nat.reduceAdd, Nat.reduceMul, Nat.reduceSub, Nat.reduceLeDiff, Nat.reduceLT, reduceIte, reduceCtorEq, Int.reduceBNe, Int.reduceBEq, u8_34, hc1, q1, q2, q3, hw]; done)))) | (refine callGV_no ?_)); (try simp only [↓R1, R2, R3, R4, R5, Nat.reduceEqDiff, Nat.reduceAdd, Nat.reduceMul, Nat.reduceSub, Nat.reduceLeDiff, Nat.reduceLT, reduceIte, reduceCtorEq, Int.reduceBNe, Int.reduceBEq, u8_34, hc1, q1, q2, q3, hw])))
        refine endP_intro (r := .tup [wdV k (true, t), .bool true]) (by simp) (by first | (simp [rvsS, rvS]; done) | (simp only [rvsS, rvS, ↓R1, R2, R3, R4, R5, Nat.reduceEqDiff, Nat.reduceAdd, Nat.reduceMul, Nat.reduceSub, Nat.reduceLeDiff, Nat.reduceLT, reduceIte, reduceCtorEq, Int.reduceBNe, Int.reduceBEq, u8_34, hc1, q1, q2, q3, hw]; try simp)) (wk_of_eq (by (simp only [resAV, rvV, List.map_cons, List.map_nil, ↓R1, R2, R3, R4, R5, Nat.reduceEqDiff, Nat.reduceAdd, Nat.reduceMul, Nat.reduceSub, Nat.reduceLeDiff, Nat.reduceLT, reduceIte, reduceCtorEq, Int.reduceBNe, Int.reduceBEq, u8_34, hc1, q1, q2, q3, hw]); rfl)) (le_two hβ (by assumption)) (key _ (.inl ⟨rfl, ?_⟩))
        rw [← hdm, hd]; rfl
      · have hc1 : decide ((i : Int) < (l.length : Int)) = true := by simpa using hlt2
        have b3 := p69 c2
        cases hbl : isBlank c2 with
        | true =>
          rw [hbl] at b3
          repeat' (first | (with_reducible rw [allocV_eq]) | (refine gdV_split (fun hc => ?_) (fun hc => ?_) <;> (try simp only [hc, ↓R1, R2, R3, R4, R5, Nat.reduceEqDiff, Nat.reduceAdd, Nat.reduceMul, Nat.reduceSub, Nat.reduceLeDiff, Nat.reduceLT, reduceIte, reduceCtorEq, Int.reduceBNe, Int.reduceBEq, u8_34, hc1, q1, q2, q3, hw])) | ((first | refine condV_split (fun hc => ?_) (fun hc => ?_) | (with_reducible intro β hβ; (try simp only [St.box_noneA, St.tip_noneA, St.tip_set, St.box_tip, St.box_lp, St.tip_lp] at hβ); (repeat (obtain ⟨⟨_, _⟩, hβ⟩ := hβ)); (try (have hbis := apart_is (by assumption) hβ; obtain ⟨_, _⟩ := hbis)))) <;> (try simp only [↓R1, R2, R3, R4, R5, Nat.reduceEqDiff, Nat.reduceAdd, Nat.reduceMul, Nat.reduceSub, Nat.reduceLeDiff, Nat.reduceLT, reduceIte, reduceCtorEq, Int.reduceBNe, Int.reduceBEq, u8_34, hc1, q1, q2, q3, hw])) | (with_reducible refine And.intro ?_ ?_; (focus (first | omega | (intros; (repeat' (with_reducible apply And.intro)) <;> first | omega | (simp only [List.length_map]; omega))))) | (with_reducible apply And.intro) | ((first | (refine callGV_le (fun hgv => ⟨?_, ((fun σ2 hle => a_left (k := i) (l := l) (hle.1 _ _ (by simp only [↓R1, R2, R3, R4, R5, Nat.reduceEqDiff, Nat.reduceAdd, Nat.reduceMul, Nat.reduceSub, Nat.reduceLeDiff, Nat.reduceLT, reduceIte, reduceCtorEq, Int.reduceBNe, Int.reduceBEq, u8_34, hc1, q1, q2, q3, hw])))), wkL_refl _⟩) ?_; (first | trivial | (focus (simp only [↓R1, R2, R3, R4, R5, Nat.reduceEqDiff, Nat.reduceAdd, Nat.reduceMul, Nat.reduceSub, Nat.reduceLeDiff, Nat.reduceLT, reduceIte, reduceCtorEq, Int.reduceBNe, Int.reduceBEq, u8_34, hc1, q1, q2, q3, hw]; done)))) | (refine callGV_le (fun hgv => ⟨?_, ((fun σ2 hle => a_peek (k := i) (l := l) (hle.1 _ _ (by simp only [↓R1, R2, R3, R4, R5, Nat.reduceEqDiff, Nat.reduceAdd, Nat.reduceMul, Nat.reduceSub, Nat.reduceLeDiff, Nat.reduceLT, reduceIte, reduceCtorEq, Int.reduceBNe, Int.reduceBEq, u8_34, hc1, q1, q2, q3, hw])) hd2)), wkL_refl _⟩) ?_; (first | trivial | (focus (simp only [↓R1, R2, R3, R4, R5, Nat.reduceEqDiff, Nat.reduceAdd, Nat.reduceMul, Nat.reduceSub, Nat.reduceLeDiff, Nat.reduceLT, reduceIte, reduceCtorEq, Int.reduceBNe, Int.reduceBEq, u8_34, hc1, q1, q2, q3, hw]; done)))) | (refine callGV_pu (fun hgv => ⟨?_, (b3), wkL_refl _⟩) ?_; (first | trivial | (focus (simp only [↓R1, R2, R3, R4, R5, Nat.reduceEqDiff, Nat.reduceAdd, Nat.reduceMul, Nat.reduceSub, Nat.reduceLeDiff, Nat.reduceLT, reduceIte, reduceCtorEq, Int.reduceBNe, Int.reduceBEq, u8_34, hc1, q1, q2, q3, hw]; done)))) | (refine callGV_no ?_)); (try simp only [↓R1, R2, R3, R4, R5, Nat.reduceEqDiff, Nat.reduceAdd, Nat.reduceMul, Nat.reduceSub, Nat.reduceLeDiff, Nat.reduceLT, reduceIte, reduceCtorEq, Int.reduceBNe, Int.reduceBEq, u8_34, hc1, q1, q2, q3, hw])))
          refine endP_intro (r := .tup [wdV k (true, t), .bool true]) (by simp) (by first | (simp [rvsS, rvS]; done) | (simp only [rvsS, rvS, ↓R1, R2, R3, R4, R5, Nat.reduceEqDiff, Nat.reduceAdd, Nat.reduceMul, Nat.reduceSub, Nat.reduceLeDiff, Nat.reduceLT, reduceIte, reduceCtorEq, Int.reduceBNe, Int.reduceBEq, u8_34, hc1, q1, q2, q3, hw]; try simp)) (wk_of_eq (by (simp only [resAV, rvV, List.map_cons, List.map_nil, ↓R1, R2, R3, R4, R5, Nat.reduceEqDiff, Nat.reduceAdd, Nat.reduceMul, Nat.reduceSub, Nat.reduceLeDiff, Nat.reduceLT, reduceIte, reduceCtorEq, Int.reduceBNe, Int.reduceBEq, u8_34, hc1, q1, q2, q3, hw]); rfl)) (le_two hβ (by assumption)) (key _ (.inl ⟨rfl, ?_⟩))
          rw [← hdm, hd2]; exact hbl
        | false =>
          rw [hbl] at b3
          repeat' (first | (with_reducible rw [allocV_eq]) | (refine gdV_split (fun hc => ?_) (fun hc => ?_) <;> (try simp only [hc, ↓R1, R2, R3, R4, R5, Nat.reduceEqDiff, Nat.reduceAdd, Nat.reduceMul, Nat.reduceSub, Nat.reduceLeDiff, Nat.reduceLT, reduceIte, reduceCtorEq, Int.reduceBNe, Int.reduceBEq, u8_34, hc1, q1, q2, q3, hw])) | ((first | refine condV_split (fun hc => ?_) (fun hc => ?_) | (with_reducible intro β hβ; (try simp only [St.box_noneA, St.tip_noneA, St.tip_set, St.box_tip, St.box_lp, St.tip_lp] at hβ); (repeat (obtain ⟨⟨_, _⟩, hβ⟩ := hβ)); (try (have hbis := apart_is (by assumption) hβ; obtain ⟨_, _⟩ := hbis)))) <;> (try simp only [↓R1, R2, R3, R4, R5, Nat.reduceEqDiff, Nat.reduceAdd, Nat.reduceMul, Nat.reduceSub, Nat.reduceLeDiff, Nat.reduceLT, reduceIte, reduceCtorEq, Int.reduceBNe, Int.reduceBEq, u8_34, hc1, q1, q2, q3, hw])) | (with_reducible refine And.intro ?_ ?_; (focus (first | omega | (intros; (repeat' (with_reducible apply And.intro)) <;> first | omega | (simp only [List.length_map]; omega))))) | (with_reducible apply And.intro) | ((first | (refine callGV_le (fun hgv => ⟨?_, ((fun σ2 hle => a_left (k := i) (l := l) (hle.1 _ _ (by simp only [↓R1, R2, R3, R4, R5, Nat.reduceEqDiff, Nat.reduceAdd, Nat.reduceMul, Nat.reduceSub, Nat.reduceLeDiff, Nat.reduceLT, reduceIte, reduceCtorEq, Int.reduceBNe, Int.reduceBEq, u8_34, hc1, q1, q2, q3, hw])))), wkL_refl _⟩) ?_; (first | trivial | (focus (simp only [↓R1, R2, R3, R4, R5, Nat.reduceEqDiff, Nat.reduceAdd, Nat.reduceMul, Nat.reduceSub, Nat.reduceLeDiff, Nat.reduceLT, reduceIte, reduceCtorEq, Int.reduceBNe, Int.reduceBEq, u8_34, hc1, q1, q2, q3, hw]; done)))) | (refine callGV_le (fun hgv => ⟨?_, ((fun σ2 hle => a_peek (k := i) (l := l) (hle.1 _ _ (by simp only [↓R1, R2, R3, R4, R5, Nat.reduceEqDiff, Nat.reduceAdd, Nat.reduceMul, Nat.reduceSub, Nat.reduceLeDiff, Nat.reduceLT, reduceIte, reduceCtorEq, Int.reduceBNe, Int.reduceBEq, u8_34, hc1, q1, q2, q3, hw])) hd2)), wkL_refl _⟩) ?_; (first | trivial | (focus (simp only [↓R1, R2, R3, R4, R5, Nat.reduceEqDiff, Nat.reduceAdd, Nat.reduceMul, Nat.reduceSub, Nat.reduceLeDiff, Nat.reduceLT, reduceIte, reduceCtorEq, Int.reduceBNe, Int.reduceBEq, u8_34, hc1, q1, q2, q3, hw]; done)))) | (refine callGV_pu (fun hgv => ⟨?_, (b3), wkL_refl _⟩) ?_; (first | trivial | (focus (simp only [↓R1, R2, R3, R4, R5, Nat.reduceEqDiff, Nat.reduceAdd, Nat.reduceMul, Nat.reduceSub, Nat.reduceLeDiff, Nat.reduceLT, reduceIte, reduceCtorEq, Int.reduceBNe, Int.reduceBEq, u8_34, hc1, q1, q2, q3, hw]; done)))) | (refine callGV_no ?_)); (try simp only [↓R1, R2, R3, R4, R5, Nat.reduceEqDiff, Nat.reduceAdd, Nat.reduceMul, Nat.reduceSub, Nat.reduceLeDiff, Nat.reduceLT, reduceIte, reduceCtorEq, Int.reduceBNe, Int.reduceBEq, u8_34, hc1, q1, q2, q3, hw])))
          refine endP_intro (r := .tup [wdV k (true, t), .bool false]) (by simp) (by first | (simp [rvsS, rvS]; done) | (simp only [rvsS, rvS, ↓R1, R2, R3, R4, R5, Nat.reduceEqDiff, Nat.reduceAdd, Nat.reduceMul, Nat.reduceSub, Nat.reduceLeDiff, Nat.reduceLT, reduceIte, reduceCtorEq, Int.reduceBNe, Int.reduceBEq, u8_34, hc1, q1, q2, q3, hw]; try simp)) (wk_of_eq (by (simp only [resAV, rvV, List.map_cons, List.map_nil, ↓R1, R2, R3, R4, R5, Nat.reduceEqDiff, Nat.reduceAdd, Nat.reduceMul, Nat.reduceSub, Nat.reduceLeDiff, Nat.reduceLT, reduceIte, reduceCtorEq, Int.reduceBNe, Int.reduceBEq, u8_34, hc1, q1, q2, q3, hw]); rfl)) (le_two hβ (by assumption)) (key _ (.inr ⟨rfl, ?_⟩))
          rw [← hdm, hd2]; exact hbl
  · have q1 : decide (c = 34) = false := by simpa using h34
    have e1 : wordS (c :: r) = if ((c :: r).takeWhile isBare).isEmpty then none else if endOk ((c :: r).dropWhile isBare) then some (false, (c :: r).takeWhile isBare, (c :: r).dropWhile isBare) else none := by simp only [wordS, if_neg h34]
    (refine AC_intro c61 b61 (Nat.le_of_ble_eq_true rfl) ?_; simp only [c61, ↓R1, R2, R3, R4, R5, Nat.reduceEqDiff, Nat.reduceAdd, Nat.reduceMul, Nat.reduceSub, Nat.reduceLeDiff, Nat.reduceLT, reduceIte, reduceCtorEq, Int.reduceBNe, Int.reduceBEq, u8_34, hc1, q1, q2, q3, hw])
    repeat' (first | (with_reducible rw [allocV_eq]) | (refine gdV_split (fun hc => ?_) (fun hc => ?_) <;> (try simp only [hc, ↓R1, R2, R3, R4, R5, Nat.reduceEqDiff, Nat.reduceAdd, Nat.reduceMul, Nat.reduceSub, Nat.reduceLeDiff, Nat.reduceLT, reduceIte, reduceCtorEq, Int.reduceBNe, Int.reduceBEq, u8_34, hc1, q1, q2, q3, hw])) | ((first | refine condV_split (fun hc => ?_) (fun hc => ?_) | (with_reducible intro β hβ; (try simp only [St.box_noneA, St.tip_noneA, St.tip_set, St.box_tip, St.box_lp, St.tip_lp] at hβ); (repeat (obtain ⟨⟨_, _⟩, hβ⟩ := hβ)); (try (have hbis := apart_is (by assumption) hβ; obtain ⟨_, _⟩ := hbis)))) <;> (try simp only [↓R1, R2, R3, R4, R5, Nat.reduceEqDiff, Nat.reduceAdd, Nat.reduceMul, Nat.reduceSub, Nat.reduceLeDiff, Nat.reduceLT, reduceIte, reduceCtorEq, Int.reduceBNe, Int.reduceBEq, u8_34, hc1, q1, q2, q3, hw])) | (with_reducible refine And.intro ?_ ?_; (focus (first | omega | (intros; (repeat' (with_reducible apply And.intro)) <;> first | omega | (simp only [List.length_map]; omega))))) | (with_reducible apply And.intro) | ((first | (refine AC.mono (AC.wk (a_peek (k := k) (l := l) (by simp only [↓R1, R2, R3, R4, R5, Nat.reduceEqDiff, Nat.reduceAdd, Nat.reduceMul, Nat.reduceSub, Nat.reduceLeDiff, Nat.reduceLT, reduceIte, reduceCtorEq, Int.reduceBNe, Int.reduceBEq, u8_34, hc1, q1, q2, q3, hw]) hr) (wkL_refl _)) ?_; (rintro _ _ ⟨rfl, rfl⟩))); (try simp only [↓R1, R2, R3, R4, R5, Nat.reduceEqDiff, Nat.reduceAdd, Nat.reduceMul, Nat.reduceSub, Nat.reduceLeDiff, Nat.reduceLT, reduceIte, reduceCtorEq, Int.reduceBNe, Int.reduceBEq, u8_34, hc1, q1, q2, q3, hw])))
    refine loopV_st (α := Nat) (fun _ => [(0, .ptr u 0), (2, .ptr β 0)]) (fun j => (σ.setBox β [.bool false, .str [], .int .i64 (k : Nat)]).setBox u [.str l, .int .i64 (j : Nat)]) (fun j => k ≤ j ∧ j ≤ l.length ∧ (l.drop j).dropWhile isBare = (l.drop k).dropWhile isBare) (fun j => l.length - j) k (by simp [subF, slot, wk_refl])
      (by simp only [↓R1, R2, R3, R4, R5, Nat.reduceEqDiff, Nat.reduceAdd, Nat.reduceMul, Nat.reduceSub, Nat.reduceLeDiff, Nat.reduceLT, reduceIte, reduceCtorEq, Int.reduceBNe, Int.reduceBEq, u8_34, hc1, q1, q2, q3, hw]; rw [setBox_same (by simp only [↓R1, R2, R3, R4, R5, Nat.reduceEqDiff, Nat.reduceAdd, Nat.reduceMul, Nat.reduceSub, Nat.reduceLeDiff, Nat.reduceLT, reduceIte, reduceCtorEq, Int.reduceBNe, Int.reduceBEq, u8_34, hc1, q1, q2, q3, hw])]; exact St.le_refl _) ⟨Nat.le_refl _, by omega, rfl⟩ ?_
    rintro i ⟨hki, hil, hI⟩
    simp only [↓R1, R2, R3, R4, R5, Nat.reduceEqDiff, Nat.reduceAdd, Nat.reduceMul, Nat.reduceSub, Nat.reduceLeDiff, Nat.reduceLT, reduceIte, reduceCtorEq, Int.reduceBNe, Int.reduceBEq, u8_34, hc1, q1, q2, q3, hw]
    have hpi : posOf l (l.drop i) = i := pos_drop l i hil
    have stop : (l.drop i).dropWhile isBare = l.drop i → wordS (c :: r) = if ((l.drop k).take (i - k)) == [] then none else if endOk (l.drop i) then some (false, (l.drop k).take (i - k), l.drop i) else none := fun hs => by
      rw [hs] at hI
      have hT := take_of_drop hki hil hI.symm
      rw [e1, ← hr, hT, ← hI]
      cases (l.drop k).take (i - k) <;> rfl
    rcases drop_cases l i hil with ⟨hd, he⟩ | ⟨c2, r2, hd2, hlt2⟩
    · have hc1 : decide ((i : Int) < (l.length : Int)) = false := by simp; omega
      have hs := stop (by rw [hd]; rfl)
      cases hq : ((l.drop k).take (i - k) == []) with
      | true =>
        have q2 := hq
        rw [q2, if_pos rfl] at hs
        repeat' (first | (with_reducible rw [allocV_eq]) | (refine gdV_split (fun hc => ?_) (fun hc => ?_) <;> (try simp only [hc, ↓R1, R2, R3, R4, R5, Nat.reduceEqDiff, Nat.reduceAdd, Nat.reduceMul, Nat.reduceSub, Nat.reduceLeDiff, Nat.reduceLT, reduceIte, reduceCtorEq, Int.reduceBNe, Int.reduceBEq, u8_34, hc1, q1, q2, q3, hw])) | ((first | refine condV_split (fun hc => ?_) (fun hc => ?_) | (with_reducible intro β hβ; (try simp only [St.box_noneA, St.tip_noneA, St.tip_set, St.box_tip, St.box_lp, St.tip_lp] at hβ); (repeat (obtain ⟨⟨_, _⟩, hβ⟩ := hβ)); (try (have hbis := apart_is (by assumption) hβ; obtain ⟨_, _⟩ := hbis)))) <;> (try simp only [↓R1, R2, R3, R4, R5, Nat.reduceEqDiff, Nat.reduceAdd, Nat.reduceMul, Nat.reduceSub, Nat.reduceLeDiff, Nat.reduceLT, reduceIte, reduceCtorEq, Int.reduceBNe, Int.reduceBEq, u8_34, hc1, q1, q2, q3, hw])) | (with_reducible refine And.intro ?_ ?_; (focus (first | omega | (intros; (repeat' (with_reducible apply And.intro)) <;> first | omega | (simp only [List.length_map]; omega))))) | (with_reducible apply And.intro) | ((first | (refine AC.mono (AC.wk (a_left (k := i) (l := l) (by simp only [↓R1, R2, R3, R4, R5, Nat.reduceEqDiff, Nat.reduceAdd, Nat.reduceMul, Nat.reduceSub, Nat.reduceLeDiff, Nat.reduceLT, reduceIte, reduceCtorEq, Int.reduceBNe, Int.reduceBEq, u8_34, hc1, q1, q2, q3, hw])) (wkL_refl _)) ?_; (rintro _ _ ⟨rfl, rfl⟩)) | (refine callGV_le (fun hgv => ⟨?_, ((fun σ2 hle => a_left (k := i) (l := l) (hle.1 _ _ (by simp only [↓R1, R2, R3, R4, R5, Nat.reduceEqDiff, Nat.reduceAdd, Nat.reduceMul, Nat.reduceSub, Nat.reduceLeDiff, Nat.reduceLT, reduceIte, reduceCtorEq, Int.reduceBNe, Int.reduceBEq, u8_34, hc1, q1, q2, q3, hw])))), wkL_refl _⟩) ?_; (first | trivial | (focus (simp only [↓R1, R2, R3, R4, R5, Nat.reduceEqDiff, Nat.reduceAdd, Nat.reduceMul, Nat.reduceSub, Nat.reduceLeDiff, Nat.reduceLT, reduceIte, reduceCtorEq, Int.reduceBNe, Int.reduceBEq, u8_34, hc1, q1, q2, q3, hw]; done)))) | (refine callGV_no ?_)); (try simp only [↓R1, R2, R3, R4, R5, Nat.reduceEqDiff, Nat.reduceAdd, Nat.reduceMul, Nat.reduceSub, Nat.reduceLeDiff, Nat.reduceLT, reduceIte, reduceCtorEq, Int.reduceBNe, Int.reduceBEq, u8_34, hc1, q1, q2, q3, hw])))
        refine endP_intro (r := .tup [wdV k (false, (l.drop k).take (i - k)), .bool false]) (by simp) (by first | (simp [rvsS, rvS]; done) | (simp only [rvsS, rvS, ↓R1, R2, R3, R4, R5, Nat.reduceEqDiff, Nat.reduceAdd, Nat.reduceMul, Nat.reduceSub, Nat.reduceLeDiff, Nat.reduceLT, reduceIte, reduceCtorEq, Int.reduceBNe, Int.reduceBEq, u8_34, hc1, q1, q2, q3, hw]; try simp)) (wk_of_eq (by (simp only [resAV, rvV, List.map_cons, List.map_nil, ↓R1, R2, R3, R4, R5, Nat.reduceEqDiff, Nat.reduceAdd, Nat.reduceMul, Nat.reduceSub, Nat.reduceLeDiff, Nat.reduceLT, reduceIte, reduceCtorEq, Int.reduceBNe, Int.reduceBEq, u8_34, hc1, q1, q2, q3, hw]); rfl)) (le_two hβ (by assumption)) ?_
        rw [hs]
        exact ⟨_, i, rfl, rfl⟩
      | false =>
        have q2 := hq
        rw [q2, if_neg (by simp), hd] at hs
        simp only [endOk, if_true] at hs
        repeat' (first | (with_reducible rw [allocV_eq]) | (refine gdV_split (fun hc => ?_) (fun hc => ?_) <;> (try simp only [hc, ↓R1, R2, R3, R4, R5, Nat.reduceEqDiff, Nat.reduceAdd, Nat.reduceMul, Nat.reduceSub, Nat.reduceLeDiff, Nat.reduceLT, reduceIte, reduceCtorEq, Int.reduceBNe, Int.reduceBEq, u8_34, hc1, q1, q2, q3, hw])) | ((first | refine condV_split (fun hc => ?_) (fun hc => ?_) | (with_reducible intro β hβ; (try simp only [St.box_noneA, St.tip_noneA, St.tip_set, St.box_tip, St.box_lp, St.tip_lp] at hβ); (repeat (obtain ⟨⟨_, _⟩, hβ⟩ := hβ)); (try (have hbis := apart_is (by assumption) hβ; obtain ⟨_, _⟩ := hbis)))) <;> (try simp only [↓R1, R2, R3, R4, R5, Nat.reduceEqDiff, Nat.reduceAdd, Nat.reduceMul, Nat.reduceSub, Nat.reduceLeDiff, Nat.reduceLT, reduceIte, reduceCtorEq, Int.reduceBNe, Int.reduceBEq, u8_34, hc1, q1, q2, q3, hw])) | (with_reducible refine And.intro ?_ ?_; (focus (first | omega | (intros; (repeat' (with_reducible apply And.intro)) <;> first | omega | (simp only [List.length_map]; omega))))) | (with_reducible apply And.intro) | ((first | (refine AC.mono (AC.wk (a_left (k := i) (l := l) (by simp only [↓R1, R2, R3, R4, R5, Nat.reduceEqDiff, Nat.reduceAdd, Nat.reduceMul, Nat.reduceSub, Nat.reduceLeDiff, Nat.reduceLT, reduceIte, reduceCtorEq, Int.reduceBNe, Int.reduceBEq, u8_34, hc1, q1, q2, q3, hw])) (wkL_refl _)) ?_; (rintro _ _ ⟨rfl, rfl⟩)) | (refine callGV_le (fun hgv => ⟨?_, ((fun σ2 hle => a_left (k := i) (l := l) (hle.1 _ _ (by simp only [↓R1, R2, R3, R4, R5, Nat.reduceEqDiff, Nat.reduceAdd, Nat.reduceMul, Nat.reduceSub, Nat.reduceLeDiff, Nat.reduceLT, reduceIte, reduceCtorEq, Int.reduceBNe, Int.reduceBEq, u8_34, hc1, q1, q2, q3, hw])))), wkL_refl _⟩) ?_; (first | trivial | (focus (simp only [↓R1, R2, R3, R4, R5, Nat.reduceEqDiff, Nat.reduceAdd, Nat.reduceMul, Nat.reduceSub, Nat.reduceLeDiff, Nat.reduceLT, reduceIte, reduceCtorEq, Int.reduceBNe, Int.reduceBEq, u8_34, hc1, q1, q2, q3, hw]; done)))) | (refine callGV_no ?_)); (try simp only [↓R1, R2, R3, R4, R5, Nat.reduceEqDiff, Nat.reduceAdd, Nat.reduceMul, Nat.reduceSub, Nat.reduceLeDiff, Nat.reduceLT, reduceIte, reduceCtorEq, Int.reduceBNe, Int.reduceBEq, u8_34, hc1, q1, q2, q3, hw])))
        refine endP_intro (r := .tup [wdV k (false, (l.drop k).take (i - k)), .bool true]) (by simp) (by first | (simp [rvsS, rvS]; done) | (simp only [rvsS, rvS, ↓R1, R2, R3, R4, R5, Nat.reduceEqDiff, Nat.reduceAdd, Nat.reduceMul, Nat.reduceSub, Nat.reduceLeDiff, Nat.reduceLT, reduceIte, reduceCtorEq, Int.reduceBNe, Int.reduceBEq, u8_34, hc1, q1, q2, q3, hw]; try simp)) (wk_of_eq (by (simp only [resAV, rvV, List.map_cons, List.map_nil, ↓R1, R2, R3, R4, R5, Nat.reduceEqDiff, Nat.reduceAdd, Nat.reduceMul, Nat.reduceSub, Nat.reduceLeDiff, Nat.reduceLT, reduceIte, reduceCtorEq, Int.reduceBNe, Int.reduceBEq, u8_34, hc1, q1, q2, q3, hw]); rfl)) (le_two hβ (by assumption)) ?_
        rw [hs]
        simp only [WTook, true_and]
        rw [← hd, hpi]
    · have hc1 : decide ((i : Int) < (l.length : Int)) = true := by simpa using hlt2
      have b3 := p49 c2
      have b4 := p69 c2
      have hw : IntKind.i64.wrap ((i : Int) + 1) = ((i + 1 : Nat) : Int) := by rw [wrap64 (by omega) (by omega)]; omega
      cases hbl : isBare c2 with
      | true =>
        rw [hbl] at b3
        repeat' (first | (with_reducible rw [allocV_eq]) | (refine gdV_split (fun hc => ?_) (fun hc => ?_) <;> (try simp only [hc, ↓R1, R2, R3, R4, R5, Nat.reduceEqDiff, Nat.reduceAdd, Nat.reduceMul, Nat.reduceSub, Nat.reduceLeDiff, Nat.reduceLT, reduceIte, reduceCtorEq, Int.reduceBNe, Int.reduceBEq, u8_34, hc1, q1, q2, q3, hw])) | ((first | refine condV_split (fun hc => ?_) (fun hc => ?_) | (with_reducible intro β hβ; (try simp only [St.box_noneA, St.tip_noneA, St.tip_set, St.box_tip, St.box_lp, St.tip_lp] at hβ); (repeat (obtain ⟨⟨_, _⟩, hβ⟩ := hβ)); (try (have hbis := apart_is (by assumption) hβ; obtain ⟨_, _⟩ := hbis)))) <;> (try simp only [↓R1, R2, R3, R4, R5, Nat.reduceEqDiff, Nat.reduceAdd, Nat.reduceMul, Nat.reduceSub, Nat.reduceLeDiff, Nat.reduceLT, reduceIte, reduceCtorEq, Int.reduceBNe, Int.reduceBEq, u8_34, hc1, q1, q2, q3, hw])) | (with_reducible refine And.intro ?_ ?_; (focus (first | omega | (intros; (repeat' (with_reducible apply And.intro)) <;> first | omega | (simp only [List.length_map]; omega))))) | (with_reducible apply And.intro) | ((first | (refine AC.mono (AC.wk (a_left (k := i) (l := l) (by simp only [↓R1, R2, R3, R4, R5, Nat.reduceEqDiff, Nat.reduceAdd, Nat.reduceMul, Nat.reduceSub, Nat.reduceLeDiff, Nat.reduceLT, reduceIte, reduceCtorEq, Int.reduceBNe, Int.reduceBEq, u8_34, hc1, q1, q2, q3, hw])) (wkL_refl _)) ?_; (rintro _ _ ⟨rfl, rfl⟩)) | (refine AC.mono (AC.wk (a_peek (k := i) (l := l) (by simp only [↓R1, R2, R3, R4, R5, Nat.reduceEqDiff, Nat.reduceAdd, Nat.reduceMul, Nat.reduceSub, Nat.reduceLeDiff, Nat.reduceLT, reduceIte, reduceCtorEq, Int.reduceBNe, Int.reduceBEq, u8_34, hc1, q1, q2, q3, hw]) hd2) (wkL_refl _)) ?_; (rintro _ _ ⟨rfl, rfl⟩)) | refine Pu.to (b3) (wkL_refl _) ?_ | refine callDV_pu (b3) (wkL_refl _) ?_); (try simp only [↓R1, R2, R3, R4, R5, Nat.reduceEqDiff, Nat.reduceAdd, Nat.reduceMul, Nat.reduceSub, Nat.reduceLeDiff, Nat.reduceLT, reduceIte, reduceCtorEq, Int.reduceBNe, Int.reduceBEq, u8_34, hc1, q1, q2, q3, hw])))
        refine ⟨i + 1, ⟨by omega, by omega, ?_⟩, by simp [subF, slot, wk_refl], St.le_refl _, by omega⟩
        rw [← hI, hd2, (get_drop hd2).2.2, List.dropWhile_cons, hbl]; rfl
      | false =>
        rw [hbl] at b3
        have hs := stop (by rw [hd2, List.dropWhile_cons, hbl]; rfl)
        cases hq : ((l.drop k).take (i - k) == []) with
        | true =>
          have q2 := hq
          rw [q2, if_pos rfl] at hs
          repeat' (first | (with_reducible rw [allocV_eq]) | (refine gdV_split (fun hc => ?_) (fun hc => ?_) <;> (try simp only [hc, ↓R1, R2, R3, R4, R5, Nat.reduceEqDiff, Nat.reduceAdd, Nat.reduceMul, Nat.reduceSub, Nat.reduceLeDiff, Nat.reduceLT, reduceIte, reduceCtorEq, Int.reduceBNe, Int.reduceBEq, u8_34, hc1, q1, q2, q3, hw])) | ((first | refine condV_split (fun hc => ?_) (fun hc => ?_) | (with_reducible intro β hβ; (try simp only [St.box_noneA, St.tip_noneA, St.tip_set, St.box_tip, St.box_lp, St.tip_lp] at hβ); (repeat (obtain ⟨⟨_, _⟩, hβ⟩ := hβ)); (try (have hbis := apart_is (by assumption) hβ; obtain ⟨_, _⟩ := hbis)))) <;> (try simp only [↓R1, R2, R3, R4, R5, Nat.reduceEqDiff, Nat.reduceAdd, Nat.reduceMul, Nat.reduceSub, Nat.reduceLeDiff, Nat.reduceLT, reduceIte, reduceCtorEq, Int.reduceBNe, Int.reduceBEq, u8_34, hc1, q1, q2, q3, hw])) | (with_reducible refine And.intro ?_ ?_; (focus (first | omega | (intros; (repeat' (with_reducible apply And.intro)) <;> first | omega | (simp only [List.length_map]; omega))))) | (with_reducible apply And.intro) | ((first | (refine AC.mono (AC.wk (a_left (k := i) (l := l) (by simp only [↓R1, R2, R3, R4, R5, Nat.reduceEqDiff, Nat.reduceAdd, Nat.reduceMul, Nat.reduceSub, Nat.reduceLeDiff, Nat.reduceLT, reduceIte, reduceCtorEq, Int.reduceBNe, Int.reduceBEq, u8_34, hc1, q1, q2, q3, hw])) (wkL_refl _)) ?_; (rintro _ _ ⟨rfl, rfl⟩)) | (refine AC.mono (AC.wk (a_peek (k := i) (l := l) (by simp only [↓R1, R2, R3, R4, R5, Nat.reduceEqDiff, Nat.reduceAdd, Nat.reduceMul, Nat.reduceSub, Nat.reduceLeDiff, Nat.reduceLT, reduceIte, reduceCtorEq, Int.reduceBNe, Int.reduceBEq, u8_34, hc1, q1, q2, q3, hw]) hd2) (wkL_refl _)) ?_; (rintro _ _ ⟨rfl, rfl⟩)) | refine Pu.to (b3) (wkL_refl _) ?_ | refine callDV_pu (b3) (wkL_refl _) ?_ | (refine callGV_no ?_)); (try simp only [↓R1, R2, R3, R4, R5, Nat.reduceEqDiff, Nat.reduceAdd, Nat.reduceMul, Nat.reduceSub, Nat.reduceLeDiff, Nat.reduceLT, reduceIte, reduceCtorEq, Int.reduceBNe, Int.reduceBEq, u8_34, hc1, q1, q2, q3, hw])))
          refine endP_intro (r := .tup [wdV k (false, (l.drop k).take (i - k)), .bool false]) (by simp) (by first | (simp [rvsS, rvS]; done) | (simp only [rvsS, rvS, ↓R1, R2, R3, R4, R5, Nat.reduceEqDiff, Nat.reduceAdd, Nat.reduceMul, Nat.reduceSub, Nat.reduceLeDiff, Nat.reduceLT, reduceIte, reduceCtorEq, Int.reduceBNe, Int.reduceBEq, u8_34, hc1, q1, q2, q3, hw]; try simp)) (wk_of_eq (by (simp only [resAV, rvV, List.map_cons, List.map_nil, ↓R1, R2, R3, R4, R5, Nat.reduceEqDiff, Nat.reduceAdd, Nat.reduceMul, Nat.reduceSub, Nat.reduceLeDiff, Nat.reduceLT, reduceIte, reduceCtorEq, Int.reduceBNe, Int.reduceBEq, u8_34, hc1, q1, q2, q3, hw]); rfl)) (le_two hβ (by assumption)) ?_
          rw [hs]
          exact ⟨_, i, rfl, rfl⟩
        | false =>
          have q2 := hq
          rw [q2, if_neg (by simp)] at hs
          cases hbk : isBlank c2 with
          | true =>
            rw [hbk] at b4
            rw [if_pos (by rw [hd2]; exact hbk)] at hs
            repeat' (first | (with_reducible rw [allocV_eq]) | (refine gdV_split (fun hc => ?_) (fun hc => ?_) <;> (try simp only [hc, ↓R1, R2, R3, R4, R5, Nat.reduceEqDiff, Nat.reduceAdd, Nat.reduceMul, Nat.reduceSub, Nat.reduceLeDiff, Nat.reduceLT, reduceIte, reduceCtorEq, Int.reduceBNe, Int.reduceBEq, u8_34, hc1, q1, q2, q3, hw])) | ((first | refine condV_split (fun hc => ?_) (fun hc => ?_) | (with_reducible intro β hβ; (try simp only [St.box_noneA, St.tip_noneA, St.tip_set, St.box_tip, St.box_lp, St.tip_lp] at hβ); (repeat (obtain ⟨⟨_, _⟩, hβ⟩ := hβ)); (try (have hbis := apart_is (by assumption) hβ; obtain ⟨_, _⟩ := hbis)))) <;> (try simp only [↓R1, R2, R3, R4, R5, Nat.reduceEqDiff, Nat.reduceAdd, Nat.reduceMul, Nat.reduceSub, Nat.reduceLeDiff, Nat.reduceLT, reduceIte, reduceCtorEq, Int.reduceBNe, Int.reduceBEq, u8_34, hc1, q1, q2, q3, hw])) | (with_reducible refine And.intro ?_ ?_; (focus (first | omega | (intros; (repeat' (with_reducible apply And.intro)) <;> first | omega | (simp only [List.length_map]; omega))))) | (with_reducible apply And.intro) | ((first | (refine AC.mono (AC.wk (a_left (k := i) (l := l) (by simp only [↓R1, R2, R3, R4, R5, Nat.reduceEqDiff, Nat.reduceAdd, Nat.reduceMul, Nat.reduceSub, Nat.reduceLeDiff, Nat.reduceLT, reduceIte, reduceCtorEq, Int.reduceBNe, Int.reduceBEq, u8_34, hc1, q1, q2, q3, hw])) (wkL_refl _)) ?_; (rintro _ _ ⟨rfl, rfl⟩)) | (refine AC.mono (AC.wk (a_peek (k := i) (l := l) (by simp only [↓R1, R2, R3, R4, R5, Nat.reduceEqDiff, Nat.reduceAdd, Nat.reduceMul, Nat.reduceSub, Nat.reduceLeDiff, Nat.reduceLT, reduceIte, reduceCtorEq, Int.reduceBNe, Int.reduceBEq, u8_34, hc1, q1, q2, q3, hw]) hd2) (wkL_refl _)) ?_; (rintro _ _ ⟨rfl, rfl⟩)) | refine Pu.to (b3) (wkL_refl _) ?_ | refine callDV_pu (b3) (wkL_refl _) ?_ | (refine callGV_le (fun hgv => ⟨?_, ((fun σ2 hle => a_left (k := i) (l := l) (hle.1 _ _ (by simp only [↓R1, R2, R3, R4, R5, Nat.reduceEqDiff, Nat.reduceAdd, Nat.reduceMul, Nat.reduceSub, Nat.reduceLeDiff, Nat.reduceLT, reduceIte, reduceCtorEq, Int.reduceBNe, Int.reduceBEq, u8_34, hc1, q1, q2, q3, hw])))), wkL_refl _⟩) ?_; (first | trivial | (focus (simp only [↓R1, R2, R3, R4, R5, Nat.reduceEqDiff, Nat.reduceAdd, Nat.reduceMul, Nat.reduceSub, Nat.reduceLeDiff, Nat.reduceLT, reduceIte, reduceCtorEq, Int.reduceBNe, Int.reduceBEq, u8_34, hc1, q1, q2, q3, hw]; done)))) | (refine callGV_le (fun hgv => ⟨?_, ((fun σ2 hle => a_peek (k := i) (l := l) (hle.1 _ _ (by simp only [↓R1, R2, R3, R4, R5, Nat.reduceEqDiff, Nat.reduceAdd, Nat.reduceMul, Nat.reduceSub, Nat.reduceLeDiff, Nat.reduceLT, reduceIte, reduceCtorEq, Int.reduceBNe, Int.reduceBEq, u8_34, hc1, q1, q2, q3, hw])) hd2)), wkL_refl _⟩) ?_; (first | trivial | (focus (simp only [↓R1, R2, R3, R4, R5, Nat.reduceEqDiff, Nat.reduceAdd, Nat.reduceMul, Nat.reduceSub, Nat.reduceLeDiff, Nat.reduceLT, reduceIte, reduceCtorEq, Int.reduceBNe, Int.reduceBEq, u8_34, hc1, q1, q2, q3, hw]; done)))) | (refine callGV_pu (fun hgv => ⟨?_, (b4), wkL_refl _⟩) ?_; (first | trivial | (focus (simp only [↓R1, R2, R3, R4, R5, Nat.reduceEqDiff, Nat.reduceAdd, Nat.reduceMul, Nat.reduceSub, Nat.reduceLeDiff, Nat.reduceLT, reduceIte, reduceCtorEq, Int.reduceBNe, Int.reduceBEq, u8_34, hc1, q1, q2, q3, hw]; done)))) | (refine callGV_no ?_)); (try simp only [↓R1, R2, R3, R4, R5, Nat.reduceEqDiff, Nat.reduceAdd, Nat.reduceMul, Nat.reduceSub, Nat.reduceLeDiff, Nat.reduceLT, reduceIte, reduceCtorEq, Int.reduceBNe, Int.reduceBEq, u8_34, hc1, q1, q2, q3, hw])))
            refine endP_intro (r := .tup [wdV k (false, (l.drop k).take (i - k)), .bool true]) (by simp) (by first | (simp [rvsS, rvS]; done) | (simp only [rvsS, rvS, ↓R1, R2, R3, R4, R5, Nat.reduceEqDiff, Nat.reduceAdd, Nat.reduceMul, Nat.reduceSub, Nat.reduceLeDiff, Nat.reduceLT, reduceIte, reduceCtorEq, Int.reduceBNe, Int.reduceBEq, u8_34, hc1, q1, q2, q3, hw]; try simp)) (wk_of_eq (by (simp only [resAV, rvV, List.map_cons, List.map_nil, ↓R1, R2, R3, R4, R5, Nat.reduceEqDiff, Nat.reduceAdd, Nat.reduceMul, Nat.reduceSub, Nat.reduceLeDiff, Nat.reduceLT, reduceIte, reduceCtorEq, Int.reduceBNe, Int.reduceBEq, u8_34, hc1, q1, q2, q3, hw]); rfl)) (le_two hβ (by assumption)) ?_
            rw [hs]
            simp only [WTook, true_and]
            rw [hpi]
          | false =>
            rw [hbk] at b4
            rw [if_neg (by rw [hd2]; simp [endOk, hbk])] at hs
            repeat' (first | (with_reducible rw [allocV_eq]) | (refine gdV_split (fun hc => ?_) (fun hc => ?_) <;> (try simp only [hc, ↓R1, R2, R3, R4, R5, Nat.reduceEqDiff, Nat.reduceAdd, Nat.reduceMul, Nat.reduceSub, Nat.reduceLeDiff, Nat.reduceLT, reduceIte, reduceCtorEq, Int.reduceBNe, Int.reduceBEq, u8_34, hc1, q1, q2, q3, hw])) | ((first | refine condV_split (fun hc => ?_) (fun hc => ?_) | (with_reducible intro β hβ; (try simp only [St.box_noneA, St.tip_noneA, St.tip_set, St.box_tip, St.box_lp, St.tip_lp] at hβ); (repeat (obtain ⟨⟨_, _⟩, hβ⟩ := hβ)); (try (have hbis := apart_is (by assumption) hβ; obtain ⟨_, _⟩ := hbis)))) <;> (try simp only [↓R1, R2, R3, R4, R5, Nat.reduceEqDiff, Nat.reduceAdd, Nat.reduceMul, Nat.reduceSub, Nat.reduceLeDiff, Nat.reduceLT, reduceIte, reduceCtorEq, Int.reduceBNe, Int.reduceBEq, u8_34, hc1, q1, q2, q3, hw])) | (with_reducible refine And.intro ?_ ?_; (focus (first | omega | (intros; (repeat' (with_reducible apply And.intro)) <;> first | omega | (simp only [List.length_map]; omega))))) | (with_reducible apply And.intro) | ((first | (refine AC.mono (AC.wk (a_left (k := i) (l := l) (by simp only [↓R1, R2, R3, R4, R5, Nat.reduceEqDiff, Nat.reduceAdd, Nat.reduceMul, Nat.reduceSub, Nat.reduceLeDiff, Nat.reduceLT, reduceIte, reduceCtorEq, Int.reduceBNe, Int.reduceBEq, u8_34, hc1, q1, q2, q3, hw])) (wkL_refl _)) ?_; (rintro _ _ ⟨rfl, rfl⟩)) | (refine AC.mono (AC.wk (a_peek (k := i) (l := l) (by simp only [↓R1, R2, R3, R4, R5, Nat.reduceEqDiff, Nat.reduceAdd, Nat.reduceMul, Nat.reduceSub, Nat.reduceLeDiff, Nat.reduceLT, reduceIte, reduceCtorEq, Int.reduceBNe, Int.reduceBEq, u8_34, hc1, q1, q2, q3, hw]) hd2) (wkL_refl _)) ?_; (rintro _ _ ⟨rfl, rfl⟩)) | refine Pu.to (b3) (wkL_refl _) ?_ | refine callDV_pu (b3) (wkL_refl _) ?_ | (refine callGV_le (fun hgv => ⟨?_, ((fun σ2 hle => a_left (k := i) (l := l) (hle.1 _ _ (by simp only [↓R1, R2, R3, R4, R5, Nat.reduceEqDiff, Nat.reduceAdd, Nat.reduceMul, Nat.reduceSub, Nat.reduceLeDiff, Nat.reduceLT, reduceIte, reduceCtorEq, Int.reduceBNe, Int.reduceBEq, u8_34, hc1, q1, q2, q3, hw])))), wkL_refl _⟩) ?_; (first | trivial | (focus (simp only [↓R1, R2, R3, R4, R5, Nat.reduceEqDiff, Nat.reduceAdd, Nat.reduceMul, Nat.reduceSub, Nat.reduceLeDiff, Nat.reduceLT, reduceIte, reduceCtorEq, Int.reduceBNe, Int.reduceBEq, u8_34, hc1, q1, q2, q3, hw]; done)))) | (refine callGV_le (fun hgv => ⟨?_, ((fun σ2 hle => a_peek (k := i) (l := l) (hle.1 _ _ (by simp only [↓R1, R2, R3, R4, R5, Nat.reduceEqDiff, Nat.reduceAdd, Nat.reduceMul, Nat.reduceSub, Nat.reduceLeDiff, Nat.reduceLT, reduceIte, reduceCtorEq, Int.reduceBNe, Int.reduceBEq, u8_34, hc1, q1, q2, q3, hw])) hd2)), wkL_refl _⟩) ?_; (first | trivial | (focus (simp only [↓R1, R2, R3, R4, R5, Nat.reduceEqDiff, Nat.reduceAdd, Nat.reduceMul, Nat.reduceSub, Nat.reduceLeDiff, Nat.reduceLT, reduceIte, reduceCtorEq, Int.reduceBNe, Int.reduceBEq, u8_34, hc1, q1, q2, q3, hw]; done)))) | (refine callGV_pu (fun hgv => ⟨?_, (b4), wkL_refl _⟩) ?_; (first | trivial | (focus (simp only [↓R1, R2, R3, R4, R5, Nat.reduceEqDiff, Nat.reduceAdd, Nat.reduceMul, Nat.reduceSub, Nat.reduceLeDiff, Nat.reduceLT, reduceIte, reduceCtorEq, Int.reduceBNe, Int.reduceBEq, u8_34, hc1, q1, q2, q3, hw]; done)))) | (refine callGV_no ?_)); (try simp only [↓R1, R2, R3, R4, R5, Nat.reduceEqDiff, Nat.reduceAdd, Nat.reduceMul, Nat.reduceSub, Nat.reduceLeDiff, Nat.reduceLT, reduceIte, reduceCtorEq, Int.reduceBNe, Int.reduceBEq, u8_34, hc1, q1, q2, q3, hw])))
            refine endP_intro (r := .tup [wdV k (false, (l.drop k).take (i - k)), .bool false]) (by simp) (by first | (simp [rvsS, rvS]; done) | (simp only [rvsS, rvS, ↓R1, R2, R3, R4, R5, Nat.reduceEqDiff, Nat.reduceAdd, Nat.reduceMul, Nat.reduceSub, Nat.reduceLeDiff, Nat.reduceLT, reduceIte, reduceCtorEq, Int.reduceBNe, Int.reduceBEq, u8_34, hc1, q1, q2, q3, hw]; try simp)) (wk_of_eq (by (simp only [resAV, rvV, List.map_cons, List.map_nil, ↓R1, R2, R3, R4, R5, Nat.reduceEqDiff, Nat.reduceAdd, Nat.reduceMul, Nat.reduceSub, Nat.reduceLeDiff, Nat.reduceLT, reduceIte, reduceCtorEq, Int.reduceBNe, Int.reduceBEq, u8_34, hc1, q1, q2, q3, hw]); rfl)) (le_two hβ (by assumption)) ?_
            rw [hs]
            exact ⟨_, i, rfl, rfl⟩
end Go.Proofs.YtemddijemikleaaDoor
namespace Go.Proofs.YtemddijemikleaaDoor
open Go.Abs
set_option linter.all false
set_option maxRecDepth 100000
theorem esc_take (t : List UInt8) {k : Nat} (h : k < t.length) : (t.take (k + 1)).flatMap escB = (t.take k).flatMap escB ++ escB t[k] := by
  rw [← List.take_append_getElem h, List.flatMap_append]; simp
theorem nib_ok : ((List.range 256).all fun n => decide ((n : Int).fdiv (2 ^ min (4 : Int).toNat IntKind.u8.bits) = ((n / 16 : Nat) : Int)) && decide (bits .and .u8 n 15 = ((n % 16 : Nat) : Int))) = true := by kernel_rfl
theorem shr4 (b : UInt8) : (b.toNat : Int).fdiv (2 ^ min (4 : Int).toNat IntKind.u8.bits) = ((b.toNat / 16 : Nat) : Int) := by
  have := List.all_eq_true.1 nib_ok b.toNat (List.mem_range.2 (lt_u8 b))
  simp only [Bool.and_eq_true, decide_eq_true_eq] at this
  exact this.1
theorem and15 (b : UInt8) : bits .and .u8 (b.toNat : Int) 15 = ((b.toNat % 16 : Nat) : Int) := by
  have := List.all_eq_true.1 nib_ok b.toNat (List.mem_range.2 (lt_u8 b))
  simp only [Bool.and_eq_true, decide_eq_true_eq] at this
  exact this.2
theorem wrap_nib (b : UInt8) : IntKind.u8.wrap (((b.toNat / 16 : Nat) : Int) + 1) = ((b.toNat / 16 + 1 : Nat) : Int) ∧ IntKind.u8.wrap (((b.toNat % 16 : Nat) : Int) + 1) = ((b.toNat % 16 + 1 : Nat) : Int) := by
  have hb := lt_u8 b
  constructor <;> (simp [IntKind.wrap, IntKind.signed, IntKind.bits]; omega)
theorem escB_hex {b : UInt8} (h1 : isPlain b = false) (h2 : ¬ (b = 34 ∨ b = 92)) : escB b = [92, 120] ++ [hexc (b.toNat / 16)] ++ [hexc (b.toNat % 16)] := by
  unfold escB
  rw [h1, if_neg (by simp), if_neg h2]; rfl
theorem escB_bs {b : UInt8} (h1 : isPlain b = false) (h2 : b = 34 ∨ b = 92) : escB b = [92] ++ [b] := by
  unfold escB
  rw [h1, if_neg (by simp), if_pos h2]; rfl
theorem escB_plain {b : UInt8} (h1 : isPlain b = true) : escB b = [b] := by
  unfold escB
  rw [h1, if_pos rfl]
theorem bS_keep (σ : St) (γ τ : Nat) {a b : List UInt8} (ha : a ≠ []) (hb : b ≠ []) : (bS σ γ τ b).glob = (bS σ γ τ a).glob ∧ (∀ δ, (bS σ γ τ a).box δ = none → (bS σ γ τ b).box δ = none) ∧ ∀ δ, (bS σ γ τ a).tip δ = none → (bS σ γ τ b).tip δ = none := by
  refine ⟨by rw [bS_glob, bS_glob], fun δ h => by rw [bS_none] at h ⊢; exact h, fun δ h => ?_⟩
  cases a with
  | nil => exact (ha rfl).elim
  | cons x a =>
    cases b with
    | nil => exact (hb rfl).elim
    | cons y b =>
      simp only [bS, bT, St.setBox, St.setTip, upd] at h ⊢
      split at h
      · cases h
      · rename_i e; rw [if_neg e]; exact h
set_option maxHeartbeats 2000000 in
theorem p15 (q : Bool) (t : List UInt8) (a : Int) (ht : t.length ≤ 1000000) : Pu Tryd.prog 15 [.agg [.bool q, .str t, .int .i64 a]] (wordV (wordT q t)) := by
  have q1 : True := trivial
  have q2 : True := trivial
  have q3 : True := trivial
  have q4 : True := trivial
  have q5 : True := trivial
  have q6 : True := trivial
  have q7 : True := trivial
  have q8 : True := trivial
  have hw : True := trivial
  have hd : True := trivial
  have hp := p29 t ht
  cases q with
  | false =>
    cases hb : bareS t with
    | false =>
      rw [hb] at hp
      have e : wordT false t = none := by simp [wordT, hb]
      rw [e]
      (refine Pu_intro c15 b15 (Nat.le_of_ble_eq_true rfl) fun σ => ?_; simp only [c15, ↓R1, R2, R3, R4, R5, Nat.reduceEqDiff, Nat.reduceAdd, Nat.reduceMul, Nat.reduceSub, Nat.reduceLeDiff, Nat.reduceLT, reduceIte, reduceCtorEq, Int.reduceBNe, Int.reduceBEq, q1, q2, q3, q4, q5, q6, q7, q8, hw, hd, u8_34, u8_92, Nat.add_sub_cancel_left])
      repeat' (first | (with_reducible rw [allocV_eq]) | (refine gdV_split (fun hc => ?_) (fun hc => ?_) <;> (try simp only [hc, ↓R1, R2, R3, R4, R5, Nat.reduceEqDiff, Nat.reduceAdd, Nat.reduceMul, Nat.reduceSub, Nat.reduceLeDiff, Nat.reduceLT, reduceIte, reduceCtorEq, Int.reduceBNe, Int.reduceBEq, q1, q2, q3, q4, q5, q6, q7, q8, hw, hd, u8_34, u8_92, Nat.add_sub_cancel_left])) | ((first | refine condV_split (fun hc => ?_) (fun hc => ?_) | (with_reducible intro β hβ; (try simp only [St.box_noneA, St.tip_noneA, St.tip_set, St.box_tip, St.box_lp, St.tip_lp] at hβ); (repeat (obtain ⟨⟨_, _⟩, hβ⟩ := hβ)); (try (have hbis := apart_is (by assumption) hβ; obtain ⟨_, _⟩ := hbis)))) <;> (try simp only [↓R1, R2, R3, R4, R5, Nat.reduceEqDiff, Nat.reduceAdd, Nat.reduceMul, Nat.reduceSub, Nat.reduceLeDiff, Nat.reduceLT, reduceIte, reduceCtorEq, Int.reduceBNe, Int.reduceBEq, q1, q2, q3, q4, q5, q6, q7, q8, hw, hd, u8_34, u8_92, Nat.add_sub_cancel_left])) | (with_reducible refine And.intro ?_ ?_; (focus (first | omega | (intros; (repeat' (with_reducible apply And.intro)) <;> first | omega | (simp only [List.length_map]; omega))))) | (with_reducible apply And.intro) | ((first | refine Pu.to (hp) (wkL_refl _) ?_ | refine callDV_pu (hp) (wkL_refl _) ?_); (try simp only [↓R1, R2, R3, R4, R5, Nat.reduceEqDiff, Nat.reduceAdd, Nat.reduceMul, Nat.reduceSub, Nat.reduceLeDiff, Nat.reduceLT, reduceIte, reduceCtorEq, Int.reduceBNe, Int.reduceBEq, q1, q2, q3, q4, q5, q6, q7, q8, hw, hd, u8_34, u8_92, Nat.add_sub_cancel_left])))
      (refine endP_pu (by simp) (by first | (simp [rvsS, rvS]; done) | (simp only [rvsS, rvS, ↓R1, R2, R3, R4, R5, Nat.reduceEqDiff, Nat.reduceAdd, Nat.reduceMul, Nat.reduceSub, Nat.reduceLeDiff, Nat.reduceLT, reduceIte, reduceCtorEq, Int.reduceBNe, Int.reduceBEq, q1, q2, q3, q4, q5, q6, q7, q8, hw, hd, u8_34, u8_92, Nat.add_sub_cancel_left]; try simp)) (wk_of_eq ?_) (by (repeat (first | exact St.le_refl _ | (refine St.le_new ?_ (by assumption)) | (refine St.le_newT ?_ (by assumption))))))
      (simp only [resAV, rvV, List.map_cons, List.map_nil, ↓R1, R2, R3, R4, R5, Nat.reduceEqDiff, Nat.reduceAdd, Nat.reduceMul, Nat.reduceSub, Nat.reduceLeDiff, Nat.reduceLT, reduceIte, reduceCtorEq, Int.reduceBNe, Int.reduceBEq, q1, q2, q3, q4, q5, q6, q7, q8, hw, hd, u8_34, u8_92, Nat.add_sub_cancel_left])
      rfl
    | true =>
      rw [hb] at hp
      have e : wordT false t = some t := by simp [wordT, hb]
      rw [e]
      (refine Pu_intro c15 b15 (Nat.le_of_ble_eq_true rfl) fun σ => ?_; simp only [c15, ↓R1, R2, R3, R4, R5, Nat.reduceEqDiff, Nat.reduceAdd, Nat.reduceMul, Nat.reduceSub, Nat.reduceLeDiff, Nat.reduceLT, reduceIte, reduceCtorEq, Int.reduceBNe, Int.reduceBEq, q1, q2, q3, q4, q5, q6, q7, q8, hw, hd, u8_34, u8_92, Nat.add_sub_cancel_left])
      repeat' (first | (with_reducible rw [allocV_eq]) | (refine gdV_split (fun hc => ?_) (fun hc => ?_) <;> (try simp only [hc, ↓R1, R2, R3, R4, R5, Nat.reduceEqDiff, Nat.reduceAdd, Nat.reduceMul, Nat.reduceSub, Nat.reduceLeDiff, Nat.reduceLT, reduceIte, reduceCtorEq, Int.reduceBNe, Int.reduceBEq, q1, q2, q3, q4, q5, q6, q7, q8, hw, hd, u8_34, u8_92, Nat.add_sub_cancel_left])) | ((first | refine condV_split (fun hc => ?_) (fun hc => ?_) | (with_reducible intro β hβ; (try simp only [St.box_noneA, St.tip_noneA, St.tip_set, St.box_tip, St.box_lp, St.tip_lp] at hβ); (repeat (obtain ⟨⟨_, _⟩, hβ⟩ := hβ)); (try (have hbis := apart_is (by assumption) hβ; obtain ⟨_, _⟩ := hbis)))) <;> (try simp only [↓R1, R2, R3, R4, R5, Nat.reduceEqDiff, Nat.reduceAdd, Nat.reduceMul, Nat.reduceSub, Nat.reduceLeDiff, Nat.reduceLT, reduceIte, reduceCtorEq, Int.reduceBNe, Int.reduceBEq, q1, q2, q3, q4, q5, q6, q7, q8, hw, hd, u8_34, u8_92, Nat.add_sub_cancel_left])) | (with_reducible refine And.intro ?_ ?_; (focus (first | omega | (intros; (repeat' (with_reducible apply And.intro)) <;> first | omega | (simp only [List.length_map]; omega))))) | (with_reducible apply And.intro) | ((first | refine Pu.to (hp) (wkL_refl _) ?_ | refine callDV_pu (hp) (wkL_refl _) ?_); (try simp only [↓R1, R2, R3, R4, R5, Nat.reduceEqDiff, Nat.reduceAdd, Nat.reduceMul, Nat.reduceSub, Nat.reduceLeDiff, Nat.reduceLT, reduceIte, reduceCtorEq, Int.reduceBNe, Int.reduceBEq, q1, q2, q3, q4, q5, q6, q7, q8, hw, hd, u8_34, u8_92, Nat.add_sub_cancel_left])))
      (refine endP_pu (by simp) (by first | (simp [rvsS, rvS]; done) | (simp only [rvsS, rvS, ↓R1, R2, R3, R4, R5, Nat.reduceEqDiff, Nat.reduceAdd, Nat.reduceMul, Nat.reduceSub, Nat.reduceLeDiff, Nat.reduceLT, reduceIte, reduceCtorEq, Int.reduceBNe, Int.reduceBEq, q1, q2, q3, q4, q5, q6, q7, q8, hw, hd, u8_34, u8_92, Nat.add_sub_cancel_left]; try simp)) (wk_of_eq ?_) (by (repeat (first | exact St.le_refl _ | (refine St.le_new ?_ (by assumption)) | (refine St.le_newT ?_ (by assumption))))))
      (simp only [resAV, rvV, List.map_cons, List.map_nil, ↓R1, R2, R3, R4, R5, Nat.reduceEqDiff, Nat.reduceAdd, Nat.reduceMul, Nat.reduceSub, Nat.reduceLeDiff, Nat.reduceLT, reduceIte, reduceCtorEq, Int.reduceBNe, Int.reduceBEq, q1, q2, q3, q4, q5, q6, q7, q8, hw, hd, u8_34, u8_92, Nat.add_sub_cancel_left])
      rfl
  | true =>
    have e : wordT true t = some (34 :: (t.flatMap escB ++ [34])) := by simp [wordT]
    rw [e]
    (refine Pu_intro c15 b15 (Nat.le_of_ble_eq_true rfl) fun σ => ?_; simp only [c15, ↓R1, R2, R3, R4, R5, Nat.reduceEqDiff, Nat.reduceAdd, Nat.reduceMul, Nat.reduceSub, Nat.reduceLeDiff, Nat.reduceLT, reduceIte, reduceCtorEq, Int.reduceBNe, Int.reduceBEq, q1, q2, q3, q4, q5, q6, q7, q8, hw, hd, u8_34, u8_92, Nat.add_sub_cancel_left])
    intro b1 h1
    refine allocTV_i (fun γ hγ hγt => ?_)
    rw [St.box_noneA] at hγ
    obtain ⟨⟨_, _⟩, hγ⟩ := hγ
    have hγt : σ.bt γ = none := hγt
    simp only [↓R1, R2, R3, R4, R5, Nat.reduceEqDiff, Nat.reduceAdd, Nat.reduceMul, Nat.reduceSub, Nat.reduceLeDiff, Nat.reduceLT, reduceIte, reduceCtorEq, Int.reduceBNe, Int.reduceBEq, q1, q2, q3, q4, q5, q6, q7, q8, hw, hd, u8_34, u8_92, Nat.add_sub_cancel_left]
    obtain ⟨X, hX⟩ : ∃ X, X = (σ.setBt γ 63).setBox b1 [.bool true, .str t, .int .i64 a] := ⟨_, rfl⟩
    have hXt : X.tip = σ.tip := by rw [hX]; rfl
    have hXb : X.bt γ = some 63 := by rw [hX]; exact St.bt_same _ _ _
    have hX1 : ∀ τ out, (bS X γ τ out).box b1 = some [.bool true, .str t, .int .i64 a] := fun τ out => by rw [bS_other, hX]; simp only [↓R1, R2, R3, R4, R5, Nat.reduceEqDiff, Nat.reduceAdd, Nat.reduceMul, Nat.reduceSub, Nat.reduceLeDiff, Nat.reduceLT, reduceIte, reduceCtorEq, Int.reduceBNe, Int.reduceBEq, q1, q2, q3, q4, q5, q6, q7, q8, hw, hd, u8_34, u8_92, Nat.add_sub_cancel_left]
    have hXl : ∀ c, St.le σ (X.setBox γ c) := fun c => by
      rw [hX]
      exact St.le_setBox (St.le_setBox (St.le_newBt (St.le_refl _) hγt) h1) hγ
    have w0 := a_WriteByte γ 34 X 0 [] (by simp) hXb (by simp)
    rw [bS_nil, hX] at w0
    refine (AC.wk w0 (wkL_refl _)).mono ?_
    rintro _ _ ⟨rfl, τ, hτ, _, rfl⟩
    rw [← hX] at hτ ⊢
    simp only [hX1, List.nil_append, ↓R1, R2, R3, R4, R5, Nat.reduceEqDiff, Nat.reduceAdd, Nat.reduceMul, Nat.reduceSub, Nat.reduceLeDiff, Nat.reduceLT, reduceIte, reduceCtorEq, Int.reduceBNe, Int.reduceBEq, q1, q2, q3, q4, q5, q6, q7, q8, hw, hd, u8_34, u8_92, Nat.add_sub_cancel_left]
    have hlen : ∀ k, (34 :: (t.take k).flatMap escB).length ≤ 4000001 := fun k => by
      have h1 := esc_len (t.take k)
      have h2 : (t.take k).length ≤ t.length := by simp; omega
      simp only [List.length_cons]; omega
    refine loopV_for t.length (fun k => [(4, .ptr γ 0), (19, .sl false t.length (t.map fun b => .int .u8 b.toNat)), (20, .int .i64 (t.length : Nat)), (21, .int .i64 (k : Nat))]) (fun k => bS X γ τ (34 :: (t.take k).flatMap escB)) (fun _ => True) (by simp [subF, slot, wk_refl]) (by simp; exact St.le_refl _) trivial (fun k hk _ => ?_)
    have hlk := hlen k
    by_cases hlt : k < t.length
    · have q1 : decide ((k : Int) < (t.length : Int)) = true := by rw [decide_eq_true_eq]; omega
      have hd := bytesL_get t hlt
      have hw : IntKind.i64.wrap ((k : Int) + 1) = ((k + 1 : Nat) : Int) := by rw [wrap64 (by omega) (by omega)]; omega
      have hpl := p40 t[k]
      have w1 : ∀ (x : UInt8) (out : List UInt8), out ≠ [] → out.length ≤ 5000000 → AC Tryd.prog 39 [.ptr γ 0, .int .u8 x.toNat] (bS X γ τ out) (fun v s => v = .nili ∧ s = bS X γ τ (out ++ [x])) := fun x out h0 hl => (a_WriteByte γ x).used h0 hτ hXb (by simp; omega)
      have hes := esc_take t hlt
      simp only [q1, ↓R1, R2, R3, R4, R5, Nat.reduceEqDiff, Nat.reduceAdd, Nat.reduceMul, Nat.reduceSub, Nat.reduceLeDiff, Nat.reduceLT, reduceIte, reduceCtorEq, Int.reduceBNe, Int.reduceBEq, q1, q2, q3, q4, q5, q6, q7, q8, hw, hd, u8_34, u8_92, Nat.add_sub_cancel_left]
      cases hb : isPlain t[k] with
      | true =>
        rw [hb] at hpl
        rw [escB_plain hb] at hes
        repeat' (first | (with_reducible rw [allocV_eq]) | (refine gdV_split (fun hc => ?_) (fun hc => ?_) <;> (try simp only [hc, ↓R1, R2, R3, R4, R5, Nat.reduceEqDiff, Nat.reduceAdd, Nat.reduceMul, Nat.reduceSub, Nat.reduceLeDiff, Nat.reduceLT, reduceIte, reduceCtorEq, Int.reduceBNe, Int.reduceBEq, q1, q2, q3, q4, q5, q6, q7, q8, hw, hd, u8_34, u8_92, Nat.add_sub_cancel_left])) | ((first | refine condV_split (fun hc => ?_) (fun hc => ?_) | (with_reducible intro β hβ; (try simp only [St.box_noneA, St.tip_noneA, St.tip_set, St.box_tip, St.box_lp, St.tip_lp] at hβ); (repeat (obtain ⟨⟨_, _⟩, hβ⟩ := hβ)); (try (have hbis := apart_is (by assumption) hβ; obtain ⟨_, _⟩ := hbis)))) <;> (try simp only [↓R1, R2, R3, R4, R5, Nat.reduceEqDiff, Nat.reduceAdd, Nat.reduceMul, Nat.reduceSub, Nat.reduceLeDiff, Nat.reduceLT, reduceIte, reduceCtorEq, Int.reduceBNe, Int.reduceBEq, q1, q2, q3, q4, q5, q6, q7, q8, hw, hd, u8_34, u8_92, Nat.add_sub_cancel_left])) | (with_reducible refine And.intro ?_ ?_; (focus (first | omega | (intros; (repeat' (with_reducible apply And.intro)) <;> first | omega | (simp only [List.length_map]; omega))))) | (with_reducible apply And.intro) | ((first | refine Pu.to (hpl) (wkL_refl _) ?_ | refine callDV_pu (hpl) (wkL_refl _) ?_ | (refine AC.mono (AC.wk (w1 _ _ (by simp) (by omega)) (wkL_refl _)) ?_; (rintro _ _ ⟨rfl, rfl⟩))); (try simp only [↓R1, R2, R3, R4, R5, Nat.reduceEqDiff, Nat.reduceAdd, Nat.reduceMul, Nat.reduceSub, Nat.reduceLeDiff, Nat.reduceLT, reduceIte, reduceCtorEq, Int.reduceBNe, Int.reduceBEq, q1, q2, q3, q4, q5, q6, q7, q8, hw, hd, u8_34, u8_92, Nat.add_sub_cancel_left])))
        all_goals first | (simp only [List.length_map]; omega) | skip
        · simp [subF, slot, wk_refl]
        · rw [hes]; exact St.le_refl _
      | false =>
        rw [hb] at hpl
        by_cases h2 : t[k] = 34 ∨ t[k] = 92
        · have q2 : (decide (t[k] = 34) || decide (t[k] = 92)) = true := by simpa using h2
          have w92 : AC Tryd.prog 39 [.ptr γ 0, .int .u8 92] (bS X γ τ (34 :: (t.take k).flatMap escB)) (fun v s => v = .nili ∧ s = bS X γ τ ((34 :: (t.take k).flatMap escB) ++ [92])) := w1 92 _ (by simp) (by omega)
          have wc := w1 t[k] ((34 :: (t.take k).flatMap escB) ++ [92]) (by simp) (by rw [List.length_append]; simp only [List.length_cons, List.length_nil] at *; omega)
          rw [escB_bs hb h2] at hes
          repeat' (first | (with_reducible rw [allocV_eq]) | (refine gdV_split (fun hc => ?_) (fun hc => ?_) <;> (try simp only [hc, ↓R1, R2, R3, R4, R5, Nat.reduceEqDiff, Nat.reduceAdd, Nat.reduceMul, Nat.reduceSub, Nat.reduceLeDiff, Nat.reduceLT, reduceIte, reduceCtorEq, Int.reduceBNe, Int.reduceBEq, q1, q2, q3, q4, q5, q6, q7, q8, hw, hd, u8_34, u8_92, Nat.add_sub_cancel_left])) | ((first | refine condV_split (fun hc => ?_) (fun hc => ?_) | (with_reducible intro β hβ; (try simp only [St.box_noneA, St.tip_noneA, St.tip_set, St.box_tip, St.box_lp, St.tip_lp] at hβ); (repeat (obtain ⟨⟨_, _⟩, hβ⟩ := hβ)); (try (have hbis := apart_is (by assumption) hβ; obtain ⟨_, _⟩ := hbis)))) <;> (try simp only [↓R1, R2, R3, R4, R5, Nat.reduceEqDiff, Nat.reduceAdd, Nat.reduceMul, Nat.reduceSub, Nat.reduceLeDiff, Nat.reduceLT, reduceIte, reduceCtorEq, Int.reduceBNe, Int.reduceBEq, q1, q2, q3, q4, q5, q6, q7, q8, hw, hd, u8_34, u8_92, Nat.add_sub_cancel_left])) | (with_reducible refine And.intro ?_ ?_; (focus (first | omega | (intros; (repeat' (with_reducible apply And.intro)) <;> first | omega | (simp only [List.length_map]; omega))))) | (with_reducible apply And.intro) | ((first | refine Pu.to (hpl) (wkL_refl _) ?_ | refine callDV_pu (hpl) (wkL_refl _) ?_ | (refine AC.mono (AC.wk (w92) (wkL_refl _)) ?_; (rintro _ _ ⟨rfl, rfl⟩)) | (refine AC.mono (AC.wk (wc) (wkL_refl _)) ?_; (rintro _ _ ⟨rfl, rfl⟩))); (try simp only [↓R1, R2, R3, R4, R5, Nat.reduceEqDiff, Nat.reduceAdd, Nat.reduceMul, Nat.reduceSub, Nat.reduceLeDiff, Nat.reduceLT, reduceIte, reduceCtorEq, Int.reduceBNe, Int.reduceBEq, q1, q2, q3, q4, q5, q6, q7, q8, hw, hd, u8_34, u8_92, Nat.add_sub_cancel_left])))
          all_goals first | (simp only [List.length_map]; omega) | skip
          · simp [subF, slot, wk_refl]
          · rw [hes]; simp; exact St.le_refl _
        · have q2 : (decide (t[k] = 34) || decide (t[k] = 92)) = false := by
            rw [← Bool.not_eq_true]; simpa using h2
          have q3 := shr4 t[k]
          have q4 := and15 t[k]
          have q5 := (wrap_nib t[k]).1
          have q6 := (wrap_nib t[k]).2
          have q7 := hexc_get (t[k].toNat / 16) (by have := lt_u8 t[k]; omega)
          have q8 := hexc_get (t[k].toNat % 16) (by omega)
          have ws := (a_WriteString γ ([92, 120] ++ [hexc (t[k].toNat / 16)] ++ [hexc (t[k].toNat % 16)]) (by simp)).used (l := 34 :: (t.take k).flatMap escB) (by simp) hτ hXb (by simp only [List.length_append, List.length_cons, List.length_nil] at *; omega)
          rw [escB_hex hb h2] at hes
          have hks := bS_keep X γ τ (a := 34 :: (t.take k).flatMap escB) (b := 34 :: (t.take k).flatMap escB ++ ([92, 120] ++ [hexc (t[k].toNat / 16)] ++ [hexc (t[k].toNat % 16)])) (by simp) (by simp)
          repeat' (first | (with_reducible rw [allocV_eq]) | (refine gdV_split (fun hc => ?_) (fun hc => ?_) <;> (try simp only [hc, ↓R1, R2, R3, R4, R5, Nat.reduceEqDiff, Nat.reduceAdd, Nat.reduceMul, Nat.reduceSub, Nat.reduceLeDiff, Nat.reduceLT, reduceIte, reduceCtorEq, Int.reduceBNe, Int.reduceBEq, q1, q2, q3, q4, q5, q6, q7, q8, hw, hd, u8_34, u8_92, Nat.add_sub_cancel_left])) | ((first | refine condV_split (fun hc => ?_) (fun hc => ?_) | (with_reducible intro β hβ; (try simp only [St.box_noneA, St.tip_noneA, St.tip_set, St.box_tip, St.box_lp, St.tip_lp] at hβ); (repeat (obtain ⟨⟨_, _⟩, hβ⟩ := hβ)); (try (have hbis := apart_is (by assumption) hβ; obtain ⟨_, _⟩ := hbis)))) <;> (try simp only [↓R1, R2, R3, R4, R5, Nat.reduceEqDiff, Nat.reduceAdd, Nat.reduceMul, Nat.reduceSub, Nat.reduceLeDiff, Nat.reduceLT, reduceIte, reduceCtorEq, Int.reduceBNe, Int.reduceBEq, q1, q2, q3, q4, q5, q6, q7, q8, hw, hd, u8_34, u8_92, Nat.add_sub_cancel_left])) | (with_reducible refine And.intro ?_ ?_; (focus (first | omega | (intros; (repeat' (with_reducible apply And.intro)) <;> first | omega | (simp only [List.length_map]; omega))))) | (with_reducible apply And.intro) | ((first | refine Pu.to (hpl) (wkL_refl _) ?_ | refine callDV_pu (hpl) (wkL_refl _) ?_ | (refine callSV_i ws (wkL_refl _) hks ?_)); (try simp only [↓R1, R2, R3, R4, R5, Nat.reduceEqDiff, Nat.reduceAdd, Nat.reduceMul, Nat.reduceSub, Nat.reduceLeDiff, Nat.reduceLT, reduceIte, reduceCtorEq, Int.reduceBNe, Int.reduceBEq, q1, q2, q3, q4, q5, q6, q7, q8, hw, hd, u8_34, u8_92, Nat.add_sub_cancel_left])))
          all_goals first | (simp only [List.length_map]; omega) | (have := lt_u8 t[k]; omega) | skip
          · simp [subF, slot, wk_refl]
          · rw [hes]; simp; exact St.le_refl _
    · have hke : k = t.length := by omega
      subst hke
      have q1 : decide ((t.length : Int) < (t.length : Int)) = false := by simp
      rw [List.take_length] at hlk ⊢
      have w34 : AC Tryd.prog 39 [.ptr γ 0, .int .u8 34] (bS X γ τ (34 :: t.flatMap escB)) (fun v s => v = .nili ∧ s = bS X γ τ ((34 :: t.flatMap escB) ++ [34])) := (a_WriteByte γ 34).used (by simp) hτ hXb (by simp only [List.length_cons, List.length_nil] at *; omega)
      have ws := a_String (β := γ) (τ := τ) (l := (34 :: t.flatMap escB) ++ [34]) (σ := X) (fun _ => hτ) hXb
      simp only [q1, ↓R1, R2, R3, R4, R5, Nat.reduceEqDiff, Nat.reduceAdd, Nat.reduceMul, Nat.reduceSub, Nat.reduceLeDiff, Nat.reduceLT, reduceIte, reduceCtorEq, Int.reduceBNe, Int.reduceBEq, q1, q2, q3, q4, q5, q6, q7, q8, hw, hd, u8_34, u8_92, Nat.add_sub_cancel_left]
      repeat' (first | (with_reducible rw [allocV_eq]) | (refine gdV_split (fun hc => ?_) (fun hc => ?_) <;> (try simp only [hc, ↓R1, R2, R3, R4, R5, Nat.reduceEqDiff, Nat.reduceAdd, Nat.reduceMul, Nat.reduceSub, Nat.reduceLeDiff, Nat.reduceLT, reduceIte, reduceCtorEq, Int.reduceBNe, Int.reduceBEq, q1, q2, q3, q4, q5, q6, q7, q8, hw, hd, u8_34, u8_92, Nat.add_sub_cancel_left])) | ((first | refine condV_split (fun hc => ?_) (fun hc => ?_) | (with_reducible intro β hβ; (try simp only [St.box_noneA, St.tip_noneA, St.tip_set, St.box_tip, St.box_lp, St.tip_lp] at hβ); (repeat (obtain ⟨⟨_, _⟩, hβ⟩ := hβ)); (try (have hbis := apart_is (by assumption) hβ; obtain ⟨_, _⟩ := hbis)))) <;> (try simp only [↓R1, R2, R3, R4, R5, Nat.reduceEqDiff, Nat.reduceAdd, Nat.reduceMul, Nat.reduceSub, Nat.reduceLeDiff, Nat.reduceLT, reduceIte, reduceCtorEq, Int.reduceBNe, Int.reduceBEq, q1, q2, q3, q4, q5, q6, q7, q8, hw, hd, u8_34, u8_92, Nat.add_sub_cancel_left])) | (with_reducible refine And.intro ?_ ?_; (focus (first | omega | (intros; (repeat' (with_reducible apply And.intro)) <;> first | omega | (simp only [List.length_map]; omega))))) | (with_reducible apply And.intro) | ((first | (refine AC.mono (AC.wk (w34) (wkL_refl _)) ?_; (rintro _ _ ⟨rfl, rfl⟩)) | (refine AC.mono (AC.wk (ws) (wkL_refl _)) ?_; (rintro _ _ ⟨rfl, rfl⟩))); (try simp only [↓R1, R2, R3, R4, R5, Nat.reduceEqDiff, Nat.reduceAdd, Nat.reduceMul, Nat.reduceSub, Nat.reduceLeDiff, Nat.reduceLT, reduceIte, reduceCtorEq, Int.reduceBNe, Int.reduceBEq, q1, q2, q3, q4, q5, q6, q7, q8, hw, hd, u8_34, u8_92, Nat.add_sub_cancel_left])))
      refine endP_pu (by simp) (by first | (simp [rvsS, rvS]; done) | (simp only [rvsS, rvS, ↓R1, R2, R3, R4, R5, Nat.reduceEqDiff, Nat.reduceAdd, Nat.reduceMul, Nat.reduceSub, Nat.reduceLeDiff, Nat.reduceLT, reduceIte, reduceCtorEq, Int.reduceBNe, Int.reduceBEq, q1, q2, q3, q4, q5, q6, q7, q8, hw, hd, u8_34, u8_92, Nat.add_sub_cancel_left]; try simp)) (wk_of_eq ?_) (hXl _)
      (simp only [resAV, rvV, List.map_cons, List.map_nil, ↓R1, R2, R3, R4, R5, Nat.reduceEqDiff, Nat.reduceAdd, Nat.reduceMul, Nat.reduceSub, Nat.reduceLeDiff, Nat.reduceLT, reduceIte, reduceCtorEq, Int.reduceBNe, Int.reduceBEq, q1, q2, q3, q4, q5, q6, q7, q8, hw, hd, u8_34, u8_92, Nat.add_sub_cancel_left])
      rfl
end Go.Proofs.YtemddijemikleaaDoor
namespace Go.Abs
theorem AC.le {P : Program} {f : Nat} {xs : List AV} {σ σ' : St} {R : AV → St → Prop} (h : AC P f xs σ R) (hl : St.le σ σ') : AC P f xs σ' R := fun g w vs hI hv => h g w vs (hI.le hl) hv
end Go.Abs
namespace Go.Proofs.YtemddijemikleaaDoor
open Go.Abs
set_option linter.all false
set_option maxRecDepth 100000
theorem joins : Joins Tryd.prog 34 :=
  joins_of (Go.Proofs.enters_of Tryd.func34 (by kernel_rfl) rfl) (fun x sep w => Tryd.strings_Join_none x 0 sep w) (fun bk o c xs sep w h1 h2 h3 h4 h5 => Tryd.strings_Join bk o c xs sep w h1 h2 h3 h4 h5)
def sV (τ : Nat) : List (List UInt8) → AV
  | [] => .nils
  | p => .tsl τ p.length (p.map AV.str)
def sT (σ : St) (τ : Nat) : List (List UInt8) → St
  | [] => σ
  | p => σ.setTip τ (9, 1, p.length)
theorem sT_box (σ : St) (τ : Nat) (p : List (List UInt8)) : (sT σ τ p).box = σ.box := by cases p <;> rfl
theorem sT_set (σ : St) (τ : Nat) (p : List (List UInt8)) (u : Nat) (c : List AV) : (sT σ τ p).setBox u c = sT (σ.setBox u c) τ p := by cases p <;> rfl
theorem sT_le {s s' : St} (h : St.le s s') {τ : Nat} {p : List (List UInt8)} (hn : p ≠ [] → s.tip τ = none) : St.le s (sT s' τ p) := by
  cases p with
  | nil => exact h
  | cons x p => exact St.le_setTip h (hn (by simp))
theorem sT_le2 {s s' : St} (h : St.le s s') (τ : Nat) (p : List (List UInt8)) : St.le (sT s τ p) (sT s' τ p) := by
  cases p with
  | nil => exact h
  | cons x p => exact St.le_setTc h
theorem bS_tip_none {σ : St} {γ τ τ1 : Nat} {out : List UInt8} (h : (bS σ γ τ out).tip τ1 = none) : σ.tip τ1 = none := by
  cases out with
  | nil => exact h
  | cons x out =>
    simp only [bS, bT, St.setBox, St.setTip, upd] at h
    split at h
    · cases h
    · exact h
theorem sV_slv (τ : Nat) (p : List (List UInt8)) : slv (sV τ p) = some (p.length, p.map AV.str) := by cases p <;> rfl
theorem sV_app {P : Program} {Y : St} {K : AV → St → Prop} {τ : Nat} {pre : List (List UInt8)} {w : List UInt8} {h : Hold (sT Y τ pre, K)} (hl : pre.length ≤ 1000000) (hY : pre ≠ [] → Y.tip τ = none)
    (hK : ∀ τ', Y.tip τ' = none → K (sV τ' (pre ++ [w])) (sT Y τ' (pre ++ [w]))) : appV true 9 1 16 (sV τ pre) (.sl true 1 [.str w]) (sT Y τ pre) K h := by
  cases pre with
  | nil =>
    refine appV_tip (n := 0) (cs := []) rfl trivial rfl rfl rfl ?_ ?_ (fun τ' hτ' => ?_)
    · unfold maxLen; decide
    · decide
    · exact hK τ' hτ'
  | cons x p =>
    simp only [List.length_cons] at hl
    refine appV_tslK rfl ?_ ?_ rfl ?_ ?_ ?_
    · simp [sT, St.setTip, upd]
    · simp
    · unfold maxLen; simp; omega
    · simp; omega
    · have := hK τ (hY (by simp))
      have e1 : (x :: p).map AV.str ++ [AV.str w] = ((x :: p) ++ [w]).map AV.str := by simp
      have e2 : sT (sT Y τ (x :: p)) τ ((x :: p) ++ [w]) = sT Y τ ((x :: p) ++ [w]) := St.setTip_setTip _ _ _ _
      have e3 : (x :: p).length + 1 = ((x :: p) ++ [w]).length := by simp
      rw [e1, e3]
      rw [← e2] at this
      exact this
theorem cRI_get (l : List RI) {k : Nat} (h : k < l.length) : ((l.flatMap cRI).drop (k * 2)).take 2 = cRI l[k] := by
  have := flat_get (f := cRI) (s := 2) (fun _ => rfl) l k h
  exact this
theorem cWI_get (l : List WI) {k : Nat} (h : k < l.length) : ((l.flatMap cWI).drop (k * 3)).take 3 = cWI l[k] := by
  have := flat_get (f := cWI) (s := 3) (fun _ => rfl) l k h
  exact this
theorem textG_missing {out : List UInt8} {l : List RI} {k : Nat} (h : k < l.length) (h0 : l[k].ws.length = 0) : textG out (l.drop k) = .error 7 := by
  rw [List.drop_eq_getElem_cons h]; simp only [textG, h0, if_true]
theorem textG_form {out : List UInt8} {l : List RI} {k : Nat} (h : k < l.length) (h0 : ¬ l[k].ws.length = 0) (hw : wordsT l[k].ws = none) : textG out (l.drop k) = .error 3 := by
  rw [List.drop_eq_getElem_cons h]; simp only [textG, if_neg h0, hw]
theorem textG_step {out : List UInt8} {l : List RI} {k : Nat} {ws : List (List UInt8)} (h : k < l.length) (h0 : ¬ l[k].ws.length = 0) (hw : wordsT l[k].ws = some ws) :
    textG out (l.drop k) = if 1000 < (Lib.join ws [32]).length ∨ 20000 < (out ++ (Lib.join ws [32] ++ [10])).length then .error 4 else textG (out ++ (Lib.join ws [32] ++ [10])) (l.drop (k + 1)) := by
  rw [List.drop_eq_getElem_cons h]; simp only [textG, if_neg h0, hw]
set_option maxHeartbeats 4000000 in
theorem p12 (l : List RI) (hl : LightR l) : Pu Tryd.prog 12 [.sl false l.length (l.flatMap cRI)] (textV (textS l)) := by
  have q1 : True := trivial
  have q2 : True := trivial
  have q3 : True := trivial
  have q4 : True := trivial
  have q5 : True := trivial
  have hw : True := trivial
  have hd : True := trivial
  have hd2 : True := trivial
  obtain ⟨hl1, hl2⟩ := hl
  (refine Pu_intro c12 b12 (Nat.le_of_ble_eq_true rfl) fun σ => ?_; simp only [c12, ↓R1, R2, R3, R4, R5, Nat.reduceEqDiff, Nat.reduceAdd, Nat.reduceMul, Nat.reduceSub, Nat.reduceLeDiff, Nat.reduceLT, reduceIte, reduceCtorEq, Int.reduceBNe, Int.reduceBEq, q1, q2, q3, q4, q5, hw, hd, hd2])
  refine allocTV_i (fun γ hγ hγt => ?_)
  have hγt : σ.bt γ = none := hγt
  simp only [↓R1, R2, R3, R4, R5, Nat.reduceEqDiff, Nat.reduceAdd, Nat.reduceMul, Nat.reduceSub, Nat.reduceLeDiff, Nat.reduceLT, reduceIte, reduceCtorEq, Int.reduceBNe, Int.reduceBEq, q1, q2, q3, q4, q5, hw, hd, hd2]
  obtain ⟨X, hX⟩ : ∃ X, X = σ.setBt γ 63 := ⟨_, rfl⟩
  have hXt : X.tip = σ.tip := by rw [hX]; rfl
  have hXb : X.bt γ = some 63 := by rw [hX]; exact St.bt_same _ _ _
  have hXl : ∀ c, St.le σ (X.setBox γ c) := fun c => by
    rw [hX]; exact St.le_setBox (St.le_newBt (St.le_refl _) hγt) hγ
  have hle : ∀ τ out, (out ≠ [] → σ.tip τ = none) → St.le σ (bS X γ τ out) := fun τ out h => by
    rw [hX]; exact bS_le (St.le_newBt (St.le_refl _) hγt) hγ h
  refine loopV_st (α := Nat × Nat × List UInt8) (fun z => [(4, .ptr γ 0), (13, .sl false l.length (l.flatMap cRI)), (14, .int .i64 (l.length : Nat)), (15, .int .i64 (z.1 : Nat))]) (fun z => bS X γ z.2.1 z.2.2)
    (fun z => z.1 ≤ l.length ∧ (z.2.2 ≠ [] → σ.tip z.2.1 = none) ∧ z.2.2.length ≤ 20000 ∧ textS l = textG z.2.2 (l.drop z.1)) (fun z => l.length - z.1) (0, 0, []) (by simp [subF, slot, wk_refl]) (by rw [hX]; exact St.le_refl _) ⟨Nat.zero_le _, (fun h => absurd rfl h), Nat.zero_le _, rfl⟩ ?_
  rintro ⟨k, τ, out⟩ ⟨hk, hτ, hlen, hI⟩
  simp only at hk hτ hlen hI
  by_cases hlt : k < l.length
  · have q1 : decide ((k : Int) < (l.length : Int)) = true := by rw [decide_eq_true_eq]; omega
    have hd := cRI_get l hlt
    have hd2 := cRI_len l
    have hw : IntKind.i64.wrap ((k : Int) + 1) = ((k + 1 : Nat) : Int) := by rw [wrap64 (by omega) (by omega)]; omega
    obtain ⟨hwn, hwt⟩ := hl2 l[k] (List.getElem_mem hlt)
    simp only [cRI] at hd
    have hτX : out ≠ [] → X.tip τ = none := by rw [hXt]; exact hτ
    by_cases h0 : l[k].ws.length = 0
    · have q2 : ((l[k].ws.length : Int) == 0) = true := by rw [h0]; rfl
      rw [textG_missing hlt h0] at hI
      rw [hI]
      simp only [q1, ↓R1, R2, R3, R4, R5, Nat.reduceEqDiff, Nat.reduceAdd, Nat.reduceMul, Nat.reduceSub, Nat.reduceLeDiff, Nat.reduceLT, reduceIte, reduceCtorEq, Int.reduceBNe, Int.reduceBEq, q1, q2, q3, q4, q5, hw, hd, hd2]
      repeat' (first | (with_reducible rw [allocV_eq]) | (refine gdV_split (fun hc => ?_) (fun hc => ?_) <;> (try simp only [hc, ↓R1, R2, R3, R4, R5, Nat.reduceEqDiff, Nat.reduceAdd, Nat.reduceMul, Nat.reduceSub, Nat.reduceLeDiff, Nat.reduceLT, reduceIte, reduceCtorEq, Int.reduceBNe, Int.reduceBEq, q1, q2, q3, q4, q5, hw, hd, hd2])) | ((first | refine condV_split (fun hc => ?_) (fun hc => ?_) | (with_reducible intro β hβ; (try simp only [St.box_noneA, St.tip_noneA, St.tip_set, St.box_tip, St.box_lp, St.tip_lp] at hβ); (repeat (obtain ⟨⟨_, _⟩, hβ⟩ := hβ)); (try (have hbis := apart_is (by assumption) hβ; obtain ⟨_, _⟩ := hbis)))) <;> (try simp only [↓R1, R2, R3, R4, R5, Nat.reduceEqDiff, Nat.reduceAdd, Nat.reduceMul, Nat.reduceSub, Nat.reduceLeDiff, Nat.reduceLT, reduceIte, reduceCtorEq, Int.reduceBNe, Int.reduceBEq, q1, q2, q3, q4, q5, hw, hd, hd2])) | (with_reducible refine And.intro ?_ ?_; (focus (first | omega | (intros; (repeat' (with_reducible apply And.intro)) <;> first | omega | (simp only [List.length_map]; omega))))) | (with_reducible apply And.intro))
      all_goals first | (rw [hd2]; omega) | skip
      refine endP_pu (by simp) (by first | (simp [rvsS, rvS]; done) | (simp only [rvsS, rvS, ↓R1, R2, R3, R4, R5, Nat.reduceEqDiff, Nat.reduceAdd, Nat.reduceMul, Nat.reduceSub, Nat.reduceLeDiff, Nat.reduceLT, reduceIte, reduceCtorEq, Int.reduceBNe, Int.reduceBEq, q1, q2, q3, q4, q5, hw, hd, hd2]; try simp)) (wk_of_eq ?_) (St.le_setBox (hle τ out hτ) (by rw [bS_none] at hβ; rw [hX] at hβ; exact hβ.2))
      (simp only [resAV, rvV, List.map_cons, List.map_nil, ↓R1, R2, R3, R4, R5, Nat.reduceEqDiff, Nat.reduceAdd, Nat.reduceMul, Nat.reduceSub, Nat.reduceLeDiff, Nat.reduceLT, reduceIte, reduceCtorEq, Int.reduceBNe, Int.reduceBEq, q1, q2, q3, q4, q5, hw, hd, hd2])
      rfl
    · have q2 : ((l[k].ws.length : Int) == 0) = false := by
        rw [← Bool.not_eq_true, beq_iff_eq]; omega
      simp only [q1, ↓R1, R2, R3, R4, R5, Nat.reduceEqDiff, Nat.reduceAdd, Nat.reduceMul, Nat.reduceSub, Nat.reduceLeDiff, Nat.reduceLT, reduceIte, reduceCtorEq, Int.reduceBNe, Int.reduceBEq, q1, q2, q3, q4, q5, hw, hd, hd2]
      repeat' (first | (with_reducible rw [allocV_eq]) | (refine gdV_split (fun hc => ?_) (fun hc => ?_) <;> (try simp only [hc, ↓R1, R2, R3, R4, R5, Nat.reduceEqDiff, Nat.reduceAdd, Nat.reduceMul, Nat.reduceSub, Nat.reduceLeDiff, Nat.reduceLT, reduceIte, reduceCtorEq, Int.reduceBNe, Int.reduceBEq, q1, q2, q3, q4, q5, hw, hd, hd2])) | ((first | refine condV_split (fun hc => ?_) (fun hc => ?_) | (with_reducible intro β hβ; (try simp only [St.box_noneA, St.tip_noneA, St.tip_set, St.box_tip, St.box_lp, St.tip_lp] at hβ); (repeat (obtain ⟨⟨_, _⟩, hβ⟩ := hβ)); (try (have hbis := apart_is (by assumption) hβ; obtain ⟨_, _⟩ := hbis)))) <;> (try simp only [↓R1, R2, R3, R4, R5, Nat.reduceEqDiff, Nat.reduceAdd, Nat.reduceMul, Nat.reduceSub, Nat.reduceLeDiff, Nat.reduceLT, reduceIte, reduceCtorEq, Int.reduceBNe, Int.reduceBEq, q1, q2, q3, q4, q5, hw, hd, hd2])) | (with_reducible refine And.intro ?_ ?_; (focus (first | omega | (intros; (repeat' (with_reducible apply And.intro)) <;> first | omega | (simp only [List.length_map]; omega))))) | (with_reducible apply And.intro))
      all_goals first | (rw [hd2]; omega) | skip
      obtain ⟨ws, hws⟩ : ∃ ws, l[k].ws = ws := ⟨_, rfl⟩
      rw [hws] at hwn hwt h0 ⊢
      have hd : True := trivial
      have hd2 : True := trivial
      refine loopV_st (α := Nat × Nat × List (List UInt8)) (fun z => [(4, .ptr γ 0), (7, sV z.2.1 z.2.2), (13, .sl false l.length (l.flatMap cRI)), (14, .int .i64 (l.length : Nat)), (15, .int .i64 (k : Nat)), (24, .sl false ws.length (ws.flatMap cWI)), (25, .int .i64 (ws.length : Nat)), (26, .int .i64 (z.1 : Nat))])
        (fun z => sT (bS X γ τ out) z.2.1 z.2.2) (fun z => z.1 ≤ ws.length ∧ (z.2.2 ≠ [] → (bS X γ τ out).tip z.2.1 = none) ∧ wordsT (ws.take z.1) = some z.2.2 ∧ z.2.2.length = z.1) (fun z => ws.length - z.1) (0, 0, [])
        (by simp [subF, slot, wk_refl, sV]) (St.le_setBox (St.le_setBox (St.le_refl _) hβ) hβ) ⟨Nat.zero_le _, (fun h => absurd rfl h), rfl, rfl⟩ ?_
      rintro ⟨i, τ1, acc⟩ ⟨hi, hτ1, hacc, hal⟩
      simp only at hi hτ1 hacc hal
      by_cases hin : i < ws.length
      · have q3 : decide ((i : Int) < (ws.length : Int)) = true := by rw [decide_eq_true_eq]; omega
        have hd := cWI_get ws hin
        have hd2 := cWI_len ws
        have hw : IntKind.i64.wrap ((i : Int) + 1) = ((i + 1 : Nat) : Int) := by rw [wrap64 (by omega) (by omega)]; omega
        have hp := p15 ws[i].q ws[i].t ws[i].a (by have := hwt ws[i] (List.getElem_mem hin); omega)
        simp only [cWI] at hd
        simp only [q3, ↓R1, R2, R3, R4, R5, Nat.reduceEqDiff, Nat.reduceAdd, Nat.reduceMul, Nat.reduceSub, Nat.reduceLeDiff, Nat.reduceLT, reduceIte, reduceCtorEq, Int.reduceBNe, Int.reduceBEq, q1, q2, q3, q4, q5, hw, hd, hd2]
        cases hwd : wordT ws[i].q ws[i].t with
        | none =>
          rw [hwd] at hp
          have hbad := wordsT_bad ws i hin hwd
          rw [textG_form hlt (by rw [hws]; exact h0) (by rw [hws]; exact hbad)] at hI
          rw [hI]
          simp only [wordV] at hp
          repeat' (first | (with_reducible rw [allocV_eq]) | (refine gdV_split (fun hc => ?_) (fun hc => ?_) <;> (try simp only [hc, ↓R1, R2, R3, R4, R5, Nat.reduceEqDiff, Nat.reduceAdd, Nat.reduceMul, Nat.reduceSub, Nat.reduceLeDiff, Nat.reduceLT, reduceIte, reduceCtorEq, Int.reduceBNe, Int.reduceBEq, q1, q2, q3, q4, q5, hw, hd, hd2])) | ((first | refine condV_split (fun hc => ?_) (fun hc => ?_) | (with_reducible intro β hβ; (try simp only [St.box_noneA, St.tip_noneA, St.tip_set, St.box_tip, St.box_lp, St.tip_lp] at hβ); (repeat (obtain ⟨⟨_, _⟩, hβ⟩ := hβ)); (try (have hbis := apart_is (by assumption) hβ; obtain ⟨_, _⟩ := hbis)))) <;> (try simp only [↓R1, R2, R3, R4, R5, Nat.reduceEqDiff, Nat.reduceAdd, Nat.reduceMul, Nat.reduceSub, Nat.reduceLeDiff, Nat.reduceLT, reduceIte, reduceCtorEq, Int.reduceBNe, Int.reduceBEq, q1, q2, q3, q4, q5, hw, hd, hd2])) | (with_reducible refine And.intro ?_ ?_; (focus (first | omega | (intros; (repeat' (with_reducible apply And.intro)) <;> first | omega | (simp only [List.length_map]; omega))))) | (with_reducible apply And.intro) | ((first | refine Pu.to (hp) (wkL_refl _) ?_ | refine callDV_pu (hp) (wkL_refl _) ?_); (try simp only [↓R1, R2, R3, R4, R5, Nat.reduceEqDiff, Nat.reduceAdd, Nat.reduceMul, Nat.reduceSub, Nat.reduceLeDiff, Nat.reduceLT, reduceIte, reduceCtorEq, Int.reduceBNe, Int.reduceBEq, q1, q2, q3, q4, q5, hw, hd, hd2])))
          all_goals first | (rw [hd2]; omega) | skip
          rw [sT_box, bS_none, hX] at hβ
          refine endP_pu (by simp) (by first | (simp [rvsS, rvS]; done) | (simp only [rvsS, rvS, ↓R1, R2, R3, R4, R5, Nat.reduceEqDiff, Nat.reduceAdd, Nat.reduceMul, Nat.reduceSub, Nat.reduceLeDiff, Nat.reduceLT, reduceIte, reduceCtorEq, Int.reduceBNe, Int.reduceBEq, q1, q2, q3, q4, q5, hw, hd, hd2]; try simp)) (wk_of_eq ?_) (St.le_setBox (sT_le (hle τ out hτ) (fun h => by have := bS_tip_none (hτ1 h); rwa [hXt] at this)) hβ.2)
          (simp only [resAV, rvV, List.map_cons, List.map_nil, ↓R1, R2, R3, R4, R5, Nat.reduceEqDiff, Nat.reduceAdd, Nat.reduceMul, Nat.reduceSub, Nat.reduceLeDiff, Nat.reduceLT, reduceIte, reduceCtorEq, Int.reduceBNe, Int.reduceBEq, q1, q2, q3, q4, q5, hw, hd, hd2])
          rfl
        | some x =>
          rw [hwd] at hp
          have hnx := wordsT_take hin hacc hwd
          simp only [wordV] at hp
          repeat' (first | (with_reducible rw [allocV_eq]) | (refine gdV_split (fun hc => ?_) (fun hc => ?_) <;> (try simp only [hc, ↓R1, R2, R3, R4, R5, Nat.reduceEqDiff, Nat.reduceAdd, Nat.reduceMul, Nat.reduceSub, Nat.reduceLeDiff, Nat.reduceLT, reduceIte, reduceCtorEq, Int.reduceBNe, Int.reduceBEq, q1, q2, q3, q4, q5, hw, hd, hd2])) | ((first | refine condV_split (fun hc => ?_) (fun hc => ?_) | (with_reducible intro β hβ; (try simp only [St.box_noneA, St.tip_noneA, St.tip_set, St.box_tip, St.box_lp, St.tip_lp] at hβ); (repeat (obtain ⟨⟨_, _⟩, hβ⟩ := hβ)); (try (have hbis := apart_is (by assumption) hβ; obtain ⟨_, _⟩ := hbis)))) <;> (try simp only [↓R1, R2, R3, R4, R5, Nat.reduceEqDiff, Nat.reduceAdd, Nat.reduceMul, Nat.reduceSub, Nat.reduceLeDiff, Nat.reduceLT, reduceIte, reduceCtorEq, Int.reduceBNe, Int.reduceBEq, q1, q2, q3, q4, q5, hw, hd, hd2])) | (with_reducible refine And.intro ?_ ?_; (focus (first | omega | (intros; (repeat' (with_reducible apply And.intro)) <;> first | omega | (simp only [List.length_map]; omega))))) | (with_reducible apply And.intro) | ((first | refine Pu.to (hp) (wkL_refl _) ?_ | refine callDV_pu (hp) (wkL_refl _) ?_); (try simp only [↓R1, R2, R3, R4, R5, Nat.reduceEqDiff, Nat.reduceAdd, Nat.reduceMul, Nat.reduceSub, Nat.reduceLeDiff, Nat.reduceLT, reduceIte, reduceCtorEq, Int.reduceBNe, Int.reduceBEq, q1, q2, q3, q4, q5, hw, hd, hd2])))
          all_goals first | (rw [hd2]; omega) | skip
          rw [sT_box] at hβ
          rw [sT_set, sT_set]
          refine sV_app (P := Tryd.prog) (by omega) hτ1 (fun τ' hτ' => ?_)
          simp only [↓R1, R2, R3, R4, R5, Nat.reduceEqDiff, Nat.reduceAdd, Nat.reduceMul, Nat.reduceSub, Nat.reduceLeDiff, Nat.reduceLT, reduceIte, reduceCtorEq, Int.reduceBNe, Int.reduceBEq, q1, q2, q3, q4, q5, hw, hd, hd2]
          repeat' (first | (with_reducible rw [allocV_eq]) | (refine gdV_split (fun hc => ?_) (fun hc => ?_) <;> (try simp only [hc, ↓R1, R2, R3, R4, R5, Nat.reduceEqDiff, Nat.reduceAdd, Nat.reduceMul, Nat.reduceSub, Nat.reduceLeDiff, Nat.reduceLT, reduceIte, reduceCtorEq, Int.reduceBNe, Int.reduceBEq, q1, q2, q3, q4, q5, hw, hd, hd2])) | ((first | refine condV_split (fun hc => ?_) (fun hc => ?_) | (with_reducible intro β hβ; (try simp only [St.box_noneA, St.tip_noneA, St.tip_set, St.box_tip, St.box_lp, St.tip_lp] at hβ); (repeat (obtain ⟨⟨_, _⟩, hβ⟩ := hβ)); (try (have hbis := apart_is (by assumption) hβ; obtain ⟨_, _⟩ := hbis)))) <;> (try simp only [↓R1, R2, R3, R4, R5, Nat.reduceEqDiff, Nat.reduceAdd, Nat.reduceMul, Nat.reduceSub, Nat.reduceLeDiff, Nat.reduceLT, reduceIte, reduceCtorEq, Int.reduceBNe, Int.reduceBEq, q1, q2, q3, q4, q5, hw, hd, hd2])) | (with_reducible refine And.intro ?_ ?_; (focus (first | omega | (intros; (repeat' (with_reducible apply And.intro)) <;> first | omega | (simp only [List.length_map]; omega))))) | (with_reducible apply And.intro))
          refine ⟨(i + 1, τ', acc ++ [x]), ⟨hin, fun _ => hτ', hnx, by simp [hal]⟩, by simp [subF, slot, wk_refl], sT_le2 (St.le_setBox (St.le_refl _) hβ) _ _, by simp only; omega⟩
      · have hie : i = ws.length := by omega
        subst hie
        have q3 : decide ((ws.length : Int) < (ws.length : Int)) = false := by simp
        rw [List.take_length] at hacc
        obtain ⟨ha1, ha2⟩ := wordsT_len ws hacc
        have hjl := join_bnd 80002 acc (fun x hx => by have := ha2 20000 hwt x hx; omega)
        have hjl2 : (Lib.join acc [32]).length ≤ 80003000 := by
          have : 80003 * acc.length ≤ 80003 * 1000 := Nat.mul_le_mul_left _ (by omega)
          omega
        rw [textG_step hlt (by rw [hws]; exact h0) (by rw [hws]; exact hacc)] at hI
        have hj := joins (sV τ1 acc) acc [32] (sT (bS X γ τ out) τ1 acc) (sV_slv τ1 acc) (by omega) (by omega)
        obtain ⟨line, hline⟩ : ∃ line, Lib.join acc [32] = line := ⟨_, rfl⟩
        rw [hline] at hj hI hjl2
        have hwr := (a_WriteString γ (line ++ [10]) (by simp) X τ out hτX hXb (by simp; omega)).le (sT_le (St.le_refl _) hτ1)
        simp only [q3, ↓R1, R2, R3, R4, R5, Nat.reduceEqDiff, Nat.reduceAdd, Nat.reduceMul, Nat.reduceSub, Nat.reduceLeDiff, Nat.reduceLT, reduceIte, reduceCtorEq, Int.reduceBNe, Int.reduceBEq, q1, q2, q3, q4, q5, hw, hd, hd2]
        repeat' (first | (with_reducible rw [allocV_eq]) | (refine gdV_split (fun hc => ?_) (fun hc => ?_) <;> (try simp only [hc, ↓R1, R2, R3, R4, R5, Nat.reduceEqDiff, Nat.reduceAdd, Nat.reduceMul, Nat.reduceSub, Nat.reduceLeDiff, Nat.reduceLT, reduceIte, reduceCtorEq, Int.reduceBNe, Int.reduceBEq, q1, q2, q3, q4, q5, hw, hd, hd2])) | ((first | refine condV_split (fun hc => ?_) (fun hc => ?_) | (with_reducible intro β hβ; (try simp only [St.box_noneA, St.tip_noneA, St.tip_set, St.box_tip, St.box_lp, St.tip_lp] at hβ); (repeat (obtain ⟨⟨_, _⟩, hβ⟩ := hβ)); (try (have hbis := apart_is (by assumption) hβ; obtain ⟨_, _⟩ := hbis)))) <;> (try simp only [↓R1, R2, R3, R4, R5, Nat.reduceEqDiff, Nat.reduceAdd, Nat.reduceMul, Nat.reduceSub, Nat.reduceLeDiff, Nat.reduceLT, reduceIte, reduceCtorEq, Int.reduceBNe, Int.reduceBEq, q1, q2, q3, q4, q5, hw, hd, hd2])) | (with_reducible refine And.intro ?_ ?_; (focus (first | omega | (intros; (repeat' (with_reducible apply And.intro)) <;> first | omega | (simp only [List.length_map]; omega))))) | (with_reducible apply And.intro) | ((first | (refine AC.mono (AC.wk (hj) (wkL_refl _)) ?_; (rintro _ _ ⟨rfl, rfl⟩))); (try simp only [↓R1, R2, R3, R4, R5, Nat.reduceEqDiff, Nat.reduceAdd, Nat.reduceMul, Nat.reduceSub, Nat.reduceLeDiff, Nat.reduceLT, reduceIte, reduceCtorEq, Int.reduceBNe, Int.reduceBEq, q1, q2, q3, q4, q5, hw, hd, hd2])))
        all_goals first | omega | (simp only [List.length_append, List.length_cons, List.length_nil]; omega) | skip
        refine (AC.wk hwr (wkL_refl _)).mono ?_
        rintro _ _ ⟨rfl, τ', hτ', _, rfl⟩
        have hln := a_Len X γ τ' (out ++ (line ++ [10]))
        have hτ'σ : σ.tip τ' = none := by rw [← hXt]; exact hτ'
        simp only [↓R1, R2, R3, R4, R5, Nat.reduceEqDiff, Nat.reduceAdd, Nat.reduceMul, Nat.reduceSub, Nat.reduceLeDiff, Nat.reduceLT, reduceIte, reduceCtorEq, Int.reduceBNe, Int.reduceBEq, q1, q2, q3, q4, q5, hw, hd, hd2]
        by_cases hL : 1000 < line.length
        · have q4 : decide ((1000 : Int) < (line.length : Int)) = true := by rw [decide_eq_true_eq]; omega
          rw [if_pos (.inl hL)] at hI
          rw [hI]
          simp only [q4, ↓R1, R2, R3, R4, R5, Nat.reduceEqDiff, Nat.reduceAdd, Nat.reduceMul, Nat.reduceSub, Nat.reduceLeDiff, Nat.reduceLT, reduceIte, reduceCtorEq, Int.reduceBNe, Int.reduceBEq, q1, q2, q3, q4, q5, hw, hd, hd2]
          repeat' (first | (with_reducible rw [allocV_eq]) | (refine gdV_split (fun hc => ?_) (fun hc => ?_) <;> (try simp only [hc, ↓R1, R2, R3, R4, R5, Nat.reduceEqDiff, Nat.reduceAdd, Nat.reduceMul, Nat.reduceSub, Nat.reduceLeDiff, Nat.reduceLT, reduceIte, reduceCtorEq, Int.reduceBNe, Int.reduceBEq, q1, q2, q3, q4, q5, hw, hd, hd2])) | ((first | refine condV_split (fun hc => ?_) (fun hc => ?_) | (with_reducible intro β hβ; (try simp only [St.box_noneA, St.tip_noneA, St.tip_set, St.box_tip, St.box_lp, St.tip_lp] at hβ); (repeat (obtain ⟨⟨_, _⟩, hβ⟩ := hβ)); (try (have hbis := apart_is (by assumption) hβ; obtain ⟨_, _⟩ := hbis)))) <;> (try simp only [↓R1, R2, R3, R4, R5, Nat.reduceEqDiff, Nat.reduceAdd, Nat.reduceMul, Nat.reduceSub, Nat.reduceLeDiff, Nat.reduceLT, reduceIte, reduceCtorEq, Int.reduceBNe, Int.reduceBEq, q1, q2, q3, q4, q5, hw, hd, hd2])) | (with_reducible refine And.intro ?_ ?_; (focus (first | omega | (intros; (repeat' (with_reducible apply And.intro)) <;> first | omega | (simp only [List.length_map]; omega))))) | (with_reducible apply And.intro))
          all_goals (try (first | omega | (rename_i hno; cases hno; done)))
          refine endP_pu (by simp) (by first | (simp [rvsS, rvS]; done) | (simp only [rvsS, rvS, ↓R1, R2, R3, R4, R5, Nat.reduceEqDiff, Nat.reduceAdd, Nat.reduceMul, Nat.reduceSub, Nat.reduceLeDiff, Nat.reduceLT, reduceIte, reduceCtorEq, Int.reduceBNe, Int.reduceBEq, q1, q2, q3, q4, q5, hw, hd, hd2]; try simp)) (wk_of_eq ?_) (hle τ' _ (fun _ => hτ'σ))
          (simp only [resAV, rvV, List.map_cons, List.map_nil, ↓R1, R2, R3, R4, R5, Nat.reduceEqDiff, Nat.reduceAdd, Nat.reduceMul, Nat.reduceSub, Nat.reduceLeDiff, Nat.reduceLT, reduceIte, reduceCtorEq, Int.reduceBNe, Int.reduceBEq, q1, q2, q3, q4, q5, hw, hd, hd2])
          rfl
        · have q4 : decide ((1000 : Int) < (line.length : Int)) = false := by rw [decide_eq_false_iff_not]; omega
          by_cases hO : 20000 < (out ++ (line ++ [10])).length
          · have q5 : decide ((20000 : Int) < ((out ++ (line ++ [10])).length : Int)) = true := by rw [decide_eq_true_eq]; omega
            rw [if_pos (.inr hO)] at hI
            rw [hI]
            simp only [q4, ↓R1, R2, R3, R4, R5, Nat.reduceEqDiff, Nat.reduceAdd, Nat.reduceMul, Nat.reduceSub, Nat.reduceLeDiff, Nat.reduceLT, reduceIte, reduceCtorEq, Int.reduceBNe, Int.reduceBEq, q1, q2, q3, q4, q5, hw, hd, hd2]
            repeat' (first | (with_reducible rw [allocV_eq]) | (refine gdV_split (fun hc => ?_) (fun hc => ?_) <;> (try simp only [hc, ↓R1, R2, R3, R4, R5, Nat.reduceEqDiff, Nat.reduceAdd, Nat.reduceMul, Nat.reduceSub, Nat.reduceLeDiff, Nat.reduceLT, reduceIte, reduceCtorEq, Int.reduceBNe, Int.reduceBEq, q1, q2, q3, q4, q5, hw, hd, hd2])) | ((first | refine condV_split (fun hc => ?_) (fun hc => ?_) | (with_reducible intro β hβ; (try simp only [St.box_noneA, St.tip_noneA, St.tip_set, St.box_tip, St.box_lp, St.tip_lp] at hβ); (repeat (obtain ⟨⟨_, _⟩, hβ⟩ := hβ)); (try (have hbis := apart_is (by assumption) hβ; obtain ⟨_, _⟩ := hbis)))) <;> (try simp only [↓R1, R2, R3, R4, R5, Nat.reduceEqDiff, Nat.reduceAdd, Nat.reduceMul, Nat.reduceSub, Nat.reduceLeDiff, Nat.reduceLT, reduceIte, reduceCtorEq, Int.reduceBNe, Int.reduceBEq, q1, q2, q3, q4, q5, hw, hd, hd2])) | (with_reducible refine And.intro ?_ ?_; (focus (first | omega | (intros; (repeat' (with_reducible apply And.intro)) <;> first | omega | (simp only [List.length_map]; omega))))) | (with_reducible apply And.intro) | ((first | (refine AC.mono (AC.wk (hln) (wkL_refl _)) ?_; (rintro _ _ ⟨rfl, rfl⟩))); (try simp only [↓R1, R2, R3, R4, R5, Nat.reduceEqDiff, Nat.reduceAdd, Nat.reduceMul, Nat.reduceSub, Nat.reduceLeDiff, Nat.reduceLT, reduceIte, reduceCtorEq, Int.reduceBNe, Int.reduceBEq, q1, q2, q3, q4, q5, hw, hd, hd2])))
            refine endP_pu (by simp) (by first | (simp [rvsS, rvS]; done) | (simp only [rvsS, rvS, ↓R1, R2, R3, R4, R5, Nat.reduceEqDiff, Nat.reduceAdd, Nat.reduceMul, Nat.reduceSub, Nat.reduceLeDiff, Nat.reduceLT, reduceIte, reduceCtorEq, Int.reduceBNe, Int.reduceBEq, q1, q2, q3, q4, q5, hw, hd, hd2]; try simp)) (wk_of_eq ?_) (hle τ' _ (fun _ => hτ'σ))
            (simp only [resAV, rvV, List.map_cons, List.map_nil, ↓R1, R2, R3, R4, R5, Nat.reduceEqDiff, Nat.reduceAdd, Nat.reduceMul, Nat.reduceSub, Nat.reduceLeDiff, Nat.reduceLT, reduceIte, reduceCtorEq, Int.reduceBNe, Int.reduceBEq, q1, q2, q3, q4, q5, hw, hd, hd2])
            rfl
          · have q5 : decide ((20000 : Int) < ((out ++ (line ++ [10])).length : Int)) = false := by rw [decide_eq_false_iff_not]; omega
            rw [if_neg (by omega)] at hI
            simp only [q4, ↓R1, R2, R3, R4, R5, Nat.reduceEqDiff, Nat.reduceAdd, Nat.reduceMul, Nat.reduceSub, Nat.reduceLeDiff, Nat.reduceLT, reduceIte, reduceCtorEq, Int.reduceBNe, Int.reduceBEq, q1, q2, q3, q4, q5, hw, hd, hd2]
            repeat' (first | (with_reducible rw [allocV_eq]) | (refine gdV_split (fun hc => ?_) (fun hc => ?_) <;> (try simp only [hc, ↓R1, R2, R3, R4, R5, Nat.reduceEqDiff, Nat.reduceAdd, Nat.reduceMul, Nat.reduceSub, Nat.reduceLeDiff, Nat.reduceLT, reduceIte, reduceCtorEq, Int.reduceBNe, Int.reduceBEq, q1, q2, q3, q4, q5, hw, hd, hd2])) | ((first | refine condV_split (fun hc => ?_) (fun hc => ?_) | (with_reducible intro β hβ; (try simp only [St.box_noneA, St.tip_noneA, St.tip_set, St.box_tip, St.box_lp, St.tip_lp] at hβ); (repeat (obtain ⟨⟨_, _⟩, hβ⟩ := hβ)); (try (have hbis := apart_is (by assumption) hβ; obtain ⟨_, _⟩ := hbis)))) <;> (try simp only [↓R1, R2, R3, R4, R5, Nat.reduceEqDiff, Nat.reduceAdd, Nat.reduceMul, Nat.reduceSub, Nat.reduceLeDiff, Nat.reduceLT, reduceIte, reduceCtorEq, Int.reduceBNe, Int.reduceBEq, q1, q2, q3, q4, q5, hw, hd, hd2])) | (with_reducible refine And.intro ?_ ?_; (focus (first | omega | (intros; (repeat' (with_reducible apply And.intro)) <;> first | omega | (simp only [List.length_map]; omega))))) | (with_reducible apply And.intro) | ((first | (refine AC.mono (AC.wk (hln) (wkL_refl _)) ?_; (rintro _ _ ⟨rfl, rfl⟩))); (try simp only [↓R1, R2, R3, R4, R5, Nat.reduceEqDiff, Nat.reduceAdd, Nat.reduceMul, Nat.reduceSub, Nat.reduceLeDiff, Nat.reduceLT, reduceIte, reduceCtorEq, Int.reduceBNe, Int.reduceBEq, q1, q2, q3, q4, q5, hw, hd, hd2])))
            exact ⟨(k + 1, τ', out ++ (line ++ [10])), ⟨hlt, fun _ => hτ'σ, by simp only; omega, hI⟩, by simp [subF, slot, wk_refl], St.le_refl _, by simp only; omega⟩
  · have hke : k = l.length := by omega
    subst hke
    have q1 : decide ((l.length : Int) < (l.length : Int)) = false := by simp
    rw [List.drop_length] at hI
    have ws := a_String (β := γ) (τ := τ) (l := out) (σ := X) (by rw [hXt]; exact hτ) hXb
    simp only [q1, ↓R1, R2, R3, R4, R5, Nat.reduceEqDiff, Nat.reduceAdd, Nat.reduceMul, Nat.reduceSub, Nat.reduceLeDiff, Nat.reduceLT, reduceIte, reduceCtorEq, Int.reduceBNe, Int.reduceBEq, q1, q2, q3, q4, q5, hw, hd, hd2]
    repeat' (first | (with_reducible rw [allocV_eq]) | (refine gdV_split (fun hc => ?_) (fun hc => ?_) <;> (try simp only [hc, ↓R1, R2, R3, R4, R5, Nat.reduceEqDiff, Nat.reduceAdd, Nat.reduceMul, Nat.reduceSub, Nat.reduceLeDiff, Nat.reduceLT, reduceIte, reduceCtorEq, Int.reduceBNe, Int.reduceBEq, q1, q2, q3, q4, q5, hw, hd, hd2])) | ((first | refine condV_split (fun hc => ?_) (fun hc => ?_) | (with_reducible intro β hβ; (try simp only [St.box_noneA, St.tip_noneA, St.tip_set, St.box_tip, St.box_lp, St.tip_lp] at hβ); (repeat (obtain ⟨⟨_, _⟩, hβ⟩ := hβ)); (try (have hbis := apart_is (by assumption) hβ; obtain ⟨_, _⟩ := hbis)))) <;> (try simp only [↓R1, R2, R3, R4, R5, Nat.reduceEqDiff, Nat.reduceAdd, Nat.reduceMul, Nat.reduceSub, Nat.reduceLeDiff, Nat.reduceLT, reduceIte, reduceCtorEq, Int.reduceBNe, Int.reduceBEq, q1, q2, q3, q4, q5, hw, hd, hd2])) | (with_reducible refine And.intro ?_ ?_; (focus (first | omega | (intros; (repeat' (with_reducible apply And.intro)) <;> first | omega | (simp only [List.length_map]; omega))))) | (with_reducible apply And.intro) | ((first | (refine AC.mono (AC.wk (ws) (wkL_refl _)) ?_; (rintro _ _ ⟨rfl, rfl⟩))); (try simp only [↓R1, R2, R3, R4, R5, Nat.reduceEqDiff, Nat.reduceAdd, Nat.reduceMul, Nat.reduceSub, Nat.reduceLeDiff, Nat.reduceLT, reduceIte, reduceCtorEq, Int.reduceBNe, Int.reduceBEq, q1, q2, q3, q4, q5, hw, hd, hd2])))
    rw [hI]
    refine endP_pu (by simp) (by first | (simp [rvsS, rvS]; done) | (simp only [rvsS, rvS, ↓R1, R2, R3, R4, R5, Nat.reduceEqDiff, Nat.reduceAdd, Nat.reduceMul, Nat.reduceSub, Nat.reduceLeDiff, Nat.reduceLT, reduceIte, reduceCtorEq, Int.reduceBNe, Int.reduceBEq, q1, q2, q3, q4, q5, hw, hd, hd2]; try simp)) (wk_of_eq ?_) (hXl _)
    (simp only [resAV, rvV, List.map_cons, List.map_nil, ↓R1, R2, R3, R4, R5, Nat.reduceEqDiff, Nat.reduceAdd, Nat.reduceMul, Nat.reduceSub, Nat.reduceLeDiff, Nat.reduceLT, reduceIte, reduceCtorEq, Int.reduceBNe, Int.reduceBEq, q1, q2, q3, q4, q5, hw, hd, hd2])
    rfl
end Go.Proofs.YtemddijemikleaaDoor
namespace Go.Proofs.YtemddijemikleaaDoor
open Go.Abs
set_option linter.all false
set_option maxRecDepth 100000
theorem join_snoc (l : List (List UInt8)) (x : List UInt8) (h : l ≠ []) : Lib.join (l ++ [x]) [32] = Lib.join l [32] ++ [32] ++ x := by
  cases l with
  | nil => exact (h rfl).elim
  | cons y l =>
    rw [List.cons_append, Lib.join_cons, Lib.join_cons]
    simp [Lib.joinTail]
/-- What the reference has of a row: the words so far, or too much. -/
def RowIs (row : List UInt8) (acc : List (List UInt8)) : Prop := row = Lib.join acc [32] ∨ 1000 < row.length ∧ 1000 < (Lib.join acc [32]).length
theorem RowIs.next {row x : List UInt8} {acc : List (List UInt8)} (h : RowIs row acc) (hr : row.length ≤ 1000) : RowIs ((if acc = [] then row else row ++ [32]) ++ x) (acc ++ [x]) := by
  have he : row = Lib.join acc [32] := h.elim id (fun h => by omega)
  left
  split
  · rename_i ha; subst ha; rw [he]; simp [Lib.join_nil, Lib.join_one]
  · rename_i ha; rw [join_snoc acc x ha, he]
theorem RowIs.over {row x y : List UInt8} {acc : List (List UInt8)} (h : RowIs row acc) (hr : 1000 < row.length) : RowIs ((if acc = [] then row else row ++ [32]) ++ y) (acc ++ [x]) := by
  have hj : 1000 < (Lib.join acc [32]).length := h.elim (fun e => by rw [← e]; exact hr) And.right
  have ha : acc ≠ [] := by rintro rfl; simp [Lib.join_nil] at hj
  right
  rw [if_neg ha, join_snoc acc x ha]
  simp only [List.length_append]
  omega
end Go.Proofs.YtemddijemikleaaDoor
namespace Go.Proofs.YtemddijemikleaaDoor
open Go.Abs
set_option linter.all false
set_option maxRecDepth 100000
set_option maxHeartbeats 2000000 in
theorem p14 (l : List RI) (hl : LightR l) : Pu Tryd.prog 14 [.sl false l.length (l.flatMap cRI), .sl false l.length (l.flatMap cRI)] (.bool true) := by
  have q1 : True := trivial
  have q2 : True := trivial
  have q3 : True := trivial
  have q4 : True := trivial
  have q5 : True := trivial
  have q6 : True := trivial
  have hw : True := trivial
  have hw2 : True := trivial
  have hd : True := trivial
  have hd2 : True := trivial
  have hd3 : True := trivial
  have hd4 : True := trivial
  obtain ⟨hl1, hl2⟩ := hl
  (refine Pu_intro c14 b14 (Nat.le_of_ble_eq_true rfl) fun σ => ?_; simp only [c14, ↓R1, R2, R3, R4, R5, Nat.reduceEqDiff, Nat.reduceAdd, Nat.reduceMul, Nat.reduceSub, Nat.reduceLeDiff, Nat.reduceLT, reduceIte, reduceCtorEq, Int.reduceBNe, Int.reduceBEq, q1, q2, q3, q4, q5, q6, hw, hw2, hd, hd2, hd3, hd4, beq_self_eq_true, bne_self_eq_false])
  refine loopV_for l.length (fun k => [(0, .sl false l.length (l.flatMap cRI)), (1, .sl false l.length (l.flatMap cRI)), (5, .int .i64 (k : Nat))]) (fun _ => σ) (fun _ => True) (by simp [subF, slot, wk_refl]) (St.le_refl _) trivial (fun k hk _ => ?_)
  by_cases hlt : k < l.length
  · have q1 : decide ((k : Int) < (l.length : Int)) = true := by rw [decide_eq_true_eq]; omega
    have hd := cRI_get l hlt
    have hd2 := cRI_len l
    have hw : IntKind.i64.wrap ((k : Int) + 1) = ((k + 1 : Nat) : Int) := by rw [wrap64 (by omega) (by omega)]; omega
    obtain ⟨hwn, hwt⟩ := hl2 l[k] (List.getElem_mem hlt)
    have hwl := cWI_len l[k].ws
    simp only [cRI] at hd
    simp only [q1, ↓R1, R2, R3, R4, R5, Nat.reduceEqDiff, Nat.reduceAdd, Nat.reduceMul, Nat.reduceSub, Nat.reduceLeDiff, Nat.reduceLT, reduceIte, reduceCtorEq, Int.reduceBNe, Int.reduceBEq, q1, q2, q3, q4, q5, q6, hw, hw2, hd, hd2, hd3, hd4, beq_self_eq_true, bne_self_eq_false]
    repeat' (first | (with_reducible rw [allocV_eq]) | (refine gdV_split (fun hc => ?_) (fun hc => ?_) <;> (try simp only [hc, ↓R1, R2, R3, R4, R5, Nat.reduceEqDiff, Nat.reduceAdd, Nat.reduceMul, Nat.reduceSub, Nat.reduceLeDiff, Nat.reduceLT, reduceIte, reduceCtorEq, Int.reduceBNe, Int.reduceBEq, q1, q2, q3, q4, q5, q6, hw, hw2, hd, hd2, hd3, hd4, beq_self_eq_true, bne_self_eq_false])) | ((first | refine condV_split (fun hc => ?_) (fun hc => ?_) | (with_reducible intro β hβ; (try simp only [St.box_noneA, St.tip_noneA, St.tip_set, St.box_tip, St.box_lp, St.tip_lp] at hβ); (repeat (obtain ⟨⟨_, _⟩, hβ⟩ := hβ)); (try (have hbis := apart_is (by assumption) hβ; obtain ⟨_, _⟩ := hbis))) | ((first | (refine appD_tslK (.inr rfl) rfl ?_ ?_ ?_ ?_ ?_ ?_; (first | rfl | exact St.tip_same _ _ _ | (simp only [↓R1, R2, R3, R4, R5, Nat.reduceEqDiff, Nat.reduceAdd, Nat.reduceMul, Nat.reduceSub, Nat.reduceLeDiff, Nat.reduceLT, reduceIte, reduceCtorEq, Int.reduceBNe, Int.reduceBEq, q1, q2, q3, q4, q5, q6, hw, hw2, hd, hd2, hd3, hd4, beq_self_eq_true, bne_self_eq_false])); (first | omega | (simp only [cWI_len, cRI_len, List.length_append, List.length_cons, List.length_nil, List.length_nil, List.length_cons]; omega) | (simp only [cWI_len, cRI_len, List.length_append, List.length_cons, List.length_nil, List.length_nil, List.length_cons])); (first | rfl | first | omega | (simp only [cWI_len, cRI_len, List.length_append, List.length_cons, List.length_nil, List.length_nil, List.length_cons]; omega) | (simp only [cWI_len, cRI_len, List.length_append, List.length_cons, List.length_nil, List.length_nil, List.length_cons]))) | (refine appV_tslK rfl ?_ ?_ ?_ ?_ ?_ ?_; (first | rfl | exact St.tip_same _ _ _ | (simp only [↓R1, R2, R3, R4, R5, Nat.reduceEqDiff, Nat.reduceAdd, Nat.reduceMul, Nat.reduceSub, Nat.reduceLeDiff, Nat.reduceLT, reduceIte, reduceCtorEq, Int.reduceBNe, Int.reduceBEq, q1, q2, q3, q4, q5, q6, hw, hw2, hd, hd2, hd3, hd4, beq_self_eq_true, bne_self_eq_false])); (first | omega | (simp only [cWI_len, cRI_len, List.length_append, List.length_cons, List.length_nil, List.length_nil, List.length_cons]; omega) | (simp only [cWI_len, cRI_len, List.length_append, List.length_cons, List.length_nil, List.length_nil, List.length_cons])); (first | rfl | first | omega | (simp only [cWI_len, cRI_len, List.length_append, List.length_cons, List.length_nil, List.length_nil, List.length_cons]; omega) | (simp only [cWI_len, cRI_len, List.length_append, List.length_cons, List.length_nil, List.length_nil, List.length_cons]))) | (refine appV_own ?_ ?_ ?_ ?_; exact flat_len (by intro _; rfl) _) | (refine appD_own ?_ ?_ ?_ ?_ ?_; omega; exact flat_len (by intro _; rfl) _) | (refine appV_fresh rfl trivial rfl ?_ ?_ ?_ ?_ ?_; (first | rfl | first | omega | (simp only [cWI_len, cRI_len, List.length_append, List.length_cons, List.length_nil, List.length_nil, List.length_cons]; omega) | (simp only [cWI_len, cRI_len, List.length_append, List.length_cons, List.length_nil, List.length_nil, List.length_cons])); (first | rfl | first | omega | (simp only [cWI_len, cRI_len, List.length_append, List.length_cons, List.length_nil, List.length_nil, List.length_cons]; omega) | (simp only [cWI_len, cRI_len, List.length_append, List.length_cons, List.length_nil, List.length_nil, List.length_cons]))) | (refine appD_fresh rfl trivial rfl ?_ ?_ ?_ ?_ ?_ ?_; omega; (first | rfl | first | omega | (simp only [cWI_len, cRI_len, List.length_append, List.length_cons, List.length_nil, List.length_nil, List.length_cons]; omega) | (simp only [cWI_len, cRI_len, List.length_append, List.length_cons, List.length_nil, List.length_nil, List.length_cons])); (first | rfl | first | omega | (simp only [cWI_len, cRI_len, List.length_append, List.length_cons, List.length_nil, List.length_nil, List.length_cons]; omega) | (simp only [cWI_len, cRI_len, List.length_append, List.length_cons, List.length_nil, List.length_nil, List.length_cons])))); (unfold maxLen; omega); omega)) <;> (try simp only [↓R1, R2, R3, R4, R5, Nat.reduceEqDiff, Nat.reduceAdd, Nat.reduceMul, Nat.reduceSub, Nat.reduceLeDiff, Nat.reduceLT, reduceIte, reduceCtorEq, Int.reduceBNe, Int.reduceBEq, q1, q2, q3, q4, q5, q6, hw, hw2, hd, hd2, hd3, hd4, beq_self_eq_true, bne_self_eq_false])) | (with_reducible refine And.intro ?_ ?_; (focus (first | omega | (intros; (repeat' (with_reducible apply And.intro)) <;> first | omega | (simp only [cWI_len, cRI_len, List.length_append, List.length_cons, List.length_nil]; omega))))) | (with_reducible apply And.intro))
    all_goals first | (rw [hd2]; omega) | (intros; rw [hd2]; omega) | skip
    obtain ⟨ws, hws⟩ : ∃ ws, l[k].ws = ws := ⟨_, rfl⟩
    rw [hws] at hwn hwt hwl hd
    refine loopV_for ws.length (fun i => [(0, .sl false l.length (l.flatMap cRI)), (1, .sl false l.length (l.flatMap cRI)), (5, .int .i64 (k : Nat)), (6, .int .i64 (i : Nat))]) (fun _ => σ) (fun _ => True) (by simp [subF, slot, wk_refl]) (St.le_refl _) trivial (fun i hi _ => ?_)
    by_cases hin : i < ws.length
    · have q2 : decide ((i : Int) < (ws.length : Int)) = true := by rw [decide_eq_true_eq]; omega
      have hd3 := cWI_get ws hin
      have hw2 : IntKind.i64.wrap ((i : Int) + 1) = ((i + 1 : Nat) : Int) := by rw [wrap64 (by omega) (by omega)]; omega
      simp only [cWI] at hd3
      simp only [q2, ↓R1, R2, R3, R4, R5, Nat.reduceEqDiff, Nat.reduceAdd, Nat.reduceMul, Nat.reduceSub, Nat.reduceLeDiff, Nat.reduceLT, reduceIte, reduceCtorEq, Int.reduceBNe, Int.reduceBEq, q1, q2, q3, q4, q5, q6, hw, hw2, hd, hd2, hd3, hd4, beq_self_eq_true, bne_self_eq_false]
      repeat' (first | (with_reducible rw [allocV_eq]) | (refine gdV_split (fun hc => ?_) (fun hc => ?_) <;> (try simp only [hc, ↓R1, R2, R3, R4, R5, Nat.reduceEqDiff, Nat.reduceAdd, Nat.reduceMul, Nat.reduceSub, Nat.reduceLeDiff, Nat.reduceLT, reduceIte, reduceCtorEq, Int.reduceBNe, Int.reduceBEq, q1, q2, q3, q4, q5, q6, hw, hw2, hd, hd2, hd3, hd4, beq_self_eq_true, bne_self_eq_false])) | ((first | refine condV_split (fun hc => ?_) (fun hc => ?_) | (with_reducible intro β hβ; (try simp only [St.box_noneA, St.tip_noneA, St.tip_set, St.box_tip, St.box_lp, St.tip_lp] at hβ); (repeat (obtain ⟨⟨_, _⟩, hβ⟩ := hβ)); (try (have hbis := apart_is (by assumption) hβ; obtain ⟨_, _⟩ := hbis))) | ((first | (refine appD_tslK (.inr rfl) rfl ?_ ?_ ?_ ?_ ?_ ?_; (first | rfl | exact St.tip_same _ _ _ | (simp only [↓R1, R2, R3, R4, R5, Nat.reduceEqDiff, Nat.reduceAdd, Nat.reduceMul, Nat.reduceSub, Nat.reduceLeDiff, Nat.reduceLT, reduceIte, reduceCtorEq, Int.reduceBNe, Int.reduceBEq, q1, q2, q3, q4, q5, q6, hw, hw2, hd, hd2, hd3, hd4, beq_self_eq_true, bne_self_eq_false])); (first | omega | (simp only [cWI_len, cRI_len, List.length_append, List.length_cons, List.length_nil, List.length_nil, List.length_cons]; omega) | (simp only [cWI_len, cRI_len, List.length_append, List.length_cons, List.length_nil, List.length_nil, List.length_cons])); (first | rfl | first | omega | (simp only [cWI_len, cRI_len, List.length_append, List.length_cons, List.length_nil, List.length_nil, List.length_cons]; omega) | (simp only [cWI_len, cRI_len, List.length_append, List.length_cons, List.length_nil, List.length_nil, List.length_cons]))) | (refine appV_tslK rfl ?_ ?_ ?_ ?_ ?_ ?_; (first | rfl | exact St.tip_same _ _ _ | (simp only [↓R1, R2, R3, R4, R5, Nat.reduceEqDiff, Nat.reduceAdd, Nat.reduceMul, Nat.reduceSub, Nat.reduceLeDiff, Nat.reduceLT, reduceIte, reduceCtorEq, Int.reduceBNe, Int.reduceBEq, q1, q2, q3, q4, q5, q6, hw, hw2, hd, hd2, hd3, hd4, beq_self_eq_true, bne_self_eq_false])); (first | omega | (simp only [cWI_len, cRI_len, List.length_append, List.length_cons, List.length_nil, List.length_nil, List.length_cons]; omega) | (simp only [cWI_len, cRI_len, List.length_append, List.length_cons, List.length_nil, List.length_nil, List.length_cons])); (first | rfl | first | omega | (simp only [cWI_len, cRI_len, List.length_append, List.length_cons, List.length_nil, List.length_nil, List.length_cons]; omega) | (simp only [cWI_len, cRI_len, List.length_append, List.length_cons, List.length_nil, List.length_nil, List.length_cons]))) | (refine appV_own ?_ ?_ ?_ ?_; exact flat_len (by intro _; rfl) _) | (refine appD_own ?_ ?_ ?_ ?_ ?_; omega; exact flat_len (by intro _; rfl) _) | (refine appV_fresh rfl trivial rfl ?_ ?_ ?_ ?_ ?_; (first | rfl | first | omega | (simp only [cWI_len, cRI_len, List.length_append, List.length_cons, List.length_nil, List.length_nil, List.length_cons]; omega) | (simp only [cWI_len, cRI_len, List.length_append, List.length_cons, List.length_nil, List.length_nil, List.length_cons])); (first | rfl | first | omega | (simp only [cWI_len, cRI_len, List.length_append, List.length_cons, List.length_nil, List.length_nil, List.length_cons]; omega) | (simp only [cWI_len, cRI_len, List.length_append, List.length_cons, List.length_nil, List.length_nil, List.length_cons]))) | (refine appD_fresh rfl trivial rfl ?_ ?_ ?_ ?_ ?_ ?_; omega; (first | rfl | first | omega | (simp only [cWI_len, cRI_len, List.length_append, List.length_cons, List.length_nil, List.length_nil, List.length_cons]; omega) | (simp only [cWI_len, cRI_len, List.length_append, List.length_cons, List.length_nil, List.length_nil, List.length_cons])); (first | rfl | first | omega | (simp only [cWI_len, cRI_len, List.length_append, List.length_cons, List.length_nil, List.length_nil, List.length_cons]; omega) | (simp only [cWI_len, cRI_len, List.length_append, List.length_cons, List.length_nil, List.length_nil, List.length_cons])))); (unfold maxLen; omega); omega)) <;> (try simp only [↓R1, R2, R3, R4, R5, Nat.reduceEqDiff, Nat.reduceAdd, Nat.reduceMul, Nat.reduceSub, Nat.reduceLeDiff, Nat.reduceLT, reduceIte, reduceCtorEq, Int.reduceBNe, Int.reduceBEq, q1, q2, q3, q4, q5, q6, hw, hw2, hd, hd2, hd3, hd4, beq_self_eq_true, bne_self_eq_false])) | (with_reducible refine And.intro ?_ ?_; (focus (first | omega | (intros; (repeat' (with_reducible apply And.intro)) <;> first | omega | (simp only [cWI_len, cRI_len, List.length_append, List.length_cons, List.length_nil]; omega))))) | (with_reducible apply And.intro))
      all_goals first | (rw [hd2]; omega) | (rw [hwl]; omega) | skip
      · simp [subF, slot, wk_refl]
      · exact St.le_refl _
    · have hie : i = ws.length := by omega
      subst hie
      have q2 : decide ((ws.length : Int) < (ws.length : Int)) = false := by simp
      simp only [q2, ↓R1, R2, R3, R4, R5, Nat.reduceEqDiff, Nat.reduceAdd, Nat.reduceMul, Nat.reduceSub, Nat.reduceLeDiff, Nat.reduceLT, reduceIte, reduceCtorEq, Int.reduceBNe, Int.reduceBEq, q1, q2, q3, q4, q5, q6, hw, hw2, hd, hd2, hd3, hd4, beq_self_eq_true, bne_self_eq_false]
      repeat' (first | (with_reducible rw [allocV_eq]) | (refine gdV_split (fun hc => ?_) (fun hc => ?_) <;> (try simp only [hc, ↓R1, R2, R3, R4, R5, Nat.reduceEqDiff, Nat.reduceAdd, Nat.reduceMul, Nat.reduceSub, Nat.reduceLeDiff, Nat.reduceLT, reduceIte, reduceCtorEq, Int.reduceBNe, Int.reduceBEq, q1, q2, q3, q4, q5, q6, hw, hw2, hd, hd2, hd3, hd4, beq_self_eq_true, bne_self_eq_false])) | ((first | refine condV_split (fun hc => ?_) (fun hc => ?_) | (with_reducible intro β hβ; (try simp only [St.box_noneA, St.tip_noneA, St.tip_set, St.box_tip, St.box_lp, St.tip_lp] at hβ); (repeat (obtain ⟨⟨_, _⟩, hβ⟩ := hβ)); (try (have hbis := apart_is (by assumption) hβ; obtain ⟨_, _⟩ := hbis))) | ((first | (refine appD_tslK (.inr rfl) rfl ?_ ?_ ?_ ?_ ?_ ?_; (first | rfl | exact St.tip_same _ _ _ | (simp only [↓R1, R2, R3, R4, R5, Nat.reduceEqDiff, Nat.reduceAdd, Nat.reduceMul, Nat.reduceSub, Nat.reduceLeDiff, Nat.reduceLT, reduceIte, reduceCtorEq, Int.reduceBNe, Int.reduceBEq, q1, q2, q3, q4, q5, q6, hw, hw2, hd, hd2, hd3, hd4, beq_self_eq_true, bne_self_eq_false])); (first | omega | (simp only [cWI_len, cRI_len, List.length_append, List.length_cons, List.length_nil, List.length_nil, List.length_cons]; omega) | (simp only [cWI_len, cRI_len, List.length_append, List.length_cons, List.length_nil, List.length_nil, List.length_cons])); (first | rfl | first | omega | (simp only [cWI_len, cRI_len, List.length_append, List.length_cons, List.length_nil, List.length_nil, List.length_cons]; omega) | (simp only [cWI_len, cRI_len, List.length_append, List.length_cons, List.length_nil, List.length_nil, List.length_cons]))) | (refine appV_tslK rfl ?_ ?_ ?_ ?_ ?_ ?_; (first | rfl | exact St.tip_same _ _ _ | (simp only [↓R1, R2, R3, R4, R5, Nat.reduceEqDiff, Nat.reduceAdd, Nat.reduceMul, Nat.reduceSub, Nat.reduceLeDiff, Nat.reduceLT, reduceIte, reduceCtorEq, Int.reduceBNe, Int.reduceBEq, q1, q2, q3, q4, q5, q6, hw, hw2, hd, hd2, hd3, hd4, beq_self_eq_true, bne_self_eq_false])); (first | omega | (simp only [cWI_len, cRI_len, List.length_append, List.length_cons, List.length_nil, List.length_nil, List.length_cons]; omega) | (simp only [cWI_len, cRI_len, List.length_append, List.length_cons, List.length_nil, List.length_nil, List.length_cons])); (first | rfl | first | omega | (simp only [cWI_len, cRI_len, List.length_append, List.length_cons, List.length_nil, List.length_nil, List.length_cons]; omega) | (simp only [cWI_len, cRI_len, List.length_append, List.length_cons, List.length_nil, List.length_nil, List.length_cons]))) | (refine appV_own ?_ ?_ ?_ ?_; exact flat_len (by intro _; rfl) _) | (refine appD_own ?_ ?_ ?_ ?_ ?_; omega; exact flat_len (by intro _; rfl) _) | (refine appV_fresh rfl trivial rfl ?_ ?_ ?_ ?_ ?_; (first | rfl | first | omega | (simp only [cWI_len, cRI_len, List.length_append, List.length_cons, List.length_nil, List.length_nil, List.length_cons]; omega) | (simp only [cWI_len, cRI_len, List.length_append, List.length_cons, List.length_nil, List.length_nil, List.length_cons])); (first | rfl | first | omega | (simp only [cWI_len, cRI_len, List.length_append, List.length_cons, List.length_nil, List.length_nil, List.length_cons]; omega) | (simp only [cWI_len, cRI_len, List.length_append, List.length_cons, List.length_nil, List.length_nil, List.length_cons]))) | (refine appD_fresh rfl trivial rfl ?_ ?_ ?_ ?_ ?_ ?_; omega; (first | rfl | first | omega | (simp only [cWI_len, cRI_len, List.length_append, List.length_cons, List.length_nil, List.length_nil, List.length_cons]; omega) | (simp only [cWI_len, cRI_len, List.length_append, List.length_cons, List.length_nil, List.length_nil, List.length_cons])); (first | rfl | first | omega | (simp only [cWI_len, cRI_len, List.length_append, List.length_cons, List.length_nil, List.length_nil, List.length_cons]; omega) | (simp only [cWI_len, cRI_len, List.length_append, List.length_cons, List.length_nil, List.length_nil, List.length_cons])))); (unfold maxLen; omega); omega)) <;> (try simp only [↓R1, R2, R3, R4, R5, Nat.reduceEqDiff, Nat.reduceAdd, Nat.reduceMul, Nat.reduceSub, Nat.reduceLeDiff, Nat.reduceLT, reduceIte, reduceCtorEq, Int.reduceBNe, Int.reduceBEq, q1, q2, q3, q4, q5, q6, hw, hw2, hd, hd2, hd3, hd4, beq_self_eq_true, bne_self_eq_false])) | (with_reducible refine And.intro ?_ ?_; (focus (first | omega | (intros; (repeat' (with_reducible apply And.intro)) <;> first | omega | (simp only [cWI_len, cRI_len, List.length_append, List.length_cons, List.length_nil]; omega))))) | (with_reducible apply And.intro))
      all_goals first | (rw [hd2]; omega) | skip
      · simp [subF, slot, wk_refl]
      · exact St.le_refl _
  · have hke : k = l.length := by omega
    subst hke
    have q1 : decide ((l.length : Int) < (l.length : Int)) = false := by simp
    simp only [q1, ↓R1, R2, R3, R4, R5, Nat.reduceEqDiff, Nat.reduceAdd, Nat.reduceMul, Nat.reduceSub, Nat.reduceLeDiff, Nat.reduceLT, reduceIte, reduceCtorEq, Int.reduceBNe, Int.reduceBEq, q1, q2, q3, q4, q5, q6, hw, hw2, hd, hd2, hd3, hd4, beq_self_eq_true, bne_self_eq_false]
    repeat' (first | (with_reducible rw [allocV_eq]) | (refine gdV_split (fun hc => ?_) (fun hc => ?_) <;> (try simp only [hc, ↓R1, R2, R3, R4, R5, Nat.reduceEqDiff, Nat.reduceAdd, Nat.reduceMul, Nat.reduceSub, Nat.reduceLeDiff, Nat.reduceLT, reduceIte, reduceCtorEq, Int.reduceBNe, Int.reduceBEq, q1, q2, q3, q4, q5, q6, hw, hw2, hd, hd2, hd3, hd4, beq_self_eq_true, bne_self_eq_false])) | ((first | refine condV_split (fun hc => ?_) (fun hc => ?_) | (with_reducible intro β hβ; (try simp only [St.box_noneA, St.tip_noneA, St.tip_set, St.box_tip, St.box_lp, St.tip_lp] at hβ); (repeat (obtain ⟨⟨_, _⟩, hβ⟩ := hβ)); (try (have hbis := apart_is (by assumption) hβ; obtain ⟨_, _⟩ := hbis))) | ((first | (refine appD_tslK (.inr rfl) rfl ?_ ?_ ?_ ?_ ?_ ?_; (first | rfl | exact St.tip_same _ _ _ | (simp only [↓R1, R2, R3, R4, R5, Nat.reduceEqDiff, Nat.reduceAdd, Nat.reduceMul, Nat.reduceSub, Nat.reduceLeDiff, Nat.reduceLT, reduceIte, reduceCtorEq, Int.reduceBNe, Int.reduceBEq, q1, q2, q3, q4, q5, q6, hw, hw2, hd, hd2, hd3, hd4, beq_self_eq_true, bne_self_eq_false])); (first | omega | (simp only [cWI_len, cRI_len, List.length_append, List.length_cons, List.length_nil, List.length_nil, List.length_cons]; omega) | (simp only [cWI_len, cRI_len, List.length_append, List.length_cons, List.length_nil, List.length_nil, List.length_cons])); (first | rfl | first | omega | (simp only [cWI_len, cRI_len, List.length_append, List.length_cons, List.length_nil, List.length_nil, List.length_cons]; omega) | (simp only [cWI_len, cRI_len, List.length_append, List.length_cons, List.length_nil, List.length_nil, List.length_cons]))) | (refine appV_tslK rfl ?_ ?_ ?_ ?_ ?_ ?_; (first | rfl | exact St.tip_same _ _ _ | (simp only [↓R1, R2, R3, R4, R5, Nat.reduceEqDiff, Nat.reduceAdd, Nat.reduceMul, Nat.reduceSub, Nat.reduceLeDiff, Nat.reduceLT, reduceIte, reduceCtorEq, Int.reduceBNe, Int.reduceBEq, q1, q2, q3, q4, q5, q6, hw, hw2, hd, hd2, hd3, hd4, beq_self_eq_true, bne_self_eq_false])); (first | omega | (simp only [cWI_len, cRI_len, List.length_append, List.length_cons, List.length_nil, List.length_nil, List.length_cons]; omega) | (simp only [cWI_len, cRI_len, List.length_append, List.length_cons, List.length_nil, List.length_nil, List.length_cons])); (first | rfl | first | omega | (simp only [cWI_len, cRI_len, List.length_append, List.length_cons, List.length_nil, List.length_nil, List.length_cons]; omega) | (simp only [cWI_len, cRI_len, List.length_append, List.length_cons, List.length_nil, List.length_nil, List.length_cons]))) | (refine appV_own ?_ ?_ ?_ ?_; exact flat_len (by intro _; rfl) _) | (refine appD_own ?_ ?_ ?_ ?_ ?_; omega; exact flat_len (by intro _; rfl) _) | (refine appV_fresh rfl trivial rfl ?_ ?_ ?_ ?_ ?_; (first | rfl | first | omega | (simp only [cWI_len, cRI_len, List.length_append, List.length_cons, List.length_nil, List.length_nil, List.length_cons]; omega) | (simp only [cWI_len, cRI_len, List.length_append, List.length_cons, List.length_nil, List.length_nil, List.length_cons])); (first | rfl | first | omega | (simp only [cWI_len, cRI_len, List.length_append, List.length_cons, List.length_nil, List.length_nil, List.length_cons]; omega) | (simp only [cWI_len, cRI_len, List.length_append, List.length_cons, List.length_nil, List.length_nil, List.length_cons]))) | (refine appD_fresh rfl trivial rfl ?_ ?_ ?_ ?_ ?_ ?_; omega; (first | rfl | first | omega | (simp only [cWI_len, cRI_len, List.length_append, List.length_cons, List.length_nil, List.length_nil, List.length_cons]; omega) | (simp only [cWI_len, cRI_len, List.length_append, List.length_cons, List.length_nil, List.length_nil, List.length_cons])); (first | rfl | first | omega | (simp only [cWI_len, cRI_len, List.length_append, List.length_cons, List.length_nil, List.length_nil, List.length_cons]; omega) | (simp only [cWI_len, cRI_len, List.length_append, List.length_cons, List.length_nil, List.length_nil, List.length_cons])))); (unfold maxLen; omega); omega)) <;> (try simp only [↓R1, R2, R3, R4, R5, Nat.reduceEqDiff, Nat.reduceAdd, Nat.reduceMul, Nat.reduceSub, Nat.reduceLeDiff, Nat.reduceLT, reduceIte, reduceCtorEq, Int.reduceBNe, Int.reduceBEq, q1, q2, q3, q4, q5, q6, hw, hw2, hd, hd2, hd3, hd4, beq_self_eq_true, bne_self_eq_false])) | (with_reducible refine And.intro ?_ ?_; (focus (first | omega | (intros; (repeat' (with_reducible apply And.intro)) <;> first | omega | (simp only [cWI_len, cRI_len, List.length_append, List.length_cons, List.length_nil]; omega))))) | (with_reducible apply And.intro))
    (refine endP_pu (by simp) (by first | (simp [rvsS, rvS]; done) | (simp only [rvsS, rvS, ↓R1, R2, R3, R4, R5, Nat.reduceEqDiff, Nat.reduceAdd, Nat.reduceMul, Nat.reduceSub, Nat.reduceLeDiff, Nat.reduceLT, reduceIte, reduceCtorEq, Int.reduceBNe, Int.reduceBEq, q1, q2, q3, q4, q5, q6, hw, hw2, hd, hd2, hd3, hd4, beq_self_eq_true, bne_self_eq_false]; try simp)) (wk_of_eq ?_) (by (repeat (first | exact St.le_refl _ | (refine St.le_new ?_ (by assumption)) | (refine St.le_newT ?_ (by assumption))))))
    (simp only [resAV, rvV, List.map_cons, List.map_nil, ↓R1, R2, R3, R4, R5, Nat.reduceEqDiff, Nat.reduceAdd, Nat.reduceMul, Nat.reduceSub, Nat.reduceLeDiff, Nat.reduceLT, reduceIte, reduceCtorEq, Int.reduceBNe, Int.reduceBEq, q1, q2, q3, q4, q5, q6, hw, hw2, hd, hd2, hd3, hd4, beq_self_eq_true, bne_self_eq_false])
/-- A loop that counts up to n and appends to a list in a part of a variable. -/
theorem loopV_forBx {P : Program} {x : CC} {fr : Fr} {σ : St} {Q : Exit → Fr → St → Prop} {h : Hold (x, σ, Q)} (n t o e s : Nat) {β : Nat} {c0 : List AV} (hp : slot t fr = .ptr β 0) (hb : σ.box β = some c0) (hc : c0[o]? = some .nils) (F : Nat → Nat → Fr) (S : Nat → Nat → St) (I : Nat → Prop) (h0 : I 0)
    (hF : ∀ τ, subF (F τ 0) fr) (hS : ∀ τ, σ.tip τ = none → St.le (S τ 0) ((σ.setTip τ (e, s, 0)).setBox β (c0.set o (.tsl τ 0 []))))
    (hr : ∀ τ, σ.tip τ = none → ∀ k, k ≤ n → I k → aC P x (F τ k) (S τ k) (loopK (fun fr' σ' => k < n ∧ I (k + 1) ∧ subF (F τ (k + 1)) fr' ∧ St.le (S τ (k + 1)) σ') Q)) : loopV P x fr σ Q h := by
  refine ⟨[(true, t, o, e, s)], ?_⟩
  simp only [startP, hp, hb, Nat.zero_add, hc, slv, fresh, true_and]
  intro τ hτ
  refine ⟨Nat, F τ, S τ, fun k => k ≤ n ∧ I k, fun k => n - k, 0, ⟨Nat.zero_le _, h0⟩, hF τ, hS τ hτ, fun k hk => ?_⟩
  refine aC_mono _ _ _ (hr τ hτ k hk.1 hk.2) (fun e fr' σ' hq => ?_)
  unfold loopK at hq
  cases e with
  | normal => simp only at hq ⊢; exact ⟨k + 1, ⟨hq.1, hq.2.1⟩, hq.2.2.1, hq.2.2.2, by omega⟩
  | _ => exact hq
def mkW (t : List UInt8) : WI := ⟨!bareS t, t, 0⟩
def mkR (l : List (List UInt8)) : RI := ⟨0, l.map mkW⟩
theorem strs_get (l : List (List UInt8)) {k : Nat} (h : k < l.length) : ((l.map AV.str).drop (k * 1)).take 1 = [.str l[k]] := by
  rw [Nat.mul_one, List.drop_eq_getElem_cons (by simpa using h)]
  simp
theorem mk_step (l : List (List UInt8)) {k : Nat} (h : k < l.length) : ((l.take k).map mkW).flatMap cWI ++ [.bool (!bareS l[k]), .str l[k], .int .i64 0] = ((l.take (k + 1)).map mkW).flatMap cWI := by
  rw [← List.take_append_getElem h, List.map_append, List.flatMap_append]
  simp [mkW, cWI]
set_option maxHeartbeats 2000000 in
theorem p23 (l : List (List UInt8)) (hl : l.length ≤ 1000) (ht : ∀ t ∈ l, t.length ≤ 1000000) : Pu Tryd.prog 23 [.sl false l.length (l.map AV.str)] (.agg (cRI (mkR l))) := by
  have q1 : True := trivial
  have q2 : True := trivial
  have q3 : True := trivial
  have q4 : True := trivial
  have q5 : True := trivial
  have q6 : True := trivial
  have hw : True := trivial
  have hd : True := trivial
  have hd2 : True := trivial
  (refine Pu_intro c23 b23 (Nat.le_of_ble_eq_true rfl) fun σ => ?_; simp only [c23, ↓R1, R2, R3, R4, R5, Nat.reduceEqDiff, Nat.reduceAdd, Nat.reduceMul, Nat.reduceSub, Nat.reduceLeDiff, Nat.reduceLT, reduceIte, reduceCtorEq, Int.reduceBNe, Int.reduceBEq, q1, q2, q3, q4, q5, q6, hw, hd, hd2])
  rw [allocV_eq]; intro b2 h2; simp only [↓R1, R2, R3, R4, R5, Nat.reduceEqDiff, Nat.reduceAdd, Nat.reduceMul, Nat.reduceSub, Nat.reduceLeDiff, Nat.reduceLT, reduceIte, reduceCtorEq, Int.reduceBNe, Int.reduceBEq, q1, q2, q3, q4, q5, q6, hw, hd, hd2]
  rw [allocV_eq]; intro b3 h3; rw [St.box_noneA] at h3; obtain ⟨⟨_, _⟩, h3⟩ := h3; simp only [↓R1, R2, R3, R4, R5, Nat.reduceEqDiff, Nat.reduceAdd, Nat.reduceMul, Nat.reduceSub, Nat.reduceLeDiff, Nat.reduceLT, reduceIte, reduceCtorEq, Int.reduceBNe, Int.reduceBEq, q1, q2, q3, q4, q5, q6, hw, hd, hd2]
  refine loopV_forBx l.length 3 1 31 3 (β := b3) rfl (by simp only [↓R1, R2, R3, R4, R5, Nat.reduceEqDiff, Nat.reduceAdd, Nat.reduceMul, Nat.reduceSub, Nat.reduceLeDiff, Nat.reduceLT, reduceIte, reduceCtorEq, Int.reduceBNe, Int.reduceBEq, q1, q2, q3, q4, q5, q6, hw, hd, hd2]; rfl) rfl
    (fun τ k => [(2, .ptr b2 0), (3, .ptr b3 0), (6, .sl false l.length (l.map AV.str)), (7, .int .i64 (l.length : Nat)), (8, .int .i64 (k : Nat))])
    (fun τ k => ((σ.setBox b2 [.int .i64 0, .nils]).setBox b3 [.int .i64 0, .tsl τ k (((l.take k).map mkW).flatMap cWI)]).setTip τ (31, 3, k)) (fun _ => True) trivial (fun τ => by simp [subF, slot, wk_refl]) (fun τ _ => by simp only [List.set_cons_succ, List.set_cons_zero, List.take_zero, List.map_nil, List.flatMap_nil, ↓R1, R2, R3, R4, R5, Nat.reduceEqDiff, Nat.reduceAdd, Nat.reduceMul, Nat.reduceSub, Nat.reduceLeDiff, Nat.reduceLT, reduceIte, reduceCtorEq, Int.reduceBNe, Int.reduceBEq, q1, q2, q3, q4, q5, q6, hw, hd, hd2]; exact St.le_refl _) (fun τ hτ k hk _ => ?_)
  by_cases hlt : k < l.length
  · have q1 : decide ((k : Int) < (l.length : Int)) = true := by rw [decide_eq_true_eq]; omega
    have hd := strs_get l hlt
    have hw : IntKind.i64.wrap ((k : Int) + 1) = ((k + 1 : Nat) : Int) := by rw [wrap64 (by omega) (by omega)]; omega
    have hp := p29 l[k] (ht _ (List.getElem_mem hlt))
    have hcl : (((l.take k).map mkW).flatMap cWI).length = k * 3 := by rw [cWI_len]; simp; omega
    have hs := mk_step l hlt
    simp only [q1, ↓R1, R2, R3, R4, R5, Nat.reduceEqDiff, Nat.reduceAdd, Nat.reduceMul, Nat.reduceSub, Nat.reduceLeDiff, Nat.reduceLT, reduceIte, reduceCtorEq, Int.reduceBNe, Int.reduceBEq, q1, q2, q3, q4, q5, q6, hw, hd, hd2]
    repeat' (first | (with_reducible rw [allocV_eq]) | (refine gdV_split (fun hc => ?_) (fun hc => ?_) <;> (try simp only [hc, ↓R1, R2, R3, R4, R5, Nat.reduceEqDiff, Nat.reduceAdd, Nat.reduceMul, Nat.reduceSub, Nat.reduceLeDiff, Nat.reduceLT, reduceIte, reduceCtorEq, Int.reduceBNe, Int.reduceBEq, q1, q2, q3, q4, q5, q6, hw, hd, hd2])) | ((first | refine condV_split (fun hc => ?_) (fun hc => ?_) | (with_reducible intro β hβ; (try simp only [St.box_noneA, St.tip_noneA, St.tip_set, St.box_tip, St.box_lp, St.tip_lp] at hβ); (repeat (obtain ⟨⟨_, _⟩, hβ⟩ := hβ)); (try (have hbis := apart_is (by assumption) hβ; obtain ⟨_, _⟩ := hbis))) | ((first | (refine appD_tslK (.inr rfl) rfl ?_ ?_ ?_ ?_ ?_ ?_; (first | rfl | exact St.tip_same _ _ _ | (simp only [↓R1, R2, R3, R4, R5, Nat.reduceEqDiff, Nat.reduceAdd, Nat.reduceMul, Nat.reduceSub, Nat.reduceLeDiff, Nat.reduceLT, reduceIte, reduceCtorEq, Int.reduceBNe, Int.reduceBEq, q1, q2, q3, q4, q5, q6, hw, hd, hd2])); (first | omega | (simp only [cWI_len, cRI_len, List.length_append, List.length_cons, List.length_nil, List.length_nil, List.length_cons]; omega) | (simp only [cWI_len, cRI_len, List.length_append, List.length_cons, List.length_nil, List.length_nil, List.length_cons])); (first | rfl | first | omega | (simp only [cWI_len, cRI_len, List.length_append, List.length_cons, List.length_nil, List.length_nil, List.length_cons]; omega) | (simp only [cWI_len, cRI_len, List.length_append, List.length_cons, List.length_nil, List.length_nil, List.length_cons]))) | (refine appV_tslK rfl ?_ ?_ ?_ ?_ ?_ ?_; (first | rfl | exact St.tip_same _ _ _ | (simp only [↓R1, R2, R3, R4, R5, Nat.reduceEqDiff, Nat.reduceAdd, Nat.reduceMul, Nat.reduceSub, Nat.reduceLeDiff, Nat.reduceLT, reduceIte, reduceCtorEq, Int.reduceBNe, Int.reduceBEq, q1, q2, q3, q4, q5, q6, hw, hd, hd2])); (first | omega | (simp only [cWI_len, cRI_len, List.length_append, List.length_cons, List.length_nil, List.length_nil, List.length_cons]; omega) | (simp only [cWI_len, cRI_len, List.length_append, List.length_cons, List.length_nil, List.length_nil, List.length_cons])); (first | rfl | first | omega | (simp only [cWI_len, cRI_len, List.length_append, List.length_cons, List.length_nil, List.length_nil, List.length_cons]; omega) | (simp only [cWI_len, cRI_len, List.length_append, List.length_cons, List.length_nil, List.length_nil, List.length_cons]))) | (refine appV_own ?_ ?_ ?_ ?_; exact flat_len (by intro _; rfl) _) | (refine appD_own ?_ ?_ ?_ ?_ ?_; omega; exact flat_len (by intro _; rfl) _) | (refine appV_fresh rfl trivial rfl ?_ ?_ ?_ ?_ ?_; (first | rfl | first | omega | (simp only [cWI_len, cRI_len, List.length_append, List.length_cons, List.length_nil, List.length_nil, List.length_cons]; omega) | (simp only [cWI_len, cRI_len, List.length_append, List.length_cons, List.length_nil, List.length_nil, List.length_cons])); (first | rfl | first | omega | (simp only [cWI_len, cRI_len, List.length_append, List.length_cons, List.length_nil, List.length_nil, List.length_cons]; omega) | (simp only [cWI_len, cRI_len, List.length_append, List.length_cons, List.length_nil, List.length_nil, List.length_cons]))) | (refine appD_fresh rfl trivial rfl ?_ ?_ ?_ ?_ ?_ ?_; omega; (first | rfl | first | omega | (simp only [cWI_len, cRI_len, List.length_append, List.length_cons, List.length_nil, List.length_nil, List.length_cons]; omega) | (simp only [cWI_len, cRI_len, List.length_append, List.length_cons, List.length_nil, List.length_nil, List.length_cons])); (first | rfl | first | omega | (simp only [cWI_len, cRI_len, List.length_append, List.length_cons, List.length_nil, List.length_nil, List.length_cons]; omega) | (simp only [cWI_len, cRI_len, List.length_append, List.length_cons, List.length_nil, List.length_nil, List.length_cons])))); (unfold maxLen; omega); omega)) <;> (try simp only [↓R1, R2, R3, R4, R5, Nat.reduceEqDiff, Nat.reduceAdd, Nat.reduceMul, Nat.reduceSub, Nat.reduceLeDiff, Nat.reduceLT, reduceIte, reduceCtorEq, Int.reduceBNe, Int.reduceBEq, q1, q2, q3, q4, q5, q6, hw, hd, hd2])) | (with_reducible refine And.intro ?_ ?_; (focus (first | omega | (intros; (repeat' (with_reducible apply And.intro)) <;> first | omega | (simp only [cWI_len, cRI_len, List.length_append, List.length_cons, List.length_nil]; omega))))) | (with_reducible apply And.intro) | ((first | refine Pu.to (hp) (wkL_refl _) ?_ | refine callDV_pu (hp) (wkL_refl _) ?_); (try simp only [↓R1, R2, R3, R4, R5, Nat.reduceEqDiff, Nat.reduceAdd, Nat.reduceMul, Nat.reduceSub, Nat.reduceLeDiff, Nat.reduceLT, reduceIte, reduceCtorEq, Int.reduceBNe, Int.reduceBEq, q1, q2, q3, q4, q5, q6, hw, hd, hd2])))
    all_goals first | (simp only [List.length_map]; omega) | skip
    · simp [subF, slot, wk_refl]
    · rw [hs]; exact St.le_refl _
  · have hke : k = l.length := by omega
    subst hke
    have q1 : decide ((l.length : Int) < (l.length : Int)) = false := by simp
    rw [List.take_length]
    simp only [q1, ↓R1, R2, R3, R4, R5, Nat.reduceEqDiff, Nat.reduceAdd, Nat.reduceMul, Nat.reduceSub, Nat.reduceLeDiff, Nat.reduceLT, reduceIte, reduceCtorEq, Int.reduceBNe, Int.reduceBEq, q1, q2, q3, q4, q5, q6, hw, hd, hd2]
    repeat' (first | (with_reducible rw [allocV_eq]) | (refine gdV_split (fun hc => ?_) (fun hc => ?_) <;> (try simp only [hc, ↓R1, R2, R3, R4, R5, Nat.reduceEqDiff, Nat.reduceAdd, Nat.reduceMul, Nat.reduceSub, Nat.reduceLeDiff, Nat.reduceLT, reduceIte, reduceCtorEq, Int.reduceBNe, Int.reduceBEq, q1, q2, q3, q4, q5, q6, hw, hd, hd2])) | ((first | refine condV_split (fun hc => ?_) (fun hc => ?_) | (with_reducible intro β hβ; (try simp only [St.box_noneA, St.tip_noneA, St.tip_set, St.box_tip, St.box_lp, St.tip_lp] at hβ); (repeat (obtain ⟨⟨_, _⟩, hβ⟩ := hβ)); (try (have hbis := apart_is (by assumption) hβ; obtain ⟨_, _⟩ := hbis))) | ((first | (refine appD_tslK (.inr rfl) rfl ?_ ?_ ?_ ?_ ?_ ?_; (first | rfl | exact St.tip_same _ _ _ | (simp only [↓R1, R2, R3, R4, R5, Nat.reduceEqDiff, Nat.reduceAdd, Nat.reduceMul, Nat.reduceSub, Nat.reduceLeDiff, Nat.reduceLT, reduceIte, reduceCtorEq, Int.reduceBNe, Int.reduceBEq, q1, q2, q3, q4, q5, q6, hw, hd, hd2])); (first | omega | (simp only [cWI_len, cRI_len, List.length_append, List.length_cons, List.length_nil, List.length_nil, List.length_cons]; omega) | (simp only [cWI_len, cRI_len, List.length_append, List.length_cons, List.length_nil, List.length_nil, List.length_cons])); (first | rfl | first | omega | (simp only [cWI_len, cRI_len, List.length_append, List.length_cons, List.length_nil, List.length_nil, List.length_cons]; omega) | (simp only [cWI_len, cRI_len, List.length_append, List.length_cons, List.length_nil, List.length_nil, List.length_cons]))) | (refine appV_tslK rfl ?_ ?_ ?_ ?_ ?_ ?_; (first | rfl | exact St.tip_same _ _ _ | (simp only [↓R1, R2, R3, R4, R5, Nat.reduceEqDiff, Nat.reduceAdd, Nat.reduceMul, Nat.reduceSub, Nat.reduceLeDiff, Nat.reduceLT, reduceIte, reduceCtorEq, Int.reduceBNe, Int.reduceBEq, q1, q2, q3, q4, q5, q6, hw, hd, hd2])); (first | omega | (simp only [cWI_len, cRI_len, List.length_append, List.length_cons, List.length_nil, List.length_nil, List.length_cons]; omega) | (simp only [cWI_len, cRI_len, List.length_append, List.length_cons, List.length_nil, List.length_nil, List.length_cons])); (first | rfl | first | omega | (simp only [cWI_len, cRI_len, List.length_append, List.length_cons, List.length_nil, List.length_nil, List.length_cons]; omega) | (simp only [cWI_len, cRI_len, List.length_append, List.length_cons, List.length_nil, List.length_nil, List.length_cons]))) | (refine appV_own ?_ ?_ ?_ ?_; exact flat_len (by intro _; rfl) _) | (refine appD_own ?_ ?_ ?_ ?_ ?_; omega; exact flat_len (by intro _; rfl) _) | (refine appV_fresh rfl trivial rfl ?_ ?_ ?_ ?_ ?_; (first | rfl | first | omega | (simp only [cWI_len, cRI_len, List.length_append, List.length_cons, List.length_nil, List.length_nil, List.length_cons]; omega) | (simp only [cWI_len, cRI_len, List.length_append, List.length_cons, List.length_nil, List.length_nil, List.length_cons])); (first | rfl | first | omega | (simp only [cWI_len, cRI_len, List.length_append, List.length_cons, List.length_nil, List.length_nil, List.length_cons]; omega) | (simp only [cWI_len, cRI_len, List.length_append, List.length_cons, List.length_nil, List.length_nil, List.length_cons]))) | (refine appD_fresh rfl trivial rfl ?_ ?_ ?_ ?_ ?_ ?_; omega; (first | rfl | first | omega | (simp only [cWI_len, cRI_len, List.length_append, List.length_cons, List.length_nil, List.length_nil, List.length_cons]; omega) | (simp only [cWI_len, cRI_len, List.length_append, List.length_cons, List.length_nil, List.length_nil, List.length_cons])); (first | rfl | first | omega | (simp only [cWI_len, cRI_len, List.length_append, List.length_cons, List.length_nil, List.length_nil, List.length_cons]; omega) | (simp only [cWI_len, cRI_len, List.length_append, List.length_cons, List.length_nil, List.length_nil, List.length_cons])))); (unfold maxLen; omega); omega)) <;> (try simp only [↓R1, R2, R3, R4, R5, Nat.reduceEqDiff, Nat.reduceAdd, Nat.reduceMul, Nat.reduceSub, Nat.reduceLeDiff, Nat.reduceLT, reduceIte, reduceCtorEq, Int.reduceBNe, Int.reduceBEq, q1, q2, q3, q4, q5, q6, hw, hd, hd2])) | (with_reducible refine And.intro ?_ ?_; (focus (first | omega | (intros; (repeat' (with_reducible apply And.intro)) <;> first | omega | (simp only [cWI_len, cRI_len, List.length_append, List.length_cons, List.length_nil]; omega))))) | (with_reducible apply And.intro))
    refine endP_pu (by simp) (by first | (simp [rvsS, rvS]; done) | (simp only [rvsS, rvS, ↓R1, R2, R3, R4, R5, Nat.reduceEqDiff, Nat.reduceAdd, Nat.reduceMul, Nat.reduceSub, Nat.reduceLeDiff, Nat.reduceLT, reduceIte, reduceCtorEq, Int.reduceBNe, Int.reduceBEq, q1, q2, q3, q4, q5, q6, hw, hd, hd2]; try simp)) ?_ (St.le_setTip (St.le_setBox (St.le_setBox (St.le_refl _) h2) h3) hτ)
    simp only [resAV, rvV, List.map_cons, List.map_nil, ↓R1, R2, R3, R4, R5, Nat.reduceEqDiff, Nat.reduceAdd, Nat.reduceMul, Nat.reduceSub, Nat.reduceLeDiff, Nat.reduceLT, reduceIte, reduceCtorEq, Int.reduceBNe, Int.reduceBEq, q1, q2, q3, q4, q5, q6, hw, hd, hd2]
    simp only [cRI, mkR, List.length_map]
    exact wk_agg (.cons (wk_refl _) (.cons (wk_tsl _ _ _) .nil))
end Go.Proofs.YtemddijemikleaaDoor
namespace Go.Proofs.YtemddijemikleaaDoor
open Go.Abs
set_option linter.all false
set_option maxRecDepth 100000
def cWd (w : Wd) : List AV := [.bool w.q, .str w.t, .int .i64 (w.a : Nat)]
theorem cWd_len (l : List Wd) : (l.flatMap cWd).length = l.length * 3 := flat_len (f := cWd) (fun _ => rfl) l
/-- A list that is made by appending: nothing yet, or a list of its own. -/
def lV (τ : Nat) : List Wd → AV
  | [] => .nils
  | p => .tsl τ p.length (p.flatMap cWd)
def lT (σ : St) (τ : Nat) : List Wd → St
  | [] => σ
  | p => σ.setTip τ (31, 3, p.length)
theorem lT_box (σ : St) (τ : Nat) (p : List Wd) : (lT σ τ p).box = σ.box := by cases p <;> rfl
theorem lT_set (σ : St) (τ : Nat) (p : List Wd) (u : Nat) (c : List AV) : (lT σ τ p).setBox u c = lT (σ.setBox u c) τ p := by cases p <;> rfl
theorem lV_app {P : Program} {Y : St} {K : AV → St → Prop} {τ : Nat} {pre : List Wd} {w : Wd} {h : Hold (lT Y τ pre, K)} (hl : pre.length ≤ 1000000) (hY : pre ≠ [] → Y.tip τ = none)
    (hK : ∀ τ', Y.tip τ' = none → K (lV τ' (pre ++ [w])) (lT Y τ' (pre ++ [w]))) : appV true 31 3 32 (lV τ pre) (.sl true 1 (cWd w)) (lT Y τ pre) K h := by
  cases pre with
  | nil =>
    refine appV_tip (n := 0) (cs := []) rfl trivial rfl rfl rfl ?_ ?_ (fun τ' hτ' => ?_)
    · unfold maxLen; decide
    · decide
    · exact hK τ' hτ'
  | cons x p =>
    have h1 := cWd_len (x :: p)
    simp only [List.length_cons] at hl h1
    refine appV_tslK rfl ?_ ?_ rfl ?_ ?_ ?_
    · simp [lT, St.setTip, upd]
    · simpa using h1
    · unfold maxLen; simp; omega
    · simp; omega
    · have := hK τ (hY (by simp))
      have e1 : (x :: p).flatMap cWd ++ cWd w = ((x :: p) ++ [w]).flatMap cWd := by simp
      have e2 : lT (lT Y τ (x :: p)) τ ((x :: p) ++ [w]) = lT Y τ ((x :: p) ++ [w]) := St.setTip_setTip _ _ _ _
      have e3 : (x :: p).length + 1 = ((x :: p) ++ [w]).length := by simp
      rw [e1, e3]
      rw [← e2] at this
      exact this
theorem lT_le {s s' : St} (h : St.le s s') (τ : Nat) (p : List Wd) : St.le (lT s τ p) (lT s' τ p) := by
  cases p with
  | nil => exact h
  | cons x p => exact St.le_setTc h
def WordsR (σ : St) (o : Except Nat (List Wd)) (r : AV) (s : St) : Prop :=
  match o with
  | .error b => r = .tup [.nils, .int .i64 (b : Nat), .bool false] ∧ s = σ
  | .ok ws => ∃ τ, (ws ≠ [] → σ.tip τ = none) ∧ r = .tup [lV τ ws, .int .i64 0, .bool true] ∧ s = lT σ τ ws
set_option maxHeartbeats 4000000 in
theorem a_words (σ : St) (l : List UInt8) (hl : l.length ≤ 1000000) : AC Tryd.prog 48 [.str l] σ (WordsR σ (wordsS l)) := by
  have hc1 : True := trivial
  have q1 : True := trivial
  have q2 : True := trivial
  have q3 : True := trivial
  have hw : True := trivial
  (refine AC_intro c48 b48 (Nat.le_of_ble_eq_true rfl) ?_; simp only [c48, ↓R1, R2, R3, R4, R5, Nat.reduceEqDiff, Nat.reduceAdd, Nat.reduceMul, Nat.reduceSub, Nat.reduceLeDiff, Nat.reduceLT, reduceIte, reduceCtorEq, Int.reduceBNe, Int.reduceBEq, u8_35, hc1, q1, q2, q3, hw])
  repeat' (first | (with_reducible rw [allocV_eq]) | (refine gdV_split (fun hc => ?_) (fun hc => ?_) <;> (try simp only [hc, ↓R1, R2, R3, R4, R5, Nat.reduceEqDiff, Nat.reduceAdd, Nat.reduceMul, Nat.reduceSub, Nat.reduceLeDiff, Nat.reduceLT, reduceIte, reduceCtorEq, Int.reduceBNe, Int.reduceBEq, u8_35, hc1, q1, q2, q3, hw])) | ((first | refine condV_split (fun hc => ?_) (fun hc => ?_) | (with_reducible intro β hβ; (try simp only [St.box_noneA, St.tip_noneA, St.tip_set, St.box_tip, St.box_lp, St.tip_lp] at hβ); (repeat (obtain ⟨⟨_, _⟩, hβ⟩ := hβ)); (try (have hbis := apart_is (by assumption) hβ; obtain ⟨_, _⟩ := hbis)))) <;> (try simp only [↓R1, R2, R3, R4, R5, Nat.reduceEqDiff, Nat.reduceAdd, Nat.reduceMul, Nat.reduceSub, Nat.reduceLeDiff, Nat.reduceLT, reduceIte, reduceCtorEq, Int.reduceBNe, Int.reduceBEq, u8_35, hc1, q1, q2, q3, hw])) | (with_reducible refine And.intro ?_ ?_; (focus (first | omega | (intros; (repeat' (with_reducible apply And.intro)) <;> first | omega | (simp only [cWd_len, List.length_append, List.length_cons, List.length_nil]; omega))))) | (with_reducible apply And.intro))
  refine (AC.wk (a_skip (k := 0) (l := l) (by simp only [↓R1, R2, R3, R4, R5, Nat.reduceEqDiff, Nat.reduceAdd, Nat.reduceMul, Nat.reduceSub, Nat.reduceLeDiff, Nat.reduceLT, reduceIte, reduceCtorEq, Int.reduceBNe, Int.reduceBEq, u8_35, hc1, q1, q2, q3, hw]; rfl) (Nat.zero_le _) hl) (wkL_refl _)).mono ?_
  rintro _ _ ⟨rfl, rfl⟩
  rw [List.drop_zero]
  simp only [↓R1, R2, R3, R4, R5, Nat.reduceEqDiff, Nat.reduceAdd, Nat.reduceMul, Nat.reduceSub, Nat.reduceLeDiff, Nat.reduceLT, reduceIte, reduceCtorEq, Int.reduceBNe, Int.reduceBEq, u8_35, hc1, q1, q2, q3, hw]
  revert hβ
  revert β
  intro u hu
  have hz : posOf l (l.dropWhile isBlank) ≤ l.length := by simp [posOf]
  have hz2 : l.drop (posOf l (l.dropWhile isBlank)) = l.dropWhile isBlank := (drop_pos (List.dropWhile_suffix _)).1
  refine loopV_st (α := Nat × Nat × List Wd) (fun z => [(2, lV z.2.1 z.2.2), (5, .ptr u 0)]) (fun z => lT (σ.setBox u [.str l, .int .i64 (z.1 : Nat)]) z.2.1 z.2.2)
    (fun z => z.1 ≤ l.length ∧ (z.2.2 ≠ [] → σ.tip z.2.1 = none) ∧ z.2.2.length ≤ z.1 ∧ (l.drop z.1).dropWhile isBlank = l.drop z.1 ∧ wordsS l = preE z.2.2 (wordsR (l.drop z.1) z.1)) (fun z => l.length - z.1) (posOf l (l.dropWhile isBlank), 0, [])
    (by simp [subF, slot, wk_refl, lV]) (by simp only [↓R1, R2, R3, R4, R5, Nat.reduceEqDiff, Nat.reduceAdd, Nat.reduceMul, Nat.reduceSub, Nat.reduceLeDiff, Nat.reduceLT, reduceIte, reduceCtorEq, Int.reduceBNe, Int.reduceBEq, u8_35, hc1, q1, q2, q3, hw]; exact St.le_refl _) ⟨hz, (fun h => absurd rfl h), Nat.zero_le _, (by rw [hz2, dropWhile_idem]), (by rw [preE_nil, hz2, wordsS, wordsR_skip, Nat.zero_add]; rfl)⟩ ?_
  rintro ⟨i, τ, pre⟩ ⟨hi, hτ, hlen, hdw, hI⟩
  simp only at hi hτ hlen hdw hI
  have hbS : ∀ (i : Nat) τ pre, (lT (σ.setBox u [.str l, .int .i64 i]) τ pre).box u = some [.str l, .int .i64 i] := fun i τ pre => by rw [lT_box]; simp only [↓R1, R2, R3, R4, R5, Nat.reduceEqDiff, Nat.reduceAdd, Nat.reduceMul, Nat.reduceSub, Nat.reduceLeDiff, Nat.reduceLT, reduceIte, reduceCtorEq, Int.reduceBNe, Int.reduceBEq, u8_35, hc1, q1, q2, q3, hw]
  have hset : ∀ (i j : Nat) τ pre, (lT (σ.setBox u [.str l, .int .i64 i]) τ pre).setBox u [.str l, .int .i64 j] = lT (σ.setBox u [.str l, .int .i64 j]) τ pre := fun i j τ pre => by rw [lT_set]; simp only [↓R1, R2, R3, R4, R5, Nat.reduceEqDiff, Nat.reduceAdd, Nat.reduceMul, Nat.reduceSub, Nat.reduceLeDiff, Nat.reduceLT, reduceIte, reduceCtorEq, Int.reduceBNe, Int.reduceBEq, u8_35, hc1, q1, q2, q3, hw]
  have fin : ∀ (i : Nat), wordsS l = .ok pre → WordsR σ (wordsS l) (.tup [lV τ pre, .int .i64 0, .bool true]) (lT σ τ pre) := fun i h => by rw [h]; exact ⟨τ, hτ, rfl, rfl⟩
  have hle : ∀ (i : Nat), St.le (lT σ τ pre) (lT (σ.setBox u [.str l, .int .i64 i]) τ pre) := fun i => by
    rw [← lT_set]; exact St.le_setBox (St.le_refl _) (by rw [lT_box]; exact hu)
  have hle0 : ∀ (i : Nat), St.le σ (lT (σ.setBox u [.str l, .int .i64 i]) τ pre) := fun i => by
    have h1 : St.le σ (σ.setBox u [.str l, .int .i64 i]) := St.le_setBox (St.le_refl _) hu
    cases pre with
    | nil => exact h1
    | cons x p => exact St.le_setTip h1 (hτ (by simp))
  simp only [↓R1, R2, R3, R4, R5, Nat.reduceEqDiff, Nat.reduceAdd, Nat.reduceMul, Nat.reduceSub, Nat.reduceLeDiff, Nat.reduceLT, reduceIte, reduceCtorEq, Int.reduceBNe, Int.reduceBEq, u8_35, hc1, q1, q2, q3, hw]
  have a1 := a_left (hbS i τ pre)
  have q3 := hbS i τ pre
  rcases drop_cases l i hi with ⟨hd, he⟩ | ⟨c, r, hd, hlt⟩
  · have hc1 : decide ((i : Int) < (l.length : Int)) = false := by simp; omega
    have hok : wordsS l = .ok pre := by rw [hI, hd, wordsR_eq]; simp [preE]
    repeat' (first | (with_reducible rw [allocV_eq]) | (refine gdV_split (fun hc => ?_) (fun hc => ?_) <;> (try simp only [hc, ↓R1, R2, R3, R4, R5, Nat.reduceEqDiff, Nat.reduceAdd, Nat.reduceMul, Nat.reduceSub, Nat.reduceLeDiff, Nat.reduceLT, reduceIte, reduceCtorEq, Int.reduceBNe, Int.reduceBEq, u8_35, hc1, q1, q2, q3, hw])) | ((first | refine condV_split (fun hc => ?_) (fun hc => ?_) | (with_reducible intro β hβ; (try simp only [St.box_noneA, St.tip_noneA, St.tip_set, St.box_tip, St.box_lp, St.tip_lp] at hβ); (repeat (obtain ⟨⟨_, _⟩, hβ⟩ := hβ)); (try (have hbis := apart_is (by assumption) hβ; obtain ⟨_, _⟩ := hbis)))) <;> (try simp only [↓R1, R2, R3, R4, R5, Nat.reduceEqDiff, Nat.reduceAdd, Nat.reduceMul, Nat.reduceSub, Nat.reduceLeDiff, Nat.reduceLT, reduceIte, reduceCtorEq, Int.reduceBNe, Int.reduceBEq, u8_35, hc1, q1, q2, q3, hw])) | (with_reducible refine And.intro ?_ ?_; (focus (first | omega | (intros; (repeat' (with_reducible apply And.intro)) <;> first | omega | (simp only [cWd_len, List.length_append, List.length_cons, List.length_nil]; omega))))) | (with_reducible apply And.intro) | ((first | (refine AC.mono (AC.wk (a1) (wkL_refl _)) ?_; (rintro _ _ ⟨rfl, rfl⟩))); (try simp only [↓R1, R2, R3, R4, R5, Nat.reduceEqDiff, Nat.reduceAdd, Nat.reduceMul, Nat.reduceSub, Nat.reduceLeDiff, Nat.reduceLT, reduceIte, reduceCtorEq, Int.reduceBNe, Int.reduceBEq, u8_35, hc1, q1, q2, q3, hw])))
    exact endP_intro (by simp) (by first | (simp [rvsS, rvS]; done) | (simp only [rvsS, rvS, ↓R1, R2, R3, R4, R5, Nat.reduceEqDiff, Nat.reduceAdd, Nat.reduceMul, Nat.reduceSub, Nat.reduceLeDiff, Nat.reduceLT, reduceIte, reduceCtorEq, Int.reduceBNe, Int.reduceBEq, u8_35, hc1, q1, q2, q3, hw]; try simp)) (wk_of_eq (by (simp only [resAV, rvV, List.map_cons, List.map_nil, ↓R1, R2, R3, R4, R5, Nat.reduceEqDiff, Nat.reduceAdd, Nat.reduceMul, Nat.reduceSub, Nat.reduceLeDiff, Nat.reduceLT, reduceIte, reduceCtorEq, Int.reduceBNe, Int.reduceBEq, u8_35, hc1, q1, q2, q3, hw]))) (hle i) (fin i hok)
  · have hc1 : decide ((i : Int) < (l.length : Int)) = true := by simpa using hlt
    have a2 := a_peek (hbS i τ pre) hd
    rw [wordsR_eq, hdw, hd] at hI
    simp only at hI
    by_cases h35 : c = 35
    · have q1 : ((c.toNat : Int) != 35) = false := by rw [bne, u8_35]; simpa using h35
      have hok : wordsS l = .ok pre := by rw [hI, if_pos h35]; simp [preE]
      repeat' (first | (with_reducible rw [allocV_eq]) | (refine gdV_split (fun hc => ?_) (fun hc => ?_) <;> (try simp only [hc, ↓R1, R2, R3, R4, R5, Nat.reduceEqDiff, Nat.reduceAdd, Nat.reduceMul, Nat.reduceSub, Nat.reduceLeDiff, Nat.reduceLT, reduceIte, reduceCtorEq, Int.reduceBNe, Int.reduceBEq, u8_35, hc1, q1, q2, q3, hw])) | ((first | refine condV_split (fun hc => ?_) (fun hc => ?_) | (with_reducible intro β hβ; (try simp only [St.box_noneA, St.tip_noneA, St.tip_set, St.box_tip, St.box_lp, St.tip_lp] at hβ); (repeat (obtain ⟨⟨_, _⟩, hβ⟩ := hβ)); (try (have hbis := apart_is (by assumption) hβ; obtain ⟨_, _⟩ := hbis)))) <;> (try simp only [↓R1, R2, R3, R4, R5, Nat.reduceEqDiff, Nat.reduceAdd, Nat.reduceMul, Nat.reduceSub, Nat.reduceLeDiff, Nat.reduceLT, reduceIte, reduceCtorEq, Int.reduceBNe, Int.reduceBEq, u8_35, hc1, q1, q2, q3, hw])) | (with_reducible refine And.intro ?_ ?_; (focus (first | omega | (intros; (repeat' (with_reducible apply And.intro)) <;> first | omega | (simp only [cWd_len, List.length_append, List.length_cons, List.length_nil]; omega))))) | (with_reducible apply And.intro) | ((first | (refine AC.mono (AC.wk (a1) (wkL_refl _)) ?_; (rintro _ _ ⟨rfl, rfl⟩)) | (refine AC.mono (AC.wk (a2) (wkL_refl _)) ?_; (rintro _ _ ⟨rfl, rfl⟩))); (try simp only [↓R1, R2, R3, R4, R5, Nat.reduceEqDiff, Nat.reduceAdd, Nat.reduceMul, Nat.reduceSub, Nat.reduceLeDiff, Nat.reduceLT, reduceIte, reduceCtorEq, Int.reduceBNe, Int.reduceBEq, u8_35, hc1, q1, q2, q3, hw])))
      exact endP_intro (by simp) (by first | (simp [rvsS, rvS]; done) | (simp only [rvsS, rvS, ↓R1, R2, R3, R4, R5, Nat.reduceEqDiff, Nat.reduceAdd, Nat.reduceMul, Nat.reduceSub, Nat.reduceLeDiff, Nat.reduceLT, reduceIte, reduceCtorEq, Int.reduceBNe, Int.reduceBEq, u8_35, hc1, q1, q2, q3, hw]; try simp)) (wk_of_eq (by (simp only [resAV, rvV, List.map_cons, List.map_nil, ↓R1, R2, R3, R4, R5, Nat.reduceEqDiff, Nat.reduceAdd, Nat.reduceMul, Nat.reduceSub, Nat.reduceLeDiff, Nat.reduceLT, reduceIte, reduceCtorEq, Int.reduceBNe, Int.reduceBEq, u8_35, hc1, q1, q2, q3, hw]))) (hle i) (fin i hok)
    · have q1 : ((c.toNat : Int) != 35) = true := by rw [bne, u8_35]; simpa using h35
      rw [if_neg h35] at hI
      have hlr : (l.drop i).length - (c :: r).length = 0 := by rw [hd]; omega
      have a3 := a_word (hbS i τ pre) hd hl
      cases hw0 : wordS (c :: r) with
      | none =>
        rw [hw0] at a3 hI
        repeat' (first | (with_reducible rw [allocV_eq]) | (refine gdV_split (fun hc => ?_) (fun hc => ?_) <;> (try simp only [hc, ↓R1, R2, R3, R4, R5, Nat.reduceEqDiff, Nat.reduceAdd, Nat.reduceMul, Nat.reduceSub, Nat.reduceLeDiff, Nat.reduceLT, reduceIte, reduceCtorEq, Int.reduceBNe, Int.reduceBEq, u8_35, hc1, q1, q2, q3, hw])) | ((first | refine condV_split (fun hc => ?_) (fun hc => ?_) | (with_reducible intro β hβ; (try simp only [St.box_noneA, St.tip_noneA, St.tip_set, St.box_tip, St.box_lp, St.tip_lp] at hβ); (repeat (obtain ⟨⟨_, _⟩, hβ⟩ := hβ)); (try (have hbis := apart_is (by assumption) hβ; obtain ⟨_, _⟩ := hbis)))) <;> (try simp only [↓R1, R2, R3, R4, R5, Nat.reduceEqDiff, Nat.reduceAdd, Nat.reduceMul, Nat.reduceSub, Nat.reduceLeDiff, Nat.reduceLT, reduceIte, reduceCtorEq, Int.reduceBNe, Int.reduceBEq, u8_35, hc1, q1, q2, q3, hw])) | (with_reducible refine And.intro ?_ ?_; (focus (first | omega | (intros; (repeat' (with_reducible apply And.intro)) <;> first | omega | (simp only [cWd_len, List.length_append, List.length_cons, List.length_nil]; omega))))) | (with_reducible apply And.intro) | ((first | (refine AC.mono (AC.wk (a1) (wkL_refl _)) ?_; (rintro _ _ ⟨rfl, rfl⟩)) | (refine AC.mono (AC.wk (a2) (wkL_refl _)) ?_; (rintro _ _ ⟨rfl, rfl⟩))); (try simp only [↓R1, R2, R3, R4, R5, Nat.reduceEqDiff, Nat.reduceAdd, Nat.reduceMul, Nat.reduceSub, Nat.reduceLeDiff, Nat.reduceLT, reduceIte, reduceCtorEq, Int.reduceBNe, Int.reduceBEq, u8_35, hc1, q1, q2, q3, hw])))
        refine (AC.wk a3 (wkL_refl _)).mono ?_
        rintro _ _ ⟨p, j, rfl, rfl⟩
        rw [hset]
        simp only [wdV, ↓R1, R2, R3, R4, R5, Nat.reduceEqDiff, Nat.reduceAdd, Nat.reduceMul, Nat.reduceSub, Nat.reduceLeDiff, Nat.reduceLT, reduceIte, reduceCtorEq, Int.reduceBNe, Int.reduceBEq, u8_35, hc1, q1, q2, q3, hw]
        repeat' (first | (with_reducible rw [allocV_eq]) | (refine gdV_split (fun hc => ?_) (fun hc => ?_) <;> (try simp only [hc, ↓R1, R2, R3, R4, R5, Nat.reduceEqDiff, Nat.reduceAdd, Nat.reduceMul, Nat.reduceSub, Nat.reduceLeDiff, Nat.reduceLT, reduceIte, reduceCtorEq, Int.reduceBNe, Int.reduceBEq, u8_35, hc1, q1, q2, q3, hw])) | ((first | refine condV_split (fun hc => ?_) (fun hc => ?_) | (with_reducible intro β hβ; (try simp only [St.box_noneA, St.tip_noneA, St.tip_set, St.box_tip, St.box_lp, St.tip_lp] at hβ); (repeat (obtain ⟨⟨_, _⟩, hβ⟩ := hβ)); (try (have hbis := apart_is (by assumption) hβ; obtain ⟨_, _⟩ := hbis)))) <;> (try simp only [↓R1, R2, R3, R4, R5, Nat.reduceEqDiff, Nat.reduceAdd, Nat.reduceMul, Nat.reduceSub, Nat.reduceLeDiff, Nat.reduceLT, reduceIte, reduceCtorEq, Int.reduceBNe, Int.reduceBEq, u8_35, hc1, q1, q2, q3, hw])) | (with_reducible refine And.intro ?_ ?_; (focus (first | omega | (intros; (repeat' (with_reducible apply And.intro)) <;> first | omega | (simp only [cWd_len, List.length_append, List.length_cons, List.length_nil]; omega))))) | (with_reducible apply And.intro))
        rw [lT_box, St.box_noneA] at hβ
        obtain ⟨⟨_, _⟩, hβ⟩ := hβ
        refine endP_intro (r := .tup [.nils, .int .i64 (i : Nat), .bool false]) (by simp) (by first | (simp [rvsS, rvS]; done) | (simp only [rvsS, rvS, ↓R1, R2, R3, R4, R5, Nat.reduceEqDiff, Nat.reduceAdd, Nat.reduceMul, Nat.reduceSub, Nat.reduceLeDiff, Nat.reduceLT, reduceIte, reduceCtorEq, Int.reduceBNe, Int.reduceBEq, u8_35, hc1, q1, q2, q3, hw]; try simp)) (wk_of_eq (by (simp only [resAV, rvV, List.map_cons, List.map_nil, ↓R1, R2, R3, R4, R5, Nat.reduceEqDiff, Nat.reduceAdd, Nat.reduceMul, Nat.reduceSub, Nat.reduceLeDiff, Nat.reduceLT, reduceIte, reduceCtorEq, Int.reduceBNe, Int.reduceBEq, u8_35, hc1, q1, q2, q3, hw]))) (St.le_new (hle0 j) (by assumption)) ?_
        rw [hI]
        simp only [preE, WordsR, Nat.sub_self, Nat.add_zero, true_and]
      | some q =>
        obtain ⟨q, t, m⟩ := q
        rw [hw0] at a3 hI
        obtain ⟨hdm, hml⟩ := drop_pos ((wordS_suf hw0).trans (by rw [← hd]; exact drop_suf l i))
        have hmlen := wordS_len hw0
        have hpm : posOf l m = l.length - m.length := rfl
        have hcl : (c :: r).length = l.length - i := by rw [← hd]; simp
        repeat' (first | (with_reducible rw [allocV_eq]) | (refine gdV_split (fun hc => ?_) (fun hc => ?_) <;> (try simp only [hc, ↓R1, R2, R3, R4, R5, Nat.reduceEqDiff, Nat.reduceAdd, Nat.reduceMul, Nat.reduceSub, Nat.reduceLeDiff, Nat.reduceLT, reduceIte, reduceCtorEq, Int.reduceBNe, Int.reduceBEq, u8_35, hc1, q1, q2, q3, hw])) | ((first | refine condV_split (fun hc => ?_) (fun hc => ?_) | (with_reducible intro β hβ; (try simp only [St.box_noneA, St.tip_noneA, St.tip_set, St.box_tip, St.box_lp, St.tip_lp] at hβ); (repeat (obtain ⟨⟨_, _⟩, hβ⟩ := hβ)); (try (have hbis := apart_is (by assumption) hβ; obtain ⟨_, _⟩ := hbis)))) <;> (try simp only [↓R1, R2, R3, R4, R5, Nat.reduceEqDiff, Nat.reduceAdd, Nat.reduceMul, Nat.reduceSub, Nat.reduceLeDiff, Nat.reduceLT, reduceIte, reduceCtorEq, Int.reduceBNe, Int.reduceBEq, u8_35, hc1, q1, q2, q3, hw])) | (with_reducible refine And.intro ?_ ?_; (focus (first | omega | (intros; (repeat' (with_reducible apply And.intro)) <;> first | omega | (simp only [cWd_len, List.length_append, List.length_cons, List.length_nil]; omega))))) | (with_reducible apply And.intro) | ((first | (refine AC.mono (AC.wk (a1) (wkL_refl _)) ?_; (rintro _ _ ⟨rfl, rfl⟩)) | (refine AC.mono (AC.wk (a2) (wkL_refl _)) ?_; (rintro _ _ ⟨rfl, rfl⟩))); (try simp only [↓R1, R2, R3, R4, R5, Nat.reduceEqDiff, Nat.reduceAdd, Nat.reduceMul, Nat.reduceSub, Nat.reduceLeDiff, Nat.reduceLT, reduceIte, reduceCtorEq, Int.reduceBNe, Int.reduceBEq, u8_35, hc1, q1, q2, q3, hw])))
        refine (AC.wk a3 (wkL_refl _)).mono ?_
        rintro _ _ ⟨rfl, rfl⟩
        rw [hset]
        simp only [wdV, ↓R1, R2, R3, R4, R5, Nat.reduceEqDiff, Nat.reduceAdd, Nat.reduceMul, Nat.reduceSub, Nat.reduceLeDiff, Nat.reduceLT, reduceIte, reduceCtorEq, Int.reduceBNe, Int.reduceBEq, u8_35, hc1, q1, q2, q3, hw]
        repeat' (first | (with_reducible rw [allocV_eq]) | (refine gdV_split (fun hc => ?_) (fun hc => ?_) <;> (try simp only [hc, ↓R1, R2, R3, R4, R5, Nat.reduceEqDiff, Nat.reduceAdd, Nat.reduceMul, Nat.reduceSub, Nat.reduceLeDiff, Nat.reduceLT, reduceIte, reduceCtorEq, Int.reduceBNe, Int.reduceBEq, u8_35, hc1, q1, q2, q3, hw])) | ((first | refine condV_split (fun hc => ?_) (fun hc => ?_) | (with_reducible intro β hβ; (try simp only [St.box_noneA, St.tip_noneA, St.tip_set, St.box_tip, St.box_lp, St.tip_lp] at hβ); (repeat (obtain ⟨⟨_, _⟩, hβ⟩ := hβ)); (try (have hbis := apart_is (by assumption) hβ; obtain ⟨_, _⟩ := hbis)))) <;> (try simp only [↓R1, R2, R3, R4, R5, Nat.reduceEqDiff, Nat.reduceAdd, Nat.reduceMul, Nat.reduceSub, Nat.reduceLeDiff, Nat.reduceLT, reduceIte, reduceCtorEq, Int.reduceBNe, Int.reduceBEq, u8_35, hc1, q1, q2, q3, hw])) | (with_reducible refine And.intro ?_ ?_; (focus (first | omega | (intros; (repeat' (with_reducible apply And.intro)) <;> first | omega | (simp only [cWd_len, List.length_append, List.length_cons, List.length_nil]; omega))))) | (with_reducible apply And.intro))
        rw [lT_box, St.box_noneA] at hβ
        obtain ⟨⟨_, _⟩, hβ⟩ := hβ
        rw [lT_set, lT_set]
        refine lV_app (P := Tryd.prog) (w := ⟨q, t, i⟩) (by omega) hτ (fun τ' hτ' => ?_)
        simp only [↓R1, R2, R3, R4, R5, Nat.reduceEqDiff, Nat.reduceAdd, Nat.reduceMul, Nat.reduceSub, Nat.reduceLeDiff, Nat.reduceLT, reduceIte, reduceCtorEq, Int.reduceBNe, Int.reduceBEq, u8_35, hc1, q1, q2, q3, hw]
        have hbu : ∀ p, (lT (((σ.setBox u [.str l, .int .i64 (posOf l m : Nat)]).setBox β [.bool false, .str [], .int .i64 0]).setBox β [.bool q, .str t, .int .i64 (i : Nat)]) τ' p).box u = some [.str l, .int .i64 (posOf l m : Nat)] := fun p => by
          rw [lT_box]; simp only [↓R1, R2, R3, R4, R5, Nat.reduceEqDiff, Nat.reduceAdd, Nat.reduceMul, Nat.reduceSub, Nat.reduceLeDiff, Nat.reduceLT, reduceIte, reduceCtorEq, Int.reduceBNe, Int.reduceBEq, u8_35, hc1, q1, q2, q3, hw]
        refine (AC.wk (a_skip (hbu _) hml hl) (wkL_refl _)).mono ?_
        rintro _ _ ⟨rfl, rfl⟩
        rw [hdm, lT_set]
        simp only [↓R1, R2, R3, R4, R5, Nat.reduceEqDiff, Nat.reduceAdd, Nat.reduceMul, Nat.reduceSub, Nat.reduceLeDiff, Nat.reduceLT, reduceIte, reduceCtorEq, Int.reduceBNe, Int.reduceBEq, u8_35, hc1, q1, q2, q3, hw]
        have hsuf : m.dropWhile isBlank <:+ l := (List.dropWhile_suffix _).trans ((wordS_suf hw0).trans (by rw [← hd]; exact drop_suf l i))
        obtain ⟨hd4, hl4⟩ := drop_pos hsuf
        have hp4 : posOf l (m.dropWhile isBlank) = l.length - (m.dropWhile isBlank).length := rfl
        have hl5 := dropWhile_len isBlank m
        refine ⟨(posOf l (m.dropWhile isBlank), τ', pre ++ [⟨q, t, i⟩]), ⟨hl4, fun _ => hτ', ?_, ?_, ?_⟩, by simp [subF, slot, wk_refl], lT_le (St.le_setBox (St.le_refl _) (by rw [St.box_noneA]; exact ⟨⟨by assumption, by assumption⟩, hβ⟩)) _ _, ?_⟩
        · simp only [List.length_append, List.length_cons, List.length_nil]; omega
        · rw [hd4, dropWhile_idem]
        · rw [hI, hd4]
          simp only
          rw [preE_cons, preE_pre, wordsR_skip m]
          rw [show i + ((c :: r).length - m.length) + (m.length - (m.dropWhile isBlank).length) = posOf l (m.dropWhile isBlank) by omega]
          simp only [Nat.sub_self, Nat.add_zero]
        · simp only; omega
end Go.Proofs.YtemddijemikleaaDoor
namespace Go.Proofs.YtemddijemikleaaDoor
open Go.Abs
set_option linter.all false
set_option maxRecDepth 100000
theorem p67 (s : List UInt8) (c : UInt8) : Pu Tryd.prog 67 [.str s, .str [c]] (.int .i64 (Lib.indexByte s c)) := by
  intro σ
  refine AC.of_calls (Go.Proofs.enters_of Tryd.func67 (by kernel_rfl) rfl) ?_
  intro g w vs hI hv
  obtain ⟨v1, vs, rfl, r1, hv⟩ := hv.cons_inv
  obtain ⟨v2, vs, rfl, r2, hv⟩ := hv.cons_inv
  rw [hv.nil_inv, r1.str_inv, r2.str_inv]
  refine (Tryd.strings_Index_one ⟨s.toArray⟩ c w).mono ?_
  rintro e w' ⟨rfl, rfl⟩
  exact ⟨_, rfl, Go.RowKit.Below.refl _ _, fun g' _ => .int _ _⟩
theorem a_split (σ : St) (l : List UInt8) : AC Tryd.prog 46 [.str l, .str [10]] σ (fun r s => ∃ β0 β1 β2, σ.box β0 = none ∧ σ.box β1 = none ∧ σ.box β2 = none ∧ (Apart β1 β0 ∧ Apart β0 β1) ∧ (Apart β2 β0 ∧ Apart β0 β2) ∧ (Apart β2 β1 ∧ Apart β1 β2) ∧
    r = .fn 65 [.ptr β1 0, .ptr β0 0, .ptr β2 0] ∧ s = ((σ.setBox β0 [.str l]).setBox β1 [.str [10]]).setBox β2 [.int .i64 1]) := by
  have h : ∀ σ : St, AC Tryd.prog 56 [.str l, .str [10], .int .i64 1] σ (fun r s => ∃ β0 β1 β2, σ.box β0 = none ∧ σ.box β1 = none ∧ σ.box β2 = none ∧ (Apart β1 β0 ∧ Apart β0 β1) ∧ (Apart β2 β0 ∧ Apart β0 β2) ∧ (Apart β2 β1 ∧ Apart β1 β2) ∧
      r = .fn 65 [.ptr β1 0, .ptr β0 0, .ptr β2 0] ∧ s = ((σ.setBox β0 [.str l]).setBox β1 [.str [10]]).setBox β2 [.int .i64 1]) := fun σ => by
    (refine AC_intro c56 b56 (Nat.le_of_ble_eq_true rfl) ?_; simp only [c56, ↓R1, R2, R3, R4, R5, Nat.reduceEqDiff, Nat.reduceAdd, Nat.reduceMul, Nat.reduceSub, Nat.reduceLeDiff, Nat.reduceLT, reduceIte, reduceCtorEq, Int.reduceBNe, Int.reduceBEq])
    intro β0 h0 β1 h1 β2 h2
    simp only [St.box_noneA] at h1 h2
    refine endP_id (by simp) (by simp [rvsS, rvS]) ?_
    exact ⟨β0, β1, β2, h0, h1.2, h2.2.2, h1.1, h2.2.1, h2.1, rfl, rfl⟩
  (refine AC_intro c46 b46 (Nat.le_of_ble_eq_true rfl) ?_; simp only [c46, ↓R1, R2, R3, R4, R5, Nat.reduceEqDiff, Nat.reduceAdd, Nat.reduceMul, Nat.reduceSub, Nat.reduceLeDiff, Nat.reduceLT, reduceIte, reduceCtorEq, Int.reduceBNe, Int.reduceBEq])
  refine (AC.wk (h σ) (wkL_refl _)).mono ?_
  rintro _ _ ⟨β0, β1, β2, h0, h1, h2, h3, h4, h5, rfl, rfl⟩
  simp only [↓R1, R2, R3, R4, R5, Nat.reduceEqDiff, Nat.reduceAdd, Nat.reduceMul, Nat.reduceSub, Nat.reduceLeDiff, Nat.reduceLT, reduceIte, reduceCtorEq, Int.reduceBNe, Int.reduceBEq]
  refine endP_id (by simp) (by simp [rvsS, rvS]) ?_
  exact ⟨β0, β1, β2, h0, h1, h2, h3, h4, h5, rfl, rfl⟩
theorem cut_none {l : List UInt8} (h : afterOf l = []) : cut l = (l, none) := by simp only [cut, h]
theorem cut_some {l r : List UInt8} {c : UInt8} (h : afterOf l = c :: r) : cut l = (lineOf l ++ [10], some r) ∧ l.take ((lineOf l).length + 1) = lineOf l ++ [10] ∧ l.drop ((lineOf l).length + 1) = r ∧ (lineOf l).length + 1 ≤ l.length := by
  have h1 := line_after l
  rw [h] at h1
  have hc := after_head h
  subst hc
  have h2 : l = (lineOf l ++ [10]) ++ r := by rw [List.append_assoc]; exact h1.symm
  have hn : (lineOf l ++ [10]).length = (lineOf l).length + 1 := by simp
  refine ⟨by simp only [cut, h], ?_, ?_, ?_⟩
  · exact (congrArg (List.take _) h2).trans (List.take_left' hn)
  · exact (congrArg (List.drop _) h2).trans (List.drop_left' hn)
  · have := congrArg List.length h2
    rw [List.length_append, hn] at this; omega
-- A loop over the lines of a text: 'T g rest' is the state when 'rest' is still to come.
set_option maxHeartbeats 2000000 in
theorem RF_lines {γ : Type} {prs : List Nat} {asg body : CC} {fr : Fr} {Q : Exit → Fr → St → Prop} {β0 β1 β2 : Nat} (T : γ → List UInt8 → St) (I : γ → List UInt8 → Prop) (J : γ → Prop) (hps : prs.length = 1) (g0 : γ) (l0 : List UInt8) (h0 : I g0 l0)
    (hb0 : ∀ g r, (T g r).box β0 = some [.str r]) (hb1 : ∀ g r, (T g r).box β1 = some [.str [10]]) (hb2 : ∀ g r, (T g r).box β2 = some [.int .i64 1])
    (hs : ∀ g r r', (T g r).setBox β0 [.str r'] = T g r') (hl : ∀ g r L, (T g r).lp L = (T g0 l0).lp L) (hlen : ∀ g r, I g r → r.length ≤ 1000000)
    (hround : ∀ L r g rest, (T g0 l0).lp L = none → I g rest → aC Tryd.prog asg (putL prs [.str (cut rest).1] fr) ((T g rest).setLp L (r, fr)) (fun e fr1 σ2 => e = .normal ∧ σ2.lp L = some (r, fr) ∧ aC Tryd.prog body fr1 (σ2.setLp L (busy r, fr)) (fun e _ σ3 => σ3.lp L = some (busy r, fr) ∧ match e with
        | .normal => ∃ g', St.le ((T g' rest).setLp L (r, fr)) (σ3.setLp L (r, fr)) ∧ (match (cut rest).2 with | none => J g' | some r' => I g' r')
        | .ret => Q .ret fr ((σ3.setLp L (left r .ret, fr)).dropLp L)
        | _ => False)))
    (hend : ∀ g r, J g → Q .normal fr (T g r)) : RF Tryd.prog 65 [.ptr β1 0, .ptr β0 0, .ptr β2 0] prs asg body fr (T g0 l0) Q := by
  refine ⟨by kernel_rfl, fun L r hL hr1 hr2 hY => ?_⟩
  have hY' : ∀ g rest, I g rest → YC Tryd.prog L [.str (cut rest).1] ((T g rest).setLp L (r, fr)) (fun v s' => (v = .bool true ∧ ∃ g', (match (cut rest).2 with | none => J g' | some r' => I g' r') ∧ s' = (T g' rest).setLp L (r, fr)) ∨ (v = .bool false ∧ s'.lp L = some (left r .ret, fr) ∧ Q .ret fr (s'.dropLp L))) := fun g rest hI => by
    refine YC.weaken (hY [.str (cut rest).1] ((T g rest).setLp L (r, fr)) (fun v s => (v = .bool true ∧ ∃ g', St.le ((T g' rest).setLp L (r, fr)) s ∧ (match (cut rest).2 with | none => J g' | some r' => I g' r')) ∨ (v = .bool false ∧ s.lp L = some (left r .ret, fr) ∧ Q .ret fr (s.dropLp L))) (by simpa using hps.symm) (St.lp_same _ _ _) ?_) ?_
    · refine aC_mono _ _ _ (hround L r g rest hL hI) (fun e fr1 σ2 h => ?_)
      obtain ⟨h1, h2, h3⟩ := h
      refine ⟨h1, h2, aC_mono _ _ _ h3 (fun e2 fr2 σ3 h4 => ?_)⟩
      obtain ⟨h5, h6⟩ := h4
      refine ⟨h5, ?_⟩
      cases e2 with
      | normal => obtain ⟨g', k1, k2⟩ := h6; exact .inl ⟨rfl, g', k1, k2⟩
      | ret => exact .inr ⟨rfl, St.lp_same _ _ _, h6⟩
      | _ => exact h6.elim
    · rintro v s (⟨rfl, g', k1, k2⟩ | ⟨rfl, k1, k2⟩)
      · exact ⟨_, _, wk_refl _, k1, .inl ⟨rfl, g', k2, rfl⟩⟩
      · exact ⟨_, _, wk_refl _, St.le_refl _, .inr ⟨rfl, k1, k2⟩⟩
  have hb0' : ∀ g rest, ((T g rest).setLp L (r, fr)).box β0 = some [.str rest] := fun g rest => hb0 g rest
  have hb1' : ∀ g rest, ((T g rest).setLp L (r, fr)).box β1 = some [.str [10]] := fun g rest => hb1 g rest
  have hb2' : ∀ g rest, ((T g rest).setLp L (r, fr)).box β2 = some [.int .i64 1] := fun g rest => hb2 g rest
  have hs' : ∀ g rest r', ((T g rest).setLp L (r, fr)).setBox β0 [.str r'] = (T g r').setLp L (r, fr) := fun g rest r' => by rw [← St.setBox_setLp, hs]
  have q1 : (((1 : Nat) : Int) == 0) = false := rfl
  have q2 : True := trivial
  have q3 : True := trivial
  have q4 : True := trivial
  have q5 : True := trivial
  have q6 : True := trivial
  refine AC_intro c65 b65 (Nat.le_of_ble_eq_true rfl) ?_
  simp only [c65, hb0, hb1, hb2, List.length_cons, List.length_nil, Nat.zero_add, ↓R1, R2, R3, R4, R5, Nat.reduceEqDiff, Nat.reduceAdd, Nat.reduceMul, Nat.reduceSub, Nat.reduceLeDiff, Nat.reduceLT, reduceIte, reduceCtorEq, Int.reduceBNe, Int.reduceBEq, hb0', hb1', hb2', q1, q2, q3, q4, q5, q6]
  refine loopV_st (α := γ × List UInt8) (fun _ => [(0, .yld L), (1, .ptr β1 0), (2, .ptr β0 0), (3, .ptr β2 0)]) (fun z => (T z.1 z.2).setLp L (r, fr)) (fun z => I z.1 z.2) (fun z => z.2.length) (g0, l0) (by simp [subF, slot, wk_refl]) (St.le_refl _) h0 ?_
  rintro ⟨g, rest⟩ hI
  simp only at hI
  have hn := hlen g rest hI
  have hy := hY' g rest hI
  have hix := p67 rest 10
  simp only [hb0', hb1', hb2', ↓R1, R2, R3, R4, R5, Nat.reduceEqDiff, Nat.reduceAdd, Nat.reduceMul, Nat.reduceSub, Nat.reduceLeDiff, Nat.reduceLT, reduceIte, reduceCtorEq, Int.reduceBNe, Int.reduceBEq, hb0', hb1', hb2', q1, q2, q3, q4, q5, q6]
  rw [index_line] at hix
  cases ha : afterOf rest with
  | nil =>
    rw [ha] at hix
    rw [cut_none ha] at hy
    simp only at hix
    have q2 : decide ((-1 : Int) < 0) = true := rfl
    repeat' (first | (with_reducible rw [allocV_eq]) | (refine gdV_split (fun hc => ?_) (fun hc => ?_) <;> (try simp only [hc, ↓R1, R2, R3, R4, R5, Nat.reduceEqDiff, Nat.reduceAdd, Nat.reduceMul, Nat.reduceSub, Nat.reduceLeDiff, Nat.reduceLT, reduceIte, reduceCtorEq, Int.reduceBNe, Int.reduceBEq, hb0', hb1', hb2', q1, q2, q3, q4, q5, q6])) | ((first | refine condV_split (fun hc => ?_) (fun hc => ?_) | (with_reducible intro β hβ; (try simp only [St.box_noneA, St.tip_noneA, St.tip_set, St.box_tip, St.box_lp, St.tip_lp] at hβ); (repeat (obtain ⟨⟨_, _⟩, hβ⟩ := hβ)); (try (have hbis := apart_is (by assumption) hβ; obtain ⟨_, _⟩ := hbis))) | ((first | (refine appD_tslK (.inr rfl) rfl ?_ ?_ ?_ ?_ ?_ ?_; (first | rfl | exact St.tip_same _ _ _ | (simp only [↓R1, R2, R3, R4, R5, Nat.reduceEqDiff, Nat.reduceAdd, Nat.reduceMul, Nat.reduceSub, Nat.reduceLeDiff, Nat.reduceLT, reduceIte, reduceCtorEq, Int.reduceBNe, Int.reduceBEq, hb0', hb1', hb2', q1, q2, q3, q4, q5, q6])); (first | omega | (simp only [List.length_map, List.length_nil, List.length_cons]; omega) | (simp only [List.length_map, List.length_nil, List.length_cons])); (first | rfl | first | omega | (simp only [List.length_map, List.length_nil, List.length_cons]; omega) | (simp only [List.length_map, List.length_nil, List.length_cons]))) | (refine appV_tslK rfl ?_ ?_ ?_ ?_ ?_ ?_; (first | rfl | exact St.tip_same _ _ _ | (simp only [↓R1, R2, R3, R4, R5, Nat.reduceEqDiff, Nat.reduceAdd, Nat.reduceMul, Nat.reduceSub, Nat.reduceLeDiff, Nat.reduceLT, reduceIte, reduceCtorEq, Int.reduceBNe, Int.reduceBEq, hb0', hb1', hb2', q1, q2, q3, q4, q5, q6])); (first | omega | (simp only [List.length_map, List.length_nil, List.length_cons]; omega) | (simp only [List.length_map, List.length_nil, List.length_cons])); (first | rfl | first | omega | (simp only [List.length_map, List.length_nil, List.length_cons]; omega) | (simp only [List.length_map, List.length_nil, List.length_cons]))) | (refine appV_own ?_ ?_ ?_ ?_; exact flat_len (by intro _; rfl) _) | (refine appD_own ?_ ?_ ?_ ?_ ?_; omega; exact flat_len (by intro _; rfl) _) | (refine appV_fresh rfl trivial rfl ?_ ?_ ?_ ?_ ?_; (first | rfl | first | omega | (simp only [List.length_map, List.length_nil, List.length_cons]; omega) | (simp only [List.length_map, List.length_nil, List.length_cons])); (first | rfl | first | omega | (simp only [List.length_map, List.length_nil, List.length_cons]; omega) | (simp only [List.length_map, List.length_nil, List.length_cons]))) | (refine appD_fresh rfl trivial rfl ?_ ?_ ?_ ?_ ?_ ?_; omega; (first | rfl | first | omega | (simp only [List.length_map, List.length_nil, List.length_cons]; omega) | (simp only [List.length_map, List.length_nil, List.length_cons])); (first | rfl | first | omega | (simp only [List.length_map, List.length_nil, List.length_cons]; omega) | (simp only [List.length_map, List.length_nil, List.length_cons])))); (unfold maxLen; omega); omega)) <;> (try simp only [↓R1, R2, R3, R4, R5, Nat.reduceEqDiff, Nat.reduceAdd, Nat.reduceMul, Nat.reduceSub, Nat.reduceLeDiff, Nat.reduceLT, reduceIte, reduceCtorEq, Int.reduceBNe, Int.reduceBEq, hb0', hb1', hb2', q1, q2, q3, q4, q5, q6])) | (with_reducible refine And.intro ?_ ?_; (focus (first | omega | (intros; (repeat' (with_reducible apply And.intro)) <;> first | omega | (simp only [List.length_map]; omega))))) | (with_reducible apply And.intro) | ((first | refine Pu.to (hix) (wkL_refl _) ?_ | refine callDV_pu (hix) (wkL_refl _) ?_); (try simp only [↓R1, R2, R3, R4, R5, Nat.reduceEqDiff, Nat.reduceAdd, Nat.reduceMul, Nat.reduceSub, Nat.reduceLeDiff, Nat.reduceLT, reduceIte, reduceCtorEq, Int.reduceBNe, Int.reduceBEq, hb0', hb1', hb2', q1, q2, q3, q4, q5, q6])))
    refine YC.mono hy ?_
    rintro v s' (⟨rfl, g', hJ, rfl⟩ | ⟨rfl, h1, h2⟩)
    · simp only [↓R1, R2, R3, R4, R5, Nat.reduceEqDiff, Nat.reduceAdd, Nat.reduceMul, Nat.reduceSub, Nat.reduceLeDiff, Nat.reduceLT, reduceIte, reduceCtorEq, Int.reduceBNe, Int.reduceBEq, hb0', hb1', hb2', q1, q2, q3, q4, q5, q6]
      refine endP_id (by simp) (by simp [rvsS]) (.inl ⟨St.lp_same _ _ _, ?_⟩)
      rw [St.drop_set (by rw [hl, hL])]
      exact hend g' rest hJ
    · simp only [↓R1, R2, R3, R4, R5, Nat.reduceEqDiff, Nat.reduceAdd, Nat.reduceMul, Nat.reduceSub, Nat.reduceLeDiff, Nat.reduceLT, reduceIte, reduceCtorEq, Int.reduceBNe, Int.reduceBEq, hb0', hb1', hb2', q1, q2, q3, q4, q5, q6]
      exact endP_id (by simp) (by simp [rvsS]) (.inr (.inl ⟨h1, h2⟩))
  | cons c r' =>
    rw [ha] at hix
    simp only at hix
    obtain ⟨k1, k2, k3, k4⟩ := cut_some ha
    rw [k1] at hy
    have q2 : decide (((lineOf rest).length : Int) < 0) = false := by simp
    have q3 : IntKind.i64.wrap (((lineOf rest).length : Int) + 1) = (((lineOf rest).length + 1 : Nat) : Int) := by rw [wrap64 (by omega) (by omega)]; omega
    have q6 : IntKind.i64.wrap (((lineOf rest).length : Int) + ((1 : Nat) : Int)) = (((lineOf rest).length + 1 : Nat) : Int) := q3
    have q4 := k2
    have q5 := List.take_of_length_le (l := rest.drop ((lineOf rest).length + 1)) (i := rest.length - ((lineOf rest).length + 1)) (by simp)
    repeat' (first | (with_reducible rw [allocV_eq]) | (refine gdV_split (fun hc => ?_) (fun hc => ?_) <;> (try simp only [hc, ↓R1, R2, R3, R4, R5, Nat.reduceEqDiff, Nat.reduceAdd, Nat.reduceMul, Nat.reduceSub, Nat.reduceLeDiff, Nat.reduceLT, reduceIte, reduceCtorEq, Int.reduceBNe, Int.reduceBEq, hb0', hb1', hb2', q1, q2, q3, q4, q5, q6])) | ((first | refine condV_split (fun hc => ?_) (fun hc => ?_) | (with_reducible intro β hβ; (try simp only [St.box_noneA, St.tip_noneA, St.tip_set, St.box_tip, St.box_lp, St.tip_lp] at hβ); (repeat (obtain ⟨⟨_, _⟩, hβ⟩ := hβ)); (try (have hbis := apart_is (by assumption) hβ; obtain ⟨_, _⟩ := hbis))) | ((first | (refine appD_tslK (.inr rfl) rfl ?_ ?_ ?_ ?_ ?_ ?_; (first | rfl | exact St.tip_same _ _ _ | (simp only [↓R1, R2, R3, R4, R5, Nat.reduceEqDiff, Nat.reduceAdd, Nat.reduceMul, Nat.reduceSub, Nat.reduceLeDiff, Nat.reduceLT, reduceIte, reduceCtorEq, Int.reduceBNe, Int.reduceBEq, hb0', hb1', hb2', q1, q2, q3, q4, q5, q6])); (first | omega | (simp only [List.length_map, List.length_nil, List.length_cons]; omega) | (simp only [List.length_map, List.length_nil, List.length_cons])); (first | rfl | first | omega | (simp only [List.length_map, List.length_nil, List.length_cons]; omega) | (simp only [List.length_map, List.length_nil, List.length_cons]))) | (refine appV_tslK rfl ?_ ?_ ?_ ?_ ?_ ?_; (first | rfl | exact St.tip_same _ _ _ | (simp only [↓R1, R2, R3, R4, R5, Nat.reduceEqDiff, Nat.reduceAdd, Nat.reduceMul, Nat.reduceSub, Nat.reduceLeDiff, Nat.reduceLT, reduceIte, reduceCtorEq, Int.reduceBNe, Int.reduceBEq, hb0', hb1', hb2', q1, q2, q3, q4, q5, q6])); (first | omega | (simp only [List.length_map, List.length_nil, List.length_cons]; omega) | (simp only [List.length_map, List.length_nil, List.length_cons])); (first | rfl | first | omega | (simp only [List.length_map, List.length_nil, List.length_cons]; omega) | (simp only [List.length_map, List.length_nil, List.length_cons]))) | (refine appV_own ?_ ?_ ?_ ?_; exact flat_len (by intro _; rfl) _) | (refine appD_own ?_ ?_ ?_ ?_ ?_; omega; exact flat_len (by intro _; rfl) _) | (refine appV_fresh rfl trivial rfl ?_ ?_ ?_ ?_ ?_; (first | rfl | first | omega | (simp only [List.length_map, List.length_nil, List.length_cons]; omega) | (simp only [List.length_map, List.length_nil, List.length_cons])); (first | rfl | first | omega | (simp only [List.length_map, List.length_nil, List.length_cons]; omega) | (simp only [List.length_map, List.length_nil, List.length_cons]))) | (refine appD_fresh rfl trivial rfl ?_ ?_ ?_ ?_ ?_ ?_; omega; (first | rfl | first | omega | (simp only [List.length_map, List.length_nil, List.length_cons]; omega) | (simp only [List.length_map, List.length_nil, List.length_cons])); (first | rfl | first | omega | (simp only [List.length_map, List.length_nil, List.length_cons]; omega) | (simp only [List.length_map, List.length_nil, List.length_cons])))); (unfold maxLen; omega); omega)) <;> (try simp only [↓R1, R2, R3, R4, R5, Nat.reduceEqDiff, Nat.reduceAdd, Nat.reduceMul, Nat.reduceSub, Nat.reduceLeDiff, Nat.reduceLT, reduceIte, reduceCtorEq, Int.reduceBNe, Int.reduceBEq, hb0', hb1', hb2', q1, q2, q3, q4, q5, q6])) | (with_reducible refine And.intro ?_ ?_; (focus (first | omega | (intros; (repeat' (with_reducible apply And.intro)) <;> first | omega | (simp only [List.length_map]; omega))))) | (with_reducible apply And.intro) | ((first | refine Pu.to (hix) (wkL_refl _) ?_ | refine callDV_pu (hix) (wkL_refl _) ?_); (try simp only [↓R1, R2, R3, R4, R5, Nat.reduceEqDiff, Nat.reduceAdd, Nat.reduceMul, Nat.reduceSub, Nat.reduceLeDiff, Nat.reduceLT, reduceIte, reduceCtorEq, Int.reduceBNe, Int.reduceBEq, hb0', hb1', hb2', q1, q2, q3, q4, q5, q6])))
    all_goals first | omega | skip
    refine YC.mono hy ?_
    rintro v s' (⟨rfl, g', hJ, rfl⟩ | ⟨rfl, h1, h2⟩)
    · simp only [hb0', hb1', hb2', ↓R1, R2, R3, R4, R5, Nat.reduceEqDiff, Nat.reduceAdd, Nat.reduceMul, Nat.reduceSub, Nat.reduceLeDiff, Nat.reduceLT, reduceIte, reduceCtorEq, Int.reduceBNe, Int.reduceBEq, hb0', hb1', hb2', q1, q2, q3, q4, q5, q6]
      repeat' (first | (with_reducible rw [allocV_eq]) | (refine gdV_split (fun hc => ?_) (fun hc => ?_) <;> (try simp only [hc, ↓R1, R2, R3, R4, R5, Nat.reduceEqDiff, Nat.reduceAdd, Nat.reduceMul, Nat.reduceSub, Nat.reduceLeDiff, Nat.reduceLT, reduceIte, reduceCtorEq, Int.reduceBNe, Int.reduceBEq, hb0', hb1', hb2', q1, q2, q3, q4, q5, q6])) | ((first | refine condV_split (fun hc => ?_) (fun hc => ?_) | (with_reducible intro β hβ; (try simp only [St.box_noneA, St.tip_noneA, St.tip_set, St.box_tip, St.box_lp, St.tip_lp] at hβ); (repeat (obtain ⟨⟨_, _⟩, hβ⟩ := hβ)); (try (have hbis := apart_is (by assumption) hβ; obtain ⟨_, _⟩ := hbis))) | ((first | (refine appD_tslK (.inr rfl) rfl ?_ ?_ ?_ ?_ ?_ ?_; (first | rfl | exact St.tip_same _ _ _ | (simp only [↓R1, R2, R3, R4, R5, Nat.reduceEqDiff, Nat.reduceAdd, Nat.reduceMul, Nat.reduceSub, Nat.reduceLeDiff, Nat.reduceLT, reduceIte, reduceCtorEq, Int.reduceBNe, Int.reduceBEq, hb0', hb1', hb2', q1, q2, q3, q4, q5, q6])); (first | omega | (simp only [List.length_map, List.length_nil, List.length_cons]; omega) | (simp only [List.length_map, List.length_nil, List.length_cons])); (first | rfl | first | omega | (simp only [List.length_map, List.length_nil, List.length_cons]; omega) | (simp only [List.length_map, List.length_nil, List.length_cons]))) | (refine appV_tslK rfl ?_ ?_ ?_ ?_ ?_ ?_; (first | rfl | exact St.tip_same _ _ _ | (simp only [↓R1, R2, R3, R4, R5, Nat.reduceEqDiff, Nat.reduceAdd, Nat.reduceMul, Nat.reduceSub, Nat.reduceLeDiff, Nat.reduceLT, reduceIte, reduceCtorEq, Int.reduceBNe, Int.reduceBEq, hb0', hb1', hb2', q1, q2, q3, q4, q5, q6])); (first | omega | (simp only [List.length_map, List.length_nil, List.length_cons]; omega) | (simp only [List.length_map, List.length_nil, List.length_cons])); (first | rfl | first | omega | (simp only [List.length_map, List.length_nil, List.length_cons]; omega) | (simp only [List.length_map, List.length_nil, List.length_cons]))) | (refine appV_own ?_ ?_ ?_ ?_; exact flat_len (by intro _; rfl) _) | (refine appD_own ?_ ?_ ?_ ?_ ?_; omega; exact flat_len (by intro _; rfl) _) | (refine appV_fresh rfl trivial rfl ?_ ?_ ?_ ?_ ?_; (first | rfl | first | omega | (simp only [List.length_map, List.length_nil, List.length_cons]; omega) | (simp only [List.length_map, List.length_nil, List.length_cons])); (first | rfl | first | omega | (simp only [List.length_map, List.length_nil, List.length_cons]; omega) | (simp only [List.length_map, List.length_nil, List.length_cons]))) | (refine appD_fresh rfl trivial rfl ?_ ?_ ?_ ?_ ?_ ?_; omega; (first | rfl | first | omega | (simp only [List.length_map, List.length_nil, List.length_cons]; omega) | (simp only [List.length_map, List.length_nil, List.length_cons])); (first | rfl | first | omega | (simp only [List.length_map, List.length_nil, List.length_cons]; omega) | (simp only [List.length_map, List.length_nil, List.length_cons])))); (unfold maxLen; omega); omega)) <;> (try simp only [↓R1, R2, R3, R4, R5, Nat.reduceEqDiff, Nat.reduceAdd, Nat.reduceMul, Nat.reduceSub, Nat.reduceLeDiff, Nat.reduceLT, reduceIte, reduceCtorEq, Int.reduceBNe, Int.reduceBEq, hb0', hb1', hb2', q1, q2, q3, q4, q5, q6])) | (with_reducible refine And.intro ?_ ?_; (focus (first | omega | (intros; (repeat' (with_reducible apply And.intro)) <;> first | omega | (simp only [List.length_map]; omega))))) | (with_reducible apply And.intro))
      all_goals first | omega | skip
      rw [hs', k3]
      refine ⟨(g', r'), hJ, by simp [subF, slot, wk_refl], St.le_refl _, ?_⟩
      have := congrArg List.length k3
      simp only [List.length_drop] at this
      simp only; omega
    · simp only [↓R1, R2, R3, R4, R5, Nat.reduceEqDiff, Nat.reduceAdd, Nat.reduceMul, Nat.reduceSub, Nat.reduceLeDiff, Nat.reduceLT, reduceIte, reduceCtorEq, Int.reduceBNe, Int.reduceBEq, hb0', hb1', hb2', q1, q2, q3, q4, q5, q6]
      exact endP_id (by simp) (by simp [rvsS]) (.inr (.inl ⟨h1, h2⟩))
end Go.Proofs.YtemddijemikleaaDoor
namespace Go.Proofs.YtemddijemikleaaDoor
open Go.Abs
set_option linter.all false
set_option maxRecDepth 100000
/-- A text without the line feed at its end. -/
def trim1 (l : List UInt8) : List UInt8 := if 1 ≤ l.length ∧ l.drop (l.length - 1) = [10] then l.take (l.length - 1) else l
theorem p68 (l : List UInt8) (hl : l.length ≤ 1000000) : Pu Tryd.prog 68 [.str l, .str [10]] (.bool (decide (1 ≤ l.length ∧ l.drop (l.length - 1) = [10]))) := by
  have q1 : True := trivial
  have q2 : True := trivial
  have hw : True := trivial
  by_cases h : 1 ≤ l.length
  · have q1 : decide ((((1 : Nat) : Int)) ≤ (l.length : Int)) = true := by simp; omega
    have hw : IntKind.i64.wrap ((l.length : Int) - ((1 : Nat) : Int)) = ((l.length - 1 : Nat) : Int) := by rw [wrap64 (by omega) (by omega)]; omega
    (refine Pu_intro c68 b68 (Nat.le_of_ble_eq_true rfl) fun σ => ?_; simp only [c68, ↓R1, R2, R3, R4, R5, Nat.reduceEqDiff, Nat.reduceAdd, Nat.reduceMul, Nat.reduceSub, Nat.reduceLeDiff, Nat.reduceLT, reduceIte, reduceCtorEq, Int.reduceBNe, Int.reduceBEq, hw, q1, q2])
    repeat' (first | (with_reducible rw [allocV_eq]) | (refine gdV_split (fun hc => ?_) (fun hc => ?_) <;> (try simp only [hc, ↓R1, R2, R3, R4, R5, Nat.reduceEqDiff, Nat.reduceAdd, Nat.reduceMul, Nat.reduceSub, Nat.reduceLeDiff, Nat.reduceLT, reduceIte, reduceCtorEq, Int.reduceBNe, Int.reduceBEq, hw, q1, q2])) | ((first | refine condV_split (fun hc => ?_) (fun hc => ?_) | (with_reducible intro β hβ; (try simp only [St.box_noneA, St.tip_noneA, St.tip_set, St.box_tip, St.box_lp, St.tip_lp] at hβ); (repeat (obtain ⟨⟨_, _⟩, hβ⟩ := hβ)); (try (have hbis := apart_is (by assumption) hβ; obtain ⟨_, _⟩ := hbis)))) <;> (try simp only [↓R1, R2, R3, R4, R5, Nat.reduceEqDiff, Nat.reduceAdd, Nat.reduceMul, Nat.reduceSub, Nat.reduceLeDiff, Nat.reduceLT, reduceIte, reduceCtorEq, Int.reduceBNe, Int.reduceBEq, hw, q1, q2])) | (with_reducible refine And.intro ?_ ?_; (focus (first | omega | (intros; (repeat' (with_reducible apply And.intro)) <;> first | omega | (simp only [cWd_len, List.length_append, List.length_cons, List.length_nil]; omega))))) | (with_reducible apply And.intro))
    all_goals first | omega | skip
    (refine endP_pu (by simp) (by first | (simp [rvsS, rvS]; done) | (simp only [rvsS, rvS, ↓R1, R2, R3, R4, R5, Nat.reduceEqDiff, Nat.reduceAdd, Nat.reduceMul, Nat.reduceSub, Nat.reduceLeDiff, Nat.reduceLT, reduceIte, reduceCtorEq, Int.reduceBNe, Int.reduceBEq, hw, q1, q2]; try simp)) (wk_of_eq ?_) (by (repeat (first | exact St.le_refl _ | (refine St.le_new ?_ (by assumption)) | (refine St.le_newT ?_ (by assumption))))))
    (simp only [resAV, rvV, List.map_cons, List.map_nil, ↓R1, R2, R3, R4, R5, Nat.reduceEqDiff, Nat.reduceAdd, Nat.reduceMul, Nat.reduceSub, Nat.reduceLeDiff, Nat.reduceLT, reduceIte, reduceCtorEq, Int.reduceBNe, Int.reduceBEq, hw, q1, q2])
    have e : (l.drop (l.length - 1)).take (l.length - (l.length - 1)) = l.drop (l.length - 1) := List.take_of_length_le (by simp)
    rw [e]
    by_cases h2 : l.drop (l.length - 1) = [10] <;> simp [h, h2]
  · have q1 : decide ((((1 : Nat) : Int)) ≤ (l.length : Int)) = false := by simp; omega
    (refine Pu_intro c68 b68 (Nat.le_of_ble_eq_true rfl) fun σ => ?_; simp only [c68, ↓R1, R2, R3, R4, R5, Nat.reduceEqDiff, Nat.reduceAdd, Nat.reduceMul, Nat.reduceSub, Nat.reduceLeDiff, Nat.reduceLT, reduceIte, reduceCtorEq, Int.reduceBNe, Int.reduceBEq, hw, q1, q2])
    repeat' (first | (with_reducible rw [allocV_eq]) | (refine gdV_split (fun hc => ?_) (fun hc => ?_) <;> (try simp only [hc, ↓R1, R2, R3, R4, R5, Nat.reduceEqDiff, Nat.reduceAdd, Nat.reduceMul, Nat.reduceSub, Nat.reduceLeDiff, Nat.reduceLT, reduceIte, reduceCtorEq, Int.reduceBNe, Int.reduceBEq, hw, q1, q2])) | ((first | refine condV_split (fun hc => ?_) (fun hc => ?_) | (with_reducible intro β hβ; (try simp only [St.box_noneA, St.tip_noneA, St.tip_set, St.box_tip, St.box_lp, St.tip_lp] at hβ); (repeat (obtain ⟨⟨_, _⟩, hβ⟩ := hβ)); (try (have hbis := apart_is (by assumption) hβ; obtain ⟨_, _⟩ := hbis)))) <;> (try simp only [↓R1, R2, R3, R4, R5, Nat.reduceEqDiff, Nat.reduceAdd, Nat.reduceMul, Nat.reduceSub, Nat.reduceLeDiff, Nat.reduceLT, reduceIte, reduceCtorEq, Int.reduceBNe, Int.reduceBEq, hw, q1, q2])) | (with_reducible refine And.intro ?_ ?_; (focus (first | omega | (intros; (repeat' (with_reducible apply And.intro)) <;> first | omega | (simp only [cWd_len, List.length_append, List.length_cons, List.length_nil]; omega))))) | (with_reducible apply And.intro))
    (refine endP_pu (by simp) (by first | (simp [rvsS, rvS]; done) | (simp only [rvsS, rvS, ↓R1, R2, R3, R4, R5, Nat.reduceEqDiff, Nat.reduceAdd, Nat.reduceMul, Nat.reduceSub, Nat.reduceLeDiff, Nat.reduceLT, reduceIte, reduceCtorEq, Int.reduceBNe, Int.reduceBEq, hw, q1, q2]; try simp)) (wk_of_eq ?_) (by (repeat (first | exact St.le_refl _ | (refine St.le_new ?_ (by assumption)) | (refine St.le_newT ?_ (by assumption))))))
    (simp only [resAV, rvV, List.map_cons, List.map_nil, ↓R1, R2, R3, R4, R5, Nat.reduceEqDiff, Nat.reduceAdd, Nat.reduceMul, Nat.reduceSub, Nat.reduceLeDiff, Nat.reduceLT, reduceIte, reduceCtorEq, Int.reduceBNe, Int.reduceBEq, hw, q1, q2])
    simp [h]
theorem p57 (l : List UInt8) (hl : l.length ≤ 1000000) : Pu Tryd.prog 57 [.str l, .str [10]] (.str (trim1 l)) := by
  have q1 : True := trivial
  have q2 : True := trivial
  have hw : True := trivial
  have hp := p68 l hl
  by_cases h : 1 ≤ l.length ∧ l.drop (l.length - 1) = [10]
  · have hw : IntKind.i64.wrap ((l.length : Int) - ((1 : Nat) : Int)) = ((l.length - 1 : Nat) : Int) := by rw [wrap64 (by omega) (by omega)]; omega
    rw [decide_eq_true h] at hp
    (refine Pu_intro c57 b57 (Nat.le_of_ble_eq_true rfl) fun σ => ?_; simp only [c57, ↓R1, R2, R3, R4, R5, Nat.reduceEqDiff, Nat.reduceAdd, Nat.reduceMul, Nat.reduceSub, Nat.reduceLeDiff, Nat.reduceLT, reduceIte, reduceCtorEq, Int.reduceBNe, Int.reduceBEq, hw, q1, q2])
    repeat' (first | (with_reducible rw [allocV_eq]) | (refine gdV_split (fun hc => ?_) (fun hc => ?_) <;> (try simp only [hc, ↓R1, R2, R3, R4, R5, Nat.reduceEqDiff, Nat.reduceAdd, Nat.reduceMul, Nat.reduceSub, Nat.reduceLeDiff, Nat.reduceLT, reduceIte, reduceCtorEq, Int.reduceBNe, Int.reduceBEq, hw, q1, q2])) | ((first | refine condV_split (fun hc => ?_) (fun hc => ?_) | (with_reducible intro β hβ; (try simp only [St.box_noneA, St.tip_noneA, St.tip_set, St.box_tip, St.box_lp, St.tip_lp] at hβ); (repeat (obtain ⟨⟨_, _⟩, hβ⟩ := hβ)); (try (have hbis := apart_is (by assumption) hβ; obtain ⟨_, _⟩ := hbis)))) <;> (try simp only [↓R1, R2, R3, R4, R5, Nat.reduceEqDiff, Nat.reduceAdd, Nat.reduceMul, Nat.reduceSub, Nat.reduceLeDiff, Nat.reduceLT, reduceIte, reduceCtorEq, Int.reduceBNe, Int.reduceBEq, hw, q1, q2])) | (with_reducible refine And.intro ?_ ?_; (focus (first | omega | (intros; (repeat' (with_reducible apply And.intro)) <;> first | omega | (simp only [cWd_len, List.length_append, List.length_cons, List.length_nil]; omega))))) | (with_reducible apply And.intro) | ((first | refine Pu.to (hp) (wkL_refl _) ?_ | refine callDV_pu (hp) (wkL_refl _) ?_); (try simp only [↓R1, R2, R3, R4, R5, Nat.reduceEqDiff, Nat.reduceAdd, Nat.reduceMul, Nat.reduceSub, Nat.reduceLeDiff, Nat.reduceLT, reduceIte, reduceCtorEq, Int.reduceBNe, Int.reduceBEq, hw, q1, q2])))
    repeat' (first | (with_reducible rw [allocV_eq]) | (refine gdV_split (fun hc => ?_) (fun hc => ?_) <;> (try simp only [hc, ↓R1, R2, R3, R4, R5, Nat.reduceEqDiff, Nat.reduceAdd, Nat.reduceMul, Nat.reduceSub, Nat.reduceLeDiff, Nat.reduceLT, reduceIte, reduceCtorEq, Int.reduceBNe, Int.reduceBEq, hw, q1, q2])) | ((first | refine condV_split (fun hc => ?_) (fun hc => ?_) | (with_reducible intro β hβ; (try simp only [St.box_noneA, St.tip_noneA, St.tip_set, St.box_tip, St.box_lp, St.tip_lp] at hβ); (repeat (obtain ⟨⟨_, _⟩, hβ⟩ := hβ)); (try (have hbis := apart_is (by assumption) hβ; obtain ⟨_, _⟩ := hbis)))) <;> (try simp only [↓R1, R2, R3, R4, R5, Nat.reduceEqDiff, Nat.reduceAdd, Nat.reduceMul, Nat.reduceSub, Nat.reduceLeDiff, Nat.reduceLT, reduceIte, reduceCtorEq, Int.reduceBNe, Int.reduceBEq, hw, q1, q2])) | (with_reducible refine And.intro ?_ ?_; (focus (first | omega | (intros; (repeat' (with_reducible apply And.intro)) <;> first | omega | (simp only [cWd_len, List.length_append, List.length_cons, List.length_nil]; omega))))) | (with_reducible apply And.intro))
    all_goals first | omega | skip
    (refine endP_pu (by simp) (by first | (simp [rvsS, rvS]; done) | (simp only [rvsS, rvS, ↓R1, R2, R3, R4, R5, Nat.reduceEqDiff, Nat.reduceAdd, Nat.reduceMul, Nat.reduceSub, Nat.reduceLeDiff, Nat.reduceLT, reduceIte, reduceCtorEq, Int.reduceBNe, Int.reduceBEq, hw, q1, q2]; try simp)) (wk_of_eq ?_) (by (repeat (first | exact St.le_refl _ | (refine St.le_new ?_ (by assumption)) | (refine St.le_newT ?_ (by assumption))))))
    (simp only [resAV, rvV, List.map_cons, List.map_nil, ↓R1, R2, R3, R4, R5, Nat.reduceEqDiff, Nat.reduceAdd, Nat.reduceMul, Nat.reduceSub, Nat.reduceLeDiff, Nat.reduceLT, reduceIte, reduceCtorEq, Int.reduceBNe, Int.reduceBEq, hw, q1, q2])
    simp [trim1, h]
  · rw [decide_eq_false h] at hp
    (refine Pu_intro c57 b57 (Nat.le_of_ble_eq_true rfl) fun σ => ?_; simp only [c57, ↓R1, R2, R3, R4, R5, Nat.reduceEqDiff, Nat.reduceAdd, Nat.reduceMul, Nat.reduceSub, Nat.reduceLeDiff, Nat.reduceLT, reduceIte, reduceCtorEq, Int.reduceBNe, Int.reduceBEq, hw, q1, q2])
    repeat' (first | (with_reducible rw [allocV_eq]) | (refine gdV_split (fun hc => ?_) (fun hc => ?_) <;> (try simp only [hc, ↓R1, R2, R3, R4, R5, Nat.reduceEqDiff, Nat.reduceAdd, Nat.reduceMul, Nat.reduceSub, Nat.reduceLeDiff, Nat.reduceLT, reduceIte, reduceCtorEq, Int.reduceBNe, Int.reduceBEq, hw, q1, q2])) | ((first | refine condV_split (fun hc => ?_) (fun hc => ?_) | (with_reducible intro β hβ; (try simp only [St.box_noneA, St.tip_noneA, St.tip_set, St.box_tip, St.box_lp, St.tip_lp] at hβ); (repeat (obtain ⟨⟨_, _⟩, hβ⟩ := hβ)); (try (have hbis := apart_is (by assumption) hβ; obtain ⟨_, _⟩ := hbis)))) <;> (try simp only [↓R1, R2, R3, R4, R5, Nat.reduceEqDiff, Nat.reduceAdd, Nat.reduceMul, Nat.reduceSub, Nat.reduceLeDiff, Nat.reduceLT, reduceIte, reduceCtorEq, Int.reduceBNe, Int.reduceBEq, hw, q1, q2])) | (with_reducible refine And.intro ?_ ?_; (focus (first | omega | (intros; (repeat' (with_reducible apply And.intro)) <;> first | omega | (simp only [cWd_len, List.length_append, List.length_cons, List.length_nil]; omega))))) | (with_reducible apply And.intro) | ((first | refine Pu.to (hp) (wkL_refl _) ?_ | refine callDV_pu (hp) (wkL_refl _) ?_); (try simp only [↓R1, R2, R3, R4, R5, Nat.reduceEqDiff, Nat.reduceAdd, Nat.reduceMul, Nat.reduceSub, Nat.reduceLeDiff, Nat.reduceLT, reduceIte, reduceCtorEq, Int.reduceBNe, Int.reduceBEq, hw, q1, q2])))
    (refine endP_pu (by simp) (by first | (simp [rvsS, rvS]; done) | (simp only [rvsS, rvS, ↓R1, R2, R3, R4, R5, Nat.reduceEqDiff, Nat.reduceAdd, Nat.reduceMul, Nat.reduceSub, Nat.reduceLeDiff, Nat.reduceLT, reduceIte, reduceCtorEq, Int.reduceBNe, Int.reduceBEq, hw, q1, q2]; try simp)) (wk_of_eq ?_) (by (repeat (first | exact St.le_refl _ | (refine St.le_new ?_ (by assumption)) | (refine St.le_newT ?_ (by assumption))))))
    (simp only [resAV, rvV, List.map_cons, List.map_nil, ↓R1, R2, R3, R4, R5, Nat.reduceEqDiff, Nat.reduceAdd, Nat.reduceMul, Nat.reduceSub, Nat.reduceLeDiff, Nat.reduceLT, reduceIte, reduceCtorEq, Int.reduceBNe, Int.reduceBEq, hw, q1, q2])
    simp [trim1, h]
theorem p47 (l : List UInt8) (hl : l.length ≤ 1000000) : Pu Tryd.prog 47 [.str l, .str [10]] (.str (trim1 l)) := by
  have q1 : True := trivial
  have q2 : True := trivial
  have hw : True := trivial
  (refine Pu_intro c47 b47 (Nat.le_of_ble_eq_true rfl) fun σ => ?_; simp only [c47, ↓R1, R2, R3, R4, R5, Nat.reduceEqDiff, Nat.reduceAdd, Nat.reduceMul, Nat.reduceSub, Nat.reduceLeDiff, Nat.reduceLT, reduceIte, reduceCtorEq, Int.reduceBNe, Int.reduceBEq, hw, q1, q2])
  repeat' (first | (with_reducible rw [allocV_eq]) | (refine gdV_split (fun hc => ?_) (fun hc => ?_) <;> (try simp only [hc, ↓R1, R2, R3, R4, R5, Nat.reduceEqDiff, Nat.reduceAdd, Nat.reduceMul, Nat.reduceSub, Nat.reduceLeDiff, Nat.reduceLT, reduceIte, reduceCtorEq, Int.reduceBNe, Int.reduceBEq, hw, q1, q2])) | ((first | refine condV_split (fun hc => ?_) (fun hc => ?_) | (with_reducible intro β hβ; (try simp only [St.box_noneA, St.tip_noneA, St.tip_set, St.box_tip, St.box_lp, St.tip_lp] at hβ); (repeat (obtain ⟨⟨_, _⟩, hβ⟩ := hβ)); (try (have hbis := apart_is (by assumption) hβ; obtain ⟨_, _⟩ := hbis)))) <;> (try simp only [↓R1, R2, R3, R4, R5, Nat.reduceEqDiff, Nat.reduceAdd, Nat.reduceMul, Nat.reduceSub, Nat.reduceLeDiff, Nat.reduceLT, reduceIte, reduceCtorEq, Int.reduceBNe, Int.reduceBEq, hw, q1, q2])) | (with_reducible refine And.intro ?_ ?_; (focus (first | omega | (intros; (repeat' (with_reducible apply And.intro)) <;> first | omega | (simp only [cWd_len, List.length_append, List.length_cons, List.length_nil]; omega))))) | (with_reducible apply And.intro) | ((first | refine Pu.to (p57 l hl) (wkL_refl _) ?_ | refine callDV_pu (p57 l hl) (wkL_refl _) ?_); (try simp only [↓R1, R2, R3, R4, R5, Nat.reduceEqDiff, Nat.reduceAdd, Nat.reduceMul, Nat.reduceSub, Nat.reduceLeDiff, Nat.reduceLT, reduceIte, reduceCtorEq, Int.reduceBNe, Int.reduceBEq, hw, q1, q2])))
  (refine endP_pu (by simp) (by first | (simp [rvsS, rvS]; done) | (simp only [rvsS, rvS, ↓R1, R2, R3, R4, R5, Nat.reduceEqDiff, Nat.reduceAdd, Nat.reduceMul, Nat.reduceSub, Nat.reduceLeDiff, Nat.reduceLT, reduceIte, reduceCtorEq, Int.reduceBNe, Int.reduceBEq, hw, q1, q2]; try simp)) (wk_of_eq ?_) (by (repeat (first | exact St.le_refl _ | (refine St.le_new ?_ (by assumption)) | (refine St.le_newT ?_ (by assumption))))))
  (simp only [resAV, rvV, List.map_cons, List.map_nil, ↓R1, R2, R3, R4, R5, Nat.reduceEqDiff, Nat.reduceAdd, Nat.reduceMul, Nat.reduceSub, Nat.reduceLeDiff, Nat.reduceLT, reduceIte, reduceCtorEq, Int.reduceBNe, Int.reduceBEq, hw, q1, q2])
theorem trim_line (x : List UInt8) : trim1 (x ++ [10]) = x := by
  have h1 : (x ++ [10] : List UInt8).length - 1 = x.length := by simp
  unfold trim1
  rw [h1, List.drop_left, if_pos ⟨by simp, rfl⟩, List.take_left]
theorem trim_last {l : List UInt8} (h : afterOf l = []) : trim1 l = l := by
  unfold trim1
  rw [if_neg]
  rintro ⟨h1, h2⟩
  have hl := line_after l
  rw [h, List.append_nil] at hl
  have hm : (10 : UInt8) ∈ lineOf l := by
    rw [hl]
    exact List.mem_of_mem_drop (i := l.length - 1) (by rw [h2]; simp)
  have : ∀ m : List UInt8, (10 : UInt8) ∈ lineOf m → False := by
    intro m
    induction m with
    | nil => intro h; simp [lineOf] at h
    | cons c m ih =>
      intro h
      simp only [lineOf, List.takeWhile_cons] at h
      split at h
      · rename_i hc
        rcases List.mem_cons.1 h with e | h
        · subst e; simp at hc
        · exact ih h
      · simp at h
  exact this l hm
end Go.Proofs.YtemddijemikleaaDoor
