/- Part 21 of the proof of EventKnown: an abstract semantics that is proved sound for the model, contracts of functions in it, and plain facts (SP1 EV12 EV13 EV14). No condition. -/
import Derived.Test.YtnmlhilckjmhnaaDoorKEventKnown20
import Derived.Shelf.Strings.Split
import Derived.BigCall
set_option linter.all false
namespace Go.Proofs.YtnmlhilckjmhnaaDoor
open Go.Abs Go.Lib Go.RowKit
set_option linter.all false
set_option maxRecDepth 100000
/-- A call in the model that only grows the heap: what it answers may lie in new memory. -/
theorem AC.of_callsN {P : Program} {σ : St} {f : Nat} {xs : List AV} {r : AV} (he : ∀ args w, (callFunc f args).run P w = .ok (.enter f args) w)
    (h : ∀ g w (vs : List Value), Inv g σ w → RelL g w xs vs → Calls P f vs.toArray w (fun e w' => ∃ v, e = .returned v ∧ Below w.heap.size w w' ∧ Rel (g.on w) w' r v)) : AC P f xs σ (fun x s => x = r ∧ s = σ) := by
  intro g w vs hI hv
  refine .inl ⟨he _ _, (h g w vs hI hv).mono ?_⟩
  rintro e w' ⟨v, rfl, hb, hr⟩
  exact ⟨v, r, σ, g.on w, rfl, ⟨rfl, rfl⟩, hI.below hb, Ext.below g hb, hr⟩
theorem genSplit_one (s : ByteArray) (c : UInt8) (w : World) (hs : s.size < 4294967281) :
    Calls Tryd.prog 72 #[.string s, .string ⟨#[c]⟩, .int .i64 0, .int .i64 (-1)] w fun e w' =>
      e = .returned (.slice (some ⟨w.heap.size, 0, none⟩) (Lib.countB s ⟨#[c]⟩ + 1) (Lib.countB s ⟨#[c]⟩ + 1)) ∧ w' = w.alloc (.cells ((Lib.splitB ⟨#[c]⟩ 0 (Lib.countB s ⟨#[c]⟩) s).map Value.string).toArray 9) := by
  have hle := Lib.countB_le ⟨#[c]⟩ (Nat.le_refl 1) s.size s (Nat.le_refl _)
  have hlen := Lib.splitB_all ⟨#[c]⟩ (Nat.le_refl 1) 0 _ s rfl
  have k := Any.strings_genSplit_core Tryd.lays221 (by kernel_rfl) s ⟨#[c]⟩ 0 (-1) (Lib.countB s ⟨#[c]⟩ + 1) w hs (Nat.le_refl 1) (Nat.zero_le _)
    (fun x cs hx => (Any.strings_Index_one Tryd.lays143 x c _).mono fun e w' h => ⟨by rw [h.1]; show _ = Ending.returned (Value.int .i64 (Lib.index x.data.toList [c])); rw [Lib.index_one], h.2⟩)
    ((Any.strings_Count_one Tryd.lays138 s c w).mono fun e w' h => ⟨by rw [h.1]; show _ = Ending.returned (Value.int .i64 ((Lib.count s.data.toList [c] : Nat) : Int)); rw [Lib.count_one]; rfl, h.2⟩)
    (by decide) (by decide) (by rw [if_pos (by decide)]; omega)
  rw [Nat.add_sub_cancel, hlen] at k
  have e2 : Lib.cellsOf (Lib.splitB ⟨#[c]⟩ 0 (Lib.countB s ⟨#[c]⟩) s) (Lib.countB s ⟨#[c]⟩ + 1) = ((Lib.splitB ⟨#[c]⟩ 0 (Lib.countB s ⟨#[c]⟩) s).map Value.string).toArray := by rw [← hlen]; exact Lib.cellsOf_full _
  rw [e2] at k
  exact k
theorem split_one (s : ByteArray) (c : UInt8) (w : World) (hs : s.size < 4294967281) :
    Calls Tryd.prog 54 #[.string s, .string ⟨#[c]⟩] w fun e w' =>
      e = .returned (.slice (some ⟨w.heap.size, 0, none⟩) (Lib.countB s ⟨#[c]⟩ + 1) (Lib.countB s ⟨#[c]⟩ + 1)) ∧ w' = w.alloc (.cells ((Lib.splitB ⟨#[c]⟩ 0 (Lib.countB s ⟨#[c]⟩) s).map Value.string).toArray 9) := by
  have k := genSplit_one s c w hs
  go_enter Tryd.func54, Tryd.ntmps54
  go_wp2_with (go_at_call 72; refine k.mono ?_; rintro e w' ⟨rfl, hw⟩; rw [hw])
  go_ret
  exact ⟨rfl, rfl⟩
/-- The index of a byte, by stringslite. -/
theorem p98 (s : List UInt8) (c : UInt8) : Pu Tryd.prog 98 [.str s, .str [c]] (.int .i64 (Lib.indexByte s c)) := by
  intro σ
  refine AC.of_calls (Go.Proofs.enters_of Tryd.func98 (by kernel_rfl) rfl) ?_
  intro g w vs hI hv
  obtain ⟨v1, vs, rfl, r1, hv⟩ := hv.cons_inv
  obtain ⟨v2, vs, rfl, r2, hv⟩ := hv.cons_inv
  rw [hv.nil_inv, r1.str_inv, r2.str_inv]
  refine (Tryd.stringslite_Index_one ⟨s.toArray⟩ c w).mono ?_
  rintro e w' ⟨rfl, rfl⟩
  exact ⟨_, rfl, Below.refl _ _, fun g' _ => .int _ _⟩
theorem rel_strs {g : Gh} {w : World} : ∀ l : List (List UInt8), RelC g w (l.map AV.str) (l.map fun t => Value.string ⟨t.toArray⟩)
  | [] => RelC.nil
  | t :: l => RelC.append (a := [.str t]) (x := [.string ⟨t.toArray⟩]) ⟨.cons (.str t) .nil, by simp [Value.oneCell']⟩ (rel_strs l)
/-- The parts between the bytes c. -/
def partsL (s : List UInt8) (c : UInt8) : List (List UInt8) := Lib.split s [c]
theorem p54 (s : List UInt8) (c : UInt8) (hs : s.length ≤ 1000000) : Pu Tryd.prog 54 [.str s, .str [c]] (.sl false (partsL s c).length ((partsL s c).map AV.str)) := by
  intro σ
  refine AC.of_callsN (Go.Proofs.enters_of Tryd.func54 (by kernel_rfl) rfl) ?_
  intro g w vs hI hv
  obtain ⟨v1, vs, rfl, r1, hv⟩ := hv.cons_inv
  obtain ⟨v2, vs, rfl, r2, hv⟩ := hv.cons_inv
  rw [hv.nil_inv, r1.str_inv, r2.str_inv]
  refine (split_one ⟨s.toArray⟩ c w (by show s.toArray.size < _; simp; omega)).mono ?_
  rintro e w' ⟨rfl, rfl⟩
  have hd : (Lib.splitB ⟨#[c]⟩ 0 (Lib.countB ⟨s.toArray⟩ ⟨#[c]⟩) ⟨s.toArray⟩).map (·.data.toList) = partsL s c := by
    rw [Lib.splitB_data]; rfl
  have hn : Lib.countB ⟨s.toArray⟩ ⟨#[c]⟩ + 1 = (partsL s c).length := by
    rw [← hd, List.length_map, Lib.splitB_all ⟨#[c]⟩ (Nat.le_refl 1) 0 _ _ rfl]
  have hm : (Lib.splitB ⟨#[c]⟩ 0 (Lib.countB ⟨s.toArray⟩ ⟨#[c]⟩) ⟨s.toArray⟩).map Value.string = (partsL s c).map fun t => Value.string ⟨t.toArray⟩ := by
    rw [← hd, List.map_map]; rfl
  rw [hm, hn]
  refine ⟨_, rfl, (Below.refl _ w).alloc (Nat.le_refl _) _, Rel.sl_mk (u := (partsL s c).map fun t => Value.string ⟨t.toArray⟩) (Nat.le_refl _) (by simp) ⟨⟨by simp, .inl (by simp [Gh.on])⟩, rel_strs _, fun i v hv => ?_⟩⟩
  rw [World.cell?_alloc_new, Nat.zero_add]
  simpa using hv
end Go.Proofs.YtnmlhilckjmhnaaDoor
namespace Go.Proofs.YtnmlhilckjmhnaaDoor
open Go.Abs Go.Lib
set_option linter.all false
set_option maxRecDepth 100000
/-- Where a byte stands; the length where it does not. -/
def findN : List UInt8 → UInt8 → Nat
  | [], _ => 0
  | x :: l, c => bif x == c then 0 else findN l c + 1
theorem findN_le (c : UInt8) : ∀ s, findN s c ≤ s.length
  | [] => Nat.le_refl _
  | x :: l => by
    have := findN_le c l
    unfold findN
    cases (x == c) <;> simp <;> omega
theorem find_index (c : UInt8) : ∀ s, Lib.indexByte s c = if findN s c < s.length then (findN s c : Int) else -1
  | [] => rfl
  | x :: l => by
    have h := find_index c l
    have h2 := findN_le c l
    unfold Lib.indexByte findN
    rw [h]
    cases hx : (x == c) with
    | true => simp
    | false =>
      simp only [cond_false, Bool.false_eq_true, if_false, List.length_cons]
      by_cases hl : findN l c < l.length
      · have h3 : ((findN l c : Int) == -1) = false := by rw [beq_eq_false_iff_ne]; omega
        rw [if_pos hl, h3, if_pos (show findN l c + 1 < l.length + 1 by omega), if_neg (by decide)]
        rfl
      · rw [if_neg hl, if_neg (show ¬ findN l c + 1 < l.length + 1 by omega)]; rfl
theorem find_hit (c : UInt8) : ∀ s, findN s c < s.length → (s[findN s c]?.getD 0 == c) = true
  | [], h => by simp [findN] at h
  | x :: l, h => by
    unfold findN at h ⊢
    cases hx : (x == c) with
    | true => simpa using hx
    | false =>
      rw [hx, cond_false] at h
      simpa using find_hit c l (by simpa using h)
theorem p76 (s : List UInt8) (c : UInt8) (hs : s.length ≤ 1000000) : Pu Tryd.prog 76 [.str s, .str [c]] (.tup [.str (s.take (findN s c)), .str (s.drop (findN s c + 1)), .bool (decide (findN s c < s.length))]) := by
  have hle := findN_le c s
  have hi := p98 s c
  rw [find_index] at hi
  have hw : IntKind.i64.wrap ((findN s c : Int) + ((1 : Nat) : Int)) = ((findN s c + 1 : Nat) : Int) := by rw [wrap64 (by omega) (by omega)]; omega
  by_cases hf : findN s c < s.length
  · rw [if_pos hf] at hi
    have hd : decide ((0 : Int) ≤ (findN s c : Int)) = true := by simp
    (refine Pu_intro c76 b76 (Nat.le_of_ble_eq_true rfl) fun σ => ?_; simp only [c76, ↓R1, R2, R3, R4, R5, Nat.reduceEqDiff, Nat.reduceAdd, Nat.reduceMul, Nat.reduceSub, Nat.reduceLeDiff, Nat.reduceLT, reduceIte, reduceCtorEq, Int.reduceBNe, Int.reduceBEq, hw, hd])
    repeat' (first | (with_reducible rw [allocV_eq]) | (refine gdV_split (fun hc => ?_) (fun hc => ?_) <;> (try simp only [hc, ↓R1, R2, R3, R4, R5, Nat.reduceEqDiff, Nat.reduceAdd, Nat.reduceMul, Nat.reduceSub, Nat.reduceLeDiff, Nat.reduceLT, reduceIte, reduceCtorEq, Int.reduceBNe, Int.reduceBEq, hw, hd])) | ((first | refine condV_split (fun hc => ?_) (fun hc => ?_) | (with_reducible intro β hβ; (try simp only [St.box_noneA, St.tip_noneA, St.tip_set, St.box_tip, St.box_lp, St.tip_lp] at hβ); (repeat (obtain ⟨⟨_, _⟩, hβ⟩ := hβ)); (try (have hbis := apart_is (by assumption) hβ; obtain ⟨_, _⟩ := hbis)))) <;> (try simp only [↓R1, R2, R3, R4, R5, Nat.reduceEqDiff, Nat.reduceAdd, Nat.reduceMul, Nat.reduceSub, Nat.reduceLeDiff, Nat.reduceLT, reduceIte, reduceCtorEq, Int.reduceBNe, Int.reduceBEq, hw, hd])) | (with_reducible refine And.intro ?_ ?_; (focus (first | omega | (intros; (repeat' (with_reducible apply And.intro)) <;> first | omega | (simp only [List.length_append, List.length_cons, List.length_nil]; omega))))) | (with_reducible apply And.intro) | ((first | refine Pu.to (hi) (wkL_refl _) ?_ | refine callDV_pu (hi) (wkL_refl _) ?_); (try simp only [↓R1, R2, R3, R4, R5, Nat.reduceEqDiff, Nat.reduceAdd, Nat.reduceMul, Nat.reduceSub, Nat.reduceLeDiff, Nat.reduceLT, reduceIte, reduceCtorEq, Int.reduceBNe, Int.reduceBEq, hw, hd])))
    all_goals first | (exfalso; simp at hc; omega) | omega | skip
    all_goals (refine endP_pu (by simp) (by first | (simp [rvsS, rvS]; done) | (simp only [rvsS, rvS, ↓R1, R2, R3, R4, R5, Nat.reduceEqDiff, Nat.reduceAdd, Nat.reduceMul, Nat.reduceSub, Nat.reduceLeDiff, Nat.reduceLT, reduceIte, reduceCtorEq, Int.reduceBNe, Int.reduceBEq, hw, hd]; try simp)) (wk_of_eq ?_) (by (repeat (first | exact St.le_refl _ | (refine St.le_new ?_ (by assumption)) | (refine St.le_newT ?_ (by assumption))))))
    all_goals (simp only [resAV, rvV, List.map_cons, List.map_nil, ↓R1, R2, R3, R4, R5, Nat.reduceEqDiff, Nat.reduceAdd, Nat.reduceMul, Nat.reduceSub, Nat.reduceLeDiff, Nat.reduceLT, reduceIte, reduceCtorEq, Int.reduceBNe, Int.reduceBEq, hw, hd])
    all_goals first | (rw [List.take_of_length_le (by simp : (List.drop (findN s c + 1) s).length ≤ s.length - (findN s c + 1)), decide_eq_true hf]; done) | (rw [List.take_of_length_le (by omega : s.length ≤ findN s c), List.drop_of_length_le (by omega : s.length ≤ findN s c + 1), decide_eq_false hf]; done) | trace_state
  · rw [if_neg hf] at hi
    have hd : decide ((0 : Int) ≤ -1) = false := by decide
    (refine Pu_intro c76 b76 (Nat.le_of_ble_eq_true rfl) fun σ => ?_; simp only [c76, ↓R1, R2, R3, R4, R5, Nat.reduceEqDiff, Nat.reduceAdd, Nat.reduceMul, Nat.reduceSub, Nat.reduceLeDiff, Nat.reduceLT, reduceIte, reduceCtorEq, Int.reduceBNe, Int.reduceBEq, hw, hd])
    repeat' (first | (with_reducible rw [allocV_eq]) | (refine gdV_split (fun hc => ?_) (fun hc => ?_) <;> (try simp only [hc, ↓R1, R2, R3, R4, R5, Nat.reduceEqDiff, Nat.reduceAdd, Nat.reduceMul, Nat.reduceSub, Nat.reduceLeDiff, Nat.reduceLT, reduceIte, reduceCtorEq, Int.reduceBNe, Int.reduceBEq, hw, hd])) | ((first | refine condV_split (fun hc => ?_) (fun hc => ?_) | (with_reducible intro β hβ; (try simp only [St.box_noneA, St.tip_noneA, St.tip_set, St.box_tip, St.box_lp, St.tip_lp] at hβ); (repeat (obtain ⟨⟨_, _⟩, hβ⟩ := hβ)); (try (have hbis := apart_is (by assumption) hβ; obtain ⟨_, _⟩ := hbis)))) <;> (try simp only [↓R1, R2, R3, R4, R5, Nat.reduceEqDiff, Nat.reduceAdd, Nat.reduceMul, Nat.reduceSub, Nat.reduceLeDiff, Nat.reduceLT, reduceIte, reduceCtorEq, Int.reduceBNe, Int.reduceBEq, hw, hd])) | (with_reducible refine And.intro ?_ ?_; (focus (first | omega | (intros; (repeat' (with_reducible apply And.intro)) <;> first | omega | (simp only [List.length_append, List.length_cons, List.length_nil]; omega))))) | (with_reducible apply And.intro) | ((first | refine Pu.to (hi) (wkL_refl _) ?_ | refine callDV_pu (hi) (wkL_refl _) ?_); (try simp only [↓R1, R2, R3, R4, R5, Nat.reduceEqDiff, Nat.reduceAdd, Nat.reduceMul, Nat.reduceSub, Nat.reduceLeDiff, Nat.reduceLT, reduceIte, reduceCtorEq, Int.reduceBNe, Int.reduceBEq, hw, hd])))
    all_goals first | (exfalso; simp at hc; omega) | omega | skip
    all_goals (refine endP_pu (by simp) (by first | (simp [rvsS, rvS]; done) | (simp only [rvsS, rvS, ↓R1, R2, R3, R4, R5, Nat.reduceEqDiff, Nat.reduceAdd, Nat.reduceMul, Nat.reduceSub, Nat.reduceLeDiff, Nat.reduceLT, reduceIte, reduceCtorEq, Int.reduceBNe, Int.reduceBEq, hw, hd]; try simp)) (wk_of_eq ?_) (by (repeat (first | exact St.le_refl _ | (refine St.le_new ?_ (by assumption)) | (refine St.le_newT ?_ (by assumption))))))
    all_goals (simp only [resAV, rvV, List.map_cons, List.map_nil, ↓R1, R2, R3, R4, R5, Nat.reduceEqDiff, Nat.reduceAdd, Nat.reduceMul, Nat.reduceSub, Nat.reduceLeDiff, Nat.reduceLT, reduceIte, reduceCtorEq, Int.reduceBNe, Int.reduceBEq, hw, hd])
    all_goals first | (rw [List.take_of_length_le (by simp : (List.drop (findN s c + 1) s).length ≤ s.length - (findN s c + 1)), decide_eq_true hf]; done) | (rw [List.take_of_length_le (by omega : s.length ≤ findN s c), List.drop_of_length_le (by omega : s.length ≤ findN s c + 1), decide_eq_false hf]; done) | trace_state
theorem p61 (s : List UInt8) (c : UInt8) (hs : s.length ≤ 1000000) : Pu Tryd.prog 61 [.str s, .str [c]] (.tup [.str (s.take (findN s c)), .str (s.drop (findN s c + 1)), .bool (decide (findN s c < s.length))]) := by
  have h := p76 s c hs
  (refine Pu_intro c61 b61 (Nat.le_of_ble_eq_true rfl) fun σ => ?_; simp only [c61, ↓R1, R2, R3, R4, R5, Nat.reduceEqDiff, Nat.reduceAdd, Nat.reduceMul, Nat.reduceSub, Nat.reduceLeDiff, Nat.reduceLT, reduceIte, reduceCtorEq, Int.reduceBNe, Int.reduceBEq])
  repeat' (first | (with_reducible rw [allocV_eq]) | (refine gdV_split (fun hc => ?_) (fun hc => ?_) <;> (try simp only [hc, ↓R1, R2, R3, R4, R5, Nat.reduceEqDiff, Nat.reduceAdd, Nat.reduceMul, Nat.reduceSub, Nat.reduceLeDiff, Nat.reduceLT, reduceIte, reduceCtorEq, Int.reduceBNe, Int.reduceBEq])) | ((first | refine condV_split (fun hc => ?_) (fun hc => ?_) | (with_reducible intro β hβ; (try simp only [St.box_noneA, St.tip_noneA, St.tip_set, St.box_tip, St.box_lp, St.tip_lp] at hβ); (repeat (obtain ⟨⟨_, _⟩, hβ⟩ := hβ)); (try (have hbis := apart_is (by assumption) hβ; obtain ⟨_, _⟩ := hbis)))) <;> (try simp only [↓R1, R2, R3, R4, R5, Nat.reduceEqDiff, Nat.reduceAdd, Nat.reduceMul, Nat.reduceSub, Nat.reduceLeDiff, Nat.reduceLT, reduceIte, reduceCtorEq, Int.reduceBNe, Int.reduceBEq])) | (with_reducible refine And.intro ?_ ?_; (focus (first | omega | (intros; (repeat' (with_reducible apply And.intro)) <;> first | omega | (simp only [List.length_append, List.length_cons, List.length_nil]; omega))))) | (with_reducible apply And.intro) | ((first | refine Pu.to (h) (wkL_refl _) ?_ | refine callDV_pu (h) (wkL_refl _) ?_); (try simp only [↓R1, R2, R3, R4, R5, Nat.reduceEqDiff, Nat.reduceAdd, Nat.reduceMul, Nat.reduceSub, Nat.reduceLeDiff, Nat.reduceLT, reduceIte, reduceCtorEq, Int.reduceBNe, Int.reduceBEq])))
  (refine endP_pu (by simp) (by first | (simp [rvsS, rvS]; done) | (simp only [rvsS, rvS, ↓R1, R2, R3, R4, R5, Nat.reduceEqDiff, Nat.reduceAdd, Nat.reduceMul, Nat.reduceSub, Nat.reduceLeDiff, Nat.reduceLT, reduceIte, reduceCtorEq, Int.reduceBNe, Int.reduceBEq]; try simp)) (wk_of_eq ?_) (by (repeat (first | exact St.le_refl _ | (refine St.le_new ?_ (by assumption)) | (refine St.le_newT ?_ (by assumption))))))
  (simp only [resAV, rvV, List.map_cons, List.map_nil, ↓R1, R2, R3, R4, R5, Nat.reduceEqDiff, Nat.reduceAdd, Nat.reduceMul, Nat.reduceSub, Nat.reduceLeDiff, Nat.reduceLT, reduceIte, reduceCtorEq, Int.reduceBNe, Int.reduceBEq])
def valOk (s : List UInt8) : Bool := s.all dg && decide (s.length ≤ 20) && decide (val 0 s < 18446744073709551616)
def valN (s : List UInt8) : Nat := bif valOk s then val 0 s else 0
def valB (s : List UInt8) : Bool := goodS s && decide (val 0 s < 18446744073709551616)
theorem goodS_all {s : List UInt8} (h : goodS s = true) : s.all dg = true ∧ 0 < s.length := by
  simp only [goodS, Bool.and_eq_true, Bool.not_eq_true'] at h
  refine ⟨h.2, ?_⟩
  cases s with
  | nil => simp [firstB] at h
  | cons x l => simp
theorem val_no {s : List UInt8} (h : valOk s = false) : valB s = false := by
  cases hb : valB s with
  | false => rfl
  | true =>
    simp only [valB, Bool.and_eq_true, decide_eq_true_eq] at hb
    have hl := dec_len20 _ hb.2
    rw [dec_val hb.1] at hl
    simp [valOk, (goodS_all hb.1).1, hb.2] at h
    omega
end Go.Proofs.YtnmlhilckjmhnaaDoor
namespace Go.Proofs.YtnmlhilckjmhnaaDoor
open Go.Abs Go.Lib
set_option linter.all false
set_option maxRecDepth 100000
theorem idE_ok {n : Int} : (idE n == 0) = (decide (1 ≤ n) && decide (n ≤ 1099511627776)) := by
  simp only [idE, Bool.cond_eq_ite]; grind
def idText (l : BitVec 64) (n : Int) : List UInt8 := bif idE n == 0 then textL l ++ [35] ++ decDigits n.toNat else []
theorem itoa_nat (n : Nat) : itoa (n : Int) = decDigits n := by unfold itoa; rw [if_neg (by omega)]; simp
theorem p34 (l : BitVec 64) (n : Int) : PuG Tryd.prog gl3 34 [.agg [.int .u64 l.toNat, .int .u64 n]] (.tup [.str (idText l n), .int .i64 (idE n)]) := by
  have h0 := p38 l.toNat n
  have h1 := PuG.up3 (p44 l)
  have l1 := textL_len l
  by_cases he : idE n = 0
  · have hb : (idE n == 0) = true := by simpa using he
    rw [idE_ok] at hb
    simp only [Bool.and_eq_true, decide_eq_true_eq] at hb
    obtain ⟨m, rfl⟩ := Int.eq_ofNat_of_zero_le (show 0 ≤ n by omega)
    have hx : IntKind.i64.wrap (m : Int) = m := wrap64 (by omega) (by omega)
    have h2 := p45 m (by unfold I64; omega)
    rw [itoa_nat] at h2
    have l2 := dec_len20 m (by omega)
    have ht : idText l m = textL l ++ [35] ++ decDigits m := by simp [idText, he]
    rw [he] at h0 ⊢
    rw [ht]
    (refine PuG_intro c34 b34 (Nat.le_of_ble_eq_true rfl) fun σ hσ => ?_; simp only [c34, ↓R1, R2, R3, R4, R5, Nat.reduceEqDiff, Nat.reduceAdd, Nat.reduceMul, Nat.reduceSub, Nat.reduceLeDiff, Nat.reduceLT, reduceIte, reduceCtorEq, Int.reduceBNe, Int.reduceBEq, hx])
    repeat' (first | (with_reducible rw [allocV_eq]) | (refine gdV_split (fun hc => ?_) (fun hc => ?_) <;> (try simp only [hc, ↓R1, R2, R3, R4, R5, Nat.reduceEqDiff, Nat.reduceAdd, Nat.reduceMul, Nat.reduceSub, Nat.reduceLeDiff, Nat.reduceLT, reduceIte, reduceCtorEq, Int.reduceBNe, Int.reduceBEq, hx])) | ((first | refine condV_split (fun hc => ?_) (fun hc => ?_) | (with_reducible intro β hβ; (try simp only [St.box_noneA, St.tip_noneA, St.tip_set, St.box_tip, St.box_lp, St.tip_lp] at hβ); (repeat (obtain ⟨⟨_, _⟩, hβ⟩ := hβ)); (try (have hbis := apart_is (by assumption) hβ; obtain ⟨_, _⟩ := hbis)))) <;> (try simp only [↓R1, R2, R3, R4, R5, Nat.reduceEqDiff, Nat.reduceAdd, Nat.reduceMul, Nat.reduceSub, Nat.reduceLeDiff, Nat.reduceLT, reduceIte, reduceCtorEq, Int.reduceBNe, Int.reduceBEq, hx])) | (with_reducible refine And.intro ?_ ?_; (focus (first | omega | (intros; (repeat' (with_reducible apply And.intro)) <;> first | omega | (simp only [List.length_append, List.length_cons, List.length_nil]; omega))))) | (with_reducible apply And.intro) | ((first | refine Pu.to (h0) (wkL_refl _) ?_ | refine callDV_pu (h0) (wkL_refl _) ?_ | refine callDV_puG (h1) hσ (wkL_refl _) ?_ | refine callDV_puG (h2) hσ (wkL_refl _) ?_); (try simp only [↓R1, R2, R3, R4, R5, Nat.reduceEqDiff, Nat.reduceAdd, Nat.reduceMul, Nat.reduceSub, Nat.reduceLeDiff, Nat.reduceLT, reduceIte, reduceCtorEq, Int.reduceBNe, Int.reduceBEq, hx])))
    all_goals (refine endP_pu (by simp) (by first | (simp [rvsS, rvS]; done) | (simp only [rvsS, rvS, ↓R1, R2, R3, R4, R5, Nat.reduceEqDiff, Nat.reduceAdd, Nat.reduceMul, Nat.reduceSub, Nat.reduceLeDiff, Nat.reduceLT, reduceIte, reduceCtorEq, Int.reduceBNe, Int.reduceBEq, hx]; try simp)) (wk_of_eq ?_) (by (repeat (first | exact St.le_refl _ | (refine St.le_new ?_ (by assumption)) | (refine St.le_newT ?_ (by assumption))))))
    all_goals (simp only [resAV, rvV, List.map_cons, List.map_nil, ↓R1, R2, R3, R4, R5, Nat.reduceEqDiff, Nat.reduceAdd, Nat.reduceMul, Nat.reduceSub, Nat.reduceLeDiff, Nat.reduceLT, reduceIte, reduceCtorEq, Int.reduceBNe, Int.reduceBEq, hx])
  · have hb : (idE n == 0) = false := by simpa using he
    have hx : (idE n != 0) = true := by simpa using he
    have ht : idText l n = [] := by simp [idText, hb]
    rw [ht]
    (refine PuG_intro c34 b34 (Nat.le_of_ble_eq_true rfl) fun σ hσ => ?_; simp only [c34, ↓R1, R2, R3, R4, R5, Nat.reduceEqDiff, Nat.reduceAdd, Nat.reduceMul, Nat.reduceSub, Nat.reduceLeDiff, Nat.reduceLT, reduceIte, reduceCtorEq, Int.reduceBNe, Int.reduceBEq, hx])
    repeat' (first | (with_reducible rw [allocV_eq]) | (refine gdV_split (fun hc => ?_) (fun hc => ?_) <;> (try simp only [hc, ↓R1, R2, R3, R4, R5, Nat.reduceEqDiff, Nat.reduceAdd, Nat.reduceMul, Nat.reduceSub, Nat.reduceLeDiff, Nat.reduceLT, reduceIte, reduceCtorEq, Int.reduceBNe, Int.reduceBEq, hx])) | ((first | refine condV_split (fun hc => ?_) (fun hc => ?_) | (with_reducible intro β hβ; (try simp only [St.box_noneA, St.tip_noneA, St.tip_set, St.box_tip, St.box_lp, St.tip_lp] at hβ); (repeat (obtain ⟨⟨_, _⟩, hβ⟩ := hβ)); (try (have hbis := apart_is (by assumption) hβ; obtain ⟨_, _⟩ := hbis)))) <;> (try simp only [↓R1, R2, R3, R4, R5, Nat.reduceEqDiff, Nat.reduceAdd, Nat.reduceMul, Nat.reduceSub, Nat.reduceLeDiff, Nat.reduceLT, reduceIte, reduceCtorEq, Int.reduceBNe, Int.reduceBEq, hx])) | (with_reducible refine And.intro ?_ ?_; (focus (first | omega | (intros; (repeat' (with_reducible apply And.intro)) <;> first | omega | (simp only [List.length_append, List.length_cons, List.length_nil]; omega))))) | (with_reducible apply And.intro) | ((first | refine Pu.to (h0) (wkL_refl _) ?_ | refine callDV_pu (h0) (wkL_refl _) ?_); (try simp only [↓R1, R2, R3, R4, R5, Nat.reduceEqDiff, Nat.reduceAdd, Nat.reduceMul, Nat.reduceSub, Nat.reduceLeDiff, Nat.reduceLT, reduceIte, reduceCtorEq, Int.reduceBNe, Int.reduceBEq, hx])))
    all_goals (refine endP_pu (by simp) (by first | (simp [rvsS, rvS]; done) | (simp only [rvsS, rvS, ↓R1, R2, R3, R4, R5, Nat.reduceEqDiff, Nat.reduceAdd, Nat.reduceMul, Nat.reduceSub, Nat.reduceLeDiff, Nat.reduceLT, reduceIte, reduceCtorEq, Int.reduceBNe, Int.reduceBEq, hx]; try simp)) (wk_of_eq ?_) (by (repeat (first | exact St.le_refl _ | (refine St.le_new ?_ (by assumption)) | (refine St.le_newT ?_ (by assumption))))))
    all_goals (simp only [resAV, rvV, List.map_cons, List.map_nil, ↓R1, R2, R3, R4, R5, Nat.reduceEqDiff, Nat.reduceAdd, Nat.reduceMul, Nat.reduceSub, Nat.reduceLeDiff, Nat.reduceLT, reduceIte, reduceCtorEq, Int.reduceBNe, Int.reduceBEq, hx])
end Go.Proofs.YtnmlhilckjmhnaaDoor
namespace Go.Proofs.YtnmlhilckjmhnaaDoor
open Go.Abs Go.Lib
set_option linter.all false
set_option maxRecDepth 100000
def hS (s : List UInt8) (c : UInt8) : List UInt8 := s.take (findN s c)
def tS (s : List UInt8) (c : UInt8) : List UInt8 := s.drop (findN s c + 1)
theorem split_at {s : List UInt8} {c : UInt8} (h : findN s c < s.length) : hS s c ++ [c] ++ tS s c = s := by
  have hh := find_hit c s h
  have e : s[findN s c]?.getD 0 = s[findN s c] := by rw [List.getElem?_eq_getElem h]; rfl
  rw [e, beq_iff_eq] at hh
  unfold hS tS
  rw [List.append_assoc]
  conv => rhs; rw [← List.take_append_drop (findN s c) s, List.drop_eq_getElem_cons h, hh]
  rfl
def ridB (s : List UInt8) : Bool := decide ((parseL (hS s 35)).err = 0) && decide (findN s 35 < s.length) && valB (tS s 35) && (idE (valN (tS s 35)) == 0)
def ridC (s : List UInt8) : List AV := bif ridB s then [.int .u64 (parseL (hS s 35)).l.toNat, .int .u64 (valN (tS s 35))] else [.int .u64 0, .int .u64 0]
def ridE (s : List UInt8) : Int := bif ridB s then 0 else 3
theorem valB_is {t : List UInt8} (h : valB t = true) : goodS t = true ∧ val 0 t < 18446744073709551616 ∧ valN t = val 0 t := by
  have hok : valOk t = true := by
    cases hq : valOk t with
    | true => rfl
    | false => rw [val_no hq] at h; cases h
  simp only [valB, Bool.and_eq_true, decide_eq_true_eq] at h
  exact ⟨h.1, h.2, by simp [valN, hok]⟩
theorem nat_val (t : List UInt8) : (natE t 1099511627776 == 0) = (valB t && decide (valN t ≤ 1099511627776)) ∧ (natE t 1099511627776 = 0 → natX t 1099511627776 = valN t) := by
  unfold natE natX natB
  cases hg : goodS t with
  | false => simp [valB, hg]
  | true =>
    by_cases hv : val 0 t < 18446744073709551616
    · have hb : valB t = true := by simp [valB, hg, hv]
      have hn := (valB_is hb).2.2
      have hm : val 0 t % 18446744073709551616 = val 0 t := Nat.mod_eq_of_lt hv
      rw [hb, hn, hm, decide_eq_false (by omega : ¬ 18446744073709551616 ≤ val 0 t)]
      by_cases hl : val 0 t ≤ 1099511627776
      · have : decide ((1099511627776 : Int) < (val 0 t : Int)) = false := by simp; omega
        simp [this, hl]
      · have : decide ((1099511627776 : Int) < (val 0 t : Int)) = true := by simp; omega
        simp [this, hl]
    · have hb : valB t = false := by simp [valB, hv]
      rw [hb, decide_eq_true (by omega : 18446744073709551616 ≤ val 0 t)]
      simp
/-- What is read is written again as it stood. -/
theorem rid_again {s : List UInt8} (h1 : (parseL (hS s 35)).err = 0) (h2 : valB (tS s 35) = true) (h3 : idE (valN (tS s 35)) = 0) : (idText (parseL (hS s 35)).l (valN (tS s 35)) == s) = ridB s := by
  obtain ⟨g1, g2, g3⟩ := valB_is h2
  have e1 := parseL_only h1
  have hlt : findN s 35 < s.length := by
    rcases Nat.lt_or_ge (findN s 35) s.length with h | h
    · exact h
    · have : tS s 35 = [] := List.drop_of_length_le (by omega)
      rw [this] at g1
      simp [goodS, firstB] at g1
  have e2 : idText (parseL (hS s 35)).l (valN (tS s 35)) = s := by
    simp only [idText, h3, beq_self_eq_true, cond_true, Int.toNat_natCast]
    rw [e1, g3, dec_val g1, split_at hlt]
  rw [e2, beq_self_eq_true]
  simp [ridB, h1, h2, h3, hlt]
theorem p36 (s : List UInt8) (hs : s.length ≤ 1000000) : PuG Tryd.prog gl3 36 [.str s] (.tup [.agg (ridC s), .int .i64 (ridE s)]) := by
  have hle := findN_le 35 s
  have h1 := p61 s 35 hs
  have h2 := p55 (hS s 35) (by simp [hS]; omega)
  have h3 := p62 (tS s 35) 1099511627776 (by simp only [tS, List.length_drop]; unfold maxLen; omega)
  have h4 := p34 (parseL (hS s 35)).l (natX (tS s 35) 1099511627776)
  simp only [plAV] at h2
  rw [natN_eq] at h3
  (refine PuG_intro c36 b36 (Nat.le_of_ble_eq_true rfl) fun σ hσ => ?_; simp only [c36, ↓R1, R2, R3, R4, R5, Nat.reduceEqDiff, Nat.reduceAdd, Nat.reduceMul, Nat.reduceSub, Nat.reduceLeDiff, Nat.reduceLT, reduceIte, reduceCtorEq, Int.reduceBNe, Int.reduceBEq])
  obtain ⟨n1, n2⟩ := nat_val (tS s 35)
  have err : (((parseL (hS s 35)).err : Int) != 0) = !decide ((parseL (hS s 35)).err = 0) := err0
  have hidE : (idE (valN (tS s 35)) == 0) = (decide (1 ≤ (valN (tS s 35) : Int)) && decide ((valN (tS s 35) : Int) ≤ 1099511627776)) := idE_ok
  have ha := rid_again (s := s)
  repeat' (first | (with_reducible rw [allocV_eq]) | (refine gdV_split (fun hc => ?_) (fun hc => ?_) <;> (try simp only [hc, ↓R1, R2, R3, R4, R5, Nat.reduceEqDiff, Nat.reduceAdd, Nat.reduceMul, Nat.reduceSub, Nat.reduceLeDiff, Nat.reduceLT, reduceIte, reduceCtorEq, Int.reduceBNe, Int.reduceBEq])) | ((first | refine condV_split (fun hc => ?_) (fun hc => ?_) | (with_reducible intro β hβ; (try simp only [St.box_noneA, St.tip_noneA, St.tip_set, St.box_tip, St.box_lp, St.tip_lp] at hβ); (repeat (obtain ⟨⟨_, _⟩, hβ⟩ := hβ)); (try (have hbis := apart_is (by assumption) hβ; obtain ⟨_, _⟩ := hbis)))) <;> (try simp only [↓R1, R2, R3, R4, R5, Nat.reduceEqDiff, Nat.reduceAdd, Nat.reduceMul, Nat.reduceSub, Nat.reduceLeDiff, Nat.reduceLT, reduceIte, reduceCtorEq, Int.reduceBNe, Int.reduceBEq])) | (with_reducible refine And.intro ?_ ?_; (focus (first | omega | (intros; (repeat' (with_reducible apply And.intro)) <;> first | omega | (simp only [List.length_append, List.length_cons, List.length_nil]; omega))))) | (with_reducible apply And.intro) | ((first | refine Pu.to (h1) (wkL_refl _) ?_ | refine callDV_pu (h1) (wkL_refl _) ?_ | refine Pu.to (h2) (wkL_refl _) ?_ | refine callDV_pu (h2) (wkL_refl _) ?_ | refine Pu.to (h3) (wkL_refl _) ?_ | refine callDV_pu (h3) (wkL_refl _) ?_ | refine PuG.to (h4) hσ (wkL_refl _) ?_); (try simp only [↓R1, R2, R3, R4, R5, Nat.reduceEqDiff, Nat.reduceAdd, Nat.reduceMul, Nat.reduceSub, Nat.reduceLeDiff, Nat.reduceLT, reduceIte, reduceCtorEq, Int.reduceBNe, Int.reduceBEq])))
  · have hv : ridB s = false := by
      rw [err] at hc
      cases hq : ridB s with
      | false => rfl
      | true =>
        exfalso
        simp only [ridB, Bool.and_eq_true, decide_eq_true_eq, hidE] at hq
        have : (natE (tS s 35) 1099511627776 == 0) = true := by
          rw [n1]; simp only [Bool.and_eq_true, decide_eq_true_eq]; exact ⟨hq.1.2, by omega⟩
        simp only [beq_iff_eq] at this
        rw [this, decide_eq_true hq.1.1.1] at hc
        simp at hc
    (refine endP_pu (by simp) (by first | (simp [rvsS, rvS]; done) | (simp only [rvsS, rvS, ↓R1, R2, R3, R4, R5, Nat.reduceEqDiff, Nat.reduceAdd, Nat.reduceMul, Nat.reduceSub, Nat.reduceLeDiff, Nat.reduceLT, reduceIte, reduceCtorEq, Int.reduceBNe, Int.reduceBEq]; try simp)) (wk_of_eq ?_) (by (repeat (first | exact St.le_refl _ | (refine St.le_new ?_ (by assumption)) | (refine St.le_newT ?_ (by assumption))))))
    (simp only [resAV, rvV, List.map_cons, List.map_nil, ↓R1, R2, R3, R4, R5, Nat.reduceEqDiff, Nat.reduceAdd, Nat.reduceMul, Nat.reduceSub, Nat.reduceLeDiff, Nat.reduceLT, reduceIte, reduceCtorEq, Int.reduceBNe, Int.reduceBEq])
    simp only [ridC, ridE, hv, cond_false]
  all_goals (
    have hq : (parseL (hS s 35)).err = 0 ∧ natE (tS s 35) 1099511627776 = 0 := by
      rename_i hz
      simpa [err] using hz
    have hn := n2 hq.2
    rw [hq.2] at n1
    simp only [beq_self_eq_true, Bool.true_eq, Bool.and_eq_true, decide_eq_true_eq] at n1
    have ha2 := ha hq.1 n1.1
    rw [hn] at hc ⊢)
  · have hv : ridB s = false := by
      cases hv : ridB s with
      | false => rfl
      | true =>
        exfalso
        have h5 := hv
        simp only [ridB, Bool.and_eq_true, beq_iff_eq] at h5
        have h6 := ha2 h5.2
        rw [hv, beq_iff_eq] at h6
        rw [h5.2, h6] at hc
        simp at hc
    (refine endP_pu (by simp) (by first | (simp [rvsS, rvS]; done) | (simp only [rvsS, rvS, ↓R1, R2, R3, R4, R5, Nat.reduceEqDiff, Nat.reduceAdd, Nat.reduceMul, Nat.reduceSub, Nat.reduceLeDiff, Nat.reduceLT, reduceIte, reduceCtorEq, Int.reduceBNe, Int.reduceBEq]; try simp)) (wk_of_eq ?_) (by (repeat (first | exact St.le_refl _ | (refine St.le_new ?_ (by assumption)) | (refine St.le_newT ?_ (by assumption))))))
    (simp only [resAV, rvV, List.map_cons, List.map_nil, ↓R1, R2, R3, R4, R5, Nat.reduceEqDiff, Nat.reduceAdd, Nat.reduceMul, Nat.reduceSub, Nat.reduceLeDiff, Nat.reduceLT, reduceIte, reduceCtorEq, Int.reduceBNe, Int.reduceBEq])
    simp only [ridC, ridE, hv, cond_false]
  · simp only [Bool.or_eq_false_iff, bne_eq_false_iff_eq] at hc
    have hv := ha2 hc.1
    have h7 := hc.2
    rw [Bool.not_eq_false'] at h7
    rw [h7] at hv
    (refine endP_pu (by simp) (by first | (simp [rvsS, rvS]; done) | (simp only [rvsS, rvS, ↓R1, R2, R3, R4, R5, Nat.reduceEqDiff, Nat.reduceAdd, Nat.reduceMul, Nat.reduceSub, Nat.reduceLeDiff, Nat.reduceLT, reduceIte, reduceCtorEq, Int.reduceBNe, Int.reduceBEq]; try simp)) (wk_of_eq ?_) (by (repeat (first | exact St.le_refl _ | (refine St.le_new ?_ (by assumption)) | (refine St.le_newT ?_ (by assumption))))))
    (simp only [resAV, rvV, List.map_cons, List.map_nil, ↓R1, R2, R3, R4, R5, Nat.reduceEqDiff, Nat.reduceAdd, Nat.reduceMul, Nat.reduceSub, Nat.reduceLeDiff, Nat.reduceLT, reduceIte, reduceCtorEq, Int.reduceBNe, Int.reduceBEq])
    simp only [ridC, ridE, ← hv, cond_true]
end Go.Proofs.YtnmlhilckjmhnaaDoor
