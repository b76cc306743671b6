/- Part 23 of the proof of MatchSorted: an abstract semantics that is proved sound for the model, contracts of functions in it, and plain facts (SP1 SP2 SP3 M18 N1 N2 N3 N4 N5 M19 M20 N6 N7 N8 N9 S5). No condition. -/
import Derived.Test.YtncadbcjikekhaaGreatDoorKMatchSorted22
import Derived.Shelf.Strings.Split
import Derived.BigCall
set_option linter.all false
namespace Go.Proofs.YtncadbcjikekhaaGreatDoor
open Go.Abs Go.Lib Go.RowKit
set_option linter.all false
set_option maxRecDepth 100000
theorem AC.of_callsN {P : Program} {σ : St} {f : Nat} {xs : List AV} {r : AV} (he : ∀ args w, (callFunc f args).run P w = .ok (.enter f args) w)
    (h : ∀ g w (vs : List Value), Inv g σ w → RelL g w xs vs → Calls P f vs.toArray w (fun e w' => ∃ v, e = .returned v ∧ Below w.heap.size w w' ∧ Rel (g.on w) w' r v)) : AC P f xs σ (fun x s => x = r ∧ s = σ) := by
  intro g w vs hI hv
  refine .inl ⟨he _ _, (h g w vs hI hv).mono ?_⟩
  rintro e w' ⟨v, rfl, hb, hr⟩
  exact ⟨v, r, σ, g.on w, rfl, ⟨rfl, rfl⟩, hI.below hb, Ext.below g hb, hr⟩
theorem genSplit_one (s : ByteArray) (c : UInt8) (w : World) (hs : s.size < 4294967281) :
    Calls Tryz.prog 104 #[.string s, .string ⟨#[c]⟩, .int .i64 0, .int .i64 (-1)] w fun e w' =>
      e = .returned (.slice (some ⟨w.heap.size, 0, none⟩) (Lib.countB s ⟨#[c]⟩ + 1) (Lib.countB s ⟨#[c]⟩ + 1)) ∧ w' = w.alloc (.cells ((Lib.splitB ⟨#[c]⟩ 0 (Lib.countB s ⟨#[c]⟩) s).map Value.string).toArray 9) := by
  have hle := Lib.countB_le ⟨#[c]⟩ (Nat.le_refl 1) s.size s (Nat.le_refl _)
  have hlen := Lib.splitB_all ⟨#[c]⟩ (Nat.le_refl 1) 0 _ s rfl
  have k := Any.strings_genSplit_core Tryz.lays221 (by kernel_rfl) s ⟨#[c]⟩ 0 (-1) (Lib.countB s ⟨#[c]⟩ + 1) w hs (Nat.le_refl 1) (Nat.zero_le _)
    (fun x cs hx => (Any.strings_Index_one Tryz.lays143 x c _).mono fun e w' h => ⟨by rw [h.1]; show _ = Ending.returned (Value.int .i64 (Lib.index x.data.toList [c])); rw [Lib.index_one], h.2⟩)
    ((Any.strings_Count_one Tryz.lays138 s c w).mono fun e w' h => ⟨by rw [h.1]; show _ = Ending.returned (Value.int .i64 ((Lib.count s.data.toList [c] : Nat) : Int)); rw [Lib.count_one]; rfl, h.2⟩)
    (by decide) (by decide) (by rw [if_pos (by decide)]; omega)
  rw [Nat.add_sub_cancel, hlen] at k
  have e2 : Lib.cellsOf (Lib.splitB ⟨#[c]⟩ 0 (Lib.countB s ⟨#[c]⟩) s) (Lib.countB s ⟨#[c]⟩ + 1) = ((Lib.splitB ⟨#[c]⟩ 0 (Lib.countB s ⟨#[c]⟩) s).map Value.string).toArray := by rw [← hlen]; exact Lib.cellsOf_full _
  rw [e2] at k
  exact k
theorem split_one (s : ByteArray) (c : UInt8) (w : World) (hs : s.size < 4294967281) :
    Calls Tryz.prog 69 #[.string s, .string ⟨#[c]⟩] w fun e w' =>
      e = .returned (.slice (some ⟨w.heap.size, 0, none⟩) (Lib.countB s ⟨#[c]⟩ + 1) (Lib.countB s ⟨#[c]⟩ + 1)) ∧ w' = w.alloc (.cells ((Lib.splitB ⟨#[c]⟩ 0 (Lib.countB s ⟨#[c]⟩) s).map Value.string).toArray 9) := by
  have k := genSplit_one s c w hs
  go_enter Tryz.func69, Tryz.ntmps69
  go_wp2_with (go_at_call 104; refine k.mono ?_; rintro e w' ⟨rfl, hw⟩; rw [hw])
  go_ret
  exact ⟨rfl, rfl⟩
theorem p123 (s : List UInt8) (c : UInt8) : Pu Tryz.prog 123 [.str s, .str [c]] (.int .i64 (Lib.indexByte s c)) := by
  intro σ
  refine AC.of_calls (Go.Proofs.enters_of Tryz.func123 (by kernel_rfl) rfl) ?_
  intro g w vs hI hv
  obtain ⟨v1, vs, rfl, r1, hv⟩ := hv.cons_inv
  obtain ⟨v2, vs, rfl, r2, hv⟩ := hv.cons_inv
  rw [hv.nil_inv, r1.str_inv, r2.str_inv]
  refine (Tryz.stringslite_Index_one ⟨s.toArray⟩ c w).mono ?_
  rintro e w' ⟨rfl, rfl⟩
  exact ⟨_, rfl, Below.refl _ _, fun g' _ => .int _ _⟩
theorem rel_strs {g : Gh} {w : World} : ∀ l : List (List UInt8), RelC g w (l.map AV.str) (l.map fun t => Value.string ⟨t.toArray⟩)
  | [] => RelC.nil
  | t :: l => RelC.append (a := [.str t]) (x := [.string ⟨t.toArray⟩]) ⟨.cons (.str t) .nil, by simp [Value.oneCell']⟩ (rel_strs l)
def partsL (s : List UInt8) (c : UInt8) : List (List UInt8) := Lib.split s [c]
theorem p69 (s : List UInt8) (c : UInt8) (hs : s.length ≤ 1000000) : Pu Tryz.prog 69 [.str s, .str [c]] (.sl false (partsL s c).length ((partsL s c).map AV.str)) := by
  intro σ
  refine AC.of_callsN (Go.Proofs.enters_of Tryz.func69 (by kernel_rfl) rfl) ?_
  intro g w vs hI hv
  obtain ⟨v1, vs, rfl, r1, hv⟩ := hv.cons_inv
  obtain ⟨v2, vs, rfl, r2, hv⟩ := hv.cons_inv
  rw [hv.nil_inv, r1.str_inv, r2.str_inv]
  refine (split_one ⟨s.toArray⟩ c w (by show s.toArray.size < _; simp; omega)).mono ?_
  rintro e w' ⟨rfl, rfl⟩
  have hd : (Lib.splitB ⟨#[c]⟩ 0 (Lib.countB ⟨s.toArray⟩ ⟨#[c]⟩) ⟨s.toArray⟩).map (·.data.toList) = partsL s c := by
    rw [Lib.splitB_data]; rfl
  have hn : Lib.countB ⟨s.toArray⟩ ⟨#[c]⟩ + 1 = (partsL s c).length := by
    rw [← hd, List.length_map, Lib.splitB_all ⟨#[c]⟩ (Nat.le_refl 1) 0 _ _ rfl]
  have hm : (Lib.splitB ⟨#[c]⟩ 0 (Lib.countB ⟨s.toArray⟩ ⟨#[c]⟩) ⟨s.toArray⟩).map Value.string = (partsL s c).map fun t => Value.string ⟨t.toArray⟩ := by
    rw [← hd, List.map_map]; rfl
  rw [hm, hn]
  refine ⟨_, rfl, (Below.refl _ w).alloc (Nat.le_refl _) _, Rel.sl_mk (u := (partsL s c).map fun t => Value.string ⟨t.toArray⟩) (Nat.le_refl _) (by simp) ⟨⟨by simp, .inl (by simp [Gh.on])⟩, rel_strs _, fun i v hv => ?_⟩⟩
  rw [World.cell?_alloc_new, Nat.zero_add]
  simpa using hv
end Go.Proofs.YtncadbcjikekhaaGreatDoor
namespace Go.Proofs.YtncadbcjikekhaaGreatDoor
open Go.Abs Go.Lib
set_option linter.all false
set_option maxRecDepth 100000
def findN : List UInt8 → UInt8 → Nat
  | [], _ => 0
  | x :: l, c => bif x == c then 0 else findN l c + 1
theorem findN_le (c : UInt8) : ∀ s, findN s c ≤ s.length
  | [] => Nat.le_refl _
  | x :: l => by
    have := findN_le c l
    unfold findN
    cases (x == c) <;> simp <;> omega
theorem find_index (c : UInt8) : ∀ s, Lib.indexByte s c = if findN s c < s.length then (findN s c : Int) else -1
  | [] => rfl
  | x :: l => by
    have h := find_index c l
    have h2 := findN_le c l
    unfold Lib.indexByte findN
    rw [h]
    cases hx : (x == c) with
    | true => simp
    | false =>
      simp only [cond_false, Bool.false_eq_true, if_false, List.length_cons]
      by_cases hl : findN l c < l.length
      · have h3 : ((findN l c : Int) == -1) = false := by rw [beq_eq_false_iff_ne]; omega
        rw [if_pos hl, h3, if_pos (show findN l c + 1 < l.length + 1 by omega), if_neg (by decide)]
        rfl
      · rw [if_neg hl, if_neg (show ¬ findN l c + 1 < l.length + 1 by omega)]; rfl
theorem p105 (s : List UInt8) (c : UInt8) (hs : s.length ≤ 1000000) : Pu Tryz.prog 105 [.str s, .str [c]] (.tup [.str (s.take (findN s c)), .str (s.drop (findN s c + 1)), .bool (decide (findN s c < s.length))]) := by
  have hle := findN_le c s
  have hi := p123 s c
  rw [find_index] at hi
  have hw : IntKind.i64.wrap ((findN s c : Int) + ((1 : Nat) : Int)) = ((findN s c + 1 : Nat) : Int) := by rw [wrap64 (by omega) (by omega)]; omega
  by_cases hf : findN s c < s.length
  · rw [if_pos hf] at hi
    have hd : decide ((0 : Int) ≤ (findN s c : Int)) = true := by simp
    (refine Pu_intro c105 b105 (Nat.le_of_ble_eq_true rfl) fun σ => ?_; simp only [c105, ↓R1, RR, Nat.reduceEqDiff, Nat.reduceAdd, Nat.reduceMul, Nat.reduceSub, Nat.reduceLeDiff, Nat.reduceLT, reduceIte, reduceCtorEq, Int.reduceBNe, Int.reduceBEq, hw, hd])
    repeat' (first | (with_reducible rw [allocV_eq]) | (with_reducible refine And.intro ?_ ?_; focus (intros; (repeat' (with_reducible apply And.intro)) <;> first | omega | (simp only [RZ]; omega))) | (with_reducible apply And.intro) | ((first | (refine gdV_split (fun hc => ?_) (fun hc => ?_) <;> (try simp only [hc, ↓R1, RR, Nat.reduceEqDiff, Nat.reduceAdd, Nat.reduceMul, Nat.reduceSub, Nat.reduceLeDiff, Nat.reduceLT, reduceIte, reduceCtorEq, Int.reduceBNe, Int.reduceBEq, hw, hd])) | refine condV_split (fun hc => ?_) (fun hc => ?_) | (with_reducible intro β hβ; (try simp only [RB] at hβ); (repeat (obtain ⟨⟨_, _⟩, hβ⟩ := hβ)); (try (have hbis := apart_is (by assumption) hβ; obtain ⟨_, _⟩ := hbis))) | refine Pt (hi) ?_ | refine Ct (hi) ?_) <;> (try simp only [↓R1, RR, Nat.reduceEqDiff, Nat.reduceAdd, Nat.reduceMul, Nat.reduceSub, Nat.reduceLeDiff, Nat.reduceLT, reduceIte, reduceCtorEq, Int.reduceBNe, Int.reduceBEq, hw, hd])))
    all_goals first | (exfalso; simp at hc; omega) | omega | skip
    all_goals (refine endP_pu (by simp) (by first | (simp [rvsS, rvS]; done) | (simp only [rvsS, rvS, ↓R1, RR, Nat.reduceEqDiff, Nat.reduceAdd, Nat.reduceMul, Nat.reduceSub, Nat.reduceLeDiff, Nat.reduceLT, reduceIte, reduceCtorEq, Int.reduceBNe, Int.reduceBEq, hw, hd]; try simp)) (wk_of_eq ?_) (by (repeat (first | exact St.le_refl _ | (refine St.le_new ?_ (by assumption)) | (refine St.le_newT ?_ (by assumption))))))
    all_goals (simp only [resAV, rvV, List.map_cons, List.map_nil, ↓R1, RR, Nat.reduceEqDiff, Nat.reduceAdd, Nat.reduceMul, Nat.reduceSub, Nat.reduceLeDiff, Nat.reduceLT, reduceIte, reduceCtorEq, Int.reduceBNe, Int.reduceBEq, hw, hd])
    all_goals first | (rw [List.take_of_length_le (by simp : (List.drop (findN s c + 1) s).length ≤ s.length - (findN s c + 1)), decide_eq_true hf]; done) | (rw [List.take_of_length_le (by omega : s.length ≤ findN s c), List.drop_of_length_le (by omega : s.length ≤ findN s c + 1), decide_eq_false hf]; done) | trace_state
  · rw [if_neg hf] at hi
    have hd : decide ((0 : Int) ≤ -1) = false := by decide
    (refine Pu_intro c105 b105 (Nat.le_of_ble_eq_true rfl) fun σ => ?_; simp only [c105, ↓R1, RR, Nat.reduceEqDiff, Nat.reduceAdd, Nat.reduceMul, Nat.reduceSub, Nat.reduceLeDiff, Nat.reduceLT, reduceIte, reduceCtorEq, Int.reduceBNe, Int.reduceBEq, hw, hd])
    repeat' (first | (with_reducible rw [allocV_eq]) | (with_reducible refine And.intro ?_ ?_; focus (intros; (repeat' (with_reducible apply And.intro)) <;> first | omega | (simp only [RZ]; omega))) | (with_reducible apply And.intro) | ((first | (refine gdV_split (fun hc => ?_) (fun hc => ?_) <;> (try simp only [hc, ↓R1, RR, Nat.reduceEqDiff, Nat.reduceAdd, Nat.reduceMul, Nat.reduceSub, Nat.reduceLeDiff, Nat.reduceLT, reduceIte, reduceCtorEq, Int.reduceBNe, Int.reduceBEq, hw, hd])) | refine condV_split (fun hc => ?_) (fun hc => ?_) | (with_reducible intro β hβ; (try simp only [RB] at hβ); (repeat (obtain ⟨⟨_, _⟩, hβ⟩ := hβ)); (try (have hbis := apart_is (by assumption) hβ; obtain ⟨_, _⟩ := hbis))) | refine Pt (hi) ?_ | refine Ct (hi) ?_) <;> (try simp only [↓R1, RR, Nat.reduceEqDiff, Nat.reduceAdd, Nat.reduceMul, Nat.reduceSub, Nat.reduceLeDiff, Nat.reduceLT, reduceIte, reduceCtorEq, Int.reduceBNe, Int.reduceBEq, hw, hd])))
    all_goals first | (exfalso; simp at hc; omega) | omega | skip
    all_goals (refine endP_pu (by simp) (by first | (simp [rvsS, rvS]; done) | (simp only [rvsS, rvS, ↓R1, RR, Nat.reduceEqDiff, Nat.reduceAdd, Nat.reduceMul, Nat.reduceSub, Nat.reduceLeDiff, Nat.reduceLT, reduceIte, reduceCtorEq, Int.reduceBNe, Int.reduceBEq, hw, hd]; try simp)) (wk_of_eq ?_) (by (repeat (first | exact St.le_refl _ | (refine St.le_new ?_ (by assumption)) | (refine St.le_newT ?_ (by assumption))))))
    all_goals (simp only [resAV, rvV, List.map_cons, List.map_nil, ↓R1, RR, Nat.reduceEqDiff, Nat.reduceAdd, Nat.reduceMul, Nat.reduceSub, Nat.reduceLeDiff, Nat.reduceLT, reduceIte, reduceCtorEq, Int.reduceBNe, Int.reduceBEq, hw, hd])
    all_goals first | (rw [List.take_of_length_le (by simp : (List.drop (findN s c + 1) s).length ≤ s.length - (findN s c + 1)), decide_eq_true hf]; done) | (rw [List.take_of_length_le (by omega : s.length ≤ findN s c), List.drop_of_length_le (by omega : s.length ≤ findN s c + 1), decide_eq_false hf]; done) | trace_state
theorem p70 (s : List UInt8) (c : UInt8) (hs : s.length ≤ 1000000) : Pu Tryz.prog 70 [.str s, .str [c]] (.tup [.str (s.take (findN s c)), .str (s.drop (findN s c + 1)), .bool (decide (findN s c < s.length))]) := by
  have h := p105 s c hs
  (refine Pu_intro c70 b70 (Nat.le_of_ble_eq_true rfl) fun σ => ?_; simp only [c70, ↓R1, RR, Nat.reduceEqDiff, Nat.reduceAdd, Nat.reduceMul, Nat.reduceSub, Nat.reduceLeDiff, Nat.reduceLT, reduceIte, reduceCtorEq, Int.reduceBNe, Int.reduceBEq])
  repeat' (first | (with_reducible rw [allocV_eq]) | (with_reducible refine And.intro ?_ ?_; focus (intros; (repeat' (with_reducible apply And.intro)) <;> first | omega | (simp only [RZ]; omega))) | (with_reducible apply And.intro) | ((first | (refine gdV_split (fun hc => ?_) (fun hc => ?_) <;> (try simp only [hc, ↓R1, RR, Nat.reduceEqDiff, Nat.reduceAdd, Nat.reduceMul, Nat.reduceSub, Nat.reduceLeDiff, Nat.reduceLT, reduceIte, reduceCtorEq, Int.reduceBNe, Int.reduceBEq])) | refine condV_split (fun hc => ?_) (fun hc => ?_) | (with_reducible intro β hβ; (try simp only [RB] at hβ); (repeat (obtain ⟨⟨_, _⟩, hβ⟩ := hβ)); (try (have hbis := apart_is (by assumption) hβ; obtain ⟨_, _⟩ := hbis))) | refine Pt (h) ?_ | refine Ct (h) ?_) <;> (try simp only [↓R1, RR, Nat.reduceEqDiff, Nat.reduceAdd, Nat.reduceMul, Nat.reduceSub, Nat.reduceLeDiff, Nat.reduceLT, reduceIte, reduceCtorEq, Int.reduceBNe, Int.reduceBEq])))
  (refine endP_pu (by simp) (by first | (simp [rvsS, rvS]; done) | (simp only [rvsS, rvS, ↓R1, RR, Nat.reduceEqDiff, Nat.reduceAdd, Nat.reduceMul, Nat.reduceSub, Nat.reduceLeDiff, Nat.reduceLT, reduceIte, reduceCtorEq, Int.reduceBNe, Int.reduceBEq]; try simp)) (wk_of_eq ?_) (by (repeat (first | exact St.le_refl _ | (refine St.le_new ?_ (by assumption)) | (refine St.le_newT ?_ (by assumption))))))
  (simp only [resAV, rvV, List.map_cons, List.map_nil, ↓R1, RR, Nat.reduceEqDiff, Nat.reduceAdd, Nat.reduceMul, Nat.reduceSub, Nat.reduceLeDiff, Nat.reduceLT, reduceIte, reduceCtorEq, Int.reduceBNe, Int.reduceBEq])
end Go.Proofs.YtncadbcjikekhaaGreatDoor
namespace Go.Proofs.YtncadbcjikekhaaGreatDoor
open Go.Abs Go.Lib
set_option linter.all false
theorem find_hit (c : UInt8) : ∀ s, findN s c < s.length → (s[findN s c]?.getD 0 == c) = true
  | [], h => by simp [findN] at h
  | x :: l, h => by
    unfold findN at h ⊢
    cases hx : (x == c) with
    | true => simpa using hx
    | false =>
      rw [hx, cond_false] at h
      simpa using find_hit c l (by simpa using h)
def hS (s : List UInt8) (c : UInt8) : List UInt8 := s.take (findN s c)
def tS (s : List UInt8) (c : UInt8) : List UInt8 := s.drop (findN s c + 1)
theorem split_at {s : List UInt8} {c : UInt8} (h : findN s c < s.length) : hS s c ++ [c] ++ tS s c = s := by
  have hh := find_hit c s h
  have e : s[findN s c]?.getD 0 = s[findN s c] := by rw [List.getElem?_eq_getElem h]; rfl
  rw [e, beq_iff_eq] at hh
  unfold hS tS
  rw [List.append_assoc]
  conv => rhs; rw [← List.take_append_drop (findN s c) s, List.drop_eq_getElem_cons h, hh]
  rfl
theorem count_find (c : UInt8) : ∀ s, (s.count c = 0 ↔ ¬ findN s c < s.length) ∧ (findN s c < s.length → s.count c = (tS s c).count c + 1)
  | [] => by simp [findN]
  | x :: l => by
    obtain ⟨h1, h2⟩ := count_find c l
    unfold tS at h2 ⊢
    unfold findN
    cases hx : (x == c) with
    | true => simp at hx; subst hx; simp
    | false =>
      have hne : x ≠ c := by simpa using hx
      simp only [cond_false, List.length_cons, List.drop_succ_cons, Nat.add_lt_add_iff_right]
      rw [List.count_cons_of_ne hne]
      exact ⟨h1, h2⟩
theorem index_pos {s : List UInt8} {c : UInt8} (h : findN s c < s.length) : Lib.index s [c] = (findN s c : Int) := by
  rw [Lib.index_one, find_index, if_pos h]
theorem parts_no {s : List UInt8} {c : UInt8} (h : ¬ findN s c < s.length) : partsL s c = [s] := by
  unfold partsL Lib.split
  rw [Lib.count_one, (count_find c s).1.2 h]
  rfl
theorem parts_yes {s : List UInt8} {c : UInt8} (h : findN s c < s.length) : partsL s c = hS s c :: partsL (tS s c) c := by
  unfold partsL Lib.split
  rw [Lib.count_one, Lib.count_one, (count_find c s).2 h]
  show (if Lib.index s [c] == -1 then _ else _) = _
  have e : ((findN s c : Int) == -1) = false := by rw [beq_eq_false_iff_ne]; omega
  rw [index_pos h, e, if_neg (by simp), Int.toNat_natCast]
  rfl
theorem parts_len (s : List UInt8) : (partsL s 32).length ≤ s.length + 1 := by
  unfold partsL Lib.split
  have : ∀ n s, (Lib.splitK [32] 0 n s).length ≤ n + 1 := by
    intro n
    induction n with
    | zero => intro s; simp [Lib.splitK]
    | succ n ih =>
      intro s
      unfold Lib.splitK
      split
      · simp
      · rw [List.length_cons]
        exact Nat.succ_le_succ (ih _)
  have h2 := this (Lib.count s [32]) s
  have h3 : Lib.count s [32] ≤ s.length := by rw [Lib.count_one]; exact List.count_le_length
  omega
theorem findN_no {c : UInt8} : ∀ {s : List UInt8}, c ∉ s ↔ ¬ findN s c < s.length
  | [] => by simp [findN]
  | x :: l => by
    have ih := findN_no (c := c) (s := l)
    unfold findN
    cases hx : (x == c) with
    | true => simp at hx; subst hx; simp
    | false =>
      have hne : x ≠ c := by simpa using hx
      simp only [cond_false, List.length_cons, Nat.add_lt_add_iff_right, List.mem_cons, not_or]
      rw [← ih]
      exact ⟨fun h => h.2, fun h => ⟨fun e => hne e.symm, h⟩⟩
theorem hS_no {s : List UInt8} {c : UInt8} : c ∉ hS s c := by
  unfold hS
  induction s with
  | nil => simp
  | cons x l ih =>
    unfold findN
    cases hx : (x == c) with
    | true => simp
    | false =>
      have hne : x ≠ c := by simpa using hx
      simp only [cond_false, List.take_succ_cons, List.mem_cons, not_or]
      exact ⟨fun e => hne e.symm, ih⟩
theorem parts_join (c : UInt8) : ∀ (n : Nat) (s : List UInt8), s.length ≤ n → Lib.join (partsL s c) [c] = s ∧ partsL s c ≠ [] := by
  intro n
  induction n with
  | zero =>
    intro s hs
    have : s = [] := List.eq_nil_of_length_eq_zero (by omega)
    subst this
    rw [parts_no (by simp [findN]), Lib.join_one]; simp
  | succ n ih =>
    intro s hs
    by_cases h : findN s c < s.length
    · rw [parts_yes h]
      have hl : (tS s c).length ≤ n := by simp [tS]; omega
      obtain ⟨h1, h2⟩ := ih _ hl
      refine ⟨?_, by simp⟩
      cases hp : partsL (tS s c) c with
      | nil => exact absurd hp h2
      | cons x r =>
        rw [hp] at h1
        rw [Lib.join_cons] at h1 ⊢
        have e := split_at h
        rw [← h1] at e
        refine Eq.trans ?_ e
        simp only [joinTail, List.map_cons, List.flatten_cons, List.append_assoc]
    · rw [parts_no h, Lib.join_one]; simp
theorem parts_mem (c : UInt8) : ∀ (n : Nat) (s : List UInt8), s.length ≤ n → ∀ w ∈ partsL s c, w.length ≤ s.length ∧ c ∉ w := by
  intro n
  induction n with
  | zero =>
    intro s hs w hw
    have : s = [] := List.eq_nil_of_length_eq_zero (by omega)
    subst this
    rw [parts_no (by simp [findN])] at hw
    simp at hw; subst hw; simp
  | succ n ih =>
    intro s hs w hw
    by_cases h : findN s c < s.length
    · rw [parts_yes h] at hw
      rcases List.mem_cons.1 hw with rfl | hw
      · exact ⟨by simp [hS]; omega, hS_no⟩
      · have hl : (tS s c).length ≤ n := by simp [tS]; omega
        obtain ⟨h1, h2⟩ := ih _ hl w hw
        exact ⟨by have : (tS s c).length ≤ s.length := by simp [tS]
                  omega, h2⟩
    · rw [parts_no h] at hw
      simp at hw; subst hw
      exact ⟨Nat.le_refl _, findN_no.2 h⟩
end Go.Proofs.YtncadbcjikekhaaGreatDoor
namespace Go.Proofs.YtncadbcjikekhaaGreatDoor
open Go.Abs Go.Lib
set_option linter.all false
set_option maxRecDepth 100000
def natM (s : List UInt8) : Int := natX s 1099511627776
def natF (s : List UInt8) : Int := natE s 1099511627776
def pwA (w : List UInt8) : List UInt8 := w.take (findN w 58)
def pwB (w : List UInt8) : List UInt8 := w.drop (findN w 58 + 1)
def pwBad (w : List UInt8) : Bool := (!decide (findN w 58 < w.length) || natF (pwA w) == 3) || natF (pwB w) == 3
def pwLate (w : List UInt8) : Bool := (natF (pwA w) != 0) || (natF (pwB w) != 0)
def pwPl (w : List UInt8) : Pl := ⟨natM (pwA w), natM (pwB w)⟩
def parE (s : List UInt8) : Int := bif (partsL s 32).any pwBad then 3 else bif (partsL s 32).any pwLate then 2 else checkS ((partsL s 32).map pwPl)
def parL (s : List UInt8) : List Pl := bif parE s == 0 then (partsL s 32).map pwPl else []
theorem natM_rng (s : List UInt8) : 0 ≤ natM s ∧ natM s ≤ 1099511627776 := by
  unfold natM natX natB
  cases goodS s with
  | false => simp
  | true =>
    simp only [cond_true]
    cases h : (decide (18446744073709551616 ≤ val 0 s) || decide ((1099511627776 : Int) < ((val 0 s % 18446744073709551616 : Nat) : Int))) with
    | true => simp
    | false =>
      simp only [Bool.or_eq_false_iff, decide_eq_false_iff_not] at h
      simp only [cond_false]; omega
theorem pw_step (ws : List (List UInt8)) {k : Nat} (h : k < ws.length) : ((ws.take k).map pwPl).flatMap cP ++ [.int .i64 (natM (pwA ws[k])), .int .i64 (natM (pwB ws[k]))] = ((ws.take (k + 1)).map pwPl).flatMap cP := by
  rw [← List.take_append_getElem h, List.map_append, List.flatMap_append]; rfl
theorem strs_at (l : List (List UInt8)) {k : Nat} (h : k < l.length) : ((l.map AV.str).drop (k * 1)).take 1 = [.str l[k]] := by
  rw [Nat.mul_one, List.drop_eq_getElem_cons (by simpa using h)]
  simp
set_option maxHeartbeats 4000000 in
theorem p33 (s : List UInt8) (hs : s.length ≤ 100000) : Pu Tryz.prog 33 [.str s] (.tup [.agg [.sl false (parL s).length ((parL s).flatMap cP)], .int .i64 (parE s)]) := by
  have q0 : True := trivial
  have q1 : True := trivial
  have q2 : True := trivial
  have q3 : True := trivial
  have q4 : True := trivial
  have hw : True := trivial
  have hd : True := trivial
  have hw1 : True := trivial
  have hw2 : True := trivial
  obtain ⟨ws, hws⟩ : ∃ ws, partsL s 32 = ws := ⟨_, rfl⟩
  have hsp := p69 s 32 (by omega)
  have hpl := parts_len s
  have hpm := parts_mem 32 _ s (Nat.le_refl _)
  unfold parL parE
  rw [hws] at hsp hpl hpm ⊢
  (refine Pu_intro c33 b33 (Nat.le_of_ble_eq_true rfl) fun σ => ?_; simp only [c33, ↓R1, RR, seval, q0, q1, q2, q3, q4, hw, hd, hw1, hw2])
  repeat' (first | (with_reducible rw [allocV_eq]) | (with_reducible refine And.intro ?_ ?_; focus (intros; (repeat' (with_reducible apply And.intro)) <;> first | omega | (simp only [RZ, cP_len, cI_len]; omega))) | (with_reducible apply And.intro) | ((first | (refine gdV_split (fun hc => ?_) (fun hc => ?_) <;> (try simp only [hc, ↓R1, RR, seval, q0, q1, q2, q3, q4, hw, hd, hw1, hw2])) | refine condV_split (fun hc => ?_) (fun hc => ?_) | (with_reducible intro β hβ; (try simp only [RB] at hβ); (repeat (obtain ⟨⟨_, _⟩, hβ⟩ := hβ)); (try (have hbis := apart_is (by assumption) hβ; obtain ⟨_, _⟩ := hbis))) | ((first | refine appD_tslK (.inr rfl) rfl ?_ ?_ ?_ ?_ ?_ ?_ | refine appV_tslK rfl ?_ ?_ ?_ ?_ ?_ ?_); (first | rfl | exact St.tip_same _ _ _ | simp only [↓R1, RR, seval, q0, q1, q2, q3, q4, hw, hd, hw1, hw2]); (iterate 2 (first | omega | (simp only [RZ, cP_len, cI_len]; first | done | omega) | rfl)); (unfold maxLen; omega); omega) | refine Pt (hsp) ?_ | refine Ct (hsp) ?_) <;> (try simp only [↓R1, RR, seval, q0, q1, q2, q3, q4, hw, hd, hw1, hw2])))
  rename_i b2 hb2 a1 a2
  refine loopV_forBx ws.length 4 0 70 2 (β := β) rfl (by simp only [↓R1, RR, seval, q0, q1, q2, q3, q4, hw, hd, hw1, hw2]; rfl) rfl
    (fun τ k => [(2, .ptr b2 0), (4, .ptr β 0), (5, .int .i64 (bif (ws.take k).any pwLate then 2 else 0)), (17, .sl false ws.length (ws.map AV.str)), (18, .int .i64 (ws.length : Nat)), (19, .int .i64 (k : Nat))])
    (fun τ k => (((σ.setBox b2 [.nils]).setBox β [.tsl τ k (((ws.take k).map pwPl).flatMap cP)]).setTip τ (70, 2, k)))
    (fun k => (ws.take k).any pwBad = false) rfl (fun τ => by simp [subF, slot, wk_refl]) (fun τ hτ => by simp only [List.set_cons_zero, List.take_zero, List.map_nil, List.flatMap_nil, ↓R1, RR, seval, q0, q1, q2, q3, q4, hw, hd, hw1, hw2]; exact St.le_refl _) (fun τ hτ k hk hI => ?_)
  have hτ : σ.tip τ = none := by first | exact hτ | (simp only [St.tip_set, St.tip_noneA, ↓R1, RR, seval, q0, q1, q2, q3, q4, hw, hd, hw1, hw2] at hτ; first | exact hτ | exact hτ.2 | exact hτ.1)
  by_cases hlt : k < ws.length
  · have q0 : decide ((k : Int) < (ws.length : Int)) = true := by rw [decide_eq_true_eq]; omega
    have hd := strs_at ws hlt
    have hw : IntKind.i64.wrap ((k : Int) + 1) = ((k + 1 : Nat) : Int) := by rw [wrap64 (by omega) (by omega)]; omega
    obtain ⟨w, hwk⟩ : ∃ w, ws[k] = w := ⟨_, rfl⟩
    have hwl : w.length ≤ s.length := by rw [← hwk]; exact (hpm _ (List.getElem_mem hlt)).1
    have hcut := p70 w 58 (by omega)
    have hna := p71 (pwA w) 1099511627776 (by simp [pwA]; unfold maxLen; omega)
    have hnb := p71 (pwB w) 1099511627776 (by simp [pwB]; unfold maxLen; omega)
    rw [natN_eq] at hna hnb
    have hs := pw_step ws hlt
    have hcl : (((ws.take k).map pwPl).flatMap cP).length = k * 2 := by rw [cP_len]; simp; omega
    have hla := natM_rng (pwA w)
    have hlb := natM_rng (pwB w)
    have hw1 : IntKind.i64.wrap (natX (pwA w) 1099511627776) = natX (pwA w) 1099511627776 := by have h := hla; unfold natM at h; exact wrap64 (by omega) (by omega)
    have hw2 : IntKind.i64.wrap (natX (pwB w) 1099511627776) = natX (pwB w) 1099511627776 := by have h := hlb; unfold natM at h; exact wrap64 (by omega) (by omega)
    rw [hwk] at hd hs
    have hanyL : (ws.take (k + 1)).any pwLate = ((ws.take k).any pwLate || pwLate w) := by rw [any_takeG _ _ hlt, hwk]
    have hanyB : (ws.take (k + 1)).any pwBad = ((ws.take k).any pwBad || pwBad w) := by rw [any_takeG _ _ hlt, hwk]
    have hpb : pwBad w = ((!decide (findN w 58 < w.length) || natE (pwA w) 1099511627776 == 3) || natE (pwB w) 1099511627776 == 3) := rfl
    have hpt : pwLate w = ((natE (pwA w) 1099511627776 != 0) || (natE (pwB w) 1099511627776 != 0)) := rfl
    obtain ⟨x, hx⟩ : ∃ x, natE (pwA w) 1099511627776 = x := ⟨_, rfl⟩
    obtain ⟨y, hy⟩ : ∃ y, natE (pwB w) 1099511627776 = y := ⟨_, rfl⟩
    obtain ⟨b, hb⟩ : ∃ b, decide (findN w 58 < w.length) = b := ⟨_, rfl⟩
    rw [hx, hy, hb] at hpb
    rw [hx, hy] at hpt
    rw [hx] at hna
    rw [hy] at hnb
    rw [hb] at hcut
    change Pu _ _ _ (.tup [.str (pwA w), .str (pwB w), .bool b]) at hcut
    cases hbad : pwBad w with
    | true =>
      have hany : ws.any pwBad = true := any_true pwBad ws hlt (by rw [hwk]; exact hbad)
      rw [hany]
      simp only [cond_true, show ((3 : Int) == 0) = false from rfl, cond_false, List.length_nil, List.flatMap_nil]
      rw [hbad] at hpb
      cases b with
      | false =>
        simp only [q0, ↓R1, RR, seval, q0, q1, q2, q3, q4, hw, hd, hw1, hw2]
        repeat' (first | (with_reducible rw [allocV_eq]) | (with_reducible refine And.intro ?_ ?_; focus (intros; (repeat' (with_reducible apply And.intro)) <;> first | omega | (simp only [RZ, cP_len, cI_len]; omega))) | (with_reducible apply And.intro) | ((first | (refine gdV_split (fun hc => ?_) (fun hc => ?_) <;> (try simp only [hc, ↓R1, RR, seval, q0, q1, q2, q3, q4, hw, hd, hw1, hw2])) | refine condV_split (fun hc => ?_) (fun hc => ?_) | (with_reducible intro β hβ; (try simp only [RB] at hβ); (repeat (obtain ⟨⟨_, _⟩, hβ⟩ := hβ)); (try (have hbis := apart_is (by assumption) hβ; obtain ⟨_, _⟩ := hbis))) | ((first | refine appD_tslK (.inr rfl) rfl ?_ ?_ ?_ ?_ ?_ ?_ | refine appV_tslK rfl ?_ ?_ ?_ ?_ ?_ ?_); (first | rfl | exact St.tip_same _ _ _ | simp only [↓R1, RR, seval, q0, q1, q2, q3, q4, hw, hd, hw1, hw2]); (iterate 2 (first | omega | (simp only [RZ, cP_len, cI_len]; first | done | omega) | rfl)); (unfold maxLen; omega); omega) | refine Pt (hcut) ?_ | refine Ct (hcut) ?_ | refine Pt (hna) ?_ | refine Ct (hna) ?_ | refine Pt (hnb) ?_ | refine Ct (hnb) ?_) <;> (try simp only [↓R1, RR, seval, q0, q1, q2, q3, q4, hw, hd, hw1, hw2])))
        (refine endP_pu (by simp) (by first | (simp [rvsS, rvS]; done) | (simp only [rvsS, rvS, ↓R1, RR, seval, q0, q1, q2, q3, q4, hw, hd, hw1, hw2]; try simp)) ?_ (by (repeat (first | exact St.le_refl _ | (refine St.le_new ?_ (by assumption)) | (refine St.le_newT ?_ (by assumption))))))
        simp only [resAV, rvV, List.map_cons, List.map_nil, ↓R1, RR, seval, q0, q1, q2, q3, q4, hw, hd, hw1, hw2]
        (repeat' (first | exact wk_refl _ | exact wk_nils | exact wk_tsl _ _ _ | exact wk_full _ _ | exact wkL.nil | exact wkL_refl _ | refine wk_tup ?_ | refine wk_agg ?_ | refine wkL.cons ?_ ?_))
      | true =>
        cases q1 : (x == 3) with
        | true =>
          simp only [q0, ↓R1, RR, seval, q0, q1, q2, q3, q4, hw, hd, hw1, hw2]
          repeat' (first | (with_reducible rw [allocV_eq]) | (with_reducible refine And.intro ?_ ?_; focus (intros; (repeat' (with_reducible apply And.intro)) <;> first | omega | (simp only [RZ, cP_len, cI_len]; omega))) | (with_reducible apply And.intro) | ((first | (refine gdV_split (fun hc => ?_) (fun hc => ?_) <;> (try simp only [hc, ↓R1, RR, seval, q0, q1, q2, q3, q4, hw, hd, hw1, hw2])) | refine condV_split (fun hc => ?_) (fun hc => ?_) | (with_reducible intro β hβ; (try simp only [RB] at hβ); (repeat (obtain ⟨⟨_, _⟩, hβ⟩ := hβ)); (try (have hbis := apart_is (by assumption) hβ; obtain ⟨_, _⟩ := hbis))) | ((first | refine appD_tslK (.inr rfl) rfl ?_ ?_ ?_ ?_ ?_ ?_ | refine appV_tslK rfl ?_ ?_ ?_ ?_ ?_ ?_); (first | rfl | exact St.tip_same _ _ _ | simp only [↓R1, RR, seval, q0, q1, q2, q3, q4, hw, hd, hw1, hw2]); (iterate 2 (first | omega | (simp only [RZ, cP_len, cI_len]; first | done | omega) | rfl)); (unfold maxLen; omega); omega) | refine Pt (hcut) ?_ | refine Ct (hcut) ?_ | refine Pt (hna) ?_ | refine Ct (hna) ?_ | refine Pt (hnb) ?_ | refine Ct (hnb) ?_) <;> (try simp only [↓R1, RR, seval, q0, q1, q2, q3, q4, hw, hd, hw1, hw2])))
          (refine endP_pu (by simp) (by first | (simp [rvsS, rvS]; done) | (simp only [rvsS, rvS, ↓R1, RR, seval, q0, q1, q2, q3, q4, hw, hd, hw1, hw2]; try simp)) ?_ (by (repeat (first | exact St.le_refl _ | (refine St.le_new ?_ (by assumption)) | (refine St.le_newT ?_ (by assumption))))))
          simp only [resAV, rvV, List.map_cons, List.map_nil, ↓R1, RR, seval, q0, q1, q2, q3, q4, hw, hd, hw1, hw2]
          (repeat' (first | exact wk_refl _ | exact wk_nils | exact wk_tsl _ _ _ | exact wk_full _ _ | exact wkL.nil | exact wkL_refl _ | refine wk_tup ?_ | refine wk_agg ?_ | refine wkL.cons ?_ ?_))
        | false =>
          rw [q1] at hpb
          have q2 : (y == 3) = true := by simpa using hpb.symm
          simp only [q0, ↓R1, RR, seval, q0, q1, q2, q3, q4, hw, hd, hw1, hw2]
          repeat' (first | (with_reducible rw [allocV_eq]) | (with_reducible refine And.intro ?_ ?_; focus (intros; (repeat' (with_reducible apply And.intro)) <;> first | omega | (simp only [RZ, cP_len, cI_len]; omega))) | (with_reducible apply And.intro) | ((first | (refine gdV_split (fun hc => ?_) (fun hc => ?_) <;> (try simp only [hc, ↓R1, RR, seval, q0, q1, q2, q3, q4, hw, hd, hw1, hw2])) | refine condV_split (fun hc => ?_) (fun hc => ?_) | (with_reducible intro β hβ; (try simp only [RB] at hβ); (repeat (obtain ⟨⟨_, _⟩, hβ⟩ := hβ)); (try (have hbis := apart_is (by assumption) hβ; obtain ⟨_, _⟩ := hbis))) | ((first | refine appD_tslK (.inr rfl) rfl ?_ ?_ ?_ ?_ ?_ ?_ | refine appV_tslK rfl ?_ ?_ ?_ ?_ ?_ ?_); (first | rfl | exact St.tip_same _ _ _ | simp only [↓R1, RR, seval, q0, q1, q2, q3, q4, hw, hd, hw1, hw2]); (iterate 2 (first | omega | (simp only [RZ, cP_len, cI_len]; first | done | omega) | rfl)); (unfold maxLen; omega); omega) | refine Pt (hcut) ?_ | refine Ct (hcut) ?_ | refine Pt (hna) ?_ | refine Ct (hna) ?_ | refine Pt (hnb) ?_ | refine Ct (hnb) ?_) <;> (try simp only [↓R1, RR, seval, q0, q1, q2, q3, q4, hw, hd, hw1, hw2])))
          (refine endP_pu (by simp) (by first | (simp [rvsS, rvS]; done) | (simp only [rvsS, rvS, ↓R1, RR, seval, q0, q1, q2, q3, q4, hw, hd, hw1, hw2]; try simp)) ?_ (by (repeat (first | exact St.le_refl _ | (refine St.le_new ?_ (by assumption)) | (refine St.le_newT ?_ (by assumption))))))
          simp only [resAV, rvV, List.map_cons, List.map_nil, ↓R1, RR, seval, q0, q1, q2, q3, q4, hw, hd, hw1, hw2]
          (repeat' (first | exact wk_refl _ | exact wk_nils | exact wk_tsl _ _ _ | exact wk_full _ _ | exact wkL.nil | exact wkL_refl _ | refine wk_tup ?_ | refine wk_agg ?_ | refine wkL.cons ?_ ?_))
    | false =>
      rw [hbad] at hpb hanyB
      have hb1 : b = true := by cases b with
        | true => rfl
        | false => simp at hpb
      subst hb1
      have q1 : (x == 3) = false := by cases h : (x == 3) with
        | false => rfl
        | true => rw [h] at hpb; simp at hpb
      have q2 : (y == 3) = false := by rw [q1] at hpb; simpa using hpb.symm
      have hB : (ws.take (k + 1)).any pwBad = false := by rw [hanyB, hI]; rfl
      cases q3 : (x != 0) with
      | true =>
        have hL : (ws.take (k + 1)).any pwLate = true := by rw [hanyL, hpt, q3]; simp
        simp only [q0, ↓R1, RR, seval, q0, q1, q2, q3, q4, hw, hd, hw1, hw2]
        repeat' (first | (with_reducible rw [allocV_eq]) | (with_reducible refine And.intro ?_ ?_; focus (intros; (repeat' (with_reducible apply And.intro)) <;> first | omega | (simp only [RZ, cP_len, cI_len]; omega))) | (with_reducible apply And.intro) | ((first | (refine gdV_split (fun hc => ?_) (fun hc => ?_) <;> (try simp only [hc, ↓R1, RR, seval, q0, q1, q2, q3, q4, hw, hd, hw1, hw2])) | refine condV_split (fun hc => ?_) (fun hc => ?_) | (with_reducible intro β hβ; (try simp only [RB] at hβ); (repeat (obtain ⟨⟨_, _⟩, hβ⟩ := hβ)); (try (have hbis := apart_is (by assumption) hβ; obtain ⟨_, _⟩ := hbis))) | ((first | refine appD_tslK (.inr rfl) rfl ?_ ?_ ?_ ?_ ?_ ?_ | refine appV_tslK rfl ?_ ?_ ?_ ?_ ?_ ?_); (first | rfl | exact St.tip_same _ _ _ | simp only [↓R1, RR, seval, q0, q1, q2, q3, q4, hw, hd, hw1, hw2]); (iterate 2 (first | omega | (simp only [RZ, cP_len, cI_len]; first | done | omega) | rfl)); (unfold maxLen; omega); omega) | refine Pt (hcut) ?_ | refine Ct (hcut) ?_ | refine Pt (hna) ?_ | refine Ct (hna) ?_ | refine Pt (hnb) ?_ | refine Ct (hnb) ?_) <;> (try simp only [↓R1, RR, seval, q0, q1, q2, q3, q4, hw, hd, hw1, hw2])))
        · rw [hL]; simp [subF, slot, wk_refl]
        · rw [show [AV.int IntKind.i64 (natX (pwA w) 1099511627776), AV.int IntKind.i64 (natX (pwB w) 1099511627776)] = [.int .i64 (natM (pwA w)), .int .i64 (natM (pwB w))] from rfl, hs]; exact St.le_refl _
      | false =>
        cases q4 : (y != 0) with
        | true =>
          have hL : (ws.take (k + 1)).any pwLate = true := by rw [hanyL, hpt, q4]; simp
          simp only [q0, ↓R1, RR, seval, q0, q1, q2, q3, q4, hw, hd, hw1, hw2]
          repeat' (first | (with_reducible rw [allocV_eq]) | (with_reducible refine And.intro ?_ ?_; focus (intros; (repeat' (with_reducible apply And.intro)) <;> first | omega | (simp only [RZ, cP_len, cI_len]; omega))) | (with_reducible apply And.intro) | ((first | (refine gdV_split (fun hc => ?_) (fun hc => ?_) <;> (try simp only [hc, ↓R1, RR, seval, q0, q1, q2, q3, q4, hw, hd, hw1, hw2])) | refine condV_split (fun hc => ?_) (fun hc => ?_) | (with_reducible intro β hβ; (try simp only [RB] at hβ); (repeat (obtain ⟨⟨_, _⟩, hβ⟩ := hβ)); (try (have hbis := apart_is (by assumption) hβ; obtain ⟨_, _⟩ := hbis))) | ((first | refine appD_tslK (.inr rfl) rfl ?_ ?_ ?_ ?_ ?_ ?_ | refine appV_tslK rfl ?_ ?_ ?_ ?_ ?_ ?_); (first | rfl | exact St.tip_same _ _ _ | simp only [↓R1, RR, seval, q0, q1, q2, q3, q4, hw, hd, hw1, hw2]); (iterate 2 (first | omega | (simp only [RZ, cP_len, cI_len]; first | done | omega) | rfl)); (unfold maxLen; omega); omega) | refine Pt (hcut) ?_ | refine Ct (hcut) ?_ | refine Pt (hna) ?_ | refine Ct (hna) ?_ | refine Pt (hnb) ?_ | refine Ct (hnb) ?_) <;> (try simp only [↓R1, RR, seval, q0, q1, q2, q3, q4, hw, hd, hw1, hw2])))
          · rw [hL]; simp [subF, slot, wk_refl]
          · rw [show [AV.int IntKind.i64 (natX (pwA w) 1099511627776), AV.int IntKind.i64 (natX (pwB w) 1099511627776)] = [.int .i64 (natM (pwA w)), .int .i64 (natM (pwB w))] from rfl, hs]; exact St.le_refl _
        | false =>
          have hL : (ws.take (k + 1)).any pwLate = (ws.take k).any pwLate := by rw [hanyL, hpt, q3, q4]; simp
          simp only [q0, ↓R1, RR, seval, q0, q1, q2, q3, q4, hw, hd, hw1, hw2]
          repeat' (first | (with_reducible rw [allocV_eq]) | (with_reducible refine And.intro ?_ ?_; focus (intros; (repeat' (with_reducible apply And.intro)) <;> first | omega | (simp only [RZ, cP_len, cI_len]; omega))) | (with_reducible apply And.intro) | ((first | (refine gdV_split (fun hc => ?_) (fun hc => ?_) <;> (try simp only [hc, ↓R1, RR, seval, q0, q1, q2, q3, q4, hw, hd, hw1, hw2])) | refine condV_split (fun hc => ?_) (fun hc => ?_) | (with_reducible intro β hβ; (try simp only [RB] at hβ); (repeat (obtain ⟨⟨_, _⟩, hβ⟩ := hβ)); (try (have hbis := apart_is (by assumption) hβ; obtain ⟨_, _⟩ := hbis))) | ((first | refine appD_tslK (.inr rfl) rfl ?_ ?_ ?_ ?_ ?_ ?_ | refine appV_tslK rfl ?_ ?_ ?_ ?_ ?_ ?_); (first | rfl | exact St.tip_same _ _ _ | simp only [↓R1, RR, seval, q0, q1, q2, q3, q4, hw, hd, hw1, hw2]); (iterate 2 (first | omega | (simp only [RZ, cP_len, cI_len]; first | done | omega) | rfl)); (unfold maxLen; omega); omega) | refine Pt (hcut) ?_ | refine Ct (hcut) ?_ | refine Pt (hna) ?_ | refine Ct (hna) ?_ | refine Pt (hnb) ?_ | refine Ct (hnb) ?_) <;> (try simp only [↓R1, RR, seval, q0, q1, q2, q3, q4, hw, hd, hw1, hw2])))
          · rw [hL]; simp [subF, slot, wk_refl]
          · rw [show [AV.int IntKind.i64 (natX (pwA w) 1099511627776), AV.int IntKind.i64 (natX (pwB w) 1099511627776)] = [.int .i64 (natM (pwA w)), .int .i64 (natM (pwB w))] from rfl, hs]; exact St.le_refl _
  · have hke : k = ws.length := by omega
    subst hke
    have q0 : decide ((ws.length : Int) < (ws.length : Int)) = false := by simp
    rw [List.take_length] at hI ⊢
    rw [hI]
    simp only [cond_false]
    cases q1 : ws.any pwLate with
    | true =>
      simp only [cond_true, show ((2 : Int) == 0) = false from rfl, cond_false, List.length_nil, List.flatMap_nil]
      simp only [q0, q1, ↓R1, RR, seval, q0, q1, q2, q3, q4, hw, hd, hw1, hw2]
      repeat' (first | (with_reducible rw [allocV_eq]) | (with_reducible refine And.intro ?_ ?_; focus (intros; (repeat' (with_reducible apply And.intro)) <;> first | omega | (simp only [RZ, cP_len, cI_len]; omega))) | (with_reducible apply And.intro) | ((first | (refine gdV_split (fun hc => ?_) (fun hc => ?_) <;> (try simp only [hc, ↓R1, RR, seval, q0, q1, q2, q3, q4, hw, hd, hw1, hw2])) | refine condV_split (fun hc => ?_) (fun hc => ?_) | (with_reducible intro β hβ; (try simp only [RB] at hβ); (repeat (obtain ⟨⟨_, _⟩, hβ⟩ := hβ)); (try (have hbis := apart_is (by assumption) hβ; obtain ⟨_, _⟩ := hbis))) | ((first | refine appD_tslK (.inr rfl) rfl ?_ ?_ ?_ ?_ ?_ ?_ | refine appV_tslK rfl ?_ ?_ ?_ ?_ ?_ ?_); (first | rfl | exact St.tip_same _ _ _ | simp only [↓R1, RR, seval, q0, q1, q2, q3, q4, hw, hd, hw1, hw2]); (iterate 2 (first | omega | (simp only [RZ, cP_len, cI_len]; first | done | omega) | rfl)); (unfold maxLen; omega); omega)) <;> (try simp only [↓R1, RR, seval, q0, q1, q2, q3, q4, hw, hd, hw1, hw2])))
      (refine endP_pu (by simp) (by first | (simp [rvsS, rvS]; done) | (simp only [rvsS, rvS, ↓R1, RR, seval, q0, q1, q2, q3, q4, hw, hd, hw1, hw2]; try simp)) ?_ (by (repeat (first | exact St.le_refl _ | (refine St.le_new ?_ (by assumption)) | (refine St.le_newT ?_ (by assumption))))))
      simp only [resAV, rvV, List.map_cons, List.map_nil, ↓R1, RR, seval, q0, q1, q2, q3, q4, hw, hd, hw1, hw2]
      (repeat' (first | exact wk_refl _ | exact wk_nils | exact wk_tsl _ _ _ | exact wk_full _ _ | exact wkL.nil | exact wkL_refl _ | refine wk_tup ?_ | refine wk_agg ?_ | refine wkL.cons ?_ ?_))
    | false =>
      simp only [cond_false]
      obtain ⟨r, hr⟩ : ∃ r, checkS (ws.map pwPl) = r := ⟨_, rfl⟩
      have hck := p31 (ws.map pwPl) (by simp; omega)
      rw [hr] at hck ⊢
      simp only [List.length_map] at hck
      cases q2 : (r == 0) with
      | true =>
        have q3 : (r != 0) = false := by rw [bne_eq_false_iff_eq]; exact beq_iff_eq.1 q2
        have q4 : r = 0 := beq_iff_eq.1 q2
        simp only [cond_true, List.length_map]
        simp only [q0, q1, ↓R1, RR, seval, q0, q1, q2, q3, q4, hw, hd, hw1, hw2]
        repeat' (first | (with_reducible rw [allocV_eq]) | (with_reducible refine And.intro ?_ ?_; focus (intros; (repeat' (with_reducible apply And.intro)) <;> first | omega | (simp only [RZ, cP_len, cI_len]; omega))) | (with_reducible apply And.intro) | ((first | (refine gdV_split (fun hc => ?_) (fun hc => ?_) <;> (try simp only [hc, ↓R1, RR, seval, q0, q1, q2, q3, q4, hw, hd, hw1, hw2])) | refine condV_split (fun hc => ?_) (fun hc => ?_) | (with_reducible intro β hβ; (try simp only [RB] at hβ); (repeat (obtain ⟨⟨_, _⟩, hβ⟩ := hβ)); (try (have hbis := apart_is (by assumption) hβ; obtain ⟨_, _⟩ := hbis))) | ((first | refine appD_tslK (.inr rfl) rfl ?_ ?_ ?_ ?_ ?_ ?_ | refine appV_tslK rfl ?_ ?_ ?_ ?_ ?_ ?_); (first | rfl | exact St.tip_same _ _ _ | simp only [↓R1, RR, seval, q0, q1, q2, q3, q4, hw, hd, hw1, hw2]); (iterate 2 (first | omega | (simp only [RZ, cP_len, cI_len]; first | done | omega) | rfl)); (unfold maxLen; omega); omega) | (refine Pu.to (hck) ?_ ?_; (focus ((repeat' (first | exact wk_refl _ | exact wk_nils | exact wk_tsl _ _ _ | exact wk_full _ _ | exact wkL.nil | exact wkL_refl _ | refine wk_tup ?_ | refine wk_agg ?_ | refine wkL.cons ?_ ?_)); done)))) <;> (try simp only [↓R1, RR, seval, q0, q1, q2, q3, q4, hw, hd, hw1, hw2])))
        (refine endP_pu (by simp) (by first | (simp [rvsS, rvS]; done) | (simp only [rvsS, rvS, ↓R1, RR, seval, q0, q1, q2, q3, q4, hw, hd, hw1, hw2]; try simp)) ?_ (by (repeat (first | exact St.le_refl _ | (refine St.le_new ?_ (by assumption)) | (refine St.le_newT ?_ (by assumption))))))
        simp only [resAV, rvV, List.map_cons, List.map_nil, ↓R1, RR, seval, q0, q1, q2, q3, q4, hw, hd, hw1, hw2]
        try rw [beq_iff_eq.1 q2]
        (repeat' (first | exact wk_refl _ | exact wk_nils | exact wk_tsl _ _ _ | exact wk_full _ _ | exact wkL.nil | exact wkL_refl _ | refine wk_tup ?_ | refine wk_agg ?_ | refine wkL.cons ?_ ?_))
      | false =>
        have q3 : (r != 0) = true := by rw [bne_iff_ne]; exact beq_eq_false_iff_ne.1 q2
        simp only [cond_false, List.length_nil, List.flatMap_nil]
        simp only [q0, q1, ↓R1, RR, seval, q0, q1, q2, q3, q4, hw, hd, hw1, hw2]
        repeat' (first | (with_reducible rw [allocV_eq]) | (with_reducible refine And.intro ?_ ?_; focus (intros; (repeat' (with_reducible apply And.intro)) <;> first | omega | (simp only [RZ, cP_len, cI_len]; omega))) | (with_reducible apply And.intro) | ((first | (refine gdV_split (fun hc => ?_) (fun hc => ?_) <;> (try simp only [hc, ↓R1, RR, seval, q0, q1, q2, q3, q4, hw, hd, hw1, hw2])) | refine condV_split (fun hc => ?_) (fun hc => ?_) | (with_reducible intro β hβ; (try simp only [RB] at hβ); (repeat (obtain ⟨⟨_, _⟩, hβ⟩ := hβ)); (try (have hbis := apart_is (by assumption) hβ; obtain ⟨_, _⟩ := hbis))) | ((first | refine appD_tslK (.inr rfl) rfl ?_ ?_ ?_ ?_ ?_ ?_ | refine appV_tslK rfl ?_ ?_ ?_ ?_ ?_ ?_); (first | rfl | exact St.tip_same _ _ _ | simp only [↓R1, RR, seval, q0, q1, q2, q3, q4, hw, hd, hw1, hw2]); (iterate 2 (first | omega | (simp only [RZ, cP_len, cI_len]; first | done | omega) | rfl)); (unfold maxLen; omega); omega) | (refine Pu.to (hck) ?_ ?_; (focus ((repeat' (first | exact wk_refl _ | exact wk_nils | exact wk_tsl _ _ _ | exact wk_full _ _ | exact wkL.nil | exact wkL_refl _ | refine wk_tup ?_ | refine wk_agg ?_ | refine wkL.cons ?_ ?_)); done)))) <;> (try simp only [↓R1, RR, seval, q0, q1, q2, q3, q4, hw, hd, hw1, hw2])))
        (refine endP_pu (by simp) (by first | (simp [rvsS, rvS]; done) | (simp only [rvsS, rvS, ↓R1, RR, seval, q0, q1, q2, q3, q4, hw, hd, hw1, hw2]; try simp)) ?_ (by (repeat (first | exact St.le_refl _ | (refine St.le_new ?_ (by assumption)) | (refine St.le_newT ?_ (by assumption))))))
        simp only [resAV, rvV, List.map_cons, List.map_nil, ↓R1, RR, seval, q0, q1, q2, q3, q4, hw, hd, hw1, hw2]
        (repeat' (first | exact wk_refl _ | exact wk_nils | exact wk_tsl _ _ _ | exact wk_full _ _ | exact wkL.nil | exact wkL_refl _ | refine wk_tup ?_ | refine wk_agg ?_ | refine wkL.cons ?_ ?_))
end Go.Proofs.YtncadbcjikekhaaGreatDoor
namespace Go.Proofs.YtncadbcjikekhaaGreatDoor
open Go.Abs Go.Lib Go.RowKit
set_option linter.all false
set_option maxRecDepth 100000
def lastI : List UInt8 → UInt8 → Int
  | [], _ => -1
  | x :: s, c => bif decide (0 ≤ lastI s c) then lastI s c + 1 else bif x == c then 0 else -1
theorem lastI_rng (c : UInt8) : ∀ s, -1 ≤ lastI s c ∧ lastI s c < s.length
  | [] => by simp [lastI]
  | x :: s => by
    have := lastI_rng c s
    unfold lastI
    simp only [List.length_cons]
    cases h : decide (0 ≤ lastI s c) with
    | true => simp only [cond_true]; omega
    | false => cases h2 : (x == c) <;> simp only [cond_false, cond_true] <;> omega
theorem lastI_snoc (c x : UInt8) : ∀ s, lastI (s ++ [x]) c = bif x == c then (s.length : Int) else lastI s c
  | [] => by cases h : (x == c) <;> simp [lastI, h]
  | y :: s => by
    rw [List.cons_append]
    unfold lastI
    rw [lastI_snoc c x s]
    have := lastI_rng c s
    cases h : (x == c) with
    | true => simp only [cond_true, List.length_cons]; rw [decide_eq_true (by omega)]; simp
    | false => simp only [cond_false]
theorem lastI_idx (s : List UInt8) (c : UInt8) : ∀ k, k ≤ s.length → Lib.Pa.lastIdx s c k = lastI (s.take k) c
  | 0, _ => by simp [Lib.Pa.lastIdx, lastI]
  | k + 1, h => by
    unfold Lib.Pa.lastIdx
    rw [← List.take_append_getElem h, lastI_snoc, List.getElem?_eq_getElem h, lastI_idx s c k (by omega)]
    by_cases he : s[k] = c
    · have h1 : (s[k] == c) = true := by rw [beq_iff_eq]; exact he
      rw [h1, if_pos (by rw [he])]; simp; omega
    · have h1 : (s[k] == c) = false := by rw [beq_eq_false_iff_ne]; exact he
      rw [h1, if_neg (by simpa using he)]; rfl
theorem lastI_eq (s : List UInt8) (c : UInt8) : Lib.Pa.lastIndexByte s c = lastI s c := by
  unfold Lib.Pa.lastIndexByte
  rw [lastI_idx s c _ (Nat.le_refl _), List.take_length]
theorem p179 (s : List UInt8) (c : UInt8) (hs : s.length ≤ 1000000) : Pu Tryz.prog 179 [.str s, .int .u8 c.toNat] (.int .i64 (lastI s c)) := by
  intro σ
  refine AC.of_calls (Go.Proofs.enters_of Tryz.func179 (by kernel_rfl) rfl) ?_
  intro g w vs hI hv
  obtain ⟨v1, vs, rfl, r1, hv⟩ := hv.cons_inv
  obtain ⟨v2, vs, rfl, r2, hv⟩ := hv.cons_inv
  rw [hv.nil_inv, r1.str_inv, r2.int_inv]
  refine (Tryz.bytealg_LastIndexByteString ⟨s.toArray⟩ c w (by simp [ByteArray.size]; omega)).mono ?_
  rintro e w' ⟨rfl, rfl⟩
  exact ⟨_, rfl, Below.refl _ _, fun g' _ => by rw [← lastI_eq]; exact .int _ _⟩
theorem p177 (s : List UInt8) (c : UInt8) (hs : s.length ≤ 1000000) : Pu Tryz.prog 177 [.str s, .int .u8 c.toNat] (.int .i64 (lastI s c)) := by
  have h1 := p179 s c hs
  (refine Pu_intro c177 b177 (Nat.le_of_ble_eq_true rfl) fun σ => ?_; simp only [c177, ↓R1, RR, seval])
  repeat' (first | (with_reducible rw [allocV_eq]) | (with_reducible refine And.intro ?_ ?_; focus (intros; (repeat' (with_reducible apply And.intro)) <;> first | omega | (simp only [RZ]; omega))) | (with_reducible apply And.intro) | ((first | (refine gdV_split (fun hc => ?_) (fun hc => ?_) <;> (try simp only [hc, ↓R1, RR, seval])) | refine condV_split (fun hc => ?_) (fun hc => ?_) | (with_reducible intro β hβ; (try simp only [RB] at hβ); (repeat (obtain ⟨⟨_, _⟩, hβ⟩ := hβ)); (try (have hbis := apart_is (by assumption) hβ; obtain ⟨_, _⟩ := hbis))) | refine Pt (h1) ?_ | refine Ct (h1) ?_) <;> (try simp only [↓R1, RR, seval])))
  (refine endP_pu (by simp) (by first | (simp [rvsS, rvS]; done) | (simp only [rvsS, rvS, ↓R1, RR, seval]; try simp)) (wk_of_eq ?_) (by (repeat (first | exact St.le_refl _ | (refine St.le_new ?_ (by assumption)) | (refine St.le_newT ?_ (by assumption))))))
  (simp only [resAV, rvV, List.map_cons, List.map_nil, ↓R1, RR, seval])
def nE (e x : Int) : Int := bif (x != 0) && (e != 3) then x else e
def rdL (ws : List (List UInt8)) (e : Int) : List AV := [.sl false ws.length (ws.map AV.str), .int .i64 e]
def wdE (ws : List (List UInt8)) (e : Int) : Int := bif ws.isEmpty then nE e 3 else e
def wdH (ws : List (List UInt8)) : List UInt8 := ws.headD []
def numM : Int := 9223372036854775807
def numX (s : List UInt8) : Int := natX s numM
def numE (s : List UInt8) (e : Int) : Int := nE e (natE s numM)
theorem set_id {σ : St} {β : Nat} {c : List AV} (h : σ.box β = some c) : σ.setBox β c = σ := by
  cases σ
  simp only [St.setBox] at h ⊢
  congr
  funext γ
  simp only [upd]
  split
  · rename_i e; subst e; rw [h]
  · rfl
section
variable {σ : St} {ρ : Nat} {ws : List (List UInt8)} {e : Int}
theorem a_note {x : Int} (hb : σ.box ρ = some (rdL ws e)) : AC Tryz.prog 77 [.ptr ρ 0, .int .i64 x] σ (fun r s => r = .tup [] ∧ s = σ.setBox ρ (rdL ws (nE e x))) := by
  unfold rdL at hb ⊢
  cases q1 : (x != 0) with
  | true =>
    cases q2 : (e != 3) with
    | true =>
      (refine AC_intro c77 b77 (Nat.le_of_ble_eq_true rfl) ?_; simp only [c77, ↓R1, RR, seval, hb, q1, q2])
      repeat' (first | (with_reducible rw [allocV_eq]) | (with_reducible refine And.intro ?_ ?_; focus (intros; (repeat' (with_reducible apply And.intro)) <;> first | omega | (simp only [RZ]; omega))) | (with_reducible apply And.intro) | ((first | (refine gdV_split (fun hc => ?_) (fun hc => ?_) <;> (try simp only [hc, ↓R1, RR, seval, hb, q1, q2])) | refine condV_split (fun hc => ?_) (fun hc => ?_) | (with_reducible intro β hβ; (try simp only [RB] at hβ); (repeat (obtain ⟨⟨_, _⟩, hβ⟩ := hβ)); (try (have hbis := apart_is (by assumption) hβ; obtain ⟨_, _⟩ := hbis)))) <;> (try simp only [↓R1, RR, seval, hb, q1, q2])))
      (refine endP_id (by simp) (by first | (simp [rvsS, rvS]; done) | (simp only [rvsS, rvS, ↓R1, RR, seval, hb, q1, q2]; try simp)) ?_)
      exact ⟨rfl, by unfold nE; rw [q1, q2]; rfl⟩
    | false =>
      (refine AC_intro c77 b77 (Nat.le_of_ble_eq_true rfl) ?_; simp only [c77, ↓R1, RR, seval, hb, q1, q2])
      repeat' (first | (with_reducible rw [allocV_eq]) | (with_reducible refine And.intro ?_ ?_; focus (intros; (repeat' (with_reducible apply And.intro)) <;> first | omega | (simp only [RZ]; omega))) | (with_reducible apply And.intro) | ((first | (refine gdV_split (fun hc => ?_) (fun hc => ?_) <;> (try simp only [hc, ↓R1, RR, seval, hb, q1, q2])) | refine condV_split (fun hc => ?_) (fun hc => ?_) | (with_reducible intro β hβ; (try simp only [RB] at hβ); (repeat (obtain ⟨⟨_, _⟩, hβ⟩ := hβ)); (try (have hbis := apart_is (by assumption) hβ; obtain ⟨_, _⟩ := hbis)))) <;> (try simp only [↓R1, RR, seval, hb, q1, q2])))
      (refine endP_id (by simp) (by first | (simp [rvsS, rvS]; done) | (simp only [rvsS, rvS, ↓R1, RR, seval, hb, q1, q2]; try simp)) ?_)
      exact ⟨rfl, by unfold nE; rw [q1, q2]; exact (set_id hb).symm⟩
  | false =>
    have q2 : True := trivial
    (refine AC_intro c77 b77 (Nat.le_of_ble_eq_true rfl) ?_; simp only [c77, ↓R1, RR, seval, hb, q1, q2])
    repeat' (first | (with_reducible rw [allocV_eq]) | (with_reducible refine And.intro ?_ ?_; focus (intros; (repeat' (with_reducible apply And.intro)) <;> first | omega | (simp only [RZ]; omega))) | (with_reducible apply And.intro) | ((first | (refine gdV_split (fun hc => ?_) (fun hc => ?_) <;> (try simp only [hc, ↓R1, RR, seval, hb, q1, q2])) | refine condV_split (fun hc => ?_) (fun hc => ?_) | (with_reducible intro β hβ; (try simp only [RB] at hβ); (repeat (obtain ⟨⟨_, _⟩, hβ⟩ := hβ)); (try (have hbis := apart_is (by assumption) hβ; obtain ⟨_, _⟩ := hbis)))) <;> (try simp only [↓R1, RR, seval, hb, q1, q2])))
    (refine endP_id (by simp) (by first | (simp [rvsS, rvS]; done) | (simp only [rvsS, rvS, ↓R1, RR, seval, hb, q1, q2]; try simp)) ?_)
    exact ⟨rfl, by unfold nE; rw [q1]; exact (set_id hb).symm⟩
theorem a_word (hb : σ.box ρ = some (rdL ws e)) (hl : ws.length ≤ 1000000) : AC Tryz.prog 76 [.ptr ρ 0] σ (fun r s => r = .str (wdH ws) ∧ s = σ.setBox ρ (rdL ws.tail (wdE ws e))) := by
  have a1 := a_note (σ := σ) (ws := ws) (e := e) (x := 3) hb
  unfold rdL at hb a1 ⊢
  cases ws with
  | nil =>
    simp only [List.map_nil, List.length_nil] at hb a1
    have hz : (((0 : Nat) : Int) == 0) = true := rfl
    (refine AC_intro c76 b76 (Nat.le_of_ble_eq_true rfl) ?_; simp only [c76, ↓R1, RR, seval, hb, hz])
    repeat' (first | (with_reducible rw [allocV_eq]) | (with_reducible refine And.intro ?_ ?_; focus (intros; (repeat' (with_reducible apply And.intro)) <;> first | omega | (simp only [RZ]; omega))) | (with_reducible apply And.intro) | ((first | (refine gdV_split (fun hc => ?_) (fun hc => ?_) <;> (try simp only [hc, ↓R1, RR, seval, hb, hz])) | refine condV_split (fun hc => ?_) (fun hc => ?_) | (with_reducible intro β hβ; (try simp only [RB] at hβ); (repeat (obtain ⟨⟨_, _⟩, hβ⟩ := hβ)); (try (have hbis := apart_is (by assumption) hβ; obtain ⟨_, _⟩ := hbis))) | (refine AC.mono (AC.wk (a1) (wkL_refl _)) ?_; (rintro _ _ ⟨rfl, rfl⟩))) <;> (try simp only [↓R1, RR, seval, hb, hz])))
    (refine endP_id (by simp) (by first | (simp [rvsS, rvS]; done) | (simp only [rvsS, rvS, ↓R1, RR, seval, hb, hz]; try simp)) ?_)
    exact ⟨rfl, rfl⟩
  | cons w ws =>
    simp only [List.map_cons, List.length_cons] at hb a1 hl
    have hz : (((ws.length + 1 : Nat) : Int) == 0) = false := by rw [beq_eq_false_iff_ne]; omega
    (refine AC_intro c76 b76 (Nat.le_of_ble_eq_true rfl) ?_; simp only [c76, ↓R1, RR, seval, hb, hz])
    repeat' (first | (with_reducible rw [allocV_eq]) | (with_reducible refine And.intro ?_ ?_; focus (intros; (repeat' (with_reducible apply And.intro)) <;> first | omega | (simp only [RZ]; omega))) | (with_reducible apply And.intro) | ((first | (refine gdV_split (fun hc => ?_) (fun hc => ?_) <;> (try simp only [hc, ↓R1, RR, seval, hb, hz])) | refine condV_split (fun hc => ?_) (fun hc => ?_) | (with_reducible intro β hβ; (try simp only [RB] at hβ); (repeat (obtain ⟨⟨_, _⟩, hβ⟩ := hβ)); (try (have hbis := apart_is (by assumption) hβ; obtain ⟨_, _⟩ := hbis))) | (refine AC.mono (AC.wk (a1) (wkL_refl _)) ?_; (rintro _ _ ⟨rfl, rfl⟩))) <;> (try simp only [↓R1, RR, seval, hb, hz])))
    (refine endP_id (by simp) (by first | (simp [rvsS, rvS]; done) | (simp only [rvsS, rvS, ↓R1, RR, seval, hb, hz]; try simp)) ?_)
    refine ⟨?_, ?_⟩
    · (simp only [resAV, rvV, List.map_cons, List.map_nil, ↓R1, RR, seval, hb, hz])
      rfl
    · congr 1
      simp
      exact ⟨List.take_of_length_le (by simp), rfl⟩
end
end Go.Proofs.YtncadbcjikekhaaGreatDoor
namespace Go.Proofs.YtncadbcjikekhaaGreatDoor
open Go.Abs Go.Lib
set_option linter.all false
set_option maxRecDepth 100000
def atS (s : List UInt8) : List UInt8 := s.drop ((lastI s 58).toNat + 1)
def preS (s : List UInt8) : List UInt8 := s.take (lastI s 58).toNat
def noS (p : List UInt8) : List UInt8 := p.drop ((lastI p 35).toNat + 1)
def labS (p : List UInt8) : List UInt8 := p.take (lastI p 35).toNat
def evNo (s : List UInt8) : Bool := decide (lastI s 58 < 0)
def evNo2 (s : List UInt8) : Bool := decide (lastI (preS s) 35 < 0)
def evBadL (s : List UInt8) : Bool := decide ((parseL (labS (preS s))).err ≠ 0)
def evI (s : List UInt8) : Idd := bif evNo s then ⟨0, 0⟩ else bif evNo2 s then ⟨0, 0⟩ else ⟨((parseL (labS (preS s))).l.toNat : Int), numX (noS (preS s))⟩
def evA (s : List UInt8) : Int := bif evNo s then 0 else bif evNo2 s then 0 else numX (atS s)
def evE (s : List UInt8) (e : Int) : Int :=
  bif evNo s then nE e 3 else bif evNo2 s then nE (numE (atS s) e) 3 else numE (noS (preS s)) (bif evBadL s then nE (numE (atS s) e) 3 else numE (atS s) e)
theorem natX_rng (s : List UInt8) {m : Int} (hm : 0 ≤ m) : 0 ≤ natX s m ∧ natX s m ≤ m := by
  unfold natX natB
  cases goodS s with
  | false => simp; omega
  | true =>
    simp only [cond_true]
    cases h : (decide (18446744073709551616 ≤ val 0 s) || decide (m < ((val 0 s % 18446744073709551616 : Nat) : Int))) with
    | true => simp; omega
    | false =>
      simp only [Bool.or_eq_false_iff, decide_eq_false_iff_not] at h
      simp only [cond_false]; omega
theorem numX_rng (s : List UInt8) : 0 ≤ numX s ∧ numX s ≤ 9223372036854775807 := natX_rng s (by decide)
theorem wdH_len {ws : List (List UInt8)} {n : Nat} (h : ∀ w ∈ ws, w.length ≤ n) : (wdH ws).length ≤ n := by
  cases ws with
  | nil => simp [wdH]
  | cons w r => exact h w (by simp)
theorem ev_eq {s : List UInt8} (h1 : evNo s = false) (h2 : evNo2 s = false) : evI s = ⟨((parseL (labS (preS s))).l.toNat : Int), numX (noS (preS s))⟩ ∧ evA s = numX (atS s) ∧
    evE s = fun e => numE (noS (preS s)) (bif evBadL s then nE (numE (atS s) e) 3 else numE (atS s) e) := by
  refine ⟨?_, ?_, ?_⟩
  · unfold evI; rw [h1, h2, cond_false, cond_false]
  · unfold evA; rw [h1, h2, cond_false, cond_false]
  · funext e; unfold evE; rw [h1, h2, cond_false, cond_false]
section
variable {σ : St} {ρ : Nat} {ws : List (List UInt8)} {e : Int}
theorem a_number {s : List UInt8} (hb : σ.box ρ = some (rdL ws e)) (hs : s.length ≤ 1000000) : AC Tryz.prog 174 [.ptr ρ 0, .str s] σ (fun r s' => r = .int .i64 (numX s) ∧ s' = σ.setBox ρ (rdL ws (numE s e))) := by
  have h1 := p71 s 9223372036854775807 (by unfold maxLen; omega)
  rw [natN_eq] at h1
  have a1 := a_note (σ := σ) (ws := ws) (e := e) (x := natE s 9223372036854775807) hb
  have hx := numX_rng s
  have hw : IntKind.i64.wrap (natX s 9223372036854775807) = natX s 9223372036854775807 := by unfold numX numM at hx; exact wrap64 (by omega) (by omega)
  (refine AC_intro c174 b174 (Nat.le_of_ble_eq_true rfl) ?_; simp only [c174, ↓R1, RR, seval, hb, hw])
  repeat' (first | (with_reducible rw [allocV_eq]) | (with_reducible refine And.intro ?_ ?_; focus (intros; (repeat' (with_reducible apply And.intro)) <;> first | omega | (simp only [RZ]; omega))) | (with_reducible apply And.intro) | ((first | (refine gdV_split (fun hc => ?_) (fun hc => ?_) <;> (try simp only [hc, ↓R1, RR, seval, hb, hw])) | refine condV_split (fun hc => ?_) (fun hc => ?_) | (with_reducible intro β hβ; (try simp only [RB] at hβ); (repeat (obtain ⟨⟨_, _⟩, hβ⟩ := hβ)); (try (have hbis := apart_is (by assumption) hβ; obtain ⟨_, _⟩ := hbis))) | refine Pt (h1) ?_ | refine Ct (h1) ?_ | (refine AC.mono (AC.wk (a1) (wkL_refl _)) ?_; (rintro _ _ ⟨rfl, rfl⟩))) <;> (try simp only [↓R1, RR, seval, hb, hw])))
  (refine endP_id (by simp) (by first | (simp [rvsS, rvS]; done) | (simp only [rvsS, rvS, ↓R1, RR, seval, hb, hw]; try simp)) ?_)
  exact ⟨rfl, rfl⟩
theorem a_value (hb : σ.box ρ = some (rdL ws e)) (hl : ws.length ≤ 1000000) (hs : (wdH ws).length ≤ 1000000) : AC Tryz.prog 172 [.ptr ρ 0] σ (fun r s' => r = .int .i64 (intX (wdH ws)) ∧ s' = σ.setBox ρ (rdL ws.tail (nE (wdE ws e) (intE (wdH ws))))) := by
  have a0 := a_word hb hl
  have h1 := p176 (wdH ws) (by unfold maxLen; omega)
  rw [intL_eq] at h1
  (refine AC_intro c172 b172 (Nat.le_of_ble_eq_true rfl) ?_; simp only [c172, ↓R1, RR, seval, hb])
  repeat' (first | (with_reducible rw [allocV_eq]) | (with_reducible refine And.intro ?_ ?_; focus (intros; (repeat' (with_reducible apply And.intro)) <;> first | omega | (simp only [RZ]; omega))) | (with_reducible apply And.intro) | ((first | (refine gdV_split (fun hc => ?_) (fun hc => ?_) <;> (try simp only [hc, ↓R1, RR, seval, hb])) | refine condV_split (fun hc => ?_) (fun hc => ?_) | (with_reducible intro β hβ; (try simp only [RB] at hβ); (repeat (obtain ⟨⟨_, _⟩, hβ⟩ := hβ)); (try (have hbis := apart_is (by assumption) hβ; obtain ⟨_, _⟩ := hbis))) | (refine AC.mono (AC.wk (a0) (wkL_refl _)) ?_; (rintro _ _ ⟨rfl, rfl⟩)) | refine Pt (h1) ?_ | refine Ct (h1) ?_ | (refine AC.mono (AC.wk (a_note (ws := ws.tail) (e := wdE ws e) ?_) (wkL_refl _)) ?_; (focus (simp only [↓R1, RR, seval, hb]; done)); (rintro _ _ ⟨rfl, rfl⟩))) <;> (try simp only [↓R1, RR, seval, hb])))
  (refine endP_id (by simp) (by first | (simp [rvsS, rvS]; done) | (simp only [rvsS, rvS, ↓R1, RR, seval, hb]; try simp)) ?_)
  exact ⟨rfl, rfl⟩
set_option maxHeartbeats 2000000 in
theorem a_event {s : List UInt8} (hb : σ.box ρ = some (rdL ws e)) (hs : s.length ≤ 1000000) : AC Tryz.prog 175 [.ptr ρ 0, .str s] σ (fun r s' => r = .tup [.agg (cId (evI s)), .int .i64 (evA s)] ∧ s' = σ.setBox ρ (rdL ws (evE s e))) := by
  have hbi : BoxIs σ ρ (rdL ws e) := ⟨hb⟩
  have h1 := p177 s 58 hs
  change Pu _ _ [.str s, .int .u8 58] _ at h1
  have r1 := lastI_rng 58 s
  have hp1 : (preS s).length ≤ s.length := by simp [preS]; omega
  have h2 := p177 (preS s) 35 (by omega)
  change Pu _ _ [.str _, .int .u8 35] _ at h2
  have r2 := lastI_rng 35 (preS s)
  have q3 : True := trivial
  have hat : True := trivial
  have hat2 : True := trivial
  have hno2 : True := trivial
  have hq : True := trivial
  have hpr : True := trivial
  have hno : True := trivial
  have hlb : True := trivial
  have hw2 : True := trivial
  have hw3 : True := trivial
  have q2 : True := trivial
  cases q1 : evNo s with
  | true =>
    have q2 : True := trivial
    have hw1 : True := trivial
    unfold evI evA evE
    rw [q1]
    simp only [cond_true]
    unfold evNo at q1
    (refine AC_introW c175 b175 (Nat.le_of_ble_eq_true rfl) ?_; simp only [c175, ↓R1, RR, seval, hb, q1, q2, q3, hw1, hw2, hw3, hat, hat2, hpr, hno, hno2, hlb, hq])
    repeat' (first | (with_reducible rw [allocV_eq]) | (with_reducible refine And.intro ?_ ?_; focus (intros; (repeat' (with_reducible apply And.intro)) <;> first | omega | (simp only [RZ]; omega))) | (with_reducible apply And.intro) | ((first | (refine gdV_split (fun hc => ?_) (fun hc => ?_) <;> (try simp only [hc, ↓R1, RR, seval, hb, q1, q2, q3, hw1, hw2, hw3, hat, hat2, hpr, hno, hno2, hlb, hq])) | refine condV_split (fun hc => ?_) (fun hc => ?_) | (with_reducible intro β hβ; (try simp only [RB] at hβ); (repeat (obtain ⟨⟨_, _⟩, hβ⟩ := hβ)); (try (have hbis := apart_is (by assumption) hβ; obtain ⟨_, _⟩ := hbis))) | refine Pt (h1) ?_ | refine Ct (h1) ?_ | (refine AC.mono (AC.wk (a_note (ws := ws) (e := e) ?_) (wkL_refl _)) ?_; (focus (simp only [↓R1, RR, seval, hb, q1, q2, q3, hw1, hw2, hw3, hat, hat2, hpr, hno, hno2, hlb, hq]; done)); (rintro _ _ ⟨rfl, rfl⟩))) <;> (try simp only [↓R1, RR, seval, hb, q1, q2, q3, hw1, hw2, hw3, hat, hat2, hpr, hno, hno2, hlb, hq])))
    (refine endP_W (by simp) (by first | (simp [rvsS, rvS]; done) | (simp only [rvsS, rvS, ↓R1, RR, seval, hb, q1, q2, q3, hw1, hw2, hw3, hat, hat2, hpr, hno, hno2, hlb, hq]; try simp)) ?_ ?_)
    · simp only [resAV, rvV, List.map_cons, List.map_nil, ↓R1, RR, seval, hb, q1, q2, q3, hw1, hw2, hw3, hat, hat2, hpr, hno, hno2, hlb, hq]
      exact wk_refl _
    · (repeat' (first | exact St.lw_refl _ | (refine St.lw_setT ?_) | (refine St.lw_newT ?_ (by first | assumption | (simp only [St.tip_set, St.tip_otherA]; assumption))) | (refine St.lw_set ?_ ?_) | (refine St.lw_new ?_ (by first | assumption | (simp only [St.box_otherA, St.box_tip]; assumption))) | exact wkL.nil | exact wkL_refl _ | (refine wkL.cons ?_ ?_) | exact wk_refl _ | exact wk_nils | exact wk_tsl _ _ _ | exact wk_full _ _))
  | false =>
    have q1' := q1
    unfold evNo at q1
    have n1 : 0 ≤ lastI s 58 := by simpa using q1
    have hw1 : IntKind.i64.wrap (lastI s 58 + 1) = lastI s 58 + 1 := wrap64 (by omega) (by omega)
    have e1 : (lastI s 58 + 1).toNat = (lastI s 58).toNat + 1 := by omega
    have hat : s.drop (lastI s 58 + 1).toNat = atS s := by rw [e1]; rfl
    have hat2 : (atS s).take (s.length - (lastI s 58 + 1).toNat) = atS s := List.take_of_length_le (by simp [atS]; omega)
    have hpr : s.take (lastI s 58).toNat = preS s := rfl
    have hn1 : (atS s).length ≤ 1000000 := by simp [atS]; omega
    cases q2 : evNo2 s with
    | true =>
      unfold evI evA evE
      rw [q1', q2]
      simp only [cond_true, cond_false]
      unfold evNo2 at q2
      (refine AC_introW c175 b175 (Nat.le_of_ble_eq_true rfl) ?_; simp only [c175, ↓R1, RR, seval, hb, q1, q2, q3, hw1, hw2, hw3, hat, hat2, hpr, hno, hno2, hlb, hq])
      repeat' (first | (with_reducible rw [allocV_eq]) | (with_reducible refine And.intro ?_ ?_; focus (intros; (repeat' (with_reducible apply And.intro)) <;> first | omega | (simp only [RZ]; omega))) | (with_reducible apply And.intro) | ((first | (refine gdV_split (fun hc => ?_) (fun hc => ?_) <;> (try simp only [hc, ↓R1, RR, seval, hb, q1, q2, q3, hw1, hw2, hw3, hat, hat2, hpr, hno, hno2, hlb, hq])) | refine condV_split (fun hc => ?_) (fun hc => ?_) | (with_reducible intro β hβ; (try simp only [RB] at hβ); (repeat (obtain ⟨⟨_, _⟩, hβ⟩ := hβ)); (try (have hbis := apart_is (by assumption) hβ; obtain ⟨_, _⟩ := hbis))) | refine Pt (h1) ?_ | refine Ct (h1) ?_ | refine Pt (h2) ?_ | refine Ct (h2) ?_ | (refine AC.mono (AC.wk (a_number (ws := ws) (e := e) (s := atS s) ?_ hn1) (wkL_refl _)) ?_; (focus (simp only [↓R1, RR, seval, hb, q1, q2, q3, hw1, hw2, hw3, hat, hat2, hpr, hno, hno2, hlb, hq]; done)); (rintro _ _ ⟨rfl, rfl⟩)) | (refine AC.mono (AC.wk (a_note (ws := ws) (e := numE (atS s) e) ?_) (wkL_refl _)) ?_; (focus (simp only [↓R1, RR, seval, hb, q1, q2, q3, hw1, hw2, hw3, hat, hat2, hpr, hno, hno2, hlb, hq]; done)); (rintro _ _ ⟨rfl, rfl⟩))) <;> (try simp only [↓R1, RR, seval, hb, q1, q2, q3, hw1, hw2, hw3, hat, hat2, hpr, hno, hno2, hlb, hq])))
      (refine endP_W (by simp) (by first | (simp [rvsS, rvS]; done) | (simp only [rvsS, rvS, ↓R1, RR, seval, hb, q1, q2, q3, hw1, hw2, hw3, hat, hat2, hpr, hno, hno2, hlb, hq]; try simp)) ?_ ?_)
      · simp only [resAV, rvV, List.map_cons, List.map_nil, ↓R1, RR, seval, hb, q1, q2, q3, hw1, hw2, hw3, hat, hat2, hpr, hno, hno2, hlb, hq]
        exact wk_refl _
      · (repeat' (first | exact St.lw_refl _ | (refine St.lw_setT ?_) | (refine St.lw_newT ?_ (by first | assumption | (simp only [St.tip_set, St.tip_otherA]; assumption))) | (refine St.lw_set ?_ ?_) | (refine St.lw_new ?_ (by first | assumption | (simp only [St.box_otherA, St.box_tip]; assumption))) | exact wkL.nil | exact wkL_refl _ | (refine wkL.cons ?_ ?_) | exact wk_refl _ | exact wk_nils | exact wk_tsl _ _ _ | exact wk_full _ _))
    | false =>
      have q2' := q2
      unfold evNo2 at q2
      have n2 : 0 ≤ lastI (preS s) 35 := by simpa using q2
      have hw2 : IntKind.i64.wrap (lastI (preS s) 35 + 1) = lastI (preS s) 35 + 1 := wrap64 (by omega) (by omega)
      have e2 : (lastI (preS s) 35 + 1).toNat = (lastI (preS s) 35).toNat + 1 := by omega
      have hno : (preS s).drop (lastI (preS s) 35 + 1).toNat = noS (preS s) := by rw [e2]; rfl
      have hno2 : (noS (preS s)).take ((preS s).length - (lastI (preS s) 35 + 1).toNat) = noS (preS s) := List.take_of_length_le (by simp [noS]; omega)
      have hlb : (preS s).take (lastI (preS s) 35).toNat = labS (preS s) := rfl
      have hll : (labS (preS s)).length ≤ (preS s).length := by unfold labS; rw [List.length_take]; exact Nat.min_le_right _ _
      have h3 := p178 (labS (preS s)) (by omega)
      unfold plAV at h3
      obtain ⟨e3, e4, e5⟩ := ev_eq q1' q2'
      rw [e3, e4, e5]
      have hn1 : (atS s).length ≤ 1000000 := by simp [atS]; omega
      have hn2 : (noS (preS s)).length ≤ 1000000 := by simp [noS]; omega
      have rx := numX_rng (noS (preS s))
      have hw3 : IntKind.u64.wrap (numX (noS (preS s))) = numX (noS (preS s)) := by rw [wU]; omega
      have hq : (((parseL (labS (preS s))).err : Int) != 0) = evBadL s := by unfold evBadL; rw [Bool.eq_iff_iff]; simp
      cases q3 : evBadL s with
      | true =>
        rw [q3] at hq
        (refine AC_introW c175 b175 (Nat.le_of_ble_eq_true rfl) ?_; simp only [c175, ↓R1, RR, seval, hb, q1, q2, q3, hw1, hw2, hw3, hat, hat2, hpr, hno, hno2, hlb, hq])
        repeat' (first | (with_reducible rw [allocV_eq]) | (with_reducible refine And.intro ?_ ?_; focus (intros; (repeat' (with_reducible apply And.intro)) <;> first | omega | (simp only [RZ]; omega))) | (with_reducible apply And.intro) | ((first | (refine gdV_split (fun hc => ?_) (fun hc => ?_) <;> (try simp only [hc, ↓R1, RR, seval, hb, q1, q2, q3, hw1, hw2, hw3, hat, hat2, hpr, hno, hno2, hlb, hq])) | refine condV_split (fun hc => ?_) (fun hc => ?_) | (with_reducible intro β hβ; (try simp only [RB] at hβ); (repeat (obtain ⟨⟨_, _⟩, hβ⟩ := hβ)); (try (have hbis := apart_is (by assumption) hβ; obtain ⟨_, _⟩ := hbis))) | refine Pt (h1) ?_ | refine Ct (h1) ?_ | refine Pt (h2) ?_ | refine Ct (h2) ?_ | (refine AC.mono (AC.wk (a_number (ws := ws) (e := e) (s := atS s) ?_ hn1) (wkL_refl _)) ?_; (focus (simp only [↓R1, RR, seval, hb, q1, q2, q3, hw1, hw2, hw3, hat, hat2, hpr, hno, hno2, hlb, hq]; done)); (rintro _ _ ⟨rfl, rfl⟩)) | refine Pt (h3) ?_ | refine Ct (h3) ?_ | (refine AC.mono (AC.wk (a_note (ws := ws) (e := numE (atS s) e) ?_) (wkL_refl _)) ?_; (focus (simp only [↓R1, RR, seval, hb, q1, q2, q3, hw1, hw2, hw3, hat, hat2, hpr, hno, hno2, hlb, hq]; done)); (rintro _ _ ⟨rfl, rfl⟩)) | (refine AC.mono (AC.wk (a_number (ws := ws) (e := nE (numE (atS s) e) 3) (s := noS (preS s)) ?_ hn2) (wkL_refl _)) ?_; (focus (simp only [↓R1, RR, seval, hb, q1, q2, q3, hw1, hw2, hw3, hat, hat2, hpr, hno, hno2, hlb, hq]; done)); (rintro _ _ ⟨rfl, rfl⟩))) <;> (try simp only [↓R1, RR, seval, hb, q1, q2, q3, hw1, hw2, hw3, hat, hat2, hpr, hno, hno2, hlb, hq])))
        (refine endP_W (by simp) (by first | (simp [rvsS, rvS]; done) | (simp only [rvsS, rvS, ↓R1, RR, seval, hb, q1, q2, q3, hw1, hw2, hw3, hat, hat2, hpr, hno, hno2, hlb, hq]; try simp)) ?_ ?_)
        · simp only [resAV, rvV, List.map_cons, List.map_nil, ↓R1, RR, seval, hb, q1, q2, q3, hw1, hw2, hw3, hat, hat2, hpr, hno, hno2, hlb, hq]
          exact wk_refl _
        · (repeat' (first | exact St.lw_refl _ | (refine St.lw_setT ?_) | (refine St.lw_newT ?_ (by first | assumption | (simp only [St.tip_set, St.tip_otherA]; assumption))) | (refine St.lw_set ?_ ?_) | (refine St.lw_new ?_ (by first | assumption | (simp only [St.box_otherA, St.box_tip]; assumption))) | exact wkL.nil | exact wkL_refl _ | (refine wkL.cons ?_ ?_) | exact wk_refl _ | exact wk_nils | exact wk_tsl _ _ _ | exact wk_full _ _))
      | false =>
        rw [q3] at hq
        (refine AC_introW c175 b175 (Nat.le_of_ble_eq_true rfl) ?_; simp only [c175, ↓R1, RR, seval, hb, q1, q2, q3, hw1, hw2, hw3, hat, hat2, hpr, hno, hno2, hlb, hq])
        repeat' (first | (with_reducible rw [allocV_eq]) | (with_reducible refine And.intro ?_ ?_; focus (intros; (repeat' (with_reducible apply And.intro)) <;> first | omega | (simp only [RZ]; omega))) | (with_reducible apply And.intro) | ((first | (refine gdV_split (fun hc => ?_) (fun hc => ?_) <;> (try simp only [hc, ↓R1, RR, seval, hb, q1, q2, q3, hw1, hw2, hw3, hat, hat2, hpr, hno, hno2, hlb, hq])) | refine condV_split (fun hc => ?_) (fun hc => ?_) | (with_reducible intro β hβ; (try simp only [RB] at hβ); (repeat (obtain ⟨⟨_, _⟩, hβ⟩ := hβ)); (try (have hbis := apart_is (by assumption) hβ; obtain ⟨_, _⟩ := hbis))) | refine Pt (h1) ?_ | refine Ct (h1) ?_ | refine Pt (h2) ?_ | refine Ct (h2) ?_ | (refine AC.mono (AC.wk (a_number (ws := ws) (e := e) (s := atS s) ?_ hn1) (wkL_refl _)) ?_; (focus (simp only [↓R1, RR, seval, hb, q1, q2, q3, hw1, hw2, hw3, hat, hat2, hpr, hno, hno2, hlb, hq]; done)); (rintro _ _ ⟨rfl, rfl⟩)) | refine Pt (h3) ?_ | refine Ct (h3) ?_ | (refine AC.mono (AC.wk (a_number (ws := ws) (e := numE (atS s) e) (s := noS (preS s)) ?_ hn2) (wkL_refl _)) ?_; (focus (simp only [↓R1, RR, seval, hb, q1, q2, q3, hw1, hw2, hw3, hat, hat2, hpr, hno, hno2, hlb, hq]; done)); (rintro _ _ ⟨rfl, rfl⟩))) <;> (try simp only [↓R1, RR, seval, hb, q1, q2, q3, hw1, hw2, hw3, hat, hat2, hpr, hno, hno2, hlb, hq])))
        (refine endP_W (by simp) (by first | (simp [rvsS, rvS]; done) | (simp only [rvsS, rvS, ↓R1, RR, seval, hb, q1, q2, q3, hw1, hw2, hw3, hat, hat2, hpr, hno, hno2, hlb, hq]; try simp)) ?_ ?_)
        · simp only [resAV, rvV, List.map_cons, List.map_nil, ↓R1, RR, seval, hb, q1, q2, q3, hw1, hw2, hw3, hat, hat2, hpr, hno, hno2, hlb, hq]
          exact wk_refl _
        · (repeat' (first | exact St.lw_refl _ | (refine St.lw_setT ?_) | (refine St.lw_newT ?_ (by first | assumption | (simp only [St.tip_set, St.tip_otherA]; assumption))) | (refine St.lw_set ?_ ?_) | (refine St.lw_new ?_ (by first | assumption | (simp only [St.box_otherA, St.box_tip]; assumption))) | exact wkL.nil | exact wkL_refl _ | (refine wkL.cons ?_ ?_) | exact wk_refl _ | exact wk_nils | exact wk_tsl _ _ _ | exact wk_full _ _))
end
end Go.Proofs.YtncadbcjikekhaaGreatDoor
namespace Go.Proofs.YtncadbcjikekhaaGreatDoor
open Go.Abs Go.Lib
set_option linter.all false
set_option maxRecDepth 100000
def Wds (ws : List (List UInt8)) : Prop := ws.length ≤ 1000000 ∧ ∀ w ∈ ws, w.length ≤ 1000000
theorem Wds.tail {ws : List (List UInt8)} (h : Wds ws) : Wds ws.tail := ⟨by have := h.1; simp; omega, fun w hw => h.2 w (List.mem_of_mem_tail hw)⟩
theorem Wds.drop {ws : List (List UInt8)} (h : Wds ws) (k : Nat) : Wds (ws.drop k) := ⟨by have := h.1; simp; omega, fun w hw => h.2 w (List.mem_of_mem_drop hw)⟩
theorem Wds.hd {ws : List (List UInt8)} (h : Wds ws) : (wdH ws).length ≤ 1000000 := wdH_len h.2
def e17 : List UInt8 := [99, 97, 112]
def e18 : List UInt8 := [108, 111, 115, 116]
def e19 : List UInt8 := [111, 117, 116]
def e7 : List UInt8 := [109, 105, 115, 115, 105, 110, 103]
def e16 : List UInt8 := [115, 117, 109]
theorem err_17 : errS 17 = e17 := by decide +kernel
theorem err_18 : errS 18 = e18 := by decide +kernel
theorem err_19 : errS 19 = e19 := by decide +kernel
theorem err_7 : errS 7 = e7 := by decide +kernel
theorem err_16 : errS 16 = e16 := by decide +kernel
def ntE (w : List UInt8) : Int := bif w == e17 then 17 else bif w == e18 then 18 else bif w == e19 then 19 else 0
def ntN (w : List UInt8) (e : Int) : Int := bif w == e17 then e else bif w == e18 then e else bif w == e19 then e else nE e 3
def wnX (ws : List (List UInt8)) : Int := numX (wdH ws)
def wnE (ws : List (List UInt8)) (e : Int) : Int := numE (wdH ws) (wdE ws e)
def toldI (ws : List (List UInt8)) : It := ⟨2, wnX ws, [], [], [], ntE (wdH ws.tail), wnX ws.tail.tail⟩
def toldE (ws : List (List UInt8)) (e : Int) : Int := wnE ws.tail.tail (ntN (wdH ws.tail) (wdE ws.tail (wnE ws e)))
section
variable {σ : St} {ρ : Nat} {ws : List (List UInt8)} {e : Int}
set_option maxHeartbeats 2000000 in
theorem a_told {x : List AV} (hx : x = []) (hb : σ.box ρ = some (rdL ws e)) (h1 : Wds ws) : AC Tryz.prog 183 [.agg x, .ptr ρ 0] σ (fun r s' => r = .agg (itL (toldI ws)) ∧ s' = σ.setBox ρ (rdL ws.tail.tail.tail (toldE ws e))) := by
  subst hx
  have hbi : BoxIs σ ρ (rdL ws e) := ⟨hb⟩
  have h2 := h1.tail
  have h3 := h2.tail
  have p17 := p49 17 (by unfold I64; omega)
  have p18 := p49 18 (by unfold I64; omega)
  have p19 := p49 19 (by unfold I64; omega)
  rw [err_17] at p17
  rw [err_18] at p18
  rw [err_19] at p19
  have hf : numE (wdH ws) (wdE ws e) = wnE ws e := rfl
  have q2 : True := trivial
  have q3 : True := trivial
  have hn : True := trivial
  have hcs : ((wdH ws.tail == e17) = true ∧ ntN (wdH ws.tail) (wdE ws.tail (wnE ws e)) = wdE ws.tail (wnE ws e) ∧ ntE (wdH ws.tail) = 17)
      ∨ ((wdH ws.tail == e17) = false ∧ (wdH ws.tail == e18) = true ∧ ntN (wdH ws.tail) (wdE ws.tail (wnE ws e)) = wdE ws.tail (wnE ws e) ∧ ntE (wdH ws.tail) = 18)
      ∨ ((wdH ws.tail == e17) = false ∧ (wdH ws.tail == e18) = false ∧ (wdH ws.tail == e19) = true ∧ ntN (wdH ws.tail) (wdE ws.tail (wnE ws e)) = wdE ws.tail (wnE ws e) ∧ ntE (wdH ws.tail) = 19)
      ∨ ((wdH ws.tail == e17) = false ∧ (wdH ws.tail == e18) = false ∧ (wdH ws.tail == e19) = false ∧ ntN (wdH ws.tail) (wdE ws.tail (wnE ws e)) = nE (wdE ws.tail (wnE ws e)) 3 ∧ ntE (wdH ws.tail) = 0) := by
    unfold ntN ntE
    cases q1 : (wdH ws.tail == e17) <;> cases q2 : (wdH ws.tail == e18) <;> cases q3 : (wdH ws.tail == e19) <;> simp
  rcases hcs with ⟨q1, hn, hi⟩ | ⟨q1, q2, hn, hi⟩ | ⟨q1, q2, q3, hn, hi⟩ | ⟨q1, q2, q3, hn, hi⟩
  all_goals (
    rw [show toldE ws e = numE (wdH ws.tail.tail) (wdE ws.tail.tail (ntN (wdH ws.tail) (wdE ws.tail (wnE ws e)))) from rfl, hn]
    (refine AC_introW c183 b183 (Nat.le_of_ble_eq_true rfl) ?_; simp only [c183, ↓R1, RR, seval, hb, q1, q2, q3, hn, hf])
    repeat' (first | (with_reducible rw [allocV_eq]) | (with_reducible refine And.intro ?_ ?_; focus (intros; (repeat' (with_reducible apply And.intro)) <;> first | omega | (simp only [RZ]; omega))) | (with_reducible apply And.intro) | ((first | (refine gdV_split (fun hc => ?_) (fun hc => ?_) <;> (try simp only [hc, ↓R1, RR, seval, hb, q1, q2, q3, hn, hf])) | refine condV_split (fun hc => ?_) (fun hc => ?_) | (with_reducible intro β hβ; (try simp only [RB] at hβ); (repeat (obtain ⟨⟨_, _⟩, hβ⟩ := hβ)); (try (have hbis := apart_is (by assumption) hβ; obtain ⟨_, _⟩ := hbis))) | refine Pt (p17) ?_ | refine Ct (p17) ?_ | refine Pt (p18) ?_ | refine Ct (p18) ?_ | refine Pt (p19) ?_ | refine Ct (p19) ?_ | (refine AC.mono (AC.wk (a_word (ws := ws) (e := e) ?_ h1.1) (wkL_refl _)) ?_; (focus (simp only [↓R1, RR, seval, hb, q1, q2, q3, hn, hf]; done)); (rintro _ _ ⟨rfl, rfl⟩)) | (refine AC.mono (AC.wk (a_number (ws := ws.tail) (e := wdE ws e) (s := wdH ws) ?_ h1.hd) (wkL_refl _)) ?_; (focus (simp only [↓R1, RR, seval, hb, q1, q2, q3, hn, hf]; done)); (rintro _ _ ⟨rfl, rfl⟩)) | (refine AC.mono (AC.wk (a_word (ws := ws.tail) (e := wnE ws e) ?_ h2.1) (wkL_refl _)) ?_; (focus (simp only [↓R1, RR, seval, hb, q1, q2, q3, hn, hf]; done)); (rintro _ _ ⟨rfl, rfl⟩)) | (refine AC.mono (AC.wk (a_note (ws := ws.tail.tail) (e := wdE ws.tail (wnE ws e)) ?_) (wkL_refl _)) ?_; (focus (simp only [↓R1, RR, seval, hb, q1, q2, q3, hn, hf]; done)); (rintro _ _ ⟨rfl, rfl⟩)) | (refine AC.mono (AC.wk (a_word (ws := ws.tail.tail) (e := ntN (wdH ws.tail) (wdE ws.tail (wnE ws e))) ?_ h3.1) (wkL_refl _)) ?_; (focus (simp only [↓R1, RR, seval, hb, q1, q2, q3, hn, hf]; done)); (rintro _ _ ⟨rfl, rfl⟩)) | (refine AC.mono (AC.wk (a_number (ws := ws.tail.tail.tail) (e := wdE ws.tail.tail (ntN (wdH ws.tail) (wdE ws.tail (wnE ws e)))) (s := wdH ws.tail.tail) ?_ h3.hd) (wkL_refl _)) ?_; (focus (simp only [↓R1, RR, seval, hb, q1, q2, q3, hn, hf]; done)); (rintro _ _ ⟨rfl, rfl⟩))) <;> (try simp only [↓R1, RR, seval, hb, q1, q2, q3, hn, hf])))
    (refine endP_W (by simp) (by first | (simp [rvsS, rvS]; done) | (simp only [rvsS, rvS, ↓R1, RR, seval, hb, q1, q2, q3, hn, hf]; try simp)) ?_ ?_)
    · simp only [resAV, rvV, List.map_cons, List.map_nil, ↓R1, RR, seval, hb, q1, q2, q3, hn, hf]
      unfold itL toldI
      rw [hi]
      (repeat' (first | exact wk_refl _ | exact wk_nils | exact wk_tsl _ _ _ | exact wk_full _ _ | exact wkL.nil | exact wkL_refl _ | refine wk_tup ?_ | refine wk_agg ?_ | refine wkL.cons ?_ ?_))
    · (repeat' (first | exact St.lw_refl _ | (refine St.lw_setT ?_) | (refine St.lw_newT ?_ (by first | assumption | (simp only [St.tip_set, St.tip_otherA]; assumption))) | (refine St.lw_set ?_ ?_) | (refine St.lw_new ?_ (by first | assumption | (simp only [St.box_otherA, St.box_tip]; assumption))) | exact wkL.nil | exact wkL_refl _ | (refine wkL.cons ?_ ?_) | exact wk_refl _ | exact wk_nils | exact wk_tsl _ _ _ | exact wk_full _ _)))
end
end Go.Proofs.YtncadbcjikekhaaGreatDoor
namespace Go.Proofs.YtncadbcjikekhaaGreatDoor
open Go.Abs Go.Lib
set_option linter.all false
set_option maxRecDepth 100000
def isEv (w : List UInt8) : Bool := (w != [61]) && (w != [33])
def whEvs (ws : List (List UInt8)) : List (List UInt8) := ws.tail.takeWhile isEv
def whRest (ws : List (List UInt8)) : List (List UInt8) := ws.tail.drop (whEvs ws).length
def whX (ws : List (List UInt8)) (e : Int) (k : Nat) : Int := ((whEvs ws).take k).foldl (fun e w => evE w e) (wnE ws e)
def whE0 (ws : List (List UInt8)) (e : Int) : Int := bif (whEvs ws).isEmpty then nE (whX ws e (whEvs ws).length) 3 else whX ws e (whEvs ws).length
def erE (w : List UInt8) : Int := bif w == e7 then 7 else bif w == e16 then 16 else 0
def erN (w : List UInt8) (e : Int) : Int := bif w == e7 then e else bif w == e16 then e else nE e 3
def valE (e : Int) (w : List UInt8) : Int := nE e (intE w)
def whV : List (List UInt8) → List Int
  | [] => []
  | w :: r => bif w == [33] then [] else (wdH r :: r.tail).map intX
def whER : List (List UInt8) → Int
  | [] => 0
  | w :: r => bif w == [33] then erE (wdH r) else 0
def whTE (e : Int) : List (List UInt8) → Int
  | [] => e
  | w :: r => bif w == [33] then erN (wdH r) (wdE r e) else r.tail.foldl valE (valE (wdE r e) (wdH r))
def whR : List (List UInt8) → List (List UInt8)
  | [] => []
  | w :: r => bif w == [33] then r.tail else []
def whatI (ws : List (List UInt8)) : It := ⟨1, wnX ws, (whEvs ws).map evI, (whEvs ws).map evA, whV (whRest ws), whER (whRest ws), 0⟩
def whatE (ws : List (List UInt8)) (e : Int) : Int := whTE (whE0 ws e) (whRest ws)
def whatR (ws : List (List UInt8)) : List (List UInt8) := whR (whRest ws)
theorem tw_cons {p : List UInt8 → Bool} : ∀ (l : List (List UInt8)) {k : Nat} (h : k < (l.takeWhile p).length), ∃ r, l.drop k = (l.takeWhile p)[k] :: r ∧ p (l.takeWhile p)[k] = true ∧ l.drop (k + 1) = r
  | [], k, h => by simp at h
  | x :: l, 0, h => by
    cases hp : p x with
    | false => rw [List.takeWhile_cons, hp] at h; simp at h
    | true =>
      refine ⟨l, ?_, ?_, rfl⟩
      · simp [List.takeWhile_cons, hp]
      · simp only [List.takeWhile_cons, hp, if_true, List.getElem_cons_zero]
  | x :: l, k + 1, h => by
    cases hp : p x with
    | false => rw [List.takeWhile_cons, hp] at h; simp at h
    | true =>
      have h2 : k < (l.takeWhile p).length := by rw [List.takeWhile_cons, hp] at h; simpa using h
      obtain ⟨r, h3, h4, h5⟩ := tw_cons l h2
      refine ⟨r, ?_, ?_, ?_⟩
      · simp only [List.takeWhile_cons, hp, if_true, List.getElem_cons_succ, List.drop_succ_cons]; exact h3
      · simp only [List.takeWhile_cons, hp, if_true, List.getElem_cons_succ]; exact h4
      · simpa using h5
theorem tw_end {p : List UInt8 → Bool} : ∀ (l : List (List UInt8)), l.drop (l.takeWhile p).length = [] ∨ ∃ w r, l.drop (l.takeWhile p).length = w :: r ∧ p w = false
  | [] => .inl rfl
  | x :: l => by
    cases hp : p x with
    | false => rw [List.takeWhile_cons, hp]; exact .inr ⟨x, l, rfl, hp⟩
    | true => rw [List.takeWhile_cons, hp]; exact tw_end l
theorem jk1 : (List.take 1 ([] : List AV))[0]?.getD AV.junk = .junk := rfl
theorem jk2 (op : BinOp) (t : List UInt8) : binV op .junk (.str t) = .junk := rfl
theorem jk3 : pickV (.bool false) (.opt false .junk) (.bool false) = .bool false := rfl
theorem jk4 : boolS False (.opt false .junk) = True := by simp [boolS]
theorem wdH_cons (w : List UInt8) (r : List (List UInt8)) : wdH (w :: r) = w := rfl
theorem wdE_cons (w : List UInt8) (r : List (List UInt8)) (e : Int) : wdE (w :: r) e = e := rfl
theorem whX_succ (ws : List (List UInt8)) (e : Int) {k : Nat} (h : k < (whEvs ws).length) : whX ws e (k + 1) = evE (whEvs ws)[k] (whX ws e k) := by
  unfold whX
  rw [← List.take_append_getElem h, List.foldl_append]; rfl
theorem evI_step (l : List (List UInt8)) {k : Nat} (h : k < l.length) : ((l.take k).map evI).flatMap cId ++ cId (evI l[k]) = ((l.take (k + 1)).map evI).flatMap cId := by
  rw [← List.take_append_getElem h, List.map_append, List.flatMap_append]; simp
theorem evA_step (l : List (List UInt8)) {k : Nat} (h : k < l.length) : ((l.take k).map evA).flatMap cI ++ cI (evA l[k]) = ((l.take (k + 1)).map evA).flatMap cI := by
  rw [← List.take_append_getElem h, List.map_append, List.flatMap_append]; simp
section
variable {σ : St} {ρ : Nat} {ws : List (List UInt8)} {e : Int}
set_option maxHeartbeats 4000000 in
theorem a_what {x : List AV} (hx : x = []) (hb : σ.box ρ = some (rdL ws e)) (h1 : Wds ws) : AC Tryz.prog 173 [.agg x, .ptr ρ 0] σ (fun r s' => r = .agg (itL (whatI ws)) ∧ s' = σ.setBox ρ (rdL (whatR ws) (whatE ws e))) := by
  subst hx
  have hbi : BoxIs σ ρ (rdL ws e) := ⟨hb⟩
  have h2 := h1.tail
  have p7 := p49 7 (by unfold I64; omega)
  have p16 := p49 16 (by unfold I64; omega)
  rw [err_7] at p7
  rw [err_16] at p16
  have q1 : True := trivial
  have q2 : True := trivial
  have q3 : True := trivial
  have q4 : True := trivial
  have q7 : True := trivial
  have hX1 : True := trivial
  have hsv : True := trivial
  have q5 : True := trivial
  have q6 : True := trivial
  have hd : True := trivial
  have hs1 : True := trivial
  have hs2 : True := trivial
  obtain ⟨n, hn⟩ : ∃ n, (whEvs ws).length = n := ⟨_, rfl⟩
  refine AC_introW dc173 db173 (Nat.le_of_ble_eq_true rfl) ?_; simp only [dc173, ↓R1, RR, seval, hb, rdL, wdH_cons, wdE_cons, List.tail_cons, cId, jk1, jk2, jk3, jk4, q1, q2, q3, q4, q5, q6, q7, hX1, hsv, hd, hs1, hs2]
  repeat' (first | (with_reducible rw [allocV_eq]) | (with_reducible refine And.intro ?_ ?_; focus (intros; (repeat' (with_reducible apply And.intro)) <;> first | omega | (simp only [RZ, cId_len, cI_len]; omega))) | (with_reducible apply And.intro) | ((first | (refine gdV_split (fun hc => ?_) (fun hc => ?_) <;> (try simp only [hc, ↓R1, RR, seval, hb, rdL, wdH_cons, wdE_cons, List.tail_cons, cId, jk1, jk2, jk3, jk4, q1, q2, q3, q4, q5, q6, q7, hX1, hsv, hd, hs1, hs2])) | refine condV_split (fun hc => ?_) (fun hc => ?_) | (with_reducible intro β hβ; (try simp only [RB] at hβ); (repeat (obtain ⟨⟨_, _⟩, hβ⟩ := hβ)); (try (have hbis := apart_is (by assumption) hβ; obtain ⟨_, _⟩ := hbis))) | ((first | refine appD_tslK (.inr rfl) rfl ?_ ?_ ?_ ?_ ?_ ?_ | refine appV_tslK rfl ?_ ?_ ?_ ?_ ?_ ?_); (first | rfl | exact St.tip_same _ _ _ | simp only [↓R1, RR, seval, hb, rdL, wdH_cons, wdE_cons, List.tail_cons, cId, jk1, jk2, jk3, jk4, q1, q2, q3, q4, q5, q6, q7, hX1, hsv, hd, hs1, hs2]); (iterate 2 (first | omega | (simp only [RZ, cId_len, cI_len]; first | done | omega) | rfl)); (unfold maxLen; omega); omega) | (refine AC.mono (AC.wk (a_word (ws := ws) (e := e) ?_ h1.1) (wkL_refl _)) ?_; (focus (simp only [↓R1, RR, seval, hb, rdL, wdH_cons, wdE_cons, List.tail_cons, cId, jk1, jk2, jk3, jk4, q1, q2, q3, q4, q5, q6, q7, hX1, hsv, hd, hs1, hs2]; done)); (rintro _ _ ⟨rfl, rfl⟩)) | (refine AC.mono (AC.wk (a_number (ws := ws.tail) (e := wdE ws e) (s := wdH ws) ?_ h1.hd) (wkL_refl _)) ?_; (focus (simp only [↓R1, RR, seval, hb, rdL, wdH_cons, wdE_cons, List.tail_cons, cId, jk1, jk2, jk3, jk4, q1, q2, q3, q4, q5, q6, q7, hX1, hsv, hd, hs1, hs2]; done)); (rintro _ _ ⟨rfl, rfl⟩))) <;> (try simp only [↓R1, RR, seval, hb, rdL, wdH_cons, wdE_cons, List.tail_cons, cId, jk1, jk2, jk3, jk4, q1, q2, q3, q4, q5, q6, q7, hX1, hsv, hd, hs1, hs2])))
  rename_i b2 hb2 x1 x2 b4 hb4 x3 x4 x5 x6 x7 x8 x9 x10 x11 x12 x13 x14 x15 x16
  refine loopV_forBx2 n 5 2 63 2 3 3 1 (β := β) rfl (by simp only [↓R1, RR, seval, hb, rdL, wdH_cons, wdE_cons, List.tail_cons, cId, jk1, jk2, jk3, jk4, q1, q2, q3, q4, q5, q6, q7, hX1, hsv, hd, hs1, hs2]; rfl) rfl rfl (by decide)
    (fun τ υ k => [(1, .ptr ρ 0), (4, .ptr b4 0), (5, .ptr β 0)])
    (fun τ υ k => (((((σ.setBox b2 []).setBox b4 zeroIt).setBox ρ (rdL (ws.tail.drop k) (whX ws e k))).setBox β [.int .i64 1, .int .i64 (wnX ws), .tsl τ k (((whEvs ws).take k |>.map evI).flatMap cId), .tsl υ k (((whEvs ws).take k |>.map evA).flatMap cI), .nils, .int .i64 0, .int .i64 0]).setTip τ (63, 2, k)).setTip υ (3, 1, k))
    (fun k => True) trivial (fun τ υ => by simp [subF, slot, wk_refl]) (fun τ υ hτ hυ i1 i2 => by simp only [List.set_cons_succ, List.set_cons_zero, List.take_zero, List.map_nil, List.flatMap_nil, zeroIt, List.drop_zero, ↓R1, RR, seval, hb, rdL, wdH_cons, wdE_cons, List.tail_cons, cId, jk1, jk2, jk3, jk4, q1, q2, q3, q4, q5, q6, q7, hX1, hsv, hd, hs1, hs2]; exact St.le_refl _) (fun τ υ hτ hυ i1 i2 k hk hI => ?_)
  have hτ : σ.tip τ = none := by first | exact hτ | (simp only [St.tip_set, St.tip_noneA, ↓R1, RR, seval, hb, rdL, wdH_cons, wdE_cons, List.tail_cons, cId, jk1, jk2, jk3, jk4, q1, q2, q3, q4, q5, q6, q7, hX1, hsv, hd, hs1, hs2] at hτ; first | exact hτ | exact hτ.2 | exact hτ.1)
  have hυ : σ.tip υ = none := by first | exact hυ | (simp only [St.tip_set, St.tip_noneA, ↓R1, RR, seval, hb, rdL, wdH_cons, wdE_cons, List.tail_cons, cId, jk1, jk2, jk3, jk4, q1, q2, q3, q4, q5, q6, q7, hX1, hsv, hd, hs1, hs2] at hυ; first | exact hυ | exact hυ.2 | exact hυ.1)
  have hle : n ≤ ws.tail.length := by rw [← hn]; exact (List.takeWhile_prefix _).length_le
  have hw1 : ws.tail.length ≤ 1000000 := h2.1
  have hc1 : (((whEvs ws).take k |>.map evI).flatMap cId).length = k * 2 := by rw [cId_len]; simp; omega
  have hc2 : (((whEvs ws).take k |>.map evA).flatMap cI).length = k * 1 := by rw [cI_len]; simp; omega
  by_cases hlt : k < n
  · have hlt2 : k < (ws.tail.takeWhile isEv).length := by unfold whEvs at hn; omega
    obtain ⟨r, hd, hp, hr⟩ := tw_cons ws.tail hlt2
    obtain ⟨w, hwk⟩ : ∃ w, (whEvs ws)[k]'(by omega) = w := ⟨_, rfl⟩
    have hwk2 : (ws.tail.takeWhile isEv)[k] = w := hwk
    rw [hwk2] at hd hp
    have hs1 := evI_step (whEvs ws) (k := k) (by omega)
    have hs2 := evA_step (whEvs ws) (k := k) (by omega)
    have hX := whX_succ ws e (k := k) (by omega)
    rw [hwk] at hs1 hs2 hX
    have hwds : Wds (w :: r) := by rw [← hd]; exact h2.drop k
    have hwl : w.length ≤ 1000000 := hwds.2 w (by simp)
    have hrl : r.length + 1 ≤ 1000000 := by have := hwds.1; simpa using this
    have q1 : decide (((r.length + 1 : Nat) : Int) > 0) = true := by rw [decide_eq_true_eq]; omega
    have q2 : (w == [61]) = false := by unfold isEv at hp; simp only [Bool.and_eq_true, bne] at hp; simpa using hp.1
    have q3 : (w == [33]) = false := by unfold isEv at hp; simp only [Bool.and_eq_true, bne] at hp; simpa using hp.2
    simp only [cId, cI] at hs1 hs2
    rw [hd, hr, hX]
    simp only [q1, q2, q3, hs1, hs2, zeroIt, rdL, List.map_cons, List.length_cons, ↓R1, RR, seval, hb, rdL, wdH_cons, wdE_cons, List.tail_cons, cId, jk1, jk2, jk3, jk4, q1, q2, q3, q4, q5, q6, q7, hX1, hsv, hd, hs1, hs2]
    repeat' (first | (with_reducible rw [allocV_eq]) | (with_reducible refine And.intro ?_ ?_; focus (intros; (repeat' (with_reducible apply And.intro)) <;> first | omega | (simp only [RZ, cId_len, cI_len]; omega))) | (with_reducible apply And.intro) | ((first | (refine gdV_split (fun hc => ?_) (fun hc => ?_) <;> (try simp only [hc, ↓R1, RR, seval, hb, rdL, wdH_cons, wdE_cons, List.tail_cons, cId, jk1, jk2, jk3, jk4, q1, q2, q3, q4, q5, q6, q7, hX1, hsv, hd, hs1, hs2])) | refine condV_split (fun hc => ?_) (fun hc => ?_) | (with_reducible intro β hβ; (try simp only [RB] at hβ); (repeat (obtain ⟨⟨_, _⟩, hβ⟩ := hβ)); (try (have hbis := apart_is (by assumption) hβ; obtain ⟨_, _⟩ := hbis))) | ((first | refine appD_tslK (.inr rfl) rfl ?_ ?_ ?_ ?_ ?_ ?_ | refine appV_tslK rfl ?_ ?_ ?_ ?_ ?_ ?_); (first | rfl | exact St.tip_same _ _ _ | simp only [↓R1, RR, seval, hb, rdL, wdH_cons, wdE_cons, List.tail_cons, cId, jk1, jk2, jk3, jk4, q1, q2, q3, q4, q5, q6, q7, hX1, hsv, hd, hs1, hs2]); (iterate 2 (first | omega | (simp only [RZ, cId_len, cI_len]; first | done | omega) | rfl)); (unfold maxLen; omega); omega) | (refine AC.mono (AC.wk (a_word (ws := w :: r) (e := whX ws e k) ?_ hwds.1) (wkL_refl _)) ?_; (focus (simp only [↓R1, RR, seval, hb, rdL, wdH_cons, wdE_cons, List.tail_cons, cId, jk1, jk2, jk3, jk4, q1, q2, q3, q4, q5, q6, q7, hX1, hsv, hd, hs1, hs2]; done)); (rintro _ _ ⟨rfl, rfl⟩)) | (refine AC.mono (AC.wk (a_event (ws := r) (e := whX ws e k) (s := w) ?_ hwl) (wkL_refl _)) ?_; (focus (simp only [↓R1, RR, seval, hb, rdL, wdH_cons, wdE_cons, List.tail_cons, cId, jk1, jk2, jk3, jk4, q1, q2, q3, q4, q5, q6, q7, hX1, hsv, hd, hs1, hs2]; done)); (rintro _ _ ⟨rfl, rfl⟩))) <;> (try simp only [↓R1, RR, seval, hb, rdL, wdH_cons, wdE_cons, List.tail_cons, cId, jk1, jk2, jk3, jk4, q1, q2, q3, q4, q5, q6, q7, hX1, hsv, hd, hs1, hs2])))
    · simp [subF, slot, wk_refl]
    · (repeat (first | exact St.le_refl _ | (refine St.le_setTc ?_) | (refine St.le_new ?_ (by first | assumption | (simp only [↓R1, RR, seval, hb, rdL, wdH_cons, wdE_cons, List.tail_cons, cId, jk1, jk2, jk3, jk4, q1, q2, q3, q4, q5, q6, q7, hX1, hsv, hd, hs1, hs2]; assumption))) | (refine St.le_cong _ _ ?_)))
  · have hkn : k = n := by omega
    subst hkn
    have hE0t : ((k : Int) == 0) = true → whE0 ws e = nE (whX ws e k) 3 := fun h => by
      unfold whE0
      have h0 : whEvs ws = [] := List.length_eq_zero_iff.1 (by simp at h; omega)
      rw [hn, h0]; rfl
    have hE0f : ((k : Int) == 0) = false → whE0 ws e = whX ws e k := fun h => by
      unfold whE0
      have h0 : (whEvs ws).isEmpty = false := by cases hv : whEvs ws with | nil => rw [hv] at hn; subst hn; simp at h | cons _ _ => rfl
      rw [h0, hn]; rfl
    have hids : ((whEvs ws).take k).map evI = (whEvs ws).map evI := by rw [← hn, List.take_length]
    have hats : ((whEvs ws).take k).map evA = (whEvs ws).map evA := by rw [← hn, List.take_length]
    have hln : (whEvs ws).length = k := hn
    rw [hids, hats]
    have hRe : whRest ws = ws.tail.drop k := by unfold whRest; rw [hn]
    have hit : itL (whatI ws) = [.int .i64 1, .int .i64 (wnX ws), .sl false k (((whEvs ws).map evI).flatMap cId), .sl false k (((whEvs ws).map evA).flatMap cI), .sl false (whV (whRest ws)).length ((whV (whRest ws)).flatMap cI), .int .i64 (whER (whRest ws)), .int .i64 0] := by simp [itL, whatI, hn]
    unfold whatR whatE
    rw [hit]
    obtain ⟨vs, hvs⟩ : ∃ vs, ((whEvs ws).map evI).flatMap cId = vs := ⟨_, rfl⟩
    obtain ⟨us, hus⟩ : ∃ us, ((whEvs ws).map evA).flatMap cI = us := ⟨_, rfl⟩
    rw [hvs, hus]
    rcases tw_end (p := isEv) ws.tail with hd0 | ⟨w, r, hd0, hp⟩
    · have hd : ws.tail.drop k = [] := by rw [← hn]; exact hd0
      rw [hRe, hd]
      have q1 : decide ((0 : Int) < ((0 : Nat) : Int)) = false := rfl
      have q2 : (((0 : Nat) : Int) == 0) = true := rfl
      simp only [q1, q2, zeroIt, rdL, List.map_nil, List.length_nil, whV, whER, whTE, whR, ↓R1, RR, seval, hb, rdL, wdH_cons, wdE_cons, List.tail_cons, cId, jk1, jk2, jk3, jk4, q1, q2, q3, q4, q5, q6, q7, hX1, hsv, hd, hs1, hs2]
      repeat' (first | (with_reducible rw [allocV_eq]) | (with_reducible refine And.intro ?_ ?_; focus (intros; (repeat' (with_reducible apply And.intro)) <;> first | omega | (simp only [RZ, cId_len, cI_len]; omega))) | (with_reducible apply And.intro) | ((first | (refine gdV_split (fun hc => ?_) (fun hc => ?_) <;> (try simp only [hc, ↓R1, RR, seval, hb, rdL, wdH_cons, wdE_cons, List.tail_cons, cId, jk1, jk2, jk3, jk4, q1, q2, q3, q4, q5, q6, q7, hX1, hsv, hd, hs1, hs2])) | refine condV_split (fun hc => ?_) (fun hc => ?_) | (with_reducible intro β hβ; (try simp only [RB] at hβ); (repeat (obtain ⟨⟨_, _⟩, hβ⟩ := hβ)); (try (have hbis := apart_is (by assumption) hβ; obtain ⟨_, _⟩ := hbis))) | ((first | refine appD_tslK (.inr rfl) rfl ?_ ?_ ?_ ?_ ?_ ?_ | refine appV_tslK rfl ?_ ?_ ?_ ?_ ?_ ?_); (first | rfl | exact St.tip_same _ _ _ | simp only [↓R1, RR, seval, hb, rdL, wdH_cons, wdE_cons, List.tail_cons, cId, jk1, jk2, jk3, jk4, q1, q2, q3, q4, q5, q6, q7, hX1, hsv, hd, hs1, hs2]); (iterate 2 (first | omega | (simp only [RZ, cId_len, cI_len]; first | done | omega) | rfl)); (unfold maxLen; omega); omega) | (refine AC.mono (AC.wk (a_note (ws := []) (e := whX ws e k) ?_) (wkL_refl _)) ?_; (focus (simp only [↓R1, RR, seval, hb, rdL, wdH_cons, wdE_cons, List.tail_cons, cId, jk1, jk2, jk3, jk4, q1, q2, q3, q4, q5, q6, q7, hX1, hsv, hd, hs1, hs2]; done)); (rintro _ _ ⟨rfl, rfl⟩))) <;> (try simp only [↓R1, RR, seval, hb, rdL, wdH_cons, wdE_cons, List.tail_cons, cId, jk1, jk2, jk3, jk4, q1, q2, q3, q4, q5, q6, q7, hX1, hsv, hd, hs1, hs2])))
      all_goals (
        rename_i hc
        first | rw [hE0t hc] | rw [hE0f hc]
        (refine endP_W (by simp) (by first | (simp [rvsS, rvS]; done) | (simp only [rvsS, rvS, ↓R1, RR, seval, hb, rdL, wdH_cons, wdE_cons, List.tail_cons, cId, jk1, jk2, jk3, jk4, q1, q2, q3, q4, q5, q6, q7, hX1, hsv, hd, hs1, hs2]; try simp)) ?_ ?_)
        · simp only [resAV, rvV, List.map_cons, List.map_nil, ↓R1, RR, seval, hb, rdL, wdH_cons, wdE_cons, List.tail_cons, cId, jk1, jk2, jk3, jk4, q1, q2, q3, q4, q5, q6, q7, hX1, hsv, hd, hs1, hs2]
          (repeat' (first | exact wk_refl _ | exact wk_nils | exact wk_tsl _ _ _ | exact wk_full _ _ | exact wkL.nil | exact wkL_refl _ | refine wk_tup ?_ | refine wk_agg ?_ | refine wkL.cons ?_ ?_))
        · (repeat' (first | exact St.lw_refl _ | (refine St.lw_setT ?_) | (refine St.lw_newT ?_ (by first | assumption | (simp only [St.tip_set, St.tip_otherA]; assumption))) | (refine St.lw_set ?_ ?_) | (refine St.lw_new ?_ (by first | assumption | (simp only [St.box_otherA, St.box_tip]; assumption))) | exact wkL.nil | exact wkL_refl _ | (refine wkL.cons ?_ ?_) | exact wk_refl _ | exact wk_nils | exact wk_tsl _ _ _ | exact wk_full _ _)))
    · have hd : ws.tail.drop k = w :: r := by rw [← hn]; exact hd0
      have hwds : Wds (w :: r) := by rw [← hd]; exact h2.drop k
      have hr0 : Wds r := hwds.tail
      have hwl : w.length ≤ 1000000 := hwds.2 w (by simp)
      have hrl : r.length + 1 ≤ 1000000 := by have := hwds.1; simpa using this
      have q1 : decide ((0 : Int) < ((r.length + 1 : Nat) : Int)) = true := by rw [decide_eq_true_eq]; omega
      have q2 : (((r.length + 1 : Nat) : Int) == 0) = false := by rw [beq_eq_false_iff_ne]; omega
      have hisv : isEv w = false := hp
      rw [hRe, hd]
      cases q3 : (w == [33]) with
      | true =>
        have q4 : (w == [61]) = false := by rw [beq_iff_eq] at q3; subst q3; rfl
        simp only [whV, whER, whTE, whR, q3, cond_true]
        have hcs : ((wdH r == e7) = true ∧ erE (wdH r) = 7 ∧ ∀ x, erN (wdH r) x = x) ∨ ((wdH r == e7) = false ∧ (wdH r == e16) = true ∧ erE (wdH r) = 16 ∧ ∀ x, erN (wdH r) x = x)
            ∨ ((wdH r == e7) = false ∧ (wdH r == e16) = false ∧ erE (wdH r) = 0 ∧ ∀ x, erN (wdH r) x = nE x 3) := by
          unfold erN erE
          cases q5 : (wdH r == e7) <;> cases q6 : (wdH r == e16) <;> simp
        rcases hcs with ⟨q5, hq6, hq7⟩ | ⟨q5, q6, hq6, hq7⟩ | ⟨q5, q6, hq6, hq7⟩
        all_goals (
          rw [hq6]
          simp only [hq7, q1, q2, q3, q4, q5, q6, zeroIt, rdL, List.map_cons, List.length_cons, List.map_nil, List.length_nil, ↓R1, RR, seval, hb, rdL, wdH_cons, wdE_cons, List.tail_cons, cId, jk1, jk2, jk3, jk4, q1, q2, q3, q4, q5, q6, q7, hX1, hsv, hd, hs1, hs2]
          repeat' (first | (with_reducible rw [allocV_eq]) | (with_reducible refine And.intro ?_ ?_; focus (intros; (repeat' (with_reducible apply And.intro)) <;> first | omega | (simp only [RZ, cId_len, cI_len]; omega))) | (with_reducible apply And.intro) | ((first | (refine gdV_split (fun hc => ?_) (fun hc => ?_) <;> (try simp only [hc, ↓R1, RR, seval, hb, rdL, wdH_cons, wdE_cons, List.tail_cons, cId, jk1, jk2, jk3, jk4, q1, q2, q3, q4, q5, q6, q7, hX1, hsv, hd, hs1, hs2])) | refine condV_split (fun hc => ?_) (fun hc => ?_) | (with_reducible intro β hβ; (try simp only [RB] at hβ); (repeat (obtain ⟨⟨_, _⟩, hβ⟩ := hβ)); (try (have hbis := apart_is (by assumption) hβ; obtain ⟨_, _⟩ := hbis))) | ((first | refine appD_tslK (.inr rfl) rfl ?_ ?_ ?_ ?_ ?_ ?_ | refine appV_tslK rfl ?_ ?_ ?_ ?_ ?_ ?_); (first | rfl | exact St.tip_same _ _ _ | simp only [↓R1, RR, seval, hb, rdL, wdH_cons, wdE_cons, List.tail_cons, cId, jk1, jk2, jk3, jk4, q1, q2, q3, q4, q5, q6, q7, hX1, hsv, hd, hs1, hs2]); (iterate 2 (first | omega | (simp only [RZ, cId_len, cI_len]; first | done | omega) | rfl)); (unfold maxLen; omega); omega) | (refine AC.mono (AC.wk (a_note (ws := w :: r) (e := whX ws e k) ?_) (wkL_refl _)) ?_; (focus (simp only [↓R1, RR, seval, hb, rdL, wdH_cons, wdE_cons, List.tail_cons, cId, jk1, jk2, jk3, jk4, q1, q2, q3, q4, q5, q6, q7, hX1, hsv, hd, hs1, hs2]; done)); (rintro _ _ ⟨rfl, rfl⟩)) | (refine AC.mono (AC.wk (a_word (ws := w :: r) (e := nE (whX ws e k) 3) ?_ hwds.1) (wkL_refl _)) ?_; (focus (simp only [↓R1, RR, seval, hb, rdL, wdH_cons, wdE_cons, List.tail_cons, cId, jk1, jk2, jk3, jk4, q1, q2, q3, q4, q5, q6, q7, hX1, hsv, hd, hs1, hs2]; done)); (rintro _ _ ⟨rfl, rfl⟩)) | (refine AC.mono (AC.wk (a_word (ws := w :: r) (e := whX ws e k) ?_ hwds.1) (wkL_refl _)) ?_; (focus (simp only [↓R1, RR, seval, hb, rdL, wdH_cons, wdE_cons, List.tail_cons, cId, jk1, jk2, jk3, jk4, q1, q2, q3, q4, q5, q6, q7, hX1, hsv, hd, hs1, hs2]; done)); (rintro _ _ ⟨rfl, rfl⟩)) | (refine AC.mono (AC.wk (a_word (ws := r) (e := nE (whX ws e k) 3) ?_ hr0.1) (wkL_refl _)) ?_; (focus (simp only [↓R1, RR, seval, hb, rdL, wdH_cons, wdE_cons, List.tail_cons, cId, jk1, jk2, jk3, jk4, q1, q2, q3, q4, q5, q6, q7, hX1, hsv, hd, hs1, hs2]; done)); (rintro _ _ ⟨rfl, rfl⟩)) | (refine AC.mono (AC.wk (a_word (ws := r) (e := whX ws e k) ?_ hr0.1) (wkL_refl _)) ?_; (focus (simp only [↓R1, RR, seval, hb, rdL, wdH_cons, wdE_cons, List.tail_cons, cId, jk1, jk2, jk3, jk4, q1, q2, q3, q4, q5, q6, q7, hX1, hsv, hd, hs1, hs2]; done)); (rintro _ _ ⟨rfl, rfl⟩)) | refine Pt (p7) ?_ | refine Ct (p7) ?_ | refine Pt (p16) ?_ | refine Ct (p16) ?_ | (refine AC.mono (AC.wk (a_note (ws := r.tail) (e := wdE r (nE (whX ws e k) 3)) ?_) (wkL_refl _)) ?_; (focus (simp only [↓R1, RR, seval, hb, rdL, wdH_cons, wdE_cons, List.tail_cons, cId, jk1, jk2, jk3, jk4, q1, q2, q3, q4, q5, q6, q7, hX1, hsv, hd, hs1, hs2]; done)); (rintro _ _ ⟨rfl, rfl⟩)) | (refine AC.mono (AC.wk (a_note (ws := r.tail) (e := wdE r (whX ws e k)) ?_) (wkL_refl _)) ?_; (focus (simp only [↓R1, RR, seval, hb, rdL, wdH_cons, wdE_cons, List.tail_cons, cId, jk1, jk2, jk3, jk4, q1, q2, q3, q4, q5, q6, q7, hX1, hsv, hd, hs1, hs2]; done)); (rintro _ _ ⟨rfl, rfl⟩))) <;> (try simp only [↓R1, RR, seval, hb, rdL, wdH_cons, wdE_cons, List.tail_cons, cId, jk1, jk2, jk3, jk4, q1, q2, q3, q4, q5, q6, q7, hX1, hsv, hd, hs1, hs2])))
          all_goals (
            rename_i hc
            first | rw [hE0t hc, hq7] | rw [hE0f hc, hq7]
            (refine endP_W (by simp) (by first | (simp [rvsS, rvS]; done) | (simp only [rvsS, rvS, ↓R1, RR, seval, hb, rdL, wdH_cons, wdE_cons, List.tail_cons, cId, jk1, jk2, jk3, jk4, q1, q2, q3, q4, q5, q6, q7, hX1, hsv, hd, hs1, hs2]; try simp)) ?_ ?_)
            · simp only [resAV, rvV, List.map_cons, List.map_nil, ↓R1, RR, seval, hb, rdL, wdH_cons, wdE_cons, List.tail_cons, cId, jk1, jk2, jk3, jk4, q1, q2, q3, q4, q5, q6, q7, hX1, hsv, hd, hs1, hs2]
              (repeat' (first | exact wk_refl _ | exact wk_nils | exact wk_tsl _ _ _ | exact wk_full _ _ | exact wkL.nil | exact wkL_refl _ | refine wk_tup ?_ | refine wk_agg ?_ | refine wkL.cons ?_ ?_))
            · (repeat' (first | exact St.lw_refl _ | (refine St.lw_setT ?_) | (refine St.lw_newT ?_ (by first | assumption | (simp only [St.tip_set, St.tip_otherA]; assumption))) | (refine St.lw_set ?_ ?_) | (refine St.lw_new ?_ (by first | assumption | (simp only [St.box_otherA, St.box_tip]; assumption))) | exact wkL.nil | exact wkL_refl _ | (refine wkL.cons ?_ ?_) | exact wk_refl _ | exact wk_nils | exact wk_tsl _ _ _ | exact wk_full _ _))))
      | false =>
        have q4 : (w == [61]) = true := by
          have h9 := hisv
          unfold isEv at h9
          simp only [bne, q3, Bool.not_false, Bool.and_true, Bool.not_eq_false'] at h9
          exact h9
        simp only [whV, whER, whTE, whR, q3, cond_false]
        obtain ⟨E, hE⟩ : ∃ E, whE0 ws e = E := ⟨_, rfl⟩
        rw [hE]
        obtain ⟨vE, hvE0⟩ : ∃ f : Nat → Int, f = fun j => (r.tail.take j).foldl valE (valE (wdE r E) (wdH r)) := ⟨_, rfl⟩
        obtain ⟨vL, hvL0⟩ : ∃ f : Nat → List AV, f = fun j => ((wdH r :: r.tail.take j).map intX).flatMap cI := ⟨_, rfl⟩
        have hv0 : vE 0 = nE (wdE r E) (intE (wdH r)) := by rw [hvE0]; rfl
        have hL0 : vL 0 = [.int .i64 (intX (wdH r))] := by rw [hvL0]; rfl
        have hvE : ∀ j v rr, j < r.tail.length → r.tail.drop j = v :: rr → vE (j + 1) = nE (vE j) (intE v) := fun j v rr hj hd => by
          have hv : r.tail[j] = v := by rw [List.drop_eq_getElem_cons hj] at hd; exact (List.cons.inj hd).1
          rw [hvE0]; simp only; rw [← List.take_append_getElem hj, List.foldl_append, hv]; rfl
        have hvS : ∀ j v rr, j < r.tail.length → r.tail.drop j = v :: rr → vL j ++ [.int .i64 (intX v)] = vL (j + 1) := fun j v rr hj hd => by
          have hv : r.tail[j] = v := by rw [List.drop_eq_getElem_cons hj] at hd; exact (List.cons.inj hd).1
          rw [hvL0]; simp only; rw [← List.take_append_getElem hj, hv]; simp [cI]
        have hvL : ∀ j, j < r.tail.length → (vL j).length = (j + 1) * 1 := fun j hj => by rw [hvL0]; simp only; rw [cI_len]; have h9 := hj; simp at h9 ⊢; omega
        have hrt : r.tail.length ≤ 1000000 := hr0.tail.1
        have hq7 : (((k : Int) == 0) = true ∧ nE (whX ws e k) 3 = E) ∨ (((k : Int) == 0) = false ∧ whX ws e k = E) := by
          cases q7 : ((k : Int) == 0) with
          | true => exact .inl ⟨rfl, by rw [← hE, hE0t q7]⟩
          | false => exact .inr ⟨rfl, by rw [← hE, hE0f q7]⟩
        rcases hq7 with ⟨q7, hX1⟩ | ⟨q7, hX1⟩
        all_goals (
            have hsv : True := trivial
            have hlv : True := trivial
            have hdr : True := trivial
            simp only [q1, q2, q3, q4, q7, zeroIt, rdL, List.map_cons, List.length_cons, List.map_nil, List.length_nil, ↓R1, RR, seval, hb, rdL, wdH_cons, wdE_cons, List.tail_cons, cId, jk1, jk2, jk3, jk4, q1, q2, q3, q4, q5, q6, q7, hX1, hsv, hd, hs1, hs2]
            repeat' (first | (with_reducible rw [allocV_eq]) | (with_reducible refine And.intro ?_ ?_; focus (intros; (repeat' (with_reducible apply And.intro)) <;> first | omega | (simp only [RZ, cId_len, cI_len]; omega))) | (with_reducible apply And.intro) | ((first | (refine gdV_split (fun hc => ?_) (fun hc => ?_) <;> (try simp only [hc, ↓R1, RR, seval, hb, rdL, wdH_cons, wdE_cons, List.tail_cons, cId, jk1, jk2, jk3, jk4, q1, q2, q3, q4, q5, q6, q7, hX1, hsv, hd, hs1, hs2])) | refine condV_split (fun hc => ?_) (fun hc => ?_) | (with_reducible intro β hβ; (try simp only [RB] at hβ); (repeat (obtain ⟨⟨_, _⟩, hβ⟩ := hβ)); (try (have hbis := apart_is (by assumption) hβ; obtain ⟨_, _⟩ := hbis))) | ((first | refine appD_tslK (.inr rfl) rfl ?_ ?_ ?_ ?_ ?_ ?_ | refine appV_tslK rfl ?_ ?_ ?_ ?_ ?_ ?_); (first | rfl | exact St.tip_same _ _ _ | simp only [↓R1, RR, seval, hb, rdL, wdH_cons, wdE_cons, List.tail_cons, cId, jk1, jk2, jk3, jk4, q1, q2, q3, q4, q5, q6, q7, hX1, hsv, hd, hs1, hs2]); (iterate 2 (first | omega | (simp only [RZ, cId_len, cI_len]; first | done | omega) | rfl)); (unfold maxLen; omega); omega) | (refine AC.mono (AC.wk (a_note (ws := w :: r) (e := whX ws e k) ?_) (wkL_refl _)) ?_; (focus (simp only [↓R1, RR, seval, hb, rdL, wdH_cons, wdE_cons, List.tail_cons, cId, jk1, jk2, jk3, jk4, q1, q2, q3, q4, q5, q6, q7, hX1, hsv, hd, hs1, hs2]; done)); (rintro _ _ ⟨rfl, rfl⟩)) | (refine AC.mono (AC.wk (a_word (ws := w :: r) (e := E) ?_ hwds.1) (wkL_refl _)) ?_; (focus (simp only [↓R1, RR, seval, hb, rdL, wdH_cons, wdE_cons, List.tail_cons, cId, jk1, jk2, jk3, jk4, q1, q2, q3, q4, q5, q6, q7, hX1, hsv, hd, hs1, hs2]; done)); (rintro _ _ ⟨rfl, rfl⟩)) | (refine AC.mono (AC.wk (a_value (ws := r) (e := E) ?_ hr0.1 hr0.hd) (wkL_refl _)) ?_; (focus (simp only [↓R1, RR, seval, hb, rdL, wdH_cons, wdE_cons, List.tail_cons, cId, jk1, jk2, jk3, jk4, q1, q2, q3, q4, q5, q6, q7, hX1, hsv, hd, hs1, hs2]; done)); (rintro _ _ ⟨rfl, rfl⟩)) | (refine appV_tip (n := 0) (m := 1) (cs := []) (ds := [.int .i64 (intX (wdH r))]) rfl trivial rfl (by simp) rfl (by unfold maxLen; omega) (by omega) ?_; with_reducible intro τ3 hβ; (try simp only [RB] at hβ); (repeat (obtain ⟨⟨_, _⟩, hβ⟩ := hβ)); (try (have hbis := apart_is (by assumption) hβ; obtain ⟨_, _⟩ := hbis)))) <;> (try simp only [↓R1, RR, seval, hb, rdL, wdH_cons, wdE_cons, List.tail_cons, cId, jk1, jk2, jk3, jk4, q1, q2, q3, q4, q5, q6, q7, hX1, hsv, hd, hs1, hs2])))
            all_goals (
              refine loopV_for r.tail.length (fun j => [(1, .ptr ρ 0), (4, .ptr b4 0), (5, .ptr β 0)])
                (fun j => ((((((σ.setBox b2 []).setBox b4 zeroIt).setBox ρ (rdL (r.tail.drop j) (vE j))).setBox β [.int .i64 1, .int .i64 (wnX ws), .tsl τ k vs, .tsl υ k us, .tsl τ3 (j + 1) (vL j), .int .i64 0, .int .i64 0]).setTip τ (63, 2, k)).setTip υ (3, 1, k)).setTip τ3 (2, 1, j + 1))
                (fun _ => True) (by simp [subF, slot, wk_refl]) (by simp only [List.drop_zero, hv0, hL0, zeroIt, rdL, ↓R1, RR, seval, hb, rdL, wdH_cons, wdE_cons, List.tail_cons, cId, jk1, jk2, jk3, jk4, q1, q2, q3, q4, q5, q6, q7, hX1, hsv, hd, hs1, hs2]; exact St.le_refl _) trivial (fun j hj _ => ?_)
              by_cases hlt : j < r.tail.length
              · obtain ⟨v, rr, hdr⟩ : ∃ v rr, r.tail.drop j = v :: rr := ⟨_, _, List.drop_eq_getElem_cons hlt⟩
                have hdr1 : r.tail.drop (j + 1) = rr := by rw [← List.tail_drop, hdr]; rfl
                have hwd2 : Wds (v :: rr) := by rw [← hdr]; exact hr0.tail.drop j
                have hrr : rr.length + 1 ≤ 1000000 := by have := hwd2.1; simpa using this
                have q1 : decide ((0 : Int) < ((rr.length + 1 : Nat) : Int)) = true := by rw [decide_eq_true_eq]; omega
                have hsv := hvS j v rr hlt hdr
                have hlv := hvL j hlt
                have hle := hvE j v rr hlt hdr
                rw [hdr, hdr1, hle]
                simp only [q1, zeroIt, rdL, List.map_cons, List.length_cons, ↓R1, RR, seval, hb, rdL, wdH_cons, wdE_cons, List.tail_cons, cId, jk1, jk2, jk3, jk4, q1, q2, q3, q4, q5, q6, q7, hX1, hsv, hd, hs1, hs2]
                repeat' (first | (with_reducible rw [allocV_eq]) | (with_reducible refine And.intro ?_ ?_; focus (intros; (repeat' (with_reducible apply And.intro)) <;> first | omega | (simp only [RZ, cId_len, cI_len]; omega))) | (with_reducible apply And.intro) | ((first | (refine gdV_split (fun hc => ?_) (fun hc => ?_) <;> (try simp only [hc, ↓R1, RR, seval, hb, rdL, wdH_cons, wdE_cons, List.tail_cons, cId, jk1, jk2, jk3, jk4, q1, q2, q3, q4, q5, q6, q7, hX1, hsv, hd, hs1, hs2])) | refine condV_split (fun hc => ?_) (fun hc => ?_) | (with_reducible intro β hβ; (try simp only [RB] at hβ); (repeat (obtain ⟨⟨_, _⟩, hβ⟩ := hβ)); (try (have hbis := apart_is (by assumption) hβ; obtain ⟨_, _⟩ := hbis))) | ((first | refine appD_tslK (.inr rfl) rfl ?_ ?_ ?_ ?_ ?_ ?_ | refine appV_tslK rfl ?_ ?_ ?_ ?_ ?_ ?_); (first | rfl | exact St.tip_same _ _ _ | simp only [↓R1, RR, seval, hb, rdL, wdH_cons, wdE_cons, List.tail_cons, cId, jk1, jk2, jk3, jk4, q1, q2, q3, q4, q5, q6, q7, hX1, hsv, hd, hs1, hs2]); (iterate 2 (first | omega | (simp only [RZ, cId_len, cI_len]; first | done | omega) | rfl)); (unfold maxLen; omega); omega) | (refine AC.mono (AC.wk (a_value (ws := v :: rr) (e := vE j) ?_ hwd2.1 hwd2.hd) (wkL_refl _)) ?_; (focus (simp only [↓R1, RR, seval, hb, rdL, wdH_cons, wdE_cons, List.tail_cons, cId, jk1, jk2, jk3, jk4, q1, q2, q3, q4, q5, q6, q7, hX1, hsv, hd, hs1, hs2]; done)); (rintro _ _ ⟨rfl, rfl⟩))) <;> (try simp only [↓R1, RR, seval, hb, rdL, wdH_cons, wdE_cons, List.tail_cons, cId, jk1, jk2, jk3, jk4, q1, q2, q3, q4, q5, q6, q7, hX1, hsv, hd, hs1, hs2])))
                all_goals first | (simp [subF, slot, wk_refl]; done) | exact St.le_refl _
              · have hj2 : j = r.tail.length := by omega
                have hdr : r.tail.drop j = [] := List.drop_eq_nil_of_le (by omega)
                have q1 : decide ((0 : Int) < ((0 : Nat) : Int)) = false := rfl
                have hvf : List.foldl valE (valE (wdE r E) (wdH r)) r.tail = vE j := by rw [hvE0, hj2]; simp only [List.take_length]
                have hvl : List.flatMap cI (intX (wdH r) :: List.map intX r.tail) = vL j := by rw [hvL0, hj2]; simp only [List.take_length, List.map_cons]
                have hml : (List.map intX r.tail).length = j := by rw [List.length_map, hj2]
                rw [hdr, hvf, hvl, hml]
                simp only [q1, zeroIt, rdL, List.map_nil, List.length_nil, ↓R1, RR, seval, hb, rdL, wdH_cons, wdE_cons, List.tail_cons, cId, jk1, jk2, jk3, jk4, q1, q2, q3, q4, q5, q6, q7, hX1, hsv, hd, hs1, hs2]
                repeat' (first | (with_reducible rw [allocV_eq]) | (with_reducible refine And.intro ?_ ?_; focus (intros; (repeat' (with_reducible apply And.intro)) <;> first | omega | (simp only [RZ, cId_len, cI_len]; omega))) | (with_reducible apply And.intro) | ((first | (refine gdV_split (fun hc => ?_) (fun hc => ?_) <;> (try simp only [hc, ↓R1, RR, seval, hb, rdL, wdH_cons, wdE_cons, List.tail_cons, cId, jk1, jk2, jk3, jk4, q1, q2, q3, q4, q5, q6, q7, hX1, hsv, hd, hs1, hs2])) | refine condV_split (fun hc => ?_) (fun hc => ?_) | (with_reducible intro β hβ; (try simp only [RB] at hβ); (repeat (obtain ⟨⟨_, _⟩, hβ⟩ := hβ)); (try (have hbis := apart_is (by assumption) hβ; obtain ⟨_, _⟩ := hbis))) | ((first | refine appD_tslK (.inr rfl) rfl ?_ ?_ ?_ ?_ ?_ ?_ | refine appV_tslK rfl ?_ ?_ ?_ ?_ ?_ ?_); (first | rfl | exact St.tip_same _ _ _ | simp only [↓R1, RR, seval, hb, rdL, wdH_cons, wdE_cons, List.tail_cons, cId, jk1, jk2, jk3, jk4, q1, q2, q3, q4, q5, q6, q7, hX1, hsv, hd, hs1, hs2]); (iterate 2 (first | omega | (simp only [RZ, cId_len, cI_len]; first | done | omega) | rfl)); (unfold maxLen; omega); omega)) <;> (try simp only [↓R1, RR, seval, hb, rdL, wdH_cons, wdE_cons, List.tail_cons, cId, jk1, jk2, jk3, jk4, q1, q2, q3, q4, q5, q6, q7, hX1, hsv, hd, hs1, hs2])))
                (refine endP_W (by simp) (by first | (simp [rvsS, rvS]; done) | (simp only [rvsS, rvS, ↓R1, RR, seval, hb, rdL, wdH_cons, wdE_cons, List.tail_cons, cId, jk1, jk2, jk3, jk4, q1, q2, q3, q4, q5, q6, q7, hX1, hsv, hd, hs1, hs2]; try simp)) ?_ ?_)
                · simp only [resAV, rvV, List.map_cons, List.map_nil, ↓R1, RR, seval, hb, rdL, wdH_cons, wdE_cons, List.tail_cons, cId, jk1, jk2, jk3, jk4, q1, q2, q3, q4, q5, q6, q7, hX1, hsv, hd, hs1, hs2]
                  (repeat' (first | exact wk_refl _ | exact wk_nils | exact wk_tsl _ _ _ | exact wk_full _ _ | exact wkL.nil | exact wkL_refl _ | refine wk_tup ?_ | refine wk_agg ?_ | refine wkL.cons ?_ ?_))
                · (repeat' (first | exact St.lw_refl _ | (refine St.lw_setT ?_) | (refine St.lw_newT ?_ (by first | assumption | (simp only [St.tip_set, St.tip_otherA]; assumption))) | (refine St.lw_set ?_ ?_) | (refine St.lw_new ?_ (by first | assumption | (simp only [St.box_otherA, St.box_tip]; assumption))) | exact wkL.nil | exact wkL_refl _ | (refine wkL.cons ?_ ?_) | exact wk_refl _ | exact wk_nils | exact wk_tsl _ _ _ | exact wk_full _ _))))
end
end Go.Proofs.YtncadbcjikekhaaGreatDoor
namespace Go.Proofs.YtncadbcjikekhaaGreatDoor
open Go.Abs Go.Lib
set_option linter.all false
set_option maxRecDepth 100000
def ipK (s : List UInt8) : Bool := wdH (partsL s 32) == sFound
def ipN (s : List UInt8) : Bool := wdH (partsL s 32) == sNotice
def ipX (s : List UInt8) : It := bif ipK s then whatI (partsL s 32).tail else toldI (partsL s 32).tail
def ipE0 (s : List UInt8) : Int := bif ipK s then whatE (partsL s 32).tail 0 else toldE (partsL s 32).tail 0
def ipR (s : List UInt8) : List (List UInt8) := bif ipK s then whatR (partsL s 32).tail else (partsL s 32).tail.tail.tail.tail
def ipE1 (s : List UInt8) : Int := bif (ipR s).isEmpty then ipE0 s else nE (ipE0 s) 3
def ipE2 (s : List UInt8) : Int := bif ipE1 s == 0 then rightS (ipX s) else ipE1 s
def ipE (s : List UInt8) : Int := bif ipK s then ipE2 s else bif ipN s then ipE2 s else 3
def ipC (s : List UInt8) : List AV := bif ipE s == 0 then itL (ipX s) else zeroIt
theorem nE_zero (x : Int) : nE 0 x = x := by
  unfold nE
  cases h : (x != 0) with
  | true => rfl
  | false => simp only [bne_eq_false_iff_eq] at h; subst h; rfl
theorem parts_wds (s : List UInt8) (hs : s.length ≤ 100000) : Wds (partsL s 32) :=
  ⟨by have := parts_len s; omega, fun w hw => by have := (parts_mem 32 _ s (Nat.le_refl _) w hw).1; omega⟩
theorem wh_len (ws : List (List UInt8)) (h : Wds ws) : (whatI ws).ids.length ≤ 1000000 ∧ (whatI ws).at'.length ≤ 1000000 ∧ (whatI ws).va.length ≤ 1000000 := by
  have hp : (whEvs ws).length ≤ ws.tail.length := (List.takeWhile_prefix _).length_le
  have h1 := h.tail.1
  refine ⟨?_, ?_, ?_⟩
  · simp only [whatI, List.length_map]; omega
  · simp only [whatI, List.length_map]; omega
  · simp only [whatI]
    have hl : (whRest ws).length ≤ 1000000 := by unfold whRest; rw [List.length_drop]; omega
    cases hr : whRest ws with
    | nil => simp [whV]
    | cons w r =>
      rw [hr] at hl
      simp only [List.length_cons] at hl
      simp only [whV]
      cases (w == [33]) with
      | true => simp
      | false => simp; omega
set_option maxHeartbeats 4000000 in
theorem ip_any (s : List UInt8) (hs : s.length ≤ 100000) (hor : ipK s = true ∨ ipK s = false ∧ ipN s = true) : Pu Tryz.prog 35 [.str s] (.tup [.agg (ipC s), .int .i64 (ipE s)]) := by
  have q1 : True := trivial
  have q2 : True := trivial
  have q3 : True := trivial
  have q4 : True := trivial
  have q5 : True := trivial
  have q6 : True := trivial
  have hws : True := trivial
  have hF : True := trivial
  have hN : True := trivial
  have hz : True := trivial
  have hX : True := trivial
  have hE : True := trivial
  have hR : True := trivial
  have p69 := p69 s 32 (by omega)
  have h1 := parts_wds s hs
  have hI : ipE s = ipE2 s := by rcases hor with h | h <;> (unfold ipE; simp only [h, cond_true, cond_false])
  have hne : partsL s 32 ≠ [] := (parts_join 32 _ s (Nat.le_refl _)).2
  have hz : wdE (partsL s 32) 0 = 0 := by cases hp : partsL s 32 with | nil => exact absurd hp hne | cons w r => rfl
  have hln : (ipX s).ids.length ≤ 1000000 ∧ (ipX s).at'.length ≤ 1000000 ∧ (ipX s).va.length ≤ 1000000 := by
    unfold ipX
    cases ipK s with
    | true => exact wh_len _ h1.tail
    | false => simp [toldI]
  unfold ipC
  rw [hI]
  unfold ipE2 ipE1
  obtain ⟨R, hR⟩ : ∃ R, ipR s = R := ⟨_, rfl⟩
  obtain ⟨E, hE⟩ : ∃ E, ipE0 s = E := ⟨_, rfl⟩
  obtain ⟨X, hX⟩ : ∃ X, ipX s = X := ⟨_, rfl⟩
  have hlist : (ipK s = true ∧ ∀ (σ : St) (ρ : Nat), σ.box ρ = some (rdL (partsL s 32).tail 0) → AC Tryz.prog 173 [.agg [], .ptr ρ 0] σ (fun r s' => r = .agg (itL X) ∧ s' = σ.setBox ρ (rdL R E)))
      ∨ (ipK s = false ∧ ipN s = true ∧ ∀ (σ : St) (ρ : Nat), σ.box ρ = some (rdL (partsL s 32).tail 0) → AC Tryz.prog 183 [.agg [], .ptr ρ 0] σ (fun r s' => r = .agg (itL X) ∧ s' = σ.setBox ρ (rdL R E))) := by
    rw [← hX, ← hR, ← hE]
    rcases hor with h | ⟨h, h2⟩
    · refine .inl ⟨h, fun σ ρ hb => ?_⟩
      unfold ipX ipR ipE0
      rw [h]
      exact a_what (x := []) rfl hb h1.tail
    · refine .inr ⟨h, h2, fun σ ρ hb => ?_⟩
      unfold ipX ipR ipE0
      rw [h]
      exact a_told (x := []) rfl hb h1.tail
  rw [hX] at hln
  rw [hR, hE, hX]
  have hr := p13 X hln.1 hln.2.1 hln.2.2
  unfold itL at hr
  obtain ⟨F, hF⟩ : ∃ F, (bif R.isEmpty then E else nE E 3) = F := ⟨_, rfl⟩
  rw [hF]
  have r4 : True := trivial
  have hn : True := trivial
  unfold ipK ipN sFound sNotice at hlist
  obtain ⟨ws, hws⟩ : ∃ ws, partsL s 32 = ws := ⟨_, rfl⟩
  rw [hws] at p69 h1 hz hlist
  have h3 : (∃ b, R.isEmpty = b ∧ decide ((0 : Int) < (R.length : Int)) = !b) := ⟨R.isEmpty, rfl, by cases R <;> simp⟩
  obtain ⟨b, hb, q1⟩ := h3
  rw [hb] at hF
  have h4 : ((F == 0) = true ∧ nE F (rightS X) = rightS X ∧ ((rightS X == 0) = false ∧ (rightS X != 0) = true ∨ (rightS X == 0) = true ∧ (rightS X != 0) = false)) ∨ (F == 0) = false ∧ (F != 0) = true := by
    by_cases hf : F = 0
    · refine .inl ⟨by rw [beq_iff_eq]; exact hf, by rw [hf, nE_zero], ?_⟩
      by_cases hx : rightS X = 0
      · exact .inr ⟨by rw [beq_iff_eq]; exact hx, by rw [hx]; rfl⟩
      · exact .inl ⟨by rw [beq_eq_false_iff_ne]; exact hx, by rw [bne_iff_ne]; exact hx⟩
    · exact .inr ⟨by rw [beq_eq_false_iff_ne]; exact hf, by rw [bne_iff_ne]; exact hf⟩
  rcases h4 with ⟨q2, hN, ⟨q5, q3⟩ | ⟨q5, q3⟩⟩ | ⟨q2, q3⟩
  rotate_left
  · have r4 : rightS X = 0 := by simpa using q5
    rcases hlist with ⟨hk, hrd⟩ | ⟨hk, hn, hrd⟩
    all_goals (
      cases b
      all_goals (
        simp only [q2, q5, r4, cond_true, cond_false] at hF ⊢
        (refine Pu_intro dc35 db35 (Nat.le_of_ble_eq_true rfl) fun σ => ?_; simp only [dc35, ↓R1, RR, seval, hk, hn, hz, hF, hN, nE_zero, itL, rdL, q1, q2, q3])
        repeat' (first | (with_reducible rw [allocV_eq]) | (with_reducible refine And.intro ?_ ?_; focus (intros; (repeat' (with_reducible apply And.intro)) <;> first | omega | (simp only [RZ]; omega))) | (with_reducible apply And.intro) | ((first | (refine gdV_split (fun hc => ?_) (fun hc => ?_) <;> (try simp only [hc, ↓R1, RR, seval, hk, hn, hz, hF, hN, nE_zero, itL, rdL, q1, q2, q3])) | refine condV_split (fun hc => ?_) (fun hc => ?_) | (with_reducible intro β hβ; (try simp only [RB] at hβ); (repeat (obtain ⟨⟨_, _⟩, hβ⟩ := hβ)); (try (have hbis := apart_is (by assumption) hβ; obtain ⟨_, _⟩ := hbis))) | refine Pt (p69) ?_ | refine Ct (p69) ?_ | (refine AC.mono (AC.wk (a_word (ws := ws) (e := 0) ?_ h1.1) (wkL_refl _)) ?_; (focus (simp only [↓R1, RR, seval, hk, hn, hz, hF, hN, nE_zero, itL, rdL, q1, q2, q3]; done)); (rintro _ _ ⟨rfl, rfl⟩)) | (refine AC.mono (AC.wk (hrd _ _ ?_) (wkL_refl _)) ?_; (focus (simp only [↓R1, RR, seval, hk, hn, hz, hF, hN, nE_zero, itL, rdL, q1, q2, q3]; done)); (rintro _ _ ⟨rfl, rfl⟩)) | (refine AC.mono (AC.wk (a_note (ws := R) (e := E) ?_) (wkL_refl _)) ?_; (focus (simp only [↓R1, RR, seval, hk, hn, hz, hF, hN, nE_zero, itL, rdL, q1, q2, q3]; done)); (rintro _ _ ⟨rfl, rfl⟩)) | (refine AC.mono (AC.wk (a_note (ws := R) (e := F) ?_) (wkL_refl _)) ?_; (focus (simp only [↓R1, RR, seval, hk, hn, hz, hF, hN, nE_zero, itL, rdL, q1, q2, q3]; done)); (rintro _ _ ⟨rfl, rfl⟩)) | (refine Pu.to (hr) ?_ ?_; (focus ((repeat' (first | exact wk_refl _ | exact wk_nils | exact wk_tsl _ _ _ | exact wk_full _ _ | exact wkL.nil | exact wkL_refl _ | refine wk_tup ?_ | refine wk_agg ?_ | refine wkL.cons ?_ ?_)); done)))) <;> (try simp only [↓R1, RR, seval, hk, hn, hz, hF, hN, nE_zero, itL, rdL, q1, q2, q3])))
        all_goals (
          (refine endP_pu (by simp) (by first | (simp [rvsS, rvS]; done) | (simp only [rvsS, rvS, ↓R1, RR, seval, hk, hn, hz, hF, hN, nE_zero, itL, rdL, q1, q2, q3]; try simp)) ?_ (by (repeat (first | exact St.le_refl _ | (refine St.le_new ?_ (by assumption)) | (refine St.le_newT ?_ (by assumption))))))
          simp only [resAV, rvV, List.map_cons, List.map_nil, ↓R1, RR, seval, hk, hn, hz, hF, hN, nE_zero, itL, rdL, q1, q2, q3]
          (repeat' (first | exact wk_refl _ | exact wk_nils | exact wk_tsl _ _ _ | exact wk_full _ _ | exact wkL.nil | exact wkL_refl _ | refine wk_tup ?_ | refine wk_agg ?_ | refine wkL.cons ?_ ?_)))))
  all_goals (
    rcases hlist with ⟨hk, hrd⟩ | ⟨hk, hn, hrd⟩
    all_goals (
      cases b
      all_goals (
        simp only [q2, q5, cond_true, cond_false] at hF ⊢
        (refine Pu_intro dc35 db35 (Nat.le_of_ble_eq_true rfl) fun σ => ?_; simp only [dc35, ↓R1, RR, seval, hk, hn, hz, hF, hN, nE_zero, itL, rdL, q1, q2, q3])
        repeat' (first | (with_reducible rw [allocV_eq]) | (with_reducible refine And.intro ?_ ?_; focus (intros; (repeat' (with_reducible apply And.intro)) <;> first | omega | (simp only [RZ]; omega))) | (with_reducible apply And.intro) | ((first | (refine gdV_split (fun hc => ?_) (fun hc => ?_) <;> (try simp only [hc, ↓R1, RR, seval, hk, hn, hz, hF, hN, nE_zero, itL, rdL, q1, q2, q3])) | refine condV_split (fun hc => ?_) (fun hc => ?_) | (with_reducible intro β hβ; (try simp only [RB] at hβ); (repeat (obtain ⟨⟨_, _⟩, hβ⟩ := hβ)); (try (have hbis := apart_is (by assumption) hβ; obtain ⟨_, _⟩ := hbis))) | refine Pt (p69) ?_ | refine Ct (p69) ?_ | (refine AC.mono (AC.wk (a_word (ws := ws) (e := 0) ?_ h1.1) (wkL_refl _)) ?_; (focus (simp only [↓R1, RR, seval, hk, hn, hz, hF, hN, nE_zero, itL, rdL, q1, q2, q3]; done)); (rintro _ _ ⟨rfl, rfl⟩)) | (refine AC.mono (AC.wk (hrd _ _ ?_) (wkL_refl _)) ?_; (focus (simp only [↓R1, RR, seval, hk, hn, hz, hF, hN, nE_zero, itL, rdL, q1, q2, q3]; done)); (rintro _ _ ⟨rfl, rfl⟩)) | (refine AC.mono (AC.wk (a_note (ws := R) (e := E) ?_) (wkL_refl _)) ?_; (focus (simp only [↓R1, RR, seval, hk, hn, hz, hF, hN, nE_zero, itL, rdL, q1, q2, q3]; done)); (rintro _ _ ⟨rfl, rfl⟩)) | (refine AC.mono (AC.wk (a_note (ws := R) (e := F) ?_) (wkL_refl _)) ?_; (focus (simp only [↓R1, RR, seval, hk, hn, hz, hF, hN, nE_zero, itL, rdL, q1, q2, q3]; done)); (rintro _ _ ⟨rfl, rfl⟩)) | (refine Pu.to (hr) ?_ ?_; (focus ((repeat' (first | exact wk_refl _ | exact wk_nils | exact wk_tsl _ _ _ | exact wk_full _ _ | exact wkL.nil | exact wkL_refl _ | refine wk_tup ?_ | refine wk_agg ?_ | refine wkL.cons ?_ ?_)); done)))) <;> (try simp only [↓R1, RR, seval, hk, hn, hz, hF, hN, nE_zero, itL, rdL, q1, q2, q3])))
        all_goals (
          (refine endP_pu (by simp) (by first | (simp [rvsS, rvS]; done) | (simp only [rvsS, rvS, ↓R1, RR, seval, hk, hn, hz, hF, hN, nE_zero, itL, rdL, q1, q2, q3]; try simp)) ?_ (by (repeat (first | exact St.le_refl _ | (refine St.le_new ?_ (by assumption)) | (refine St.le_newT ?_ (by assumption))))))
          simp only [resAV, rvV, List.map_cons, List.map_nil, ↓R1, RR, seval, hk, hn, hz, hF, hN, nE_zero, itL, rdL, q1, q2, q3]
          (repeat' (first | exact wk_refl _ | exact wk_nils | exact wk_tsl _ _ _ | exact wk_full _ _ | exact wkL.nil | exact wkL_refl _ | refine wk_tup ?_ | refine wk_agg ?_ | refine wkL.cons ?_ ?_))))))
theorem p35 (s : List UInt8) (hs : s.length ≤ 100000) : Pu Tryz.prog 35 [.str s] (.tup [.agg (ipC s), .int .i64 (ipE s)]) := by
  cases hk0 : ipK s with
  | true => exact ip_any s hs (.inl hk0)
  | false =>
    cases hn0 : ipN s with
    | true => exact ip_any s hs (.inr ⟨hk0, hn0⟩)
    | false =>
      have hE : ipE s = 3 := by unfold ipE; rw [hk0, hn0]; rfl
      have hC : ipC s = zeroIt := by unfold ipC; rw [hE]; rfl
      rw [hE, hC]
      unfold ipK sFound at hk0
      unfold ipN sNotice at hn0
      have p69 := p69 s 32 (by omega)
      have h1 := parts_wds s hs
      obtain ⟨ws, hws⟩ : ∃ ws, partsL s 32 = ws := ⟨_, rfl⟩
      rw [hws] at p69 h1 hk0 hn0
      have hk := hk0
      have hn := hn0
      have hz : True := trivial
      (refine Pu_intro dc35 db35 (Nat.le_of_ble_eq_true rfl) fun σ => ?_; simp only [dc35, ↓R1, RR, seval, hk, hn, hz, rdL, hws])
      repeat' (first | (with_reducible rw [allocV_eq]) | (with_reducible refine And.intro ?_ ?_; focus (intros; (repeat' (with_reducible apply And.intro)) <;> first | omega | (simp only [RZ]; omega))) | (with_reducible apply And.intro) | ((first | (refine gdV_split (fun hc => ?_) (fun hc => ?_) <;> (try simp only [hc, ↓R1, RR, seval, hk, hn, hz, rdL, hws])) | refine condV_split (fun hc => ?_) (fun hc => ?_) | (with_reducible intro β hβ; (try simp only [RB] at hβ); (repeat (obtain ⟨⟨_, _⟩, hβ⟩ := hβ)); (try (have hbis := apart_is (by assumption) hβ; obtain ⟨_, _⟩ := hbis))) | refine Pt (p69) ?_ | refine Ct (p69) ?_ | (refine AC.mono (AC.wk (a_word (ws := ws) (e := 0) ?_ h1.1) (wkL_refl _)) ?_; (focus (simp only [↓R1, RR, seval, hk, hn, hz, rdL, hws]; done)); (rintro _ _ ⟨rfl, rfl⟩))) <;> (try simp only [↓R1, RR, seval, hk, hn, hz, rdL, hws])))
      all_goals (
        (refine endP_pu (by simp) (by first | (simp [rvsS, rvS]; done) | (simp only [rvsS, rvS, ↓R1, RR, seval, hk, hn, hz, rdL, hws]; try simp)) ?_ (by (repeat (first | exact St.le_refl _ | (refine St.le_new ?_ (by assumption)) | (refine St.le_newT ?_ (by assumption))))))
        simp only [resAV, rvV, List.map_cons, List.map_nil, ↓R1, RR, seval, hk, hn, hz, rdL, hws]
        (repeat' (first | exact wk_refl _ | exact wk_nils | exact wk_tsl _ _ _ | exact wk_full _ _ | exact wkL.nil | exact wkL_refl _ | refine wk_tup ?_ | refine wk_agg ?_ | refine wkL.cons ?_ ?_)))
end Go.Proofs.YtncadbcjikekhaaGreatDoor
namespace Go.Proofs.YtncadbcjikekhaaGreatDoor
open Go.Abs Go.Lib
set_option linter.all false
set_option maxRecDepth 100000
theorem cP_one (l : List Pl) {k : Nat} (h : k < l.length) : ((l.flatMap cP).drop (k * 2 * 1)).take 1 = [.int .i64 (l[k]).p] ∧ ((l.flatMap cP).drop ((k * 2 + 1) * 1)).take 1 = [.int .i64 (l[k]).a] := by
  have hd := cP_get l h
  have hlen := cP_len l
  rw [Nat.mul_one, Nat.mul_one]
  have e : (l.flatMap cP).drop (k * 2) = .int .i64 (l[k]).p :: .int .i64 (l[k]).a :: (l.flatMap cP).drop (k * 2 + 2) := by
    have h1 := (List.take_append_drop 2 ((l.flatMap cP).drop (k * 2))).symm
    rw [hd, List.drop_drop] at h1
    exact h1
  refine ⟨by rw [e]; rfl, ?_⟩
  rw [← List.drop_drop, e]; rfl
set_option maxHeartbeats 2000000 in
theorem p41 (fb : Bool) (l : List Pl) (hl : l.length ≤ 1000000) : Pu Tryz.prog 41 [.sl fb (l.length * 2) (l.flatMap cP)] (.agg [.sl false l.length (l.flatMap cP)]) := by
  have q1 : True := trivial
  have hw : True := trivial
  have hw1 : True := trivial
  have hw2 : True := trivial
  have hd : True := trivial
  have hd2 : True := trivial
  (refine Pu_intro c41 b41 (Nat.le_of_ble_eq_true rfl) fun σ => ?_; simp only [c41, ↓R1, RR, seval, q1, hw, hw1, hw2, hd, hd2])
  repeat' (first | (with_reducible rw [allocV_eq]) | (with_reducible refine And.intro ?_ ?_; focus (intros; (repeat' (with_reducible apply And.intro)) <;> first | omega | (simp only [RZ, cP_len, cI_len]; omega))) | (with_reducible apply And.intro) | ((first | (refine gdV_split (fun hc => ?_) (fun hc => ?_) <;> (try simp only [hc, ↓R1, RR, seval, q1, hw, hw1, hw2, hd, hd2])) | refine condV_split (fun hc => ?_) (fun hc => ?_) | (with_reducible intro β hβ; (try simp only [RB] at hβ); (repeat (obtain ⟨⟨_, _⟩, hβ⟩ := hβ)); (try (have hbis := apart_is (by assumption) hβ; obtain ⟨_, _⟩ := hbis))) | ((first | (refine appD_tslK (.inr rfl) rfl ?_ ?_ ?_ ?_ ?_ ?_; (first | rfl | exact St.tip_same _ _ _ | (simp only [↓R1, RR, seval, q1, hw, hw1, hw2, hd, hd2])); (first | omega | (simp only [RZ, cP_len, cI_len, List.length_nil, List.length_cons]; omega) | (simp only [RZ, cP_len, cI_len, List.length_nil, List.length_cons])); (first | rfl | first | omega | (simp only [RZ, cP_len, cI_len, List.length_nil, List.length_cons]; omega) | (simp only [RZ, cP_len, cI_len, List.length_nil, List.length_cons]))) | (refine appV_tslK rfl ?_ ?_ ?_ ?_ ?_ ?_; (first | rfl | exact St.tip_same _ _ _ | (simp only [↓R1, RR, seval, q1, hw, hw1, hw2, hd, hd2])); (first | omega | (simp only [RZ, cP_len, cI_len, List.length_nil, List.length_cons]; omega) | (simp only [RZ, cP_len, cI_len, List.length_nil, List.length_cons])); (first | rfl | first | omega | (simp only [RZ, cP_len, cI_len, List.length_nil, List.length_cons]; omega) | (simp only [RZ, cP_len, cI_len, List.length_nil, List.length_cons]))) | (refine appV_own ?_ ?_ ?_ ?_; exact flat_len (by intro _; rfl) _) | (refine appD_own ?_ ?_ ?_ ?_ ?_; omega; exact flat_len (by intro _; rfl) _) | (refine appV_fresh rfl trivial rfl ?_ ?_ ?_ ?_ ?_; (first | rfl | first | omega | (simp only [RZ, cP_len, cI_len, List.length_nil, List.length_cons]; omega) | (simp only [RZ, cP_len, cI_len, List.length_nil, List.length_cons])); (first | rfl | first | omega | (simp only [RZ, cP_len, cI_len, List.length_nil, List.length_cons]; omega) | (simp only [RZ, cP_len, cI_len, List.length_nil, List.length_cons]))) | (refine appD_fresh rfl trivial rfl ?_ ?_ ?_ ?_ ?_ ?_; omega; (first | rfl | first | omega | (simp only [RZ, cP_len, cI_len, List.length_nil, List.length_cons]; omega) | (simp only [RZ, cP_len, cI_len, List.length_nil, List.length_cons])); (first | rfl | first | omega | (simp only [RZ, cP_len, cI_len, List.length_nil, List.length_cons]; omega) | (simp only [RZ, cP_len, cI_len, List.length_nil, List.length_cons])))); (unfold maxLen; omega); omega)) <;> (try simp only [↓R1, RR, seval, q1, hw, hw1, hw2, hd, hd2])))
  rename_i b2 hb2 a1 a2
  refine loopV_forBx l.length 3 0 70 2 (β := β) rfl (by simp only [↓R1, RR, seval, q1, hw, hw1, hw2, hd, hd2]; rfl) rfl
    (fun τ k => [(0, .sl fb (l.length * 2) (l.flatMap cP)), (2, .ptr b2 0), (3, .ptr β 0), (4, .int .i64 ((k * 2 : Nat) : Int))])
    (fun τ k => ((σ.setBox b2 [.nils]).setBox β [.tsl τ k ((l.take k).flatMap cP)]).setTip τ (70, 2, k)) (fun k => True) trivial (fun τ => by simp [subF, slot, wk_refl]) (fun τ hτ => by simp only [List.set_cons_zero, List.take_zero, List.map_nil, List.flatMap_nil, ↓R1, RR, seval, q1, hw, hw1, hw2, hd, hd2]; exact St.le_refl _) (fun τ hτ k hk _ => ?_)
  have hτ : σ.tip τ = none := by first | exact hτ | (simp only [St.tip_set, St.tip_noneA, ↓R1, RR, seval, q1, hw, hw1, hw2, hd, hd2] at hτ; first | exact hτ | exact hτ.2 | exact hτ.1)
  have hw1 : IntKind.i64.wrap (((k * 2 : Nat) : Int) + 1) = ((k * 2 + 1 : Nat) : Int) := by rw [wrap64 (by omega) (by omega)]; omega
  by_cases hlt : k < l.length
  · have q1 : decide (((k * 2 + 1 : Nat) : Int) < ((l.length * 2 : Nat) : Int)) = true := by rw [decide_eq_true_eq]; omega
    obtain ⟨hd, hd2⟩ := cP_one l hlt
    have hcl := cP_len l
    have hw2 : IntKind.i64.wrap (((k * 2 : Nat) : Int) + 2) = (((k + 1) * 2 : Nat) : Int) := by rw [wrap64 (by omega) (by omega)]; omega
    have hs : (l.take k).flatMap cP ++ [.int .i64 (l[k]).p, .int .i64 (l[k]).a] = (l.take (k + 1)).flatMap cP := flat_step (f := cP) hlt
    have hcl2 : ((l.take k).flatMap cP).length = k * 2 := by rw [cP_len]; simp; omega
    simp only [q1, ↓R1, RR, seval, q1, hw, hw1, hw2, hd, hd2]
    repeat' (first | (with_reducible rw [allocV_eq]) | (with_reducible refine And.intro ?_ ?_; focus (intros; (repeat' (with_reducible apply And.intro)) <;> first | omega | (simp only [RZ, cP_len, cI_len]; omega))) | (with_reducible apply And.intro) | ((first | (refine gdV_split (fun hc => ?_) (fun hc => ?_) <;> (try simp only [hc, ↓R1, RR, seval, q1, hw, hw1, hw2, hd, hd2])) | refine condV_split (fun hc => ?_) (fun hc => ?_) | (with_reducible intro β hβ; (try simp only [RB] at hβ); (repeat (obtain ⟨⟨_, _⟩, hβ⟩ := hβ)); (try (have hbis := apart_is (by assumption) hβ; obtain ⟨_, _⟩ := hbis))) | ((first | (refine appD_tslK (.inr rfl) rfl ?_ ?_ ?_ ?_ ?_ ?_; (first | rfl | exact St.tip_same _ _ _ | (simp only [↓R1, RR, seval, q1, hw, hw1, hw2, hd, hd2])); (first | omega | (simp only [RZ, cP_len, cI_len, List.length_nil, List.length_cons]; omega) | (simp only [RZ, cP_len, cI_len, List.length_nil, List.length_cons])); (first | rfl | first | omega | (simp only [RZ, cP_len, cI_len, List.length_nil, List.length_cons]; omega) | (simp only [RZ, cP_len, cI_len, List.length_nil, List.length_cons]))) | (refine appV_tslK rfl ?_ ?_ ?_ ?_ ?_ ?_; (first | rfl | exact St.tip_same _ _ _ | (simp only [↓R1, RR, seval, q1, hw, hw1, hw2, hd, hd2])); (first | omega | (simp only [RZ, cP_len, cI_len, List.length_nil, List.length_cons]; omega) | (simp only [RZ, cP_len, cI_len, List.length_nil, List.length_cons])); (first | rfl | first | omega | (simp only [RZ, cP_len, cI_len, List.length_nil, List.length_cons]; omega) | (simp only [RZ, cP_len, cI_len, List.length_nil, List.length_cons]))) | (refine appV_own ?_ ?_ ?_ ?_; exact flat_len (by intro _; rfl) _) | (refine appD_own ?_ ?_ ?_ ?_ ?_; omega; exact flat_len (by intro _; rfl) _) | (refine appV_fresh rfl trivial rfl ?_ ?_ ?_ ?_ ?_; (first | rfl | first | omega | (simp only [RZ, cP_len, cI_len, List.length_nil, List.length_cons]; omega) | (simp only [RZ, cP_len, cI_len, List.length_nil, List.length_cons])); (first | rfl | first | omega | (simp only [RZ, cP_len, cI_len, List.length_nil, List.length_cons]; omega) | (simp only [RZ, cP_len, cI_len, List.length_nil, List.length_cons]))) | (refine appD_fresh rfl trivial rfl ?_ ?_ ?_ ?_ ?_ ?_; omega; (first | rfl | first | omega | (simp only [RZ, cP_len, cI_len, List.length_nil, List.length_cons]; omega) | (simp only [RZ, cP_len, cI_len, List.length_nil, List.length_cons])); (first | rfl | first | omega | (simp only [RZ, cP_len, cI_len, List.length_nil, List.length_cons]; omega) | (simp only [RZ, cP_len, cI_len, List.length_nil, List.length_cons])))); (unfold maxLen; omega); omega)) <;> (try simp only [↓R1, RR, seval, q1, hw, hw1, hw2, hd, hd2])))
    · simp [subF, slot, wk_refl]
    · rw [hs]; exact St.le_refl _
  · have hke : k = l.length := by omega
    subst hke
    have q1 : decide (((l.length * 2 + 1 : Nat) : Int) < ((l.length * 2 : Nat) : Int)) = false := by rw [decide_eq_false_iff_not]; omega
    rw [List.take_length]
    simp only [q1, ↓R1, RR, seval, q1, hw, hw1, hw2, hd, hd2]
    repeat' (first | (with_reducible rw [allocV_eq]) | (with_reducible refine And.intro ?_ ?_; focus (intros; (repeat' (with_reducible apply And.intro)) <;> first | omega | (simp only [RZ, cP_len, cI_len]; omega))) | (with_reducible apply And.intro) | ((first | (refine gdV_split (fun hc => ?_) (fun hc => ?_) <;> (try simp only [hc, ↓R1, RR, seval, q1, hw, hw1, hw2, hd, hd2])) | refine condV_split (fun hc => ?_) (fun hc => ?_) | (with_reducible intro β hβ; (try simp only [RB] at hβ); (repeat (obtain ⟨⟨_, _⟩, hβ⟩ := hβ)); (try (have hbis := apart_is (by assumption) hβ; obtain ⟨_, _⟩ := hbis))) | ((first | (refine appD_tslK (.inr rfl) rfl ?_ ?_ ?_ ?_ ?_ ?_; (first | rfl | exact St.tip_same _ _ _ | (simp only [↓R1, RR, seval, q1, hw, hw1, hw2, hd, hd2])); (first | omega | (simp only [RZ, cP_len, cI_len, List.length_nil, List.length_cons]; omega) | (simp only [RZ, cP_len, cI_len, List.length_nil, List.length_cons])); (first | rfl | first | omega | (simp only [RZ, cP_len, cI_len, List.length_nil, List.length_cons]; omega) | (simp only [RZ, cP_len, cI_len, List.length_nil, List.length_cons]))) | (refine appV_tslK rfl ?_ ?_ ?_ ?_ ?_ ?_; (first | rfl | exact St.tip_same _ _ _ | (simp only [↓R1, RR, seval, q1, hw, hw1, hw2, hd, hd2])); (first | omega | (simp only [RZ, cP_len, cI_len, List.length_nil, List.length_cons]; omega) | (simp only [RZ, cP_len, cI_len, List.length_nil, List.length_cons])); (first | rfl | first | omega | (simp only [RZ, cP_len, cI_len, List.length_nil, List.length_cons]; omega) | (simp only [RZ, cP_len, cI_len, List.length_nil, List.length_cons]))) | (refine appV_own ?_ ?_ ?_ ?_; exact flat_len (by intro _; rfl) _) | (refine appD_own ?_ ?_ ?_ ?_ ?_; omega; exact flat_len (by intro _; rfl) _) | (refine appV_fresh rfl trivial rfl ?_ ?_ ?_ ?_ ?_; (first | rfl | first | omega | (simp only [RZ, cP_len, cI_len, List.length_nil, List.length_cons]; omega) | (simp only [RZ, cP_len, cI_len, List.length_nil, List.length_cons])); (first | rfl | first | omega | (simp only [RZ, cP_len, cI_len, List.length_nil, List.length_cons]; omega) | (simp only [RZ, cP_len, cI_len, List.length_nil, List.length_cons]))) | (refine appD_fresh rfl trivial rfl ?_ ?_ ?_ ?_ ?_ ?_; omega; (first | rfl | first | omega | (simp only [RZ, cP_len, cI_len, List.length_nil, List.length_cons]; omega) | (simp only [RZ, cP_len, cI_len, List.length_nil, List.length_cons])); (first | rfl | first | omega | (simp only [RZ, cP_len, cI_len, List.length_nil, List.length_cons]; omega) | (simp only [RZ, cP_len, cI_len, List.length_nil, List.length_cons])))); (unfold maxLen; omega); omega)) <;> (try simp only [↓R1, RR, seval, q1, hw, hw1, hw2, hd, hd2])))
    (refine endP_pu (by simp) (by first | (simp [rvsS, rvS]; done) | (simp only [rvsS, rvS, ↓R1, RR, seval, q1, hw, hw1, hw2, hd, hd2]; try simp)) ?_ (by (repeat (first | exact St.le_refl _ | (refine St.le_new ?_ (by assumption)) | (refine St.le_newT ?_ (by assumption))))))
    simp only [resAV, rvV, List.map_cons, List.map_nil, ↓R1, RR, seval, q1, hw, hw1, hw2, hd, hd2]
    (repeat' (first | exact wk_refl _ | exact wk_nils | exact wk_tsl _ _ _ | exact wk_full _ _ | exact wkL.nil | exact wkL_refl _ | refine wk_tup ?_ | refine wk_agg ?_ | refine wkL.cons ?_ ?_))
def twoL : List Stt := [⟨0, 0, 0, 0, 0, 0⟩, ⟨2, 7, 0, 0, 0, 0⟩]
theorem p42 : Pu Tryz.prog 42 [] (.sl true 2 (twoL.flatMap cSt)) := by
  (refine Pu_intro c42 b42 (Nat.le_of_ble_eq_true rfl) fun σ => ?_; simp only [c42, ↓R1, RR, seval])
  repeat' (first | (with_reducible rw [allocV_eq]) | (with_reducible refine And.intro ?_ ?_; focus (intros; (repeat' (with_reducible apply And.intro)) <;> first | omega | (simp only [RZ, cP_len, cI_len]; omega))) | (with_reducible apply And.intro) | ((first | (refine gdV_split (fun hc => ?_) (fun hc => ?_) <;> (try simp only [hc, ↓R1, RR, seval])) | refine condV_split (fun hc => ?_) (fun hc => ?_) | (with_reducible intro β hβ; (try simp only [RB] at hβ); (repeat (obtain ⟨⟨_, _⟩, hβ⟩ := hβ)); (try (have hbis := apart_is (by assumption) hβ; obtain ⟨_, _⟩ := hbis)))) <;> (try simp only [↓R1, RR, seval])))
  (refine endP_pu (by simp) (by first | (simp [rvsS, rvS]; done) | (simp only [rvsS, rvS, ↓R1, RR, seval]; try simp)) (wk_of_eq ?_) (by (repeat (first | exact St.le_refl _ | (refine St.le_new ?_ (by assumption)) | (refine St.le_newT ?_ (by assumption))))))
  (simp only [resAV, rvV, List.map_cons, List.map_nil, ↓R1, RR, seval])
  rfl
theorem p43 (x : It) (ox : OkIt x) (t : List UInt8) : PuG Tryz.prog gl3 43 [.agg (itL x), .str t] (.bool ((rightS x == 0) && ((bif rightS x == 0 then itemS x else []) == t))) := by
  have h := p11 x ox
  simp only [itemV, itL] at h
  (refine PuG_intro c43 b43 (Nat.le_of_ble_eq_true rfl) fun σ hσ => ?_; simp only [c43, ↓R1, RR, seval])
  simp only [itL, ↓R1, RR, seval]
  repeat' (first | (with_reducible rw [allocV_eq]) | (with_reducible refine And.intro ?_ ?_; focus (intros; (repeat' (with_reducible apply And.intro)) <;> first | omega | (simp only [RZ, cP_len, cI_len]; omega))) | (with_reducible apply And.intro) | ((first | (refine gdV_split (fun hc => ?_) (fun hc => ?_) <;> (try simp only [hc, ↓R1, RR, seval])) | refine condV_split (fun hc => ?_) (fun hc => ?_) | (with_reducible intro β hβ; (try simp only [RB] at hβ); (repeat (obtain ⟨⟨_, _⟩, hβ⟩ := hβ)); (try (have hbis := apart_is (by assumption) hβ; obtain ⟨_, _⟩ := hbis))) | refine PuG.to (h) hσ (wkL_refl _) ?_) <;> (try simp only [↓R1, RR, seval])))
  (refine endP_pu (by simp) (by first | (simp [rvsS, rvS]; done) | (simp only [rvsS, rvS, ↓R1, RR, seval]; try simp)) (wk_of_eq ?_) (by (repeat (first | exact St.le_refl _ | (refine St.le_new ?_ (by assumption)) | (refine St.le_newT ?_ (by assumption))))))
  (simp only [resAV, rvV, List.map_cons, List.map_nil, ↓R1, RR, seval])
theorem p44 (a b : List Pl) (ha : a.length ≤ 1000000) (hb : b.length ≤ 1000000) (n : Int) : Pu Tryz.prog 44 [.agg [.sl false a.length (a.flatMap cP)], .agg [.sl false b.length (b.flatMap cP)], .int .i64 n] (.bool ((cmpE a b == 0) && (cmpX a b == n))) := by
  have h := p24 a b ha hb
  (refine Pu_intro c44 b44 (Nat.le_of_ble_eq_true rfl) fun σ => ?_; simp only [c44, ↓R1, RR, seval])
  repeat' (first | (with_reducible rw [allocV_eq]) | (with_reducible refine And.intro ?_ ?_; focus (intros; (repeat' (with_reducible apply And.intro)) <;> first | omega | (simp only [RZ, cP_len, cI_len]; omega))) | (with_reducible apply And.intro) | ((first | (refine gdV_split (fun hc => ?_) (fun hc => ?_) <;> (try simp only [hc, ↓R1, RR, seval])) | refine condV_split (fun hc => ?_) (fun hc => ?_) | (with_reducible intro β hβ; (try simp only [RB] at hβ); (repeat (obtain ⟨⟨_, _⟩, hβ⟩ := hβ)); (try (have hbis := apart_is (by assumption) hβ; obtain ⟨_, _⟩ := hbis))) | refine Pt (h) ?_ | refine Ct (h) ?_) <;> (try simp only [↓R1, RR, seval])))
  (refine endP_pu (by simp) (by first | (simp [rvsS, rvS]; done) | (simp only [rvsS, rvS, ↓R1, RR, seval]; try simp)) (wk_of_eq ?_) (by (repeat (first | exact St.le_refl _ | (refine St.le_new ?_ (by assumption)) | (refine St.le_newT ?_ (by assumption))))))
  (simp only [resAV, rvV, List.map_cons, List.map_nil, ↓R1, RR, seval])
end Go.Proofs.YtncadbcjikekhaaGreatDoor
namespace Go.Proofs.YtncadbcjikekhaaGreatDoor
open Go.Abs Go.Lib
set_option linter.all false
set_option maxRecDepth 100000
def xA : It := fndI 2 [⟨1, 0⟩] twoL [5, -3] 0
def tA : List UInt8 := [102, 111, 117, 110, 100, 32, 50, 32, 123, 49, 125, 35, 55, 58, 48, 32, 61, 32, 53, 32, 45, 51]
def sA : List UInt8 := [48, 58, 48, 32, 51, 58, 49]
theorem a_found : fndE 2 [⟨1, 0⟩] twoL [5, -3] 0 = 0 ∧ rightS xA = 0 := by decide +kernel
theorem a_parse : parE sA = 0 ∧ (partsL sA 32).map pwPl = [⟨0, 0⟩, ⟨3, 1⟩] := by decide +kernel
theorem a_text : itemS xA = tA := by decide +kernel
theorem a_cmp : (cmpE [⟨0, 0⟩, ⟨3, 1⟩] [⟨1, 0⟩, ⟨2, 1⟩] = 0 ∧ cmpX [⟨0, 0⟩, ⟨3, 1⟩] [⟨1, 0⟩, ⟨2, 1⟩] = 1) ∧ cmpE [⟨0, 0⟩] [⟨0, 1⟩] = 0 ∧ cmpX [⟨0, 0⟩] [⟨0, 1⟩] = -1 := by decide +kernel
theorem okA : OkIt xA := by
  refine ⟨?_, ?_, ?_, ?_, ?_, ?_, by decide, by decide, by decide⟩ <;> simp [xA, fndI, twoL, evId, U64, I64]
theorem awake_pu : PuG Tryz.prog gl3 9 [] (.bool true) := by
  have h1 := p41 true [⟨1, 0⟩] (by simp)
  have h2 := p42
  have h3 := p15 2 [⟨1, 0⟩] twoL [5, -3] 0 (by simp) (by simp [twoL]) (by simp)
  have h4 := p33 sA (by simp [sA])
  have h5 := p43 xA okA tA
  have h6 := p41 true [⟨0, 0⟩, ⟨3, 1⟩] (by simp)
  have h7 := p20 [⟨0, 0⟩, ⟨3, 1⟩] [⟨0, 0⟩, ⟨3, 1⟩] (by simp) (by simp)
  have h8 := p41 true [⟨1, 0⟩, ⟨2, 1⟩] (by simp)
  have h9 := p44 [⟨0, 0⟩, ⟨3, 1⟩] [⟨1, 0⟩, ⟨2, 1⟩] (by simp) (by simp) 1
  have h10 := p41 true [⟨0, 0⟩] (by simp)
  have h11 := p41 true [⟨0, 1⟩] (by simp)
  have h12 := p44 [⟨0, 0⟩] [⟨0, 1⟩] (by simp) (by simp) (-1)
  have hC : fndC 2 [⟨1, 0⟩] twoL [5, -3] 0 = itL xA := by unfold fndC; rw [a_found.1]; rfl
  have hL : parL sA = [⟨0, 0⟩, ⟨3, 1⟩] := by unfold parL; rw [a_parse.1, a_parse.2]; rfl
  rw [hC, a_found.1] at h3
  rw [hL, a_parse.1] at h4
  rw [a_found.2, a_text] at h5
  rw [a_cmp.1.1, a_cmp.1.2] at h9
  rw [a_cmp.2.1, a_cmp.2.2] at h12
  rw [decide_eq_true rfl] at h7
  simp only [itL, beq_self_eq_true, cond_true, Bool.and_self] at h3 h5 h9 h12
  (refine PuG_intro c9 b9 (Nat.le_of_ble_eq_true rfl) fun σ hσ => ?_; simp only [c9, ↓R1, RR, seval])
  repeat' (first | (with_reducible rw [allocV_eq]) | (with_reducible refine And.intro ?_ ?_; focus (intros; (repeat' (with_reducible apply And.intro)) <;> first | omega | (simp only [RZ, cP_len, cI_len]; omega))) | (with_reducible apply And.intro) | ((first | (refine gdV_split (fun hc => ?_) (fun hc => ?_) <;> (try simp only [hc, ↓R1, RR, seval])) | refine condV_split (fun hc => ?_) (fun hc => ?_) | (with_reducible intro β hβ; (try simp only [RB] at hβ); (repeat (obtain ⟨⟨_, _⟩, hβ⟩ := hβ)); (try (have hbis := apart_is (by assumption) hβ; obtain ⟨_, _⟩ := hbis))) | refine Pt (h1) ?_ | refine Ct (h1) ?_ | refine Pt (h2) ?_ | refine Ct (h2) ?_ | refine Pt (h4) ?_ | refine Ct (h4) ?_ | (refine callGV_puG hσ (fun hgv => ⟨?_, (h5), wkL_refl _⟩) ?_; (first | trivial | (focus (simp only [↓R1, RR, seval]; done)))) | (refine callGV_pu (fun hgv => ⟨?_, (h6), wkL_refl _⟩) ?_; (first | trivial | (focus (simp only [↓R1, RR, seval]; done)))) | (refine callGV_pu (fun hgv => ⟨?_, (h7), wkL_refl _⟩) ?_; (first | trivial | (focus (simp only [↓R1, RR, seval]; done)))) | (refine callGV_pu (fun hgv => ⟨?_, (h8), wkL_refl _⟩) ?_; (first | trivial | (focus (simp only [↓R1, RR, seval]; done)))) | (refine callGV_pu (fun hgv => ⟨?_, (h9), wkL_refl _⟩) ?_; (first | trivial | (focus (simp only [↓R1, RR, seval]; done)))) | (refine callGV_pu (fun hgv => ⟨?_, (h10), wkL_refl _⟩) ?_; (first | trivial | (focus (simp only [↓R1, RR, seval]; done)))) | (refine callGV_pu (fun hgv => ⟨?_, (h11), wkL_refl _⟩) ?_; (first | trivial | (focus (simp only [↓R1, RR, seval]; done)))) | (refine callGV_pu (fun hgv => ⟨?_, (h12), wkL_refl _⟩) ?_; (first | trivial | (focus (simp only [↓R1, RR, seval]; done)))) | (refine Pu.to (h3) ?_ ?_; (focus ((repeat' (first | exact wk_refl _ | exact wk_nils | exact wk_tsl _ _ _ | exact wk_full _ _ | exact wkL.nil | exact wkL_refl _ | refine wk_tup ?_ | refine wk_agg ?_ | refine wkL.cons ?_ ?_)); done)))) <;> (try simp only [↓R1, RR, seval])))
  (refine endP_pu (by simp) (by first | (simp [rvsS, rvS]; done) | (simp only [rvsS, rvS, ↓R1, RR, seval]; try simp)) (wk_of_eq ?_) (by (repeat (first | exact St.le_refl _ | (refine St.le_new ?_ (by assumption)) | (refine St.le_newT ?_ (by assumption))))))
  (simp only [resAV, rvV, List.map_cons, List.map_nil, ↓R1, RR, seval])
end Go.Proofs.YtncadbcjikekhaaGreatDoor
namespace Go.Proofs.YtncadbcjikekhaaGreatDoor
open Go.Abs Go.Lib
set_option linter.all false
set_option maxRecDepth 100000
theorem p81 (s : List UInt8) (hs : s.length ≤ 100000) (n : Int) : Pu Tryz.prog 81 [.str s, .int .i64 n] (.bool (((((parL s).length : Nat) : Int) == 0) && (parE s == n))) := by
  have h1 := p33 s hs
  (refine Pu_intro c81 b81 (Nat.le_of_ble_eq_true rfl) fun σ => ?_; simp only [c81, ↓R1, RR, seval])
  repeat' (first | (with_reducible rw [allocV_eq]) | (with_reducible refine And.intro ?_ ?_; focus (intros; (repeat' (with_reducible apply And.intro)) <;> first | omega | (simp only [RZ, cP_len, cI_len]; omega))) | (with_reducible apply And.intro) | ((first | (refine gdV_split (fun hc => ?_) (fun hc => ?_) <;> (try simp only [hc, ↓R1, RR, seval])) | refine condV_split (fun hc => ?_) (fun hc => ?_) | (with_reducible intro β hβ; (try simp only [RB] at hβ); (repeat (obtain ⟨⟨_, _⟩, hβ⟩ := hβ)); (try (have hbis := apart_is (by assumption) hβ; obtain ⟨_, _⟩ := hbis))) | refine Pt (h1) ?_ | refine Ct (h1) ?_) <;> (try simp only [↓R1, RR, seval])))
  (refine endP_pu (by simp) (by first | (simp [rvsS, rvS]; done) | (simp only [rvsS, rvS, ↓R1, RR, seval]; try simp)) (wk_of_eq ?_) (by (repeat (first | exact St.le_refl _ | (refine St.le_new ?_ (by assumption)) | (refine St.le_newT ?_ (by assumption))))))
  (simp only [resAV, rvV, List.map_cons, List.map_nil, ↓R1, RR, seval])
def zI : It := ⟨0, 0, [], [], [], 0, 0⟩
theorem p82 (s : List UInt8) (hs : s.length ≤ 100000) (n : Int) : Pu Tryz.prog 82 [.str s, .int .i64 n] (.bool (ipE s == n)) := by
  have h1 := p35 s hs
  have h2 := p19 zI (by simp [zI]) (by simp [zI]) (by simp [zI])
  simp only [zI, itL, List.length_nil, List.flatMap_nil] at h2
  unfold ipC at h1
  cases q1 : (ipE s == n) with
  | true =>
    cases q2 : (ipE s == 0) with
    | true =>
      rw [q2] at h1
      simp only [cond_true, itL] at h1
      (refine Pu_intro c82 b82 (Nat.le_of_ble_eq_true rfl) fun σ => ?_; simp only [c82, ↓R1, RR, seval, q1, q2])
      repeat' (first | (with_reducible rw [allocV_eq]) | (with_reducible refine And.intro ?_ ?_; focus (intros; (repeat' (with_reducible apply And.intro)) <;> first | omega | (simp only [RZ, cP_len, cI_len]; omega))) | (with_reducible apply And.intro) | ((first | (refine gdV_split (fun hc => ?_) (fun hc => ?_) <;> (try simp only [hc, ↓R1, RR, seval, q1, q2])) | refine condV_split (fun hc => ?_) (fun hc => ?_) | (with_reducible intro β hβ; (try simp only [RB] at hβ); (repeat (obtain ⟨⟨_, _⟩, hβ⟩ := hβ)); (try (have hbis := apart_is (by assumption) hβ; obtain ⟨_, _⟩ := hbis))) | refine Pt (h1) ?_ | refine Ct (h1) ?_ | (refine callGV_pu (fun hgv => ⟨?_, (h2), wkL_refl _⟩) ?_; (first | trivial | (focus (simp only [↓R1, RR, seval, q1, q2]; done))))) <;> (try simp only [↓R1, RR, seval, q1, q2])))
      (refine endP_pu (by simp) (by first | (simp [rvsS, rvS]; done) | (simp only [rvsS, rvS, ↓R1, RR, seval, q1, q2]; try simp)) (wk_of_eq ?_) (by (repeat (first | exact St.le_refl _ | (refine St.le_new ?_ (by assumption)) | (refine St.le_newT ?_ (by assumption))))))
      (simp only [resAV, rvV, List.map_cons, List.map_nil, ↓R1, RR, seval, q1, q2])
    | false =>
      rw [q2] at h1
      simp only [cond_false, zeroIt] at h1
      (refine Pu_intro c82 b82 (Nat.le_of_ble_eq_true rfl) fun σ => ?_; simp only [c82, ↓R1, RR, seval, q1, q2])
      repeat' (first | (with_reducible rw [allocV_eq]) | (with_reducible refine And.intro ?_ ?_; focus (intros; (repeat' (with_reducible apply And.intro)) <;> first | omega | (simp only [RZ, cP_len, cI_len]; omega))) | (with_reducible apply And.intro) | ((first | (refine gdV_split (fun hc => ?_) (fun hc => ?_) <;> (try simp only [hc, ↓R1, RR, seval, q1, q2])) | refine condV_split (fun hc => ?_) (fun hc => ?_) | (with_reducible intro β hβ; (try simp only [RB] at hβ); (repeat (obtain ⟨⟨_, _⟩, hβ⟩ := hβ)); (try (have hbis := apart_is (by assumption) hβ; obtain ⟨_, _⟩ := hbis))) | refine Pt (h1) ?_ | refine Ct (h1) ?_ | (refine Pu.to (h2) ?_ ?_; (focus ((repeat' (first | exact wk_refl _ | exact wk_nils | exact wk_tsl _ _ _ | exact wk_full _ _ | exact wkL.nil | exact wkL_refl _ | refine wk_tup ?_ | refine wk_agg ?_ | refine wkL.cons ?_ ?_)); done)))) <;> (try simp only [↓R1, RR, seval, q1, q2])))
      (refine endP_pu (by simp) (by first | (simp [rvsS, rvS]; done) | (simp only [rvsS, rvS, ↓R1, RR, seval, q1, q2]; try simp)) (wk_of_eq ?_) (by (repeat (first | exact St.le_refl _ | (refine St.le_new ?_ (by assumption)) | (refine St.le_newT ?_ (by assumption))))))
      (simp only [resAV, rvV, List.map_cons, List.map_nil, ↓R1, RR, seval, q1, q2])
  | false =>
    cases q2 : (ipE s == 0) with
    | true =>
      rw [q2] at h1
      simp only [cond_true, itL] at h1
      (refine Pu_intro c82 b82 (Nat.le_of_ble_eq_true rfl) fun σ => ?_; simp only [c82, ↓R1, RR, seval, q1, q2])
      repeat' (first | (with_reducible rw [allocV_eq]) | (with_reducible refine And.intro ?_ ?_; focus (intros; (repeat' (with_reducible apply And.intro)) <;> first | omega | (simp only [RZ, cP_len, cI_len]; omega))) | (with_reducible apply And.intro) | ((first | (refine gdV_split (fun hc => ?_) (fun hc => ?_) <;> (try simp only [hc, ↓R1, RR, seval, q1, q2])) | refine condV_split (fun hc => ?_) (fun hc => ?_) | (with_reducible intro β hβ; (try simp only [RB] at hβ); (repeat (obtain ⟨⟨_, _⟩, hβ⟩ := hβ)); (try (have hbis := apart_is (by assumption) hβ; obtain ⟨_, _⟩ := hbis))) | refine Pt (h1) ?_ | refine Ct (h1) ?_ | (refine callGV_pu (fun hgv => ⟨?_, (h2), wkL_refl _⟩) ?_; (first | trivial | (focus (simp only [↓R1, RR, seval, q1, q2]; done))))) <;> (try simp only [↓R1, RR, seval, q1, q2])))
      (refine endP_pu (by simp) (by first | (simp [rvsS, rvS]; done) | (simp only [rvsS, rvS, ↓R1, RR, seval, q1, q2]; try simp)) (wk_of_eq ?_) (by (repeat (first | exact St.le_refl _ | (refine St.le_new ?_ (by assumption)) | (refine St.le_newT ?_ (by assumption))))))
      (simp only [resAV, rvV, List.map_cons, List.map_nil, ↓R1, RR, seval, q1, q2])
    | false =>
      rw [q2] at h1
      simp only [cond_false, zeroIt] at h1
      (refine Pu_intro c82 b82 (Nat.le_of_ble_eq_true rfl) fun σ => ?_; simp only [c82, ↓R1, RR, seval, q1, q2])
      repeat' (first | (with_reducible rw [allocV_eq]) | (with_reducible refine And.intro ?_ ?_; focus (intros; (repeat' (with_reducible apply And.intro)) <;> first | omega | (simp only [RZ, cP_len, cI_len]; omega))) | (with_reducible apply And.intro) | ((first | (refine gdV_split (fun hc => ?_) (fun hc => ?_) <;> (try simp only [hc, ↓R1, RR, seval, q1, q2])) | refine condV_split (fun hc => ?_) (fun hc => ?_) | (with_reducible intro β hβ; (try simp only [RB] at hβ); (repeat (obtain ⟨⟨_, _⟩, hβ⟩ := hβ)); (try (have hbis := apart_is (by assumption) hβ; obtain ⟨_, _⟩ := hbis))) | refine Pt (h1) ?_ | refine Ct (h1) ?_ | (refine callGV_pu (fun hgv => ⟨?_, (h2), wkL_refl _⟩) ?_; (first | trivial | (focus (simp only [↓R1, RR, seval, q1, q2]; done))))) <;> (try simp only [↓R1, RR, seval, q1, q2])))
      (refine endP_pu (by simp) (by first | (simp [rvsS, rvS]; done) | (simp only [rvsS, rvS, ↓R1, RR, seval, q1, q2]; try simp)) (wk_of_eq ?_) (by (repeat (first | exact St.le_refl _ | (refine St.le_new ?_ (by assumption)) | (refine St.le_newT ?_ (by assumption))))))
      (simp only [resAV, rvV, List.map_cons, List.map_nil, ↓R1, RR, seval, q1, q2])
def manyL (n : Nat) : List Pl := (List.range n).map fun (i : Nat) => ⟨(i : Int), 0⟩
theorem manyL_succ (k : Nat) : (manyL k).flatMap cP ++ [.int .i64 (k : Int), .int .i64 0] = (manyL (k + 1)).flatMap cP := by
  unfold manyL
  rw [List.range_succ, List.map_append, List.flatMap_append]; rfl
theorem manyL_len (k : Nat) : (manyL k).length = k := by simp [manyL]
def xB : It := fndI 2 [⟨1, 0⟩] twoL [] 16
def xC : It := ntcI 0 19 9
def tB : List UInt8 := [102, 111, 117, 110, 100, 32, 50, 32, 123, 49, 125, 35, 55, 58, 48, 32, 33, 32, 115, 117, 109]
def tC : List UInt8 := [110, 111, 116, 105, 99, 101, 32, 48, 32, 111, 117, 116, 32, 57]
theorem k_found : fndE 2 [⟨1, 0⟩] twoL [] 16 = 0 ∧ rightS xB = 0 ∧ itemS xB = tB := by decide +kernel
theorem k_notice : ntcE 0 19 9 = 0 ∧ rightS xC = 0 ∧ itemS xC = tC ∧ ntcE 1 19 9 = 2 ∧ ntcE 1 3 0 = 11 := by decide +kernel
theorem k_text : checkS [⟨0, 0⟩, ⟨3, 1⟩] = 0 ∧ matchT [⟨0, 0⟩, ⟨3, 1⟩] = sA := by decide +kernel
theorem k_cmp : (cmpE [⟨0, 0⟩, ⟨2, 1⟩] [⟨1, 0⟩, ⟨2, 1⟩] = 0 ∧ cmpX [⟨0, 0⟩, ⟨2, 1⟩] [⟨1, 0⟩, ⟨2, 1⟩] = -1) ∧ cmpE [⟨0, 0⟩, ⟨2, 1⟩] [⟨0, 0⟩, ⟨1, 1⟩, ⟨2, 2⟩] = 0 ∧ cmpX [⟨0, 0⟩, ⟨2, 1⟩] [⟨0, 0⟩, ⟨1, 1⟩, ⟨2, 2⟩] = 1 := by decide +kernel
theorem k_check : checkS [] = 5 ∧ checkS [⟨3, 0⟩, ⟨3, 1⟩] = 9 ∧ checkS [⟨-1, 0⟩] = 2 ∧ checkS [⟨0, 12⟩] = 2 ∧ checkS (manyL 13) = 6 := by decide +kernel
theorem k_bad : (parL [48] = [] ∧ parE [48] = 3) ∧ (parL [48, 58, 48, 32, 32, 51, 58, 49] = [] ∧ parE [48, 58, 48, 32, 32, 51, 58, 49] = 3) ∧ (parL [51, 58, 49, 32, 48, 58, 48] = [] ∧ parE [51, 58, 49, 32, 48, 58, 48] = 9) ∧ (parL [48, 48, 58, 48] = [] ∧ parE [48, 48, 58, 48] = 3) := by decide +kernel
theorem k_item : ipE [102, 111, 117, 110, 100, 32, 50] = 3 ∧ ipE [110, 111, 116, 105, 99, 101, 32, 49, 32, 99, 97, 112, 32, 48] = 0 ∧ ipE [110, 111, 116, 105, 99, 101, 32, 49, 32, 99, 97, 112, 32, 49] = 2 := by decide +kernel
end Go.Proofs.YtncadbcjikekhaaGreatDoor
namespace Go.Proofs.YtncadbcjikekhaaGreatDoor
open Go.Abs Go.Lib
set_option linter.all false
set_option maxRecDepth 100000
theorem okB : OkIt xB := by
  refine ⟨?_, ?_, ?_, ?_, ?_, ?_, by decide, by decide, by decide⟩ <;> simp [xB, fndI, twoL, evId, U64, I64]
theorem okC : OkIt xC := by
  refine ⟨?_, ?_, ?_, ?_, ?_, ?_, by decide, by decide, by decide⟩ <;> simp [xC, ntcI, U64, I64]
set_option maxHeartbeats 4000000 in
theorem known_pu : PuG Tryz.prog gl3 37 [] (.bool true) := by
  have q0 : True := trivial
  have hs : True := trivial
  have hw : True := trivial
  have aw := awake_pu
  have o0 := p41 false [] (by simp)
  have o1 := p41 true [⟨0, 0⟩, ⟨3, 1⟩] (by simp)
  have o2 := p41 true [⟨1, 0⟩] (by simp)
  have o3 := p41 true [⟨0, 0⟩, ⟨2, 1⟩] (by simp)
  have o4 := p41 true [⟨1, 0⟩, ⟨2, 1⟩] (by simp)
  have o5 := p41 true [⟨0, 0⟩, ⟨1, 1⟩, ⟨2, 2⟩] (by simp)
  have o6 := p41 true [⟨3, 0⟩, ⟨3, 1⟩] (by simp)
  have o7 := p41 true [⟨-1, 0⟩] (by simp)
  have o8 := p41 true [⟨0, 12⟩] (by simp)
  have t1 := p26 [⟨0, 0⟩, ⟨3, 1⟩] (by simp)
  have hV : matchV [⟨0, 0⟩, ⟨3, 1⟩] = [.str sA, .int .i64 0] := by unfold matchV; rw [k_text.1, k_text.2]; rfl
  rw [hV] at t1
  have tw := p42
  have f1 := p15 2 [⟨1, 0⟩] twoL [] 16 (by simp) (by simp [twoL]) (by simp)
  have hB : fndC 2 [⟨1, 0⟩] twoL [] 16 = itL xB := by unfold fndC; rw [k_found.1]; rfl
  rw [hB, k_found.1] at f1
  have x1 := p43 xB okB tB
  rw [k_found.2.1, k_found.2.2] at x1
  have n1 := p17 0 19 9
  have hC : ntcC 0 19 9 = itL xC := by unfold ntcC; rw [k_notice.1]; rfl
  rw [hC, k_notice.1] at n1
  have x2 := p43 xC okC tC
  rw [k_notice.2.1, k_notice.2.2.1] at x2
  have n2 := p17 1 19 9
  have hC2 : ntcC 1 19 9 = zeroIt := by unfold ntcC; rw [k_notice.2.2.2.1]; rfl
  rw [hC2, k_notice.2.2.2.1] at n2
  have n3 := p17 1 3 0
  have hC3 : ntcC 1 3 0 = zeroIt := by unfold ntcC; rw [k_notice.2.2.2.2]; rfl
  rw [hC3, k_notice.2.2.2.2] at n3
  have c1 := p44 [⟨0, 0⟩, ⟨2, 1⟩] [⟨1, 0⟩, ⟨2, 1⟩] (by simp) (by simp) (-1)
  rw [k_cmp.1.1, k_cmp.1.2] at c1
  have c2 := p44 [⟨0, 0⟩, ⟨2, 1⟩] [⟨0, 0⟩, ⟨1, 1⟩, ⟨2, 2⟩] (by simp) (by simp) 1
  rw [k_cmp.2.1, k_cmp.2.2] at c2
  have e1 := p31 [] (by simp)
  have e2 := p31 [⟨3, 0⟩, ⟨3, 1⟩] (by simp)
  have e3 := p31 [⟨-1, 0⟩] (by simp)
  have e4 := p31 [⟨0, 12⟩] (by simp)
  have e5 := p31 (manyL 13) (by rw [manyL_len]; omega)
  rw [k_check.1] at e1
  rw [k_check.2.1] at e2
  rw [k_check.2.2.1] at e3
  rw [k_check.2.2.2.1] at e4
  rw [k_check.2.2.2.2, manyL_len] at e5
  have b1 := p81 [48] (by simp) 3
  rw [k_bad.1.1, k_bad.1.2] at b1
  have b2 := p81 [48, 58, 48, 32, 32, 51, 58, 49] (by simp) 3
  rw [k_bad.2.1.1, k_bad.2.1.2] at b2
  have b3 := p81 [51, 58, 49, 32, 48, 58, 48] (by simp) 9
  rw [k_bad.2.2.1.1, k_bad.2.2.1.2] at b3
  have b4 := p81 [48, 48, 58, 48] (by simp) 3
  rw [k_bad.2.2.2.1, k_bad.2.2.2.2] at b4
  have i1 := p82 [102, 111, 117, 110, 100, 32, 50] (by simp) 3
  rw [k_item.1] at i1
  have i2 := p82 [110, 111, 116, 105, 99, 101, 32, 49, 32, 99, 97, 112, 32, 48] (by simp) 0
  rw [k_item.2.1] at i2
  have i3 := p82 [110, 111, 116, 105, 99, 101, 32, 49, 32, 99, 97, 112, 32, 49] (by simp) 2
  rw [k_item.2.2] at i3
  simp only [show (((0 : Nat) : Int) == 0) = true from rfl, itL, zeroIt, beq_self_eq_true, cond_true, Bool.and_self, List.length_nil, List.flatMap_nil, xB, xC, tB, tC, sA] at *
  (refine PuG_intro c37 b37 (Nat.le_of_ble_eq_true rfl) fun σ hσ => ?_; simp only [c37, ↓R1, RR, seval, q0, hs, hw])
  repeat' (first | (with_reducible rw [allocV_eq]) | (with_reducible refine And.intro ?_ ?_; focus (intros; (repeat' (with_reducible apply And.intro)) <;> first | omega | (simp only [RZ, cP_len, cI_len, manyL_len]; omega))) | (with_reducible apply And.intro) | ((first | (refine gdV_split (fun hc => ?_) (fun hc => ?_) <;> (try simp only [hc, ↓R1, RR, seval, q0, hs, hw])) | refine condV_split (fun hc => ?_) (fun hc => ?_) | (with_reducible intro β hβ; (try simp only [RB] at hβ); (repeat (obtain ⟨⟨_, _⟩, hβ⟩ := hβ)); (try (have hbis := apart_is (by assumption) hβ; obtain ⟨_, _⟩ := hbis))) | ((first | refine appD_tslK (.inr rfl) rfl ?_ ?_ ?_ ?_ ?_ ?_ | refine appV_tslK rfl ?_ ?_ ?_ ?_ ?_ ?_); (first | rfl | exact St.tip_same _ _ _ | simp only [↓R1, RR, seval, q0, hs, hw]); (iterate 2 (first | omega | (simp only [RZ, cP_len, cI_len, manyL_len]; first | done | omega) | rfl)); (unfold maxLen; omega); omega)) <;> (try simp only [↓R1, RR, seval, q0, hs, hw])))
  refine loopV_forBx 13 1 0 70 2 (β := β) rfl (by simp only [↓R1, RR, seval, q0, hs, hw]; rfl) rfl
    (fun τ k => [(1, .ptr β 0), (2, .int .i64 (k : Nat))])
    (fun τ k => (σ.setBox β [.tsl τ k ((manyL k).flatMap cP)]).setTip τ (70, 2, k))
    (fun _ => True) trivial (fun τ => by simp [subF, slot, wk_refl]) (fun τ hτ => by simp only [List.set_cons_zero, manyL, List.range_zero, List.map_nil, List.flatMap_nil, ↓R1, RR, seval, q0, hs, hw]; exact St.le_refl _) (fun τ hτ k hk hI => ?_)
  have hτ : σ.tip τ = none := by first | exact hτ | (simp only [St.tip_set, St.tip_noneA, ↓R1, RR, seval, q0, hs, hw] at hτ; first | exact hτ | exact hτ.2 | exact hτ.1)
  have hcl : ((manyL k).flatMap cP).length = k * 2 := by rw [cP_len, manyL_len]
  by_cases hlt : k < 13
  · have q0 : decide ((k : Int) < 13) = true := by rw [decide_eq_true_eq]; omega
    have hs := manyL_succ k
    have hw : IntKind.i64.wrap ((k : Int) + 1) = ((k + 1 : Nat) : Int) := by rw [wrap64 (by omega) (by omega)]; omega
    simp only [q0, ↓R1, RR, seval, q0, hs, hw]
    repeat' (first | (with_reducible rw [allocV_eq]) | (with_reducible refine And.intro ?_ ?_; focus (intros; (repeat' (with_reducible apply And.intro)) <;> first | omega | (simp only [RZ, cP_len, cI_len, manyL_len]; omega))) | (with_reducible apply And.intro) | ((first | (refine gdV_split (fun hc => ?_) (fun hc => ?_) <;> (try simp only [hc, ↓R1, RR, seval, q0, hs, hw])) | refine condV_split (fun hc => ?_) (fun hc => ?_) | (with_reducible intro β hβ; (try simp only [RB] at hβ); (repeat (obtain ⟨⟨_, _⟩, hβ⟩ := hβ)); (try (have hbis := apart_is (by assumption) hβ; obtain ⟨_, _⟩ := hbis))) | ((first | refine appD_tslK (.inr rfl) rfl ?_ ?_ ?_ ?_ ?_ ?_ | refine appV_tslK rfl ?_ ?_ ?_ ?_ ?_ ?_); (first | rfl | exact St.tip_same _ _ _ | simp only [↓R1, RR, seval, q0, hs, hw]); (iterate 2 (first | omega | (simp only [RZ, cP_len, cI_len, manyL_len]; first | done | omega) | rfl)); (unfold maxLen; omega); omega)) <;> (try simp only [↓R1, RR, seval, q0, hs, hw])))
    · simp [subF, slot, wk_refl]
    · exact St.le_refl _
  · have hke : k = 13 := by omega
    subst hke
    have q0 : decide (((13 : Nat) : Int) < 13) = false := by decide
    simp only [q0, ↓R1, RR, seval, q0, hs, hw]
    repeat' (first | (with_reducible rw [allocV_eq]) | (with_reducible refine And.intro ?_ ?_; focus (intros; (repeat' (with_reducible apply And.intro)) <;> first | omega | (simp only [RZ, cP_len, cI_len, manyL_len]; omega))) | (with_reducible apply And.intro) | ((first | (refine gdV_split (fun hc => ?_) (fun hc => ?_) <;> (try simp only [hc, ↓R1, RR, seval, q0, hs, hw])) | refine condV_split (fun hc => ?_) (fun hc => ?_) | (with_reducible intro β hβ; (try simp only [RB] at hβ); (repeat (obtain ⟨⟨_, _⟩, hβ⟩ := hβ)); (try (have hbis := apart_is (by assumption) hβ; obtain ⟨_, _⟩ := hbis))) | ((first | refine appD_tslK (.inr rfl) rfl ?_ ?_ ?_ ?_ ?_ ?_ | refine appV_tslK rfl ?_ ?_ ?_ ?_ ?_ ?_); (first | rfl | exact St.tip_same _ _ _ | simp only [↓R1, RR, seval, q0, hs, hw]); (iterate 2 (first | omega | (simp only [RZ, cP_len, cI_len, manyL_len]; first | done | omega) | rfl)); (unfold maxLen; omega); omega) | refine Pt (o0) ?_ | refine Ct (o0) ?_ | refine Pt (o1) ?_ | refine Ct (o1) ?_ | refine Pt (o2) ?_ | refine Ct (o2) ?_ | refine Pt (o3) ?_ | refine Ct (o3) ?_ | refine Pt (o4) ?_ | refine Ct (o4) ?_ | refine Pt (o5) ?_ | refine Ct (o5) ?_ | refine Pt (o6) ?_ | refine Ct (o6) ?_ | refine Pt (o7) ?_ | refine Ct (o7) ?_ | refine Pt (o8) ?_ | refine Ct (o8) ?_ | refine PuG.to (t1) hσ (wkL_refl _) ?_ | refine Pt (tw) ?_ | refine Ct (tw) ?_ | refine Pt (f1) ?_ | refine Ct (f1) ?_ | refine PuG.to (x1) hσ (wkL_refl _) ?_ | refine PuG.to (x2) hσ (wkL_refl _) ?_ | refine Pt (n1) ?_ | refine Ct (n1) ?_ | refine Pt (n2) ?_ | refine Ct (n2) ?_ | refine Pt (n3) ?_ | refine Ct (n3) ?_ | refine Pt (c1) ?_ | refine Ct (c1) ?_ | refine Pt (c2) ?_ | refine Ct (c2) ?_ | refine Pt (e1) ?_ | refine Ct (e1) ?_ | refine Pt (e2) ?_ | refine Ct (e2) ?_ | refine Pt (e3) ?_ | refine Ct (e3) ?_ | refine Pt (e4) ?_ | refine Ct (e4) ?_ | refine Pt (e5) ?_ | refine Ct (e5) ?_ | refine Pt (b1) ?_ | refine Ct (b1) ?_ | refine Pt (b2) ?_ | refine Ct (b2) ?_ | refine Pt (b3) ?_ | refine Ct (b3) ?_ | refine Pt (b4) ?_ | refine Ct (b4) ?_ | refine Pt (i1) ?_ | refine Ct (i1) ?_ | refine Pt (i2) ?_ | refine Ct (i2) ?_ | refine Pt (i3) ?_ | refine Ct (i3) ?_ | refine PuG.to (aw) hσ (wkL_refl _) ?_ | (refine Pu.to (o0) ?_ ?_; (focus ((repeat' (first | exact wk_refl _ | exact wk_nils | exact wk_tsl _ _ _ | exact wk_full _ _ | exact wkL.nil | exact wkL_refl _ | refine wk_tup ?_ | refine wk_agg ?_ | refine wkL.cons ?_ ?_)); done))) | (refine Pu.to (f1) ?_ ?_; (focus ((repeat' (first | exact wk_refl _ | exact wk_nils | exact wk_tsl _ _ _ | exact wk_full _ _ | exact wkL.nil | exact wkL_refl _ | refine wk_tup ?_ | refine wk_agg ?_ | refine wkL.cons ?_ ?_)); done))) | (refine Pu.to (e5) ?_ ?_; (focus ((repeat' (first | exact wk_refl _ | exact wk_nils | exact wk_tsl _ _ _ | exact wk_full _ _ | exact wkL.nil | exact wkL_refl _ | refine wk_tup ?_ | refine wk_agg ?_ | refine wkL.cons ?_ ?_)); done)))) <;> (try simp only [↓R1, RR, seval, q0, hs, hw])))
    (refine endP_pu (by simp) (by first | (simp [rvsS, rvS]; done) | (simp only [rvsS, rvS, ↓R1, RR, seval, q0, hs, hw]; try simp)) (wk_of_eq ?_) (by (repeat (first | exact St.le_refl _ | (refine St.le_new ?_ (by assumption)) | (refine St.le_newT ?_ (by assumption))))))
    (simp only [resAV, rvV, List.map_cons, List.map_nil, ↓R1, RR, seval, q0, hs, hw])
end Go.Proofs.YtncadbcjikekhaaGreatDoor
namespace Go.Proofs.YtncadbcjikekhaaGreatDoor
open Go.Abs Go.Lib
set_option linter.all false
set_option maxRecDepth 100000
theorem p83 (ns : List Int) (i : Nat) : Pu Tryz.prog 83 [.sl false ns.length (ns.flatMap cI), .int .i64 (i : Nat)] (.int .i64 (ns[i]?.getD 0)) := by
  have q1 : decide ((i : Int) < 0) = false := by rw [decide_eq_false_iff_not]; omega
  have hd : True := trivial
  have hcl := cI_len ns
  by_cases h : i < ns.length
  · have q2 : decide ((ns.length : Int) ≤ (i : Int)) = false := by rw [decide_eq_false_iff_not]; omega
    have hd := cI_get ns h
    simp only [cI] at hd
    rw [List.getElem?_eq_getElem h, Option.getD_some]
    (refine Pu_intro c83 b83 (Nat.le_of_ble_eq_true rfl) fun σ => ?_; simp only [c83, ↓R1, RR, seval, q1, q2, hd])
    repeat' (first | (with_reducible rw [allocV_eq]) | (with_reducible refine And.intro ?_ ?_; focus (intros; (repeat' (with_reducible apply And.intro)) <;> first | omega | (simp only [RZ, cP_len, cI_len]; omega))) | (with_reducible apply And.intro) | ((first | (refine gdV_split (fun hc => ?_) (fun hc => ?_) <;> (try simp only [hc, ↓R1, RR, seval, q1, q2, hd])) | refine condV_split (fun hc => ?_) (fun hc => ?_) | (with_reducible intro β hβ; (try simp only [RB] at hβ); (repeat (obtain ⟨⟨_, _⟩, hβ⟩ := hβ)); (try (have hbis := apart_is (by assumption) hβ; obtain ⟨_, _⟩ := hbis))) | ((first | refine appD_tslK (.inr rfl) rfl ?_ ?_ ?_ ?_ ?_ ?_ | refine appV_tslK rfl ?_ ?_ ?_ ?_ ?_ ?_); (first | rfl | exact St.tip_same _ _ _ | simp only [↓R1, RR, seval, q1, q2, hd]); (iterate 2 (first | omega | (simp only [RZ, cP_len, cI_len]; first | done | omega) | rfl)); (unfold maxLen; omega); omega)) <;> (try simp only [↓R1, RR, seval, q1, q2, hd])))
    (refine endP_pu (by simp) (by first | (simp [rvsS, rvS]; done) | (simp only [rvsS, rvS, ↓R1, RR, seval, q1, q2, hd]; try simp)) (wk_of_eq ?_) (by (repeat (first | exact St.le_refl _ | (refine St.le_new ?_ (by assumption)) | (refine St.le_newT ?_ (by assumption))))))
    (simp only [resAV, rvV, List.map_cons, List.map_nil, ↓R1, RR, seval, q1, q2, hd])
  · have q2 : decide ((ns.length : Int) ≤ (i : Int)) = true := by rw [decide_eq_true_eq]; omega
    rw [List.getElem?_eq_none (by omega), Option.getD_none]
    (refine Pu_intro c83 b83 (Nat.le_of_ble_eq_true rfl) fun σ => ?_; simp only [c83, ↓R1, RR, seval, q1, q2, hd])
    repeat' (first | (with_reducible rw [allocV_eq]) | (with_reducible refine And.intro ?_ ?_; focus (intros; (repeat' (with_reducible apply And.intro)) <;> first | omega | (simp only [RZ, cP_len, cI_len]; omega))) | (with_reducible apply And.intro) | ((first | (refine gdV_split (fun hc => ?_) (fun hc => ?_) <;> (try simp only [hc, ↓R1, RR, seval, q1, q2, hd])) | refine condV_split (fun hc => ?_) (fun hc => ?_) | (with_reducible intro β hβ; (try simp only [RB] at hβ); (repeat (obtain ⟨⟨_, _⟩, hβ⟩ := hβ)); (try (have hbis := apart_is (by assumption) hβ; obtain ⟨_, _⟩ := hbis))) | ((first | refine appD_tslK (.inr rfl) rfl ?_ ?_ ?_ ?_ ?_ ?_ | refine appV_tslK rfl ?_ ?_ ?_ ?_ ?_ ?_); (first | rfl | exact St.tip_same _ _ _ | simp only [↓R1, RR, seval, q1, q2, hd]); (iterate 2 (first | omega | (simp only [RZ, cP_len, cI_len]; first | done | omega) | rfl)); (unfold maxLen; omega); omega)) <;> (try simp only [↓R1, RR, seval, q1, q2, hd])))
    (refine endP_pu (by simp) (by first | (simp [rvsS, rvS]; done) | (simp only [rvsS, rvS, ↓R1, RR, seval, q1, q2, hd]; try simp)) (wk_of_eq ?_) (by (repeat (first | exact St.le_refl _ | (refine St.le_new ?_ (by assumption)) | (refine St.le_newT ?_ (by assumption))))))
    (simp only [resAV, rvV, List.map_cons, List.map_nil, ↓R1, RR, seval, q1, q2, hd])
theorem mod_neg {n m : Int} (hm : 1 ≤ m) (hn : n < 0) : n % m = if (-n) % m = 0 then 0 else m - (-n) % m := by
  have h1 := Int.emod_nonneg (-n) (show m ≠ 0 by omega)
  have h2 := Int.emod_lt_of_pos (-n) (show 0 < m by omega)
  have h3 := Int.emod_add_mul_ediv (-n) m
  have e : n % m = (m - (-n) % m) % m := by
    have : n = (m - (-n) % m) + m * (-((-n) / m + 1)) := by rw [Int.mul_neg, Int.mul_add]; omega
    rw [this, Int.add_mul_emod_self_left]
    have e2 : -(m - (-n) % m + m * -((-n) / m + 1)) = -n := by rw [← this]
    rw [e2]
  rw [e]
  split
  · rename_i h; rw [h]; simp
  · exact Int.emod_eq_of_lt (by omega) (by omega)
theorem tmod_neg {n m : Int} (hn : n < 0) : Int.tmod n m = -((-n) % m) := by
  have h : Int.tmod (-n) m = (-n) % m := Int.tmod_eq_emod_of_nonneg (by omega)
  rw [← h, Int.neg_tmod, Int.neg_neg]
theorem p40 (n m : Int) (hn : I64 n) (hm : 1 ≤ m ∧ m ≤ 1099511627776) : Pu Tryz.prog 40 [.int .i64 n, .int .i64 m] (.int .i64 (n % m)) := by
  have h0 : decide (m < 1) = false := decide_eq_false (by omega)
  refine Pu_intro c40 b40 (Nat.le_of_ble_eq_true rfl) fun σ => ?_
  simp only [c40, h0, ↓R1, RR, seval]
  refine ⟨by omega, ?_⟩
  by_cases hneg : n < 0
  · have h1 := Int.emod_nonneg (-n) (show m ≠ 0 by omega)
    have h2 := Int.emod_lt_of_pos (-n) (show 0 < m by omega)
    rw [mod_neg hm.1 hneg, tmod_neg hneg]
    by_cases hz : (-n) % m = 0
    · rw [hz, if_pos rfl]
      simp only [show decide ((-0 : Int) < 0) = false from rfl, decide_false, ↓R1, RR, seval]
      (refine endP_pu (by simp) (by first | (simp [rvsS, rvS]; done) | (simp only [rvsS, rvS, ↓R1, RR, seval]; try simp)) (wk_of_eq ?_) (by (repeat (first | exact St.le_refl _ | (refine St.le_new ?_ (by assumption)) | (refine St.le_newT ?_ (by assumption))))))
      (simp only [resAV, rvV, List.map_cons, List.map_nil, ↓R1, RR, seval])
      rfl
    · rw [if_neg hz]
      have hd : decide (-((-n) % m) < 0) = true := decide_eq_true (by omega)
      simp only [hd, ↓R1, RR, seval]
      (refine endP_pu (by simp) (by first | (simp [rvsS, rvS]; done) | (simp only [rvsS, rvS, ↓R1, RR, seval]; try simp)) (wk_of_eq ?_) (by (repeat (first | exact St.le_refl _ | (refine St.le_new ?_ (by assumption)) | (refine St.le_newT ?_ (by assumption))))))
      (simp only [resAV, rvV, List.map_cons, List.map_nil, ↓R1, RR, seval])
      have : IntKind.i64.wrap (-(-n % m) + m) = m - (-n) % m := by rw [wI]; split <;> omega
      rw [this]
  · have h1 := Int.emod_nonneg n (show m ≠ 0 by omega)
    rw [Int.tmod_eq_emod_of_nonneg (by omega)]
    have hd : decide (n % m < 0) = false := decide_eq_false (by omega)
    simp only [hd, ↓R1, RR, seval]
    (refine endP_pu (by simp) (by first | (simp [rvsS, rvS]; done) | (simp only [rvsS, rvS, ↓R1, RR, seval]; try simp)) (wk_of_eq ?_) (by (repeat (first | exact St.le_refl _ | (refine St.le_new ?_ (by assumption)) | (refine St.le_newT ?_ (by assumption))))))
    (simp only [resAV, rvV, List.map_cons, List.map_nil, ↓R1, RR, seval])
def madeL (k : Nat) : List Pl := (List.range (k / 3 % 4 + 1)).map fun (i : Nat) => ⟨((k % 3 + i * (1 + k / 36 % 2) : Nat) : Int), (((k / 12 + i) % 3 : Nat) : Int)⟩
def madeN (ns : List Int) (i : Nat) : Nat := ((ns[i]?.getD 0) % 1048576).toNat
theorem madeN_rng (ns : List Int) (i : Nat) : (madeN ns i : Int) = (ns[i]?.getD 0) % 1048576 ∧ madeN ns i < 1048576 := by unfold madeN; omega
def madeK (k j : Nat) : List Pl := (List.range j).map fun (i : Nat) => ⟨((k % 3 + i * (1 + k / 36 % 2) : Nat) : Int), (((k / 12 + i) % 3 : Nat) : Int)⟩
theorem madeK_succ (k j : Nat) : (madeK k j).flatMap cP ++ [.int .i64 ((k % 3 + j * (1 + k / 36 % 2) : Nat) : Int), .int .i64 (((k / 12 + j) % 3 : Nat) : Int)] = (madeK k (j + 1)).flatMap cP := by
  unfold madeK
  rw [List.range_succ, List.map_append, List.flatMap_append]; rfl
theorem madeK_len (k j : Nat) : (madeK k j).length = j := by simp [madeK]
set_option maxHeartbeats 4000000 in
theorem p38 (ns : List Int) (i : Nat) (hr : ∀ x ∈ ns, I64 x) : Pu Tryz.prog 38 [.sl false ns.length (ns.flatMap cI), .int .i64 (i : Nat)] (.agg [.sl false (madeL (madeN ns i)).length ((madeL (madeN ns i)).flatMap cP)]) := by
  have p83 := p83 ns i
  have hI : I64 (ns[i]?.getD 0) := by
    by_cases h : i < ns.length
    · rw [List.getElem?_eq_getElem h, Option.getD_some]; exact hr _ (List.getElem_mem h)
    · rw [List.getElem?_eq_none (by omega), Option.getD_none]; unfold I64; omega
  have p40 := p40 (ns[i]?.getD 0) 1048576 hI (by omega)
  obtain ⟨hm1, hm2⟩ := madeN_rng ns i
  rw [← hm1] at p40
  obtain ⟨k, hk⟩ : ∃ k, madeN ns i = k := ⟨_, rfl⟩
  rw [hk] at p40 hm2 ⊢
  have q0 : True := trivial
  have hs : True := trivial
  have hw : True := trivial
  have hA : True := trivial
  have hB : True := trivial
  have hC : True := trivial
  have h1 : Int.tmod (k : Int) 3 = ((k % 3 : Nat) : Int) := by rw [Int.tmod_eq_emod_of_nonneg (by omega)]; rfl
  have h2 : Int.tdiv (k : Int) 3 = ((k / 3 : Nat) : Int) := by rw [Int.tdiv_eq_ediv_of_nonneg (by omega)]; rfl
  have h3 : Int.tmod ((k / 3 : Nat) : Int) 4 = ((k / 3 % 4 : Nat) : Int) := by rw [Int.tmod_eq_emod_of_nonneg (by omega)]; rfl
  have h4 : Int.tdiv (k : Int) 12 = ((k / 12 : Nat) : Int) := by rw [Int.tdiv_eq_ediv_of_nonneg (by omega)]; rfl
  have h5 : Int.tdiv (k : Int) 36 = ((k / 36 : Nat) : Int) := by rw [Int.tdiv_eq_ediv_of_nonneg (by omega)]; rfl
  have h6 : Int.tmod ((k / 36 : Nat) : Int) 2 = ((k / 36 % 2 : Nat) : Int) := by rw [Int.tmod_eq_emod_of_nonneg (by omega)]; rfl
  have h7 : True := trivial
  have w3 : IntKind.i64.wrap ((k / 3 : Nat) : Int) = ((k / 3 : Nat) : Int) := wrap64 (by omega) (by omega)
  have w12 : IntKind.i64.wrap ((k / 12 : Nat) : Int) = ((k / 12 : Nat) : Int) := wrap64 (by omega) (by omega)
  have w36 : IntKind.i64.wrap ((k / 36 : Nat) : Int) = ((k / 36 : Nat) : Int) := wrap64 (by omega) (by omega)
  (refine Pu_intro c38 b38 (Nat.le_of_ble_eq_true rfl) fun σ => ?_; simp only [c38, ↓R1, RR, seval, q0, hs, hw, w3, w12, w36, hA, hB, hC, h1, h2, h3, h4, h5, h6, h7])
  repeat' (first | (with_reducible rw [allocV_eq]) | (with_reducible refine And.intro ?_ ?_; focus (intros; (repeat' (with_reducible apply And.intro)) <;> first | omega | (simp only [RZ, cP_len, cI_len]; omega))) | (with_reducible apply And.intro) | ((first | (refine gdV_split (fun hc => ?_) (fun hc => ?_) <;> (try simp only [hc, ↓R1, RR, seval, q0, hs, hw, w3, w12, w36, hA, hB, hC, h1, h2, h3, h4, h5, h6, h7])) | refine condV_split (fun hc => ?_) (fun hc => ?_) | (with_reducible intro β hβ; (try simp only [RB] at hβ); (repeat (obtain ⟨⟨_, _⟩, hβ⟩ := hβ)); (try (have hbis := apart_is (by assumption) hβ; obtain ⟨_, _⟩ := hbis))) | ((first | refine appD_tslK (.inr rfl) rfl ?_ ?_ ?_ ?_ ?_ ?_ | refine appV_tslK rfl ?_ ?_ ?_ ?_ ?_ ?_); (first | rfl | exact St.tip_same _ _ _ | simp only [↓R1, RR, seval, q0, hs, hw, w3, w12, w36, hA, hB, hC, h1, h2, h3, h4, h5, h6, h7]); (iterate 2 (first | omega | (simp only [RZ, cP_len, cI_len]; first | done | omega) | rfl)); (unfold maxLen; omega); omega) | refine Pt (p83) ?_ | refine Ct (p83) ?_ | refine Pt (p40) ?_ | refine Ct (p40) ?_) <;> (try simp only [↓R1, RR, seval, q0, hs, hw, w3, w12, w36, hA, hB, hC, h1, h2, h3, h4, h5, h6, h7])))
  rename_i b4 hb4 x1 x2
  refine loopV_forBx (k / 3 % 4 + 1) 6 0 70 2 (β := β) rfl (by simp only [↓R1, RR, seval, q0, hs, hw, w3, w12, w36, hA, hB, hC, h1, h2, h3, h4, h5, h6, h7]; rfl) rfl
    (fun τ j => [(4, .ptr b4 0), (5, .int .i64 (k : Nat)), (6, .ptr β 0), (7, .int .i64 ((k % 3 + j * (1 + k / 36 % 2) : Nat) : Int)), (8, .int .i64 (j : Nat))])
    (fun τ j => ((σ.setBox b4 [.nils]).setBox β [.tsl τ j ((madeK k j).flatMap cP)]).setTip τ (70, 2, j))
    (fun _ => True) trivial (fun τ => by simp [subF, slot, wk_refl]) (fun τ hτ => by simp only [List.set_cons_zero, madeK, List.range_zero, List.map_nil, List.flatMap_nil, ↓R1, RR, seval, q0, hs, hw, w3, w12, w36, hA, hB, hC, h1, h2, h3, h4, h5, h6, h7]; exact St.le_refl _) (fun τ hτ j hj hI => ?_)
  have hτ : σ.tip τ = none := by first | exact hτ | (simp only [St.tip_set, St.tip_noneA, ↓R1, RR, seval, q0, hs, hw, w3, w12, w36, hA, hB, hC, h1, h2, h3, h4, h5, h6, h7] at hτ; first | exact hτ | exact hτ.2 | exact hτ.1)
  have hcl : ((madeK k j).flatMap cP).length = j * 2 := by rw [cP_len, madeK_len]
  have hj3 : j ≤ 4 := by omega
  obtain ⟨d, hd⟩ : ∃ d, 1 + k / 36 % 2 = d := ⟨_, rfl⟩
  have hd2 : d ≤ 2 := by omega
  have hjd : j * d ≤ 8 := Nat.le_trans (Nat.mul_le_mul hj3 hd2) (by omega)
  by_cases hlt : j < k / 3 % 4 + 1
  · have q0 : decide ((j : Int) ≤ ((k / 3 % 4 : Nat) : Int)) = true := by rw [decide_eq_true_eq]; omega
    have hs := madeK_succ k j
    have hw : IntKind.i64.wrap ((j : Int) + 1) = ((j + 1 : Nat) : Int) := by rw [wrap64 (by omega) (by omega)]; omega
    have hA : IntKind.i64.wrap (((k / 12 : Nat) : Int) + (j : Int)) = ((k / 12 + j : Nat) : Int) := by rw [wrap64 (by omega) (by omega)]; omega
    have h7 : Int.tmod ((k / 12 + j : Nat) : Int) 3 = (((k / 12 + j) % 3 : Nat) : Int) := by rw [Int.tmod_eq_emod_of_nonneg (by omega)]; rfl
    have hB : IntKind.i64.wrap (((k % 3 + j * (1 + k / 36 % 2) : Nat) : Int) + 1) = ((k % 3 + j * (1 + k / 36 % 2) + 1 : Nat) : Int) := by rw [hd, wrap64 (by omega) (by omega)]; omega
    have hC : IntKind.i64.wrap (((k % 3 + j * (1 + k / 36 % 2) + 1 : Nat) : Int) + ((k / 36 % 2 : Nat) : Int)) = ((k % 3 + (j + 1) * (1 + k / 36 % 2) : Nat) : Int) := by rw [Nat.succ_mul, hd, wrap64 (by omega) (by omega)]; omega
    simp only [q0, ↓R1, RR, seval, q0, hs, hw, w3, w12, w36, hA, hB, hC, h1, h2, h3, h4, h5, h6, h7]
    repeat' (first | (with_reducible rw [allocV_eq]) | (with_reducible refine And.intro ?_ ?_; focus (intros; (repeat' (with_reducible apply And.intro)) <;> first | omega | (simp only [RZ, cP_len, cI_len]; omega))) | (with_reducible apply And.intro) | ((first | (refine gdV_split (fun hc => ?_) (fun hc => ?_) <;> (try simp only [hc, ↓R1, RR, seval, q0, hs, hw, w3, w12, w36, hA, hB, hC, h1, h2, h3, h4, h5, h6, h7])) | refine condV_split (fun hc => ?_) (fun hc => ?_) | (with_reducible intro β hβ; (try simp only [RB] at hβ); (repeat (obtain ⟨⟨_, _⟩, hβ⟩ := hβ)); (try (have hbis := apart_is (by assumption) hβ; obtain ⟨_, _⟩ := hbis))) | ((first | refine appD_tslK (.inr rfl) rfl ?_ ?_ ?_ ?_ ?_ ?_ | refine appV_tslK rfl ?_ ?_ ?_ ?_ ?_ ?_); (first | rfl | exact St.tip_same _ _ _ | simp only [↓R1, RR, seval, q0, hs, hw, w3, w12, w36, hA, hB, hC, h1, h2, h3, h4, h5, h6, h7]); (iterate 2 (first | omega | (simp only [RZ, cP_len, cI_len]; first | done | omega) | rfl)); (unfold maxLen; omega); omega)) <;> (try simp only [↓R1, RR, seval, q0, hs, hw, w3, w12, w36, hA, hB, hC, h1, h2, h3, h4, h5, h6, h7])))
    all_goals first | (simp [subF, slot, wk_refl]; done) | exact St.le_refl _
  · have hje : j = k / 3 % 4 + 1 := by omega
    have q0 : decide ((j : Int) ≤ ((k / 3 % 4 : Nat) : Int)) = false := by rw [decide_eq_false_iff_not]; omega
    have hmk : madeL k = madeK k j := by rw [hje]; rfl
    rw [hmk, madeK_len]
    simp only [q0, ↓R1, RR, seval, q0, hs, hw, w3, w12, w36, hA, hB, hC, h1, h2, h3, h4, h5, h6, h7]
    repeat' (first | (with_reducible rw [allocV_eq]) | (with_reducible refine And.intro ?_ ?_; focus (intros; (repeat' (with_reducible apply And.intro)) <;> first | omega | (simp only [RZ, cP_len, cI_len]; omega))) | (with_reducible apply And.intro) | ((first | (refine gdV_split (fun hc => ?_) (fun hc => ?_) <;> (try simp only [hc, ↓R1, RR, seval, q0, hs, hw, w3, w12, w36, hA, hB, hC, h1, h2, h3, h4, h5, h6, h7])) | refine condV_split (fun hc => ?_) (fun hc => ?_) | (with_reducible intro β hβ; (try simp only [RB] at hβ); (repeat (obtain ⟨⟨_, _⟩, hβ⟩ := hβ)); (try (have hbis := apart_is (by assumption) hβ; obtain ⟨_, _⟩ := hbis))) | ((first | refine appD_tslK (.inr rfl) rfl ?_ ?_ ?_ ?_ ?_ ?_ | refine appV_tslK rfl ?_ ?_ ?_ ?_ ?_ ?_); (first | rfl | exact St.tip_same _ _ _ | simp only [↓R1, RR, seval, q0, hs, hw, w3, w12, w36, hA, hB, hC, h1, h2, h3, h4, h5, h6, h7]); (iterate 2 (first | omega | (simp only [RZ, cP_len, cI_len]; first | done | omega) | rfl)); (unfold maxLen; omega); omega)) <;> (try simp only [↓R1, RR, seval, q0, hs, hw, w3, w12, w36, hA, hB, hC, h1, h2, h3, h4, h5, h6, h7])))
    (refine endP_pu (by simp) (by first | (simp [rvsS, rvS]; done) | (simp only [rvsS, rvS, ↓R1, RR, seval, q0, hs, hw, w3, w12, w36, hA, hB, hC, h1, h2, h3, h4, h5, h6, h7]; try simp)) ?_ (by (repeat (first | exact St.le_refl _ | (refine St.le_new ?_ (by assumption)) | (refine St.le_newT ?_ (by assumption))))))
    simp only [resAV, rvV, List.map_cons, List.map_nil, ↓R1, RR, seval, q0, hs, hw, w3, w12, w36, hA, hB, hC, h1, h2, h3, h4, h5, h6, h7]
    (repeat' (first | exact wk_refl _ | exact wk_nils | exact wk_tsl _ _ _ | exact wk_full _ _ | exact wkL.nil | exact wkL_refl _ | refine wk_tup ?_ | refine wk_agg ?_ | refine wkL.cons ?_ ?_))
end Go.Proofs.YtncadbcjikekhaaGreatDoor
namespace Go.Proofs.YtncadbcjikekhaaGreatDoor
open Go.Abs Go.Lib
set_option linter.all false
set_option maxRecDepth 100000
theorem madeL_mod (k : Nat) : madeL k = madeL (k % 72) := by
  unfold madeL
  have e1 : k % 72 / 3 % 4 = k / 3 % 4 := by omega
  have e2 : k % 72 % 3 = k % 3 := by omega
  have e3 : k % 72 / 36 % 2 = k / 36 % 2 := by omega
  rw [e1, e2, e3]
  refine List.map_congr_left fun i _ => ?_
  have e4 : (k % 72 / 12 + i) % 3 = (k / 12 + i) % 3 := by omega
  rw [e4]
theorem made_all : ((List.range 72).all fun k => checkS (madeL k) == 0) = true := by decide +kernel
theorem made_check (k : Nat) : checkS (madeL k) = 0 := by
  rw [madeL_mod]
  have h := List.all_eq_true.1 made_all (k % 72) (List.mem_range.2 (by omega))
  simpa using h
theorem made_len (k : Nat) : (madeL k).length ≤ 4 ∧ (madeL k).length ≠ 0 := by simp [madeL]; omega
end Go.Proofs.YtncadbcjikekhaaGreatDoor
namespace Go.Proofs.YtncadbcjikekhaaGreatDoor
open Go.Abs
set_option linter.all false
def mdL (ns : List Int) (i : Nat) : List Pl := madeL (madeN ns i)
def lsK (ns : List Int) (k : Nat) : List (List Pl) := (List.range k).map (mdL ns)
theorem lsK_len (ns : List Int) (k : Nat) : (lsK ns k).length = k := by simp [lsK]
theorem lsK_succ (ns : List Int) (k : Nat) : (lsK ns k).map cM ++ [cM (mdL ns k)] = (lsK ns (k + 1)).map cM := by
  unfold lsK
  rw [List.range_succ, List.map_append, List.map_append]; rfl
theorem lsK_ok (ns : List Int) (k : Nat) : ∀ l ∈ lsK ns k, checkS l = 0 ∧ OkM l := by
  intro l hl
  unfold lsK at hl
  obtain ⟨i, _, rfl⟩ := List.mem_map.1 hl
  have h := made_len (madeN ns i)
  exact ⟨made_check _, h.2, by show (madeL (madeN ns i)).length ≤ 1000000; omega⟩
def cntS (l : List (List Pl)) (x : List Pl) : Nat := l.countP fun y => decide (y = x)
theorem cnt_succ (l : List (List Pl)) (x : List Pl) {k : Nat} (h : k < l.length) : cntS (l.take (k + 1)) x = cntS (l.take k) x + (bif decide (l[k] = x) then 1 else 0) := by
  unfold cntS
  rw [List.take_succ_eq_append_getElem h, List.countP_append]
  cases hd : decide (l[k] = x) <;> simp [hd]
theorem cnt_le (l : List (List Pl)) (x : List Pl) : cntS l x ≤ l.length := List.countP_le_length
theorem cnt_perm {l m : List (List Pl)} (h : l.Perm m) (x : List Pl) : cntS l x = cntS m x := h.countP_eq _
theorem cnt_pos {l : List (List Pl)} {x : List Pl} (h : x ∈ l) : cntS l x ≠ 0 := by
  unfold cntS
  have : 0 < l.countP fun y => decide (y = x) := List.countP_pos_iff.2 ⟨x, h, by simp⟩
  omega
theorem cmpM_last {a b : List Pl} (h : cmpM a b ≤ 0) : lastP a ≤ lastP b := by
  have e : cmpM a b = _ := orS_three _ _ _
  by_cases hlt : lastP b < lastP a
  · have h1 : cmpN (lastP a) (lastP b) = 1 := by
      unfold cmpN
      rw [decide_eq_false (show ¬ lastP a < lastP b by omega), decide_eq_true hlt]; rfl
    rw [e, h1, show ((1 : Int) == 0) = false from rfl, cond_false] at h
    omega
  · omega
end Go.Proofs.YtncadbcjikekhaaGreatDoor
