/- Part 23 of the proof of MatchSorts: an abstract semantics that is proved sound for the model, contracts of functions in it, and plain facts (SP1 SP2 SP3 M18 M19 M20 A17 S17). No condition. -/
import Derived.Test.YtncadbcjikekhaaGreatDoorKMatchSorts22
import Derived.Shelf.Strings.Split
import Derived.BigCall
set_option linter.all false
namespace Go.Proofs.YtncadbcjikekhaaGreatDoor
open Go.Abs Go.Lib Go.RowKit
set_option linter.all false
set_option maxRecDepth 100000
theorem AC.of_callsN {P : Program} {σ : St} {f : Nat} {xs : List AV} {r : AV} (he : ∀ args w, (callFunc f args).run P w = .ok (.enter f args) w)
    (h : ∀ g w (vs : List Value), Inv g σ w → RelL g w xs vs → Calls P f vs.toArray w (fun e w' => ∃ v, e = .returned v ∧ Below w.heap.size w w' ∧ Rel (g.on w) w' r v)) : AC P f xs σ (fun x s => x = r ∧ s = σ) := by
  intro g w vs hI hv
  refine .inl ⟨he _ _, (h g w vs hI hv).mono ?_⟩
  rintro e w' ⟨v, rfl, hb, hr⟩
  exact ⟨v, r, σ, g.on w, rfl, ⟨rfl, rfl⟩, hI.below hb, Ext.below g hb, hr⟩
theorem genSplit_one (s : ByteArray) (c : UInt8) (w : World) (hs : s.size < 4294967281) :
    Calls Tryz.prog 104 #[.string s, .string ⟨#[c]⟩, .int .i64 0, .int .i64 (-1)] w fun e w' =>
      e = .returned (.slice (some ⟨w.heap.size, 0, none⟩) (Lib.countB s ⟨#[c]⟩ + 1) (Lib.countB s ⟨#[c]⟩ + 1)) ∧ w' = w.alloc (.cells ((Lib.splitB ⟨#[c]⟩ 0 (Lib.countB s ⟨#[c]⟩) s).map Value.string).toArray 9) := by
  have hle := Lib.countB_le ⟨#[c]⟩ (Nat.le_refl 1) s.size s (Nat.le_refl _)
  have hlen := Lib.splitB_all ⟨#[c]⟩ (Nat.le_refl 1) 0 _ s rfl
  have k := Any.strings_genSplit_core Tryz.lays221 (by kernel_rfl) s ⟨#[c]⟩ 0 (-1) (Lib.countB s ⟨#[c]⟩ + 1) w hs (Nat.le_refl 1) (Nat.zero_le _)
    (fun x cs hx => (Any.strings_Index_one Tryz.lays143 x c _).mono fun e w' h => ⟨by rw [h.1]; show _ = Ending.returned (Value.int .i64 (Lib.index x.data.toList [c])); rw [Lib.index_one], h.2⟩)
    ((Any.strings_Count_one Tryz.lays138 s c w).mono fun e w' h => ⟨by rw [h.1]; show _ = Ending.returned (Value.int .i64 ((Lib.count s.data.toList [c] : Nat) : Int)); rw [Lib.count_one]; rfl, h.2⟩)
    (by decide) (by decide) (by rw [if_pos (by decide)]; omega)
  rw [Nat.add_sub_cancel, hlen] at k
  have e2 : Lib.cellsOf (Lib.splitB ⟨#[c]⟩ 0 (Lib.countB s ⟨#[c]⟩) s) (Lib.countB s ⟨#[c]⟩ + 1) = ((Lib.splitB ⟨#[c]⟩ 0 (Lib.countB s ⟨#[c]⟩) s).map Value.string).toArray := by rw [← hlen]; exact Lib.cellsOf_full _
  rw [e2] at k
  exact k
theorem split_one (s : ByteArray) (c : UInt8) (w : World) (hs : s.size < 4294967281) :
    Calls Tryz.prog 69 #[.string s, .string ⟨#[c]⟩] w fun e w' =>
      e = .returned (.slice (some ⟨w.heap.size, 0, none⟩) (Lib.countB s ⟨#[c]⟩ + 1) (Lib.countB s ⟨#[c]⟩ + 1)) ∧ w' = w.alloc (.cells ((Lib.splitB ⟨#[c]⟩ 0 (Lib.countB s ⟨#[c]⟩) s).map Value.string).toArray 9) := by
  have k := genSplit_one s c w hs
  go_enter Tryz.func69, Tryz.ntmps69
  go_wp2_with (go_at_call 104; refine k.mono ?_; rintro e w' ⟨rfl, hw⟩; rw [hw])
  go_ret
  exact ⟨rfl, rfl⟩
theorem p123 (s : List UInt8) (c : UInt8) : Pu Tryz.prog 123 [.str s, .str [c]] (.int .i64 (Lib.indexByte s c)) := by
  intro σ
  refine AC.of_calls (Go.Proofs.enters_of Tryz.func123 (by kernel_rfl) rfl) ?_
  intro g w vs hI hv
  obtain ⟨v1, vs, rfl, r1, hv⟩ := hv.cons_inv
  obtain ⟨v2, vs, rfl, r2, hv⟩ := hv.cons_inv
  rw [hv.nil_inv, r1.str_inv, r2.str_inv]
  refine (Tryz.stringslite_Index_one ⟨s.toArray⟩ c w).mono ?_
  rintro e w' ⟨rfl, rfl⟩
  exact ⟨_, rfl, Below.refl _ _, fun g' _ => .int _ _⟩
theorem rel_strs {g : Gh} {w : World} : ∀ l : List (List UInt8), RelC g w (l.map AV.str) (l.map fun t => Value.string ⟨t.toArray⟩)
  | [] => RelC.nil
  | t :: l => RelC.append (a := [.str t]) (x := [.string ⟨t.toArray⟩]) ⟨.cons (.str t) .nil, by simp [Value.oneCell']⟩ (rel_strs l)
def partsL (s : List UInt8) (c : UInt8) : List (List UInt8) := Lib.split s [c]
theorem p69 (s : List UInt8) (c : UInt8) (hs : s.length ≤ 1000000) : Pu Tryz.prog 69 [.str s, .str [c]] (.sl false (partsL s c).length ((partsL s c).map AV.str)) := by
  intro σ
  refine AC.of_callsN (Go.Proofs.enters_of Tryz.func69 (by kernel_rfl) rfl) ?_
  intro g w vs hI hv
  obtain ⟨v1, vs, rfl, r1, hv⟩ := hv.cons_inv
  obtain ⟨v2, vs, rfl, r2, hv⟩ := hv.cons_inv
  rw [hv.nil_inv, r1.str_inv, r2.str_inv]
  refine (split_one ⟨s.toArray⟩ c w (by show s.toArray.size < _; simp; omega)).mono ?_
  rintro e w' ⟨rfl, rfl⟩
  have hd : (Lib.splitB ⟨#[c]⟩ 0 (Lib.countB ⟨s.toArray⟩ ⟨#[c]⟩) ⟨s.toArray⟩).map (·.data.toList) = partsL s c := by
    rw [Lib.splitB_data]; rfl
  have hn : Lib.countB ⟨s.toArray⟩ ⟨#[c]⟩ + 1 = (partsL s c).length := by
    rw [← hd, List.length_map, Lib.splitB_all ⟨#[c]⟩ (Nat.le_refl 1) 0 _ _ rfl]
  have hm : (Lib.splitB ⟨#[c]⟩ 0 (Lib.countB ⟨s.toArray⟩ ⟨#[c]⟩) ⟨s.toArray⟩).map Value.string = (partsL s c).map fun t => Value.string ⟨t.toArray⟩ := by
    rw [← hd, List.map_map]; rfl
  rw [hm, hn]
  refine ⟨_, rfl, (Below.refl _ w).alloc (Nat.le_refl _) _, Rel.sl_mk (u := (partsL s c).map fun t => Value.string ⟨t.toArray⟩) (Nat.le_refl _) (by simp) ⟨⟨by simp, .inl (by simp [Gh.on])⟩, rel_strs _, fun i v hv => ?_⟩⟩
  rw [World.cell?_alloc_new, Nat.zero_add]
  simpa using hv
end Go.Proofs.YtncadbcjikekhaaGreatDoor
namespace Go.Proofs.YtncadbcjikekhaaGreatDoor
open Go.Abs Go.Lib
set_option linter.all false
set_option maxRecDepth 100000
def findN : List UInt8 → UInt8 → Nat
  | [], _ => 0
  | x :: l, c => bif x == c then 0 else findN l c + 1
theorem findN_le (c : UInt8) : ∀ s, findN s c ≤ s.length
  | [] => Nat.le_refl _
  | x :: l => by
    have := findN_le c l
    unfold findN
    cases (x == c) <;> simp <;> omega
theorem find_index (c : UInt8) : ∀ s, Lib.indexByte s c = if findN s c < s.length then (findN s c : Int) else -1
  | [] => rfl
  | x :: l => by
    have h := find_index c l
    have h2 := findN_le c l
    unfold Lib.indexByte findN
    rw [h]
    cases hx : (x == c) with
    | true => simp
    | false =>
      simp only [cond_false, Bool.false_eq_true, if_false, List.length_cons]
      by_cases hl : findN l c < l.length
      · have h3 : ((findN l c : Int) == -1) = false := by rw [beq_eq_false_iff_ne]; omega
        rw [if_pos hl, h3, if_pos (show findN l c + 1 < l.length + 1 by omega), if_neg (by decide)]
        rfl
      · rw [if_neg hl, if_neg (show ¬ findN l c + 1 < l.length + 1 by omega)]; rfl
theorem p105 (s : List UInt8) (c : UInt8) (hs : s.length ≤ 1000000) : Pu Tryz.prog 105 [.str s, .str [c]] (.tup [.str (s.take (findN s c)), .str (s.drop (findN s c + 1)), .bool (decide (findN s c < s.length))]) := by
  have hle := findN_le c s
  have hi := p123 s c
  rw [find_index] at hi
  have hw : IntKind.i64.wrap ((findN s c : Int) + ((1 : Nat) : Int)) = ((findN s c + 1 : Nat) : Int) := by rw [wrap64 (by omega) (by omega)]; omega
  by_cases hf : findN s c < s.length
  · rw [if_pos hf] at hi
    have hd : decide ((0 : Int) ≤ (findN s c : Int)) = true := by simp
    (refine Pu_intro c105 b105 (Nat.le_of_ble_eq_true rfl) fun σ => ?_; simp only [c105, ↓R1, RR, Nat.reduceEqDiff, Nat.reduceAdd, Nat.reduceMul, Nat.reduceSub, Nat.reduceLeDiff, Nat.reduceLT, reduceIte, reduceCtorEq, Int.reduceBNe, Int.reduceBEq, hw, hd])
    repeat' (first | (with_reducible rw [allocV_eq]) | (with_reducible refine And.intro ?_ ?_; focus (intros; (repeat' (with_reducible apply And.intro)) <;> first | omega | (simp only [RZ]; omega))) | (with_reducible apply And.intro) | ((first | (refine gdV_split (fun hc => ?_) (fun hc => ?_) <;> (try simp only [hc, ↓R1, RR, Nat.reduceEqDiff, Nat.reduceAdd, Nat.reduceMul, Nat.reduceSub, Nat.reduceLeDiff, Nat.reduceLT, reduceIte, reduceCtorEq, Int.reduceBNe, Int.reduceBEq, hw, hd])) | refine condV_split (fun hc => ?_) (fun hc => ?_) | (with_reducible intro β hβ; (try simp only [RB] at hβ); (repeat (obtain ⟨⟨_, _⟩, hβ⟩ := hβ)); (try (have hbis := apart_is (by assumption) hβ; obtain ⟨_, _⟩ := hbis))) | refine Pt (hi) ?_ | refine Ct (hi) ?_) <;> (try simp only [↓R1, RR, Nat.reduceEqDiff, Nat.reduceAdd, Nat.reduceMul, Nat.reduceSub, Nat.reduceLeDiff, Nat.reduceLT, reduceIte, reduceCtorEq, Int.reduceBNe, Int.reduceBEq, hw, hd])))
    all_goals first | (exfalso; simp at hc; omega) | omega | skip
    all_goals (refine endP_pu (by simp) (by first | (simp [rvsS, rvS]; done) | (simp only [rvsS, rvS, ↓R1, RR, Nat.reduceEqDiff, Nat.reduceAdd, Nat.reduceMul, Nat.reduceSub, Nat.reduceLeDiff, Nat.reduceLT, reduceIte, reduceCtorEq, Int.reduceBNe, Int.reduceBEq, hw, hd]; try simp)) (wk_of_eq ?_) (by (repeat (first | exact St.le_refl _ | (refine St.le_new ?_ (by assumption)) | (refine St.le_newT ?_ (by assumption))))))
    all_goals (simp only [resAV, rvV, List.map_cons, List.map_nil, ↓R1, RR, Nat.reduceEqDiff, Nat.reduceAdd, Nat.reduceMul, Nat.reduceSub, Nat.reduceLeDiff, Nat.reduceLT, reduceIte, reduceCtorEq, Int.reduceBNe, Int.reduceBEq, hw, hd])
    all_goals first | (rw [List.take_of_length_le (by simp : (List.drop (findN s c + 1) s).length ≤ s.length - (findN s c + 1)), decide_eq_true hf]; done) | (rw [List.take_of_length_le (by omega : s.length ≤ findN s c), List.drop_of_length_le (by omega : s.length ≤ findN s c + 1), decide_eq_false hf]; done) | trace_state
  · rw [if_neg hf] at hi
    have hd : decide ((0 : Int) ≤ -1) = false := by decide
    (refine Pu_intro c105 b105 (Nat.le_of_ble_eq_true rfl) fun σ => ?_; simp only [c105, ↓R1, RR, Nat.reduceEqDiff, Nat.reduceAdd, Nat.reduceMul, Nat.reduceSub, Nat.reduceLeDiff, Nat.reduceLT, reduceIte, reduceCtorEq, Int.reduceBNe, Int.reduceBEq, hw, hd])
    repeat' (first | (with_reducible rw [allocV_eq]) | (with_reducible refine And.intro ?_ ?_; focus (intros; (repeat' (with_reducible apply And.intro)) <;> first | omega | (simp only [RZ]; omega))) | (with_reducible apply And.intro) | ((first | (refine gdV_split (fun hc => ?_) (fun hc => ?_) <;> (try simp only [hc, ↓R1, RR, Nat.reduceEqDiff, Nat.reduceAdd, Nat.reduceMul, Nat.reduceSub, Nat.reduceLeDiff, Nat.reduceLT, reduceIte, reduceCtorEq, Int.reduceBNe, Int.reduceBEq, hw, hd])) | refine condV_split (fun hc => ?_) (fun hc => ?_) | (with_reducible intro β hβ; (try simp only [RB] at hβ); (repeat (obtain ⟨⟨_, _⟩, hβ⟩ := hβ)); (try (have hbis := apart_is (by assumption) hβ; obtain ⟨_, _⟩ := hbis))) | refine Pt (hi) ?_ | refine Ct (hi) ?_) <;> (try simp only [↓R1, RR, Nat.reduceEqDiff, Nat.reduceAdd, Nat.reduceMul, Nat.reduceSub, Nat.reduceLeDiff, Nat.reduceLT, reduceIte, reduceCtorEq, Int.reduceBNe, Int.reduceBEq, hw, hd])))
    all_goals first | (exfalso; simp at hc; omega) | omega | skip
    all_goals (refine endP_pu (by simp) (by first | (simp [rvsS, rvS]; done) | (simp only [rvsS, rvS, ↓R1, RR, Nat.reduceEqDiff, Nat.reduceAdd, Nat.reduceMul, Nat.reduceSub, Nat.reduceLeDiff, Nat.reduceLT, reduceIte, reduceCtorEq, Int.reduceBNe, Int.reduceBEq, hw, hd]; try simp)) (wk_of_eq ?_) (by (repeat (first | exact St.le_refl _ | (refine St.le_new ?_ (by assumption)) | (refine St.le_newT ?_ (by assumption))))))
    all_goals (simp only [resAV, rvV, List.map_cons, List.map_nil, ↓R1, RR, Nat.reduceEqDiff, Nat.reduceAdd, Nat.reduceMul, Nat.reduceSub, Nat.reduceLeDiff, Nat.reduceLT, reduceIte, reduceCtorEq, Int.reduceBNe, Int.reduceBEq, hw, hd])
    all_goals first | (rw [List.take_of_length_le (by simp : (List.drop (findN s c + 1) s).length ≤ s.length - (findN s c + 1)), decide_eq_true hf]; done) | (rw [List.take_of_length_le (by omega : s.length ≤ findN s c), List.drop_of_length_le (by omega : s.length ≤ findN s c + 1), decide_eq_false hf]; done) | trace_state
theorem p70 (s : List UInt8) (c : UInt8) (hs : s.length ≤ 1000000) : Pu Tryz.prog 70 [.str s, .str [c]] (.tup [.str (s.take (findN s c)), .str (s.drop (findN s c + 1)), .bool (decide (findN s c < s.length))]) := by
  have h := p105 s c hs
  (refine Pu_intro c70 b70 (Nat.le_of_ble_eq_true rfl) fun σ => ?_; simp only [c70, ↓R1, RR, Nat.reduceEqDiff, Nat.reduceAdd, Nat.reduceMul, Nat.reduceSub, Nat.reduceLeDiff, Nat.reduceLT, reduceIte, reduceCtorEq, Int.reduceBNe, Int.reduceBEq])
  repeat' (first | (with_reducible rw [allocV_eq]) | (with_reducible refine And.intro ?_ ?_; focus (intros; (repeat' (with_reducible apply And.intro)) <;> first | omega | (simp only [RZ]; omega))) | (with_reducible apply And.intro) | ((first | (refine gdV_split (fun hc => ?_) (fun hc => ?_) <;> (try simp only [hc, ↓R1, RR, Nat.reduceEqDiff, Nat.reduceAdd, Nat.reduceMul, Nat.reduceSub, Nat.reduceLeDiff, Nat.reduceLT, reduceIte, reduceCtorEq, Int.reduceBNe, Int.reduceBEq])) | refine condV_split (fun hc => ?_) (fun hc => ?_) | (with_reducible intro β hβ; (try simp only [RB] at hβ); (repeat (obtain ⟨⟨_, _⟩, hβ⟩ := hβ)); (try (have hbis := apart_is (by assumption) hβ; obtain ⟨_, _⟩ := hbis))) | refine Pt (h) ?_ | refine Ct (h) ?_) <;> (try simp only [↓R1, RR, Nat.reduceEqDiff, Nat.reduceAdd, Nat.reduceMul, Nat.reduceSub, Nat.reduceLeDiff, Nat.reduceLT, reduceIte, reduceCtorEq, Int.reduceBNe, Int.reduceBEq])))
  (refine endP_pu (by simp) (by first | (simp [rvsS, rvS]; done) | (simp only [rvsS, rvS, ↓R1, RR, Nat.reduceEqDiff, Nat.reduceAdd, Nat.reduceMul, Nat.reduceSub, Nat.reduceLeDiff, Nat.reduceLT, reduceIte, reduceCtorEq, Int.reduceBNe, Int.reduceBEq]; try simp)) (wk_of_eq ?_) (by (repeat (first | exact St.le_refl _ | (refine St.le_new ?_ (by assumption)) | (refine St.le_newT ?_ (by assumption))))))
  (simp only [resAV, rvV, List.map_cons, List.map_nil, ↓R1, RR, Nat.reduceEqDiff, Nat.reduceAdd, Nat.reduceMul, Nat.reduceSub, Nat.reduceLeDiff, Nat.reduceLT, reduceIte, reduceCtorEq, Int.reduceBNe, Int.reduceBEq])
end Go.Proofs.YtncadbcjikekhaaGreatDoor
namespace Go.Proofs.YtncadbcjikekhaaGreatDoor
open Go.Abs Go.Lib
set_option linter.all false
def hS (s : List UInt8) (c : UInt8) : List UInt8 := s.take (findN s c)
def tS (s : List UInt8) (c : UInt8) : List UInt8 := s.drop (findN s c + 1)
theorem count_find (c : UInt8) : ∀ s, (s.count c = 0 ↔ ¬ findN s c < s.length) ∧ (findN s c < s.length → s.count c = (tS s c).count c + 1)
  | [] => by simp [findN]
  | x :: l => by
    obtain ⟨h1, h2⟩ := count_find c l
    unfold tS at h2 ⊢
    unfold findN
    cases hx : (x == c) with
    | true => simp at hx; subst hx; simp
    | false =>
      have hne : x ≠ c := by simpa using hx
      simp only [cond_false, List.length_cons, List.drop_succ_cons, Nat.add_lt_add_iff_right]
      rw [List.count_cons_of_ne hne]
      exact ⟨h1, h2⟩
theorem index_pos {s : List UInt8} {c : UInt8} (h : findN s c < s.length) : Lib.index s [c] = (findN s c : Int) := by
  rw [Lib.index_one, find_index, if_pos h]
theorem parts_no {s : List UInt8} {c : UInt8} (h : ¬ findN s c < s.length) : partsL s c = [s] := by
  unfold partsL Lib.split
  rw [Lib.count_one, (count_find c s).1.2 h]
  rfl
theorem parts_yes {s : List UInt8} {c : UInt8} (h : findN s c < s.length) : partsL s c = hS s c :: partsL (tS s c) c := by
  unfold partsL Lib.split
  rw [Lib.count_one, Lib.count_one, (count_find c s).2 h]
  show (if Lib.index s [c] == -1 then _ else _) = _
  have e : ((findN s c : Int) == -1) = false := by rw [beq_eq_false_iff_ne]; omega
  rw [index_pos h, e, if_neg (by simp), Int.toNat_natCast]
  rfl
theorem parts_len (s : List UInt8) : (partsL s 32).length ≤ s.length + 1 := by
  unfold partsL Lib.split
  have : ∀ n s, (Lib.splitK [32] 0 n s).length ≤ n + 1 := by
    intro n
    induction n with
    | zero => intro s; simp [Lib.splitK]
    | succ n ih =>
      intro s
      unfold Lib.splitK
      split
      · simp
      · rw [List.length_cons]
        exact Nat.succ_le_succ (ih _)
  have h2 := this (Lib.count s [32]) s
  have h3 : Lib.count s [32] ≤ s.length := by rw [Lib.count_one]; exact List.count_le_length
  omega
theorem findN_no {c : UInt8} : ∀ {s : List UInt8}, c ∉ s ↔ ¬ findN s c < s.length
  | [] => by simp [findN]
  | x :: l => by
    have ih := findN_no (c := c) (s := l)
    unfold findN
    cases hx : (x == c) with
    | true => simp at hx; subst hx; simp
    | false =>
      have hne : x ≠ c := by simpa using hx
      simp only [cond_false, List.length_cons, Nat.add_lt_add_iff_right, List.mem_cons, not_or]
      rw [← ih]
      exact ⟨fun h => h.2, fun h => ⟨fun e => hne e.symm, h⟩⟩
theorem hS_no {s : List UInt8} {c : UInt8} : c ∉ hS s c := by
  unfold hS
  induction s with
  | nil => simp
  | cons x l ih =>
    unfold findN
    cases hx : (x == c) with
    | true => simp
    | false =>
      have hne : x ≠ c := by simpa using hx
      simp only [cond_false, List.take_succ_cons, List.mem_cons, not_or]
      exact ⟨fun e => hne e.symm, ih⟩
theorem parts_mem (c : UInt8) : ∀ (n : Nat) (s : List UInt8), s.length ≤ n → ∀ w ∈ partsL s c, w.length ≤ s.length ∧ c ∉ w := by
  intro n
  induction n with
  | zero =>
    intro s hs w hw
    have : s = [] := List.eq_nil_of_length_eq_zero (by omega)
    subst this
    rw [parts_no (by simp [findN])] at hw
    simp at hw; subst hw; simp
  | succ n ih =>
    intro s hs w hw
    by_cases h : findN s c < s.length
    · rw [parts_yes h] at hw
      rcases List.mem_cons.1 hw with rfl | hw
      · exact ⟨by simp [hS]; omega, hS_no⟩
      · have hl : (tS s c).length ≤ n := by simp [tS]; omega
        obtain ⟨h1, h2⟩ := ih _ hl w hw
        exact ⟨by have : (tS s c).length ≤ s.length := by simp [tS]
                  omega, h2⟩
    · rw [parts_no h] at hw
      simp at hw; subst hw
      exact ⟨Nat.le_refl _, findN_no.2 h⟩
end Go.Proofs.YtncadbcjikekhaaGreatDoor
namespace Go.Proofs.YtncadbcjikekhaaGreatDoor
open Go.Abs Go.Lib
set_option linter.all false
set_option maxRecDepth 100000
def natM (s : List UInt8) : Int := natX s 1099511627776
def natF (s : List UInt8) : Int := natE s 1099511627776
def pwA (w : List UInt8) : List UInt8 := w.take (findN w 58)
def pwB (w : List UInt8) : List UInt8 := w.drop (findN w 58 + 1)
def pwBad (w : List UInt8) : Bool := (!decide (findN w 58 < w.length) || natF (pwA w) == 3) || natF (pwB w) == 3
def pwLate (w : List UInt8) : Bool := (natF (pwA w) != 0) || (natF (pwB w) != 0)
def pwPl (w : List UInt8) : Pl := ⟨natM (pwA w), natM (pwB w)⟩
def parE (s : List UInt8) : Int := bif (partsL s 32).any pwBad then 3 else bif (partsL s 32).any pwLate then 2 else checkS ((partsL s 32).map pwPl)
def parL (s : List UInt8) : List Pl := bif parE s == 0 then (partsL s 32).map pwPl else []
theorem natM_rng (s : List UInt8) : 0 ≤ natM s ∧ natM s ≤ 1099511627776 := by
  unfold natM natX natB
  cases goodS s with
  | false => simp
  | true =>
    simp only [cond_true]
    cases h : (decide (18446744073709551616 ≤ val 0 s) || decide ((1099511627776 : Int) < ((val 0 s % 18446744073709551616 : Nat) : Int))) with
    | true => simp
    | false =>
      simp only [Bool.or_eq_false_iff, decide_eq_false_iff_not] at h
      simp only [cond_false]; omega
theorem pw_step (ws : List (List UInt8)) {k : Nat} (h : k < ws.length) : ((ws.take k).map pwPl).flatMap cP ++ [.int .i64 (natM (pwA ws[k])), .int .i64 (natM (pwB ws[k]))] = ((ws.take (k + 1)).map pwPl).flatMap cP := by
  rw [← List.take_append_getElem h, List.map_append, List.flatMap_append]; rfl
theorem strs_at (l : List (List UInt8)) {k : Nat} (h : k < l.length) : ((l.map AV.str).drop (k * 1)).take 1 = [.str l[k]] := by
  rw [Nat.mul_one, List.drop_eq_getElem_cons (by simpa using h)]
  simp
set_option maxHeartbeats 4000000 in
theorem p33 (s : List UInt8) (hs : s.length ≤ 100000) : Pu Tryz.prog 33 [.str s] (.tup [.agg [.sl false (parL s).length ((parL s).flatMap cP)], .int .i64 (parE s)]) := by
  have q0 : True := trivial
  have q1 : True := trivial
  have q2 : True := trivial
  have q3 : True := trivial
  have q4 : True := trivial
  have hw : True := trivial
  have hd : True := trivial
  have hw1 : True := trivial
  have hw2 : True := trivial
  obtain ⟨ws, hws⟩ : ∃ ws, partsL s 32 = ws := ⟨_, rfl⟩
  have hsp := p69 s 32 (by omega)
  have hpl := parts_len s
  have hpm := parts_mem 32 _ s (Nat.le_refl _)
  unfold parL parE
  rw [hws] at hsp hpl hpm ⊢
  (refine Pu_intro c33 b33 (Nat.le_of_ble_eq_true rfl) fun σ => ?_; simp only [c33, ↓R1, RR, seval, q0, q1, q2, q3, q4, hw, hd, hw1, hw2])
  repeat' (first | (with_reducible rw [allocV_eq]) | (with_reducible refine And.intro ?_ ?_; focus (intros; (repeat' (with_reducible apply And.intro)) <;> first | omega | (simp only [RZ, cP_len, cI_len]; omega))) | (with_reducible apply And.intro) | ((first | (refine gdV_split (fun hc => ?_) (fun hc => ?_) <;> (try simp only [hc, ↓R1, RR, seval, q0, q1, q2, q3, q4, hw, hd, hw1, hw2])) | refine condV_split (fun hc => ?_) (fun hc => ?_) | (with_reducible intro β hβ; (try simp only [RB] at hβ); (repeat (obtain ⟨⟨_, _⟩, hβ⟩ := hβ)); (try (have hbis := apart_is (by assumption) hβ; obtain ⟨_, _⟩ := hbis))) | ((first | refine appD_tslK (.inr rfl) rfl ?_ ?_ ?_ ?_ ?_ ?_ | refine appV_tslK rfl ?_ ?_ ?_ ?_ ?_ ?_); (first | rfl | exact St.tip_same _ _ _ | simp only [↓R1, RR, seval, q0, q1, q2, q3, q4, hw, hd, hw1, hw2]); (iterate 2 (first | omega | (simp only [RZ, cP_len, cI_len]; first | done | omega) | rfl)); (unfold maxLen; omega); omega) | refine Pt (hsp) ?_ | refine Ct (hsp) ?_) <;> (try simp only [↓R1, RR, seval, q0, q1, q2, q3, q4, hw, hd, hw1, hw2])))
  rename_i b2 hb2 a1 a2
  refine loopV_forBx ws.length 4 0 70 2 (β := β) rfl (by simp only [↓R1, RR, seval, q0, q1, q2, q3, q4, hw, hd, hw1, hw2]; rfl) rfl
    (fun τ k => [(2, .ptr b2 0), (4, .ptr β 0), (5, .int .i64 (bif (ws.take k).any pwLate then 2 else 0)), (17, .sl false ws.length (ws.map AV.str)), (18, .int .i64 (ws.length : Nat)), (19, .int .i64 (k : Nat))])
    (fun τ k => (((σ.setBox b2 [.nils]).setBox β [.tsl τ k (((ws.take k).map pwPl).flatMap cP)]).setTip τ (70, 2, k)))
    (fun k => (ws.take k).any pwBad = false) rfl (fun τ => by simp [subF, slot, wk_refl]) (fun τ hτ => by simp only [List.set_cons_zero, List.take_zero, List.map_nil, List.flatMap_nil, ↓R1, RR, seval, q0, q1, q2, q3, q4, hw, hd, hw1, hw2]; exact St.le_refl _) (fun τ hτ k hk hI => ?_)
  have hτ : σ.tip τ = none := by first | exact hτ | (simp only [St.tip_set, St.tip_noneA, ↓R1, RR, seval, q0, q1, q2, q3, q4, hw, hd, hw1, hw2] at hτ; first | exact hτ | exact hτ.2 | exact hτ.1)
  by_cases hlt : k < ws.length
  · have q0 : decide ((k : Int) < (ws.length : Int)) = true := by rw [decide_eq_true_eq]; omega
    have hd := strs_at ws hlt
    have hw : IntKind.i64.wrap ((k : Int) + 1) = ((k + 1 : Nat) : Int) := by rw [wrap64 (by omega) (by omega)]; omega
    obtain ⟨w, hwk⟩ : ∃ w, ws[k] = w := ⟨_, rfl⟩
    have hwl : w.length ≤ s.length := by rw [← hwk]; exact (hpm _ (List.getElem_mem hlt)).1
    have hcut := p70 w 58 (by omega)
    have hna := p71 (pwA w) 1099511627776 (by simp [pwA]; unfold maxLen; omega)
    have hnb := p71 (pwB w) 1099511627776 (by simp [pwB]; unfold maxLen; omega)
    rw [natN_eq] at hna hnb
    have hs := pw_step ws hlt
    have hcl : (((ws.take k).map pwPl).flatMap cP).length = k * 2 := by rw [cP_len]; simp; omega
    have hla := natM_rng (pwA w)
    have hlb := natM_rng (pwB w)
    have hw1 : IntKind.i64.wrap (natX (pwA w) 1099511627776) = natX (pwA w) 1099511627776 := by have h := hla; unfold natM at h; exact wrap64 (by omega) (by omega)
    have hw2 : IntKind.i64.wrap (natX (pwB w) 1099511627776) = natX (pwB w) 1099511627776 := by have h := hlb; unfold natM at h; exact wrap64 (by omega) (by omega)
    rw [hwk] at hd hs
    have hanyL : (ws.take (k + 1)).any pwLate = ((ws.take k).any pwLate || pwLate w) := by rw [any_takeG _ _ hlt, hwk]
    have hanyB : (ws.take (k + 1)).any pwBad = ((ws.take k).any pwBad || pwBad w) := by rw [any_takeG _ _ hlt, hwk]
    have hpb : pwBad w = ((!decide (findN w 58 < w.length) || natE (pwA w) 1099511627776 == 3) || natE (pwB w) 1099511627776 == 3) := rfl
    have hpt : pwLate w = ((natE (pwA w) 1099511627776 != 0) || (natE (pwB w) 1099511627776 != 0)) := rfl
    obtain ⟨x, hx⟩ : ∃ x, natE (pwA w) 1099511627776 = x := ⟨_, rfl⟩
    obtain ⟨y, hy⟩ : ∃ y, natE (pwB w) 1099511627776 = y := ⟨_, rfl⟩
    obtain ⟨b, hb⟩ : ∃ b, decide (findN w 58 < w.length) = b := ⟨_, rfl⟩
    rw [hx, hy, hb] at hpb
    rw [hx, hy] at hpt
    rw [hx] at hna
    rw [hy] at hnb
    rw [hb] at hcut
    change Pu _ _ _ (.tup [.str (pwA w), .str (pwB w), .bool b]) at hcut
    cases hbad : pwBad w with
    | true =>
      have hany : ws.any pwBad = true := any_true pwBad ws hlt (by rw [hwk]; exact hbad)
      rw [hany]
      simp only [cond_true, show ((3 : Int) == 0) = false from rfl, cond_false, List.length_nil, List.flatMap_nil]
      rw [hbad] at hpb
      cases b with
      | false =>
        simp only [q0, ↓R1, RR, seval, q0, q1, q2, q3, q4, hw, hd, hw1, hw2]
        repeat' (first | (with_reducible rw [allocV_eq]) | (with_reducible refine And.intro ?_ ?_; focus (intros; (repeat' (with_reducible apply And.intro)) <;> first | omega | (simp only [RZ, cP_len, cI_len]; omega))) | (with_reducible apply And.intro) | ((first | (refine gdV_split (fun hc => ?_) (fun hc => ?_) <;> (try simp only [hc, ↓R1, RR, seval, q0, q1, q2, q3, q4, hw, hd, hw1, hw2])) | refine condV_split (fun hc => ?_) (fun hc => ?_) | (with_reducible intro β hβ; (try simp only [RB] at hβ); (repeat (obtain ⟨⟨_, _⟩, hβ⟩ := hβ)); (try (have hbis := apart_is (by assumption) hβ; obtain ⟨_, _⟩ := hbis))) | ((first | refine appD_tslK (.inr rfl) rfl ?_ ?_ ?_ ?_ ?_ ?_ | refine appV_tslK rfl ?_ ?_ ?_ ?_ ?_ ?_); (first | rfl | exact St.tip_same _ _ _ | simp only [↓R1, RR, seval, q0, q1, q2, q3, q4, hw, hd, hw1, hw2]); (iterate 2 (first | omega | (simp only [RZ, cP_len, cI_len]; first | done | omega) | rfl)); (unfold maxLen; omega); omega) | refine Pt (hcut) ?_ | refine Ct (hcut) ?_ | refine Pt (hna) ?_ | refine Ct (hna) ?_ | refine Pt (hnb) ?_ | refine Ct (hnb) ?_) <;> (try simp only [↓R1, RR, seval, q0, q1, q2, q3, q4, hw, hd, hw1, hw2])))
        (refine endP_pu (by simp) (by first | (simp [rvsS, rvS]; done) | (simp only [rvsS, rvS, ↓R1, RR, seval, q0, q1, q2, q3, q4, hw, hd, hw1, hw2]; try simp)) ?_ (by (repeat (first | exact St.le_refl _ | (refine St.le_new ?_ (by assumption)) | (refine St.le_newT ?_ (by assumption))))))
        simp only [resAV, rvV, List.map_cons, List.map_nil, ↓R1, RR, seval, q0, q1, q2, q3, q4, hw, hd, hw1, hw2]
        (repeat' (first | exact wk_refl _ | exact wk_nils | exact wk_tsl _ _ _ | exact wk_full _ _ | exact wkL.nil | exact wkL_refl _ | refine wk_tup ?_ | refine wk_agg ?_ | refine wkL.cons ?_ ?_))
      | true =>
        cases q1 : (x == 3) with
        | true =>
          simp only [q0, ↓R1, RR, seval, q0, q1, q2, q3, q4, hw, hd, hw1, hw2]
          repeat' (first | (with_reducible rw [allocV_eq]) | (with_reducible refine And.intro ?_ ?_; focus (intros; (repeat' (with_reducible apply And.intro)) <;> first | omega | (simp only [RZ, cP_len, cI_len]; omega))) | (with_reducible apply And.intro) | ((first | (refine gdV_split (fun hc => ?_) (fun hc => ?_) <;> (try simp only [hc, ↓R1, RR, seval, q0, q1, q2, q3, q4, hw, hd, hw1, hw2])) | refine condV_split (fun hc => ?_) (fun hc => ?_) | (with_reducible intro β hβ; (try simp only [RB] at hβ); (repeat (obtain ⟨⟨_, _⟩, hβ⟩ := hβ)); (try (have hbis := apart_is (by assumption) hβ; obtain ⟨_, _⟩ := hbis))) | ((first | refine appD_tslK (.inr rfl) rfl ?_ ?_ ?_ ?_ ?_ ?_ | refine appV_tslK rfl ?_ ?_ ?_ ?_ ?_ ?_); (first | rfl | exact St.tip_same _ _ _ | simp only [↓R1, RR, seval, q0, q1, q2, q3, q4, hw, hd, hw1, hw2]); (iterate 2 (first | omega | (simp only [RZ, cP_len, cI_len]; first | done | omega) | rfl)); (unfold maxLen; omega); omega) | refine Pt (hcut) ?_ | refine Ct (hcut) ?_ | refine Pt (hna) ?_ | refine Ct (hna) ?_ | refine Pt (hnb) ?_ | refine Ct (hnb) ?_) <;> (try simp only [↓R1, RR, seval, q0, q1, q2, q3, q4, hw, hd, hw1, hw2])))
          (refine endP_pu (by simp) (by first | (simp [rvsS, rvS]; done) | (simp only [rvsS, rvS, ↓R1, RR, seval, q0, q1, q2, q3, q4, hw, hd, hw1, hw2]; try simp)) ?_ (by (repeat (first | exact St.le_refl _ | (refine St.le_new ?_ (by assumption)) | (refine St.le_newT ?_ (by assumption))))))
          simp only [resAV, rvV, List.map_cons, List.map_nil, ↓R1, RR, seval, q0, q1, q2, q3, q4, hw, hd, hw1, hw2]
          (repeat' (first | exact wk_refl _ | exact wk_nils | exact wk_tsl _ _ _ | exact wk_full _ _ | exact wkL.nil | exact wkL_refl _ | refine wk_tup ?_ | refine wk_agg ?_ | refine wkL.cons ?_ ?_))
        | false =>
          rw [q1] at hpb
          have q2 : (y == 3) = true := by simpa using hpb.symm
          simp only [q0, ↓R1, RR, seval, q0, q1, q2, q3, q4, hw, hd, hw1, hw2]
          repeat' (first | (with_reducible rw [allocV_eq]) | (with_reducible refine And.intro ?_ ?_; focus (intros; (repeat' (with_reducible apply And.intro)) <;> first | omega | (simp only [RZ, cP_len, cI_len]; omega))) | (with_reducible apply And.intro) | ((first | (refine gdV_split (fun hc => ?_) (fun hc => ?_) <;> (try simp only [hc, ↓R1, RR, seval, q0, q1, q2, q3, q4, hw, hd, hw1, hw2])) | refine condV_split (fun hc => ?_) (fun hc => ?_) | (with_reducible intro β hβ; (try simp only [RB] at hβ); (repeat (obtain ⟨⟨_, _⟩, hβ⟩ := hβ)); (try (have hbis := apart_is (by assumption) hβ; obtain ⟨_, _⟩ := hbis))) | ((first | refine appD_tslK (.inr rfl) rfl ?_ ?_ ?_ ?_ ?_ ?_ | refine appV_tslK rfl ?_ ?_ ?_ ?_ ?_ ?_); (first | rfl | exact St.tip_same _ _ _ | simp only [↓R1, RR, seval, q0, q1, q2, q3, q4, hw, hd, hw1, hw2]); (iterate 2 (first | omega | (simp only [RZ, cP_len, cI_len]; first | done | omega) | rfl)); (unfold maxLen; omega); omega) | refine Pt (hcut) ?_ | refine Ct (hcut) ?_ | refine Pt (hna) ?_ | refine Ct (hna) ?_ | refine Pt (hnb) ?_ | refine Ct (hnb) ?_) <;> (try simp only [↓R1, RR, seval, q0, q1, q2, q3, q4, hw, hd, hw1, hw2])))
          (refine endP_pu (by simp) (by first | (simp [rvsS, rvS]; done) | (simp only [rvsS, rvS, ↓R1, RR, seval, q0, q1, q2, q3, q4, hw, hd, hw1, hw2]; try simp)) ?_ (by (repeat (first | exact St.le_refl _ | (refine St.le_new ?_ (by assumption)) | (refine St.le_newT ?_ (by assumption))))))
          simp only [resAV, rvV, List.map_cons, List.map_nil, ↓R1, RR, seval, q0, q1, q2, q3, q4, hw, hd, hw1, hw2]
          (repeat' (first | exact wk_refl _ | exact wk_nils | exact wk_tsl _ _ _ | exact wk_full _ _ | exact wkL.nil | exact wkL_refl _ | refine wk_tup ?_ | refine wk_agg ?_ | refine wkL.cons ?_ ?_))
    | false =>
      rw [hbad] at hpb hanyB
      have hb1 : b = true := by cases b with
        | true => rfl
        | false => simp at hpb
      subst hb1
      have q1 : (x == 3) = false := by cases h : (x == 3) with
        | false => rfl
        | true => rw [h] at hpb; simp at hpb
      have q2 : (y == 3) = false := by rw [q1] at hpb; simpa using hpb.symm
      have hB : (ws.take (k + 1)).any pwBad = false := by rw [hanyB, hI]; rfl
      cases q3 : (x != 0) with
      | true =>
        have hL : (ws.take (k + 1)).any pwLate = true := by rw [hanyL, hpt, q3]; simp
        simp only [q0, ↓R1, RR, seval, q0, q1, q2, q3, q4, hw, hd, hw1, hw2]
        repeat' (first | (with_reducible rw [allocV_eq]) | (with_reducible refine And.intro ?_ ?_; focus (intros; (repeat' (with_reducible apply And.intro)) <;> first | omega | (simp only [RZ, cP_len, cI_len]; omega))) | (with_reducible apply And.intro) | ((first | (refine gdV_split (fun hc => ?_) (fun hc => ?_) <;> (try simp only [hc, ↓R1, RR, seval, q0, q1, q2, q3, q4, hw, hd, hw1, hw2])) | refine condV_split (fun hc => ?_) (fun hc => ?_) | (with_reducible intro β hβ; (try simp only [RB] at hβ); (repeat (obtain ⟨⟨_, _⟩, hβ⟩ := hβ)); (try (have hbis := apart_is (by assumption) hβ; obtain ⟨_, _⟩ := hbis))) | ((first | refine appD_tslK (.inr rfl) rfl ?_ ?_ ?_ ?_ ?_ ?_ | refine appV_tslK rfl ?_ ?_ ?_ ?_ ?_ ?_); (first | rfl | exact St.tip_same _ _ _ | simp only [↓R1, RR, seval, q0, q1, q2, q3, q4, hw, hd, hw1, hw2]); (iterate 2 (first | omega | (simp only [RZ, cP_len, cI_len]; first | done | omega) | rfl)); (unfold maxLen; omega); omega) | refine Pt (hcut) ?_ | refine Ct (hcut) ?_ | refine Pt (hna) ?_ | refine Ct (hna) ?_ | refine Pt (hnb) ?_ | refine Ct (hnb) ?_) <;> (try simp only [↓R1, RR, seval, q0, q1, q2, q3, q4, hw, hd, hw1, hw2])))
        · rw [hL]; simp [subF, slot, wk_refl]
        · rw [show [AV.int IntKind.i64 (natX (pwA w) 1099511627776), AV.int IntKind.i64 (natX (pwB w) 1099511627776)] = [.int .i64 (natM (pwA w)), .int .i64 (natM (pwB w))] from rfl, hs]; exact St.le_refl _
      | false =>
        cases q4 : (y != 0) with
        | true =>
          have hL : (ws.take (k + 1)).any pwLate = true := by rw [hanyL, hpt, q4]; simp
          simp only [q0, ↓R1, RR, seval, q0, q1, q2, q3, q4, hw, hd, hw1, hw2]
          repeat' (first | (with_reducible rw [allocV_eq]) | (with_reducible refine And.intro ?_ ?_; focus (intros; (repeat' (with_reducible apply And.intro)) <;> first | omega | (simp only [RZ, cP_len, cI_len]; omega))) | (with_reducible apply And.intro) | ((first | (refine gdV_split (fun hc => ?_) (fun hc => ?_) <;> (try simp only [hc, ↓R1, RR, seval, q0, q1, q2, q3, q4, hw, hd, hw1, hw2])) | refine condV_split (fun hc => ?_) (fun hc => ?_) | (with_reducible intro β hβ; (try simp only [RB] at hβ); (repeat (obtain ⟨⟨_, _⟩, hβ⟩ := hβ)); (try (have hbis := apart_is (by assumption) hβ; obtain ⟨_, _⟩ := hbis))) | ((first | refine appD_tslK (.inr rfl) rfl ?_ ?_ ?_ ?_ ?_ ?_ | refine appV_tslK rfl ?_ ?_ ?_ ?_ ?_ ?_); (first | rfl | exact St.tip_same _ _ _ | simp only [↓R1, RR, seval, q0, q1, q2, q3, q4, hw, hd, hw1, hw2]); (iterate 2 (first | omega | (simp only [RZ, cP_len, cI_len]; first | done | omega) | rfl)); (unfold maxLen; omega); omega) | refine Pt (hcut) ?_ | refine Ct (hcut) ?_ | refine Pt (hna) ?_ | refine Ct (hna) ?_ | refine Pt (hnb) ?_ | refine Ct (hnb) ?_) <;> (try simp only [↓R1, RR, seval, q0, q1, q2, q3, q4, hw, hd, hw1, hw2])))
          · rw [hL]; simp [subF, slot, wk_refl]
          · rw [show [AV.int IntKind.i64 (natX (pwA w) 1099511627776), AV.int IntKind.i64 (natX (pwB w) 1099511627776)] = [.int .i64 (natM (pwA w)), .int .i64 (natM (pwB w))] from rfl, hs]; exact St.le_refl _
        | false =>
          have hL : (ws.take (k + 1)).any pwLate = (ws.take k).any pwLate := by rw [hanyL, hpt, q3, q4]; simp
          simp only [q0, ↓R1, RR, seval, q0, q1, q2, q3, q4, hw, hd, hw1, hw2]
          repeat' (first | (with_reducible rw [allocV_eq]) | (with_reducible refine And.intro ?_ ?_; focus (intros; (repeat' (with_reducible apply And.intro)) <;> first | omega | (simp only [RZ, cP_len, cI_len]; omega))) | (with_reducible apply And.intro) | ((first | (refine gdV_split (fun hc => ?_) (fun hc => ?_) <;> (try simp only [hc, ↓R1, RR, seval, q0, q1, q2, q3, q4, hw, hd, hw1, hw2])) | refine condV_split (fun hc => ?_) (fun hc => ?_) | (with_reducible intro β hβ; (try simp only [RB] at hβ); (repeat (obtain ⟨⟨_, _⟩, hβ⟩ := hβ)); (try (have hbis := apart_is (by assumption) hβ; obtain ⟨_, _⟩ := hbis))) | ((first | refine appD_tslK (.inr rfl) rfl ?_ ?_ ?_ ?_ ?_ ?_ | refine appV_tslK rfl ?_ ?_ ?_ ?_ ?_ ?_); (first | rfl | exact St.tip_same _ _ _ | simp only [↓R1, RR, seval, q0, q1, q2, q3, q4, hw, hd, hw1, hw2]); (iterate 2 (first | omega | (simp only [RZ, cP_len, cI_len]; first | done | omega) | rfl)); (unfold maxLen; omega); omega) | refine Pt (hcut) ?_ | refine Ct (hcut) ?_ | refine Pt (hna) ?_ | refine Ct (hna) ?_ | refine Pt (hnb) ?_ | refine Ct (hnb) ?_) <;> (try simp only [↓R1, RR, seval, q0, q1, q2, q3, q4, hw, hd, hw1, hw2])))
          · rw [hL]; simp [subF, slot, wk_refl]
          · rw [show [AV.int IntKind.i64 (natX (pwA w) 1099511627776), AV.int IntKind.i64 (natX (pwB w) 1099511627776)] = [.int .i64 (natM (pwA w)), .int .i64 (natM (pwB w))] from rfl, hs]; exact St.le_refl _
  · have hke : k = ws.length := by omega
    subst hke
    have q0 : decide ((ws.length : Int) < (ws.length : Int)) = false := by simp
    rw [List.take_length] at hI ⊢
    rw [hI]
    simp only [cond_false]
    cases q1 : ws.any pwLate with
    | true =>
      simp only [cond_true, show ((2 : Int) == 0) = false from rfl, cond_false, List.length_nil, List.flatMap_nil]
      simp only [q0, q1, ↓R1, RR, seval, q0, q1, q2, q3, q4, hw, hd, hw1, hw2]
      repeat' (first | (with_reducible rw [allocV_eq]) | (with_reducible refine And.intro ?_ ?_; focus (intros; (repeat' (with_reducible apply And.intro)) <;> first | omega | (simp only [RZ, cP_len, cI_len]; omega))) | (with_reducible apply And.intro) | ((first | (refine gdV_split (fun hc => ?_) (fun hc => ?_) <;> (try simp only [hc, ↓R1, RR, seval, q0, q1, q2, q3, q4, hw, hd, hw1, hw2])) | refine condV_split (fun hc => ?_) (fun hc => ?_) | (with_reducible intro β hβ; (try simp only [RB] at hβ); (repeat (obtain ⟨⟨_, _⟩, hβ⟩ := hβ)); (try (have hbis := apart_is (by assumption) hβ; obtain ⟨_, _⟩ := hbis))) | ((first | refine appD_tslK (.inr rfl) rfl ?_ ?_ ?_ ?_ ?_ ?_ | refine appV_tslK rfl ?_ ?_ ?_ ?_ ?_ ?_); (first | rfl | exact St.tip_same _ _ _ | simp only [↓R1, RR, seval, q0, q1, q2, q3, q4, hw, hd, hw1, hw2]); (iterate 2 (first | omega | (simp only [RZ, cP_len, cI_len]; first | done | omega) | rfl)); (unfold maxLen; omega); omega)) <;> (try simp only [↓R1, RR, seval, q0, q1, q2, q3, q4, hw, hd, hw1, hw2])))
      (refine endP_pu (by simp) (by first | (simp [rvsS, rvS]; done) | (simp only [rvsS, rvS, ↓R1, RR, seval, q0, q1, q2, q3, q4, hw, hd, hw1, hw2]; try simp)) ?_ (by (repeat (first | exact St.le_refl _ | (refine St.le_new ?_ (by assumption)) | (refine St.le_newT ?_ (by assumption))))))
      simp only [resAV, rvV, List.map_cons, List.map_nil, ↓R1, RR, seval, q0, q1, q2, q3, q4, hw, hd, hw1, hw2]
      (repeat' (first | exact wk_refl _ | exact wk_nils | exact wk_tsl _ _ _ | exact wk_full _ _ | exact wkL.nil | exact wkL_refl _ | refine wk_tup ?_ | refine wk_agg ?_ | refine wkL.cons ?_ ?_))
    | false =>
      simp only [cond_false]
      obtain ⟨r, hr⟩ : ∃ r, checkS (ws.map pwPl) = r := ⟨_, rfl⟩
      have hck := p31 (ws.map pwPl) (by simp; omega)
      rw [hr] at hck ⊢
      simp only [List.length_map] at hck
      cases q2 : (r == 0) with
      | true =>
        have q3 : (r != 0) = false := by rw [bne_eq_false_iff_eq]; exact beq_iff_eq.1 q2
        have q4 : r = 0 := beq_iff_eq.1 q2
        simp only [cond_true, List.length_map]
        simp only [q0, q1, ↓R1, RR, seval, q0, q1, q2, q3, q4, hw, hd, hw1, hw2]
        repeat' (first | (with_reducible rw [allocV_eq]) | (with_reducible refine And.intro ?_ ?_; focus (intros; (repeat' (with_reducible apply And.intro)) <;> first | omega | (simp only [RZ, cP_len, cI_len]; omega))) | (with_reducible apply And.intro) | ((first | (refine gdV_split (fun hc => ?_) (fun hc => ?_) <;> (try simp only [hc, ↓R1, RR, seval, q0, q1, q2, q3, q4, hw, hd, hw1, hw2])) | refine condV_split (fun hc => ?_) (fun hc => ?_) | (with_reducible intro β hβ; (try simp only [RB] at hβ); (repeat (obtain ⟨⟨_, _⟩, hβ⟩ := hβ)); (try (have hbis := apart_is (by assumption) hβ; obtain ⟨_, _⟩ := hbis))) | ((first | refine appD_tslK (.inr rfl) rfl ?_ ?_ ?_ ?_ ?_ ?_ | refine appV_tslK rfl ?_ ?_ ?_ ?_ ?_ ?_); (first | rfl | exact St.tip_same _ _ _ | simp only [↓R1, RR, seval, q0, q1, q2, q3, q4, hw, hd, hw1, hw2]); (iterate 2 (first | omega | (simp only [RZ, cP_len, cI_len]; first | done | omega) | rfl)); (unfold maxLen; omega); omega) | (refine Pu.to (hck) ?_ ?_; (focus ((repeat' (first | exact wk_refl _ | exact wk_nils | exact wk_tsl _ _ _ | exact wk_full _ _ | exact wkL.nil | exact wkL_refl _ | refine wk_tup ?_ | refine wk_agg ?_ | refine wkL.cons ?_ ?_)); done)))) <;> (try simp only [↓R1, RR, seval, q0, q1, q2, q3, q4, hw, hd, hw1, hw2])))
        (refine endP_pu (by simp) (by first | (simp [rvsS, rvS]; done) | (simp only [rvsS, rvS, ↓R1, RR, seval, q0, q1, q2, q3, q4, hw, hd, hw1, hw2]; try simp)) ?_ (by (repeat (first | exact St.le_refl _ | (refine St.le_new ?_ (by assumption)) | (refine St.le_newT ?_ (by assumption))))))
        simp only [resAV, rvV, List.map_cons, List.map_nil, ↓R1, RR, seval, q0, q1, q2, q3, q4, hw, hd, hw1, hw2]
        try rw [beq_iff_eq.1 q2]
        (repeat' (first | exact wk_refl _ | exact wk_nils | exact wk_tsl _ _ _ | exact wk_full _ _ | exact wkL.nil | exact wkL_refl _ | refine wk_tup ?_ | refine wk_agg ?_ | refine wkL.cons ?_ ?_))
      | false =>
        have q3 : (r != 0) = true := by rw [bne_iff_ne]; exact beq_eq_false_iff_ne.1 q2
        simp only [cond_false, List.length_nil, List.flatMap_nil]
        simp only [q0, q1, ↓R1, RR, seval, q0, q1, q2, q3, q4, hw, hd, hw1, hw2]
        repeat' (first | (with_reducible rw [allocV_eq]) | (with_reducible refine And.intro ?_ ?_; focus (intros; (repeat' (with_reducible apply And.intro)) <;> first | omega | (simp only [RZ, cP_len, cI_len]; omega))) | (with_reducible apply And.intro) | ((first | (refine gdV_split (fun hc => ?_) (fun hc => ?_) <;> (try simp only [hc, ↓R1, RR, seval, q0, q1, q2, q3, q4, hw, hd, hw1, hw2])) | refine condV_split (fun hc => ?_) (fun hc => ?_) | (with_reducible intro β hβ; (try simp only [RB] at hβ); (repeat (obtain ⟨⟨_, _⟩, hβ⟩ := hβ)); (try (have hbis := apart_is (by assumption) hβ; obtain ⟨_, _⟩ := hbis))) | ((first | refine appD_tslK (.inr rfl) rfl ?_ ?_ ?_ ?_ ?_ ?_ | refine appV_tslK rfl ?_ ?_ ?_ ?_ ?_ ?_); (first | rfl | exact St.tip_same _ _ _ | simp only [↓R1, RR, seval, q0, q1, q2, q3, q4, hw, hd, hw1, hw2]); (iterate 2 (first | omega | (simp only [RZ, cP_len, cI_len]; first | done | omega) | rfl)); (unfold maxLen; omega); omega) | (refine Pu.to (hck) ?_ ?_; (focus ((repeat' (first | exact wk_refl _ | exact wk_nils | exact wk_tsl _ _ _ | exact wk_full _ _ | exact wkL.nil | exact wkL_refl _ | refine wk_tup ?_ | refine wk_agg ?_ | refine wkL.cons ?_ ?_)); done)))) <;> (try simp only [↓R1, RR, seval, q0, q1, q2, q3, q4, hw, hd, hw1, hw2])))
        (refine endP_pu (by simp) (by first | (simp [rvsS, rvS]; done) | (simp only [rvsS, rvS, ↓R1, RR, seval, q0, q1, q2, q3, q4, hw, hd, hw1, hw2]; try simp)) ?_ (by (repeat (first | exact St.le_refl _ | (refine St.le_new ?_ (by assumption)) | (refine St.le_newT ?_ (by assumption))))))
        simp only [resAV, rvV, List.map_cons, List.map_nil, ↓R1, RR, seval, q0, q1, q2, q3, q4, hw, hd, hw1, hw2]
        (repeat' (first | exact wk_refl _ | exact wk_nils | exact wk_tsl _ _ _ | exact wk_full _ _ | exact wkL.nil | exact wkL_refl _ | refine wk_tup ?_ | refine wk_agg ?_ | refine wkL.cons ?_ ?_))
end Go.Proofs.YtncadbcjikekhaaGreatDoor
namespace Go.Proofs.YtncadbcjikekhaaGreatDoor
open Go.Abs Go.Lib
set_option linter.all false
set_option maxRecDepth 100000
theorem cP_one (l : List Pl) {k : Nat} (h : k < l.length) : ((l.flatMap cP).drop (k * 2 * 1)).take 1 = [.int .i64 (l[k]).p] ∧ ((l.flatMap cP).drop ((k * 2 + 1) * 1)).take 1 = [.int .i64 (l[k]).a] := by
  have hd := cP_get l h
  have hlen := cP_len l
  rw [Nat.mul_one, Nat.mul_one]
  have e : (l.flatMap cP).drop (k * 2) = .int .i64 (l[k]).p :: .int .i64 (l[k]).a :: (l.flatMap cP).drop (k * 2 + 2) := by
    have h1 := (List.take_append_drop 2 ((l.flatMap cP).drop (k * 2))).symm
    rw [hd, List.drop_drop] at h1
    exact h1
  refine ⟨by rw [e]; rfl, ?_⟩
  rw [← List.drop_drop, e]; rfl
set_option maxHeartbeats 2000000 in
theorem p41 (fb : Bool) (l : List Pl) (hl : l.length ≤ 1000000) : Pu Tryz.prog 41 [.sl fb (l.length * 2) (l.flatMap cP)] (.agg [.sl false l.length (l.flatMap cP)]) := by
  have q1 : True := trivial
  have hw : True := trivial
  have hw1 : True := trivial
  have hw2 : True := trivial
  have hd : True := trivial
  have hd2 : True := trivial
  (refine Pu_intro c41 b41 (Nat.le_of_ble_eq_true rfl) fun σ => ?_; simp only [c41, ↓R1, RR, seval, q1, hw, hw1, hw2, hd, hd2])
  repeat' (first | (with_reducible rw [allocV_eq]) | (with_reducible refine And.intro ?_ ?_; focus (intros; (repeat' (with_reducible apply And.intro)) <;> first | omega | (simp only [RZ, cP_len, cI_len]; omega))) | (with_reducible apply And.intro) | ((first | (refine gdV_split (fun hc => ?_) (fun hc => ?_) <;> (try simp only [hc, ↓R1, RR, seval, q1, hw, hw1, hw2, hd, hd2])) | refine condV_split (fun hc => ?_) (fun hc => ?_) | (with_reducible intro β hβ; (try simp only [RB] at hβ); (repeat (obtain ⟨⟨_, _⟩, hβ⟩ := hβ)); (try (have hbis := apart_is (by assumption) hβ; obtain ⟨_, _⟩ := hbis))) | ((first | (refine appD_tslK (.inr rfl) rfl ?_ ?_ ?_ ?_ ?_ ?_; (first | rfl | exact St.tip_same _ _ _ | (simp only [↓R1, RR, seval, q1, hw, hw1, hw2, hd, hd2])); (first | omega | (simp only [RZ, cP_len, cI_len, List.length_nil, List.length_cons]; omega) | (simp only [RZ, cP_len, cI_len, List.length_nil, List.length_cons])); (first | rfl | first | omega | (simp only [RZ, cP_len, cI_len, List.length_nil, List.length_cons]; omega) | (simp only [RZ, cP_len, cI_len, List.length_nil, List.length_cons]))) | (refine appV_tslK rfl ?_ ?_ ?_ ?_ ?_ ?_; (first | rfl | exact St.tip_same _ _ _ | (simp only [↓R1, RR, seval, q1, hw, hw1, hw2, hd, hd2])); (first | omega | (simp only [RZ, cP_len, cI_len, List.length_nil, List.length_cons]; omega) | (simp only [RZ, cP_len, cI_len, List.length_nil, List.length_cons])); (first | rfl | first | omega | (simp only [RZ, cP_len, cI_len, List.length_nil, List.length_cons]; omega) | (simp only [RZ, cP_len, cI_len, List.length_nil, List.length_cons]))) | (refine appV_own ?_ ?_ ?_ ?_; exact flat_len (by intro _; rfl) _) | (refine appD_own ?_ ?_ ?_ ?_ ?_; omega; exact flat_len (by intro _; rfl) _) | (refine appV_fresh rfl trivial rfl ?_ ?_ ?_ ?_ ?_; (first | rfl | first | omega | (simp only [RZ, cP_len, cI_len, List.length_nil, List.length_cons]; omega) | (simp only [RZ, cP_len, cI_len, List.length_nil, List.length_cons])); (first | rfl | first | omega | (simp only [RZ, cP_len, cI_len, List.length_nil, List.length_cons]; omega) | (simp only [RZ, cP_len, cI_len, List.length_nil, List.length_cons]))) | (refine appD_fresh rfl trivial rfl ?_ ?_ ?_ ?_ ?_ ?_; omega; (first | rfl | first | omega | (simp only [RZ, cP_len, cI_len, List.length_nil, List.length_cons]; omega) | (simp only [RZ, cP_len, cI_len, List.length_nil, List.length_cons])); (first | rfl | first | omega | (simp only [RZ, cP_len, cI_len, List.length_nil, List.length_cons]; omega) | (simp only [RZ, cP_len, cI_len, List.length_nil, List.length_cons])))); (unfold maxLen; omega); omega)) <;> (try simp only [↓R1, RR, seval, q1, hw, hw1, hw2, hd, hd2])))
  rename_i b2 hb2 a1 a2
  refine loopV_forBx l.length 3 0 70 2 (β := β) rfl (by simp only [↓R1, RR, seval, q1, hw, hw1, hw2, hd, hd2]; rfl) rfl
    (fun τ k => [(0, .sl fb (l.length * 2) (l.flatMap cP)), (2, .ptr b2 0), (3, .ptr β 0), (4, .int .i64 ((k * 2 : Nat) : Int))])
    (fun τ k => ((σ.setBox b2 [.nils]).setBox β [.tsl τ k ((l.take k).flatMap cP)]).setTip τ (70, 2, k)) (fun k => True) trivial (fun τ => by simp [subF, slot, wk_refl]) (fun τ hτ => by simp only [List.set_cons_zero, List.take_zero, List.map_nil, List.flatMap_nil, ↓R1, RR, seval, q1, hw, hw1, hw2, hd, hd2]; exact St.le_refl _) (fun τ hτ k hk _ => ?_)
  have hτ : σ.tip τ = none := by first | exact hτ | (simp only [St.tip_set, St.tip_noneA, ↓R1, RR, seval, q1, hw, hw1, hw2, hd, hd2] at hτ; first | exact hτ | exact hτ.2 | exact hτ.1)
  have hw1 : IntKind.i64.wrap (((k * 2 : Nat) : Int) + 1) = ((k * 2 + 1 : Nat) : Int) := by rw [wrap64 (by omega) (by omega)]; omega
  by_cases hlt : k < l.length
  · have q1 : decide (((k * 2 + 1 : Nat) : Int) < ((l.length * 2 : Nat) : Int)) = true := by rw [decide_eq_true_eq]; omega
    obtain ⟨hd, hd2⟩ := cP_one l hlt
    have hcl := cP_len l
    have hw2 : IntKind.i64.wrap (((k * 2 : Nat) : Int) + 2) = (((k + 1) * 2 : Nat) : Int) := by rw [wrap64 (by omega) (by omega)]; omega
    have hs : (l.take k).flatMap cP ++ [.int .i64 (l[k]).p, .int .i64 (l[k]).a] = (l.take (k + 1)).flatMap cP := flat_step (f := cP) hlt
    have hcl2 : ((l.take k).flatMap cP).length = k * 2 := by rw [cP_len]; simp; omega
    simp only [q1, ↓R1, RR, seval, q1, hw, hw1, hw2, hd, hd2]
    repeat' (first | (with_reducible rw [allocV_eq]) | (with_reducible refine And.intro ?_ ?_; focus (intros; (repeat' (with_reducible apply And.intro)) <;> first | omega | (simp only [RZ, cP_len, cI_len]; omega))) | (with_reducible apply And.intro) | ((first | (refine gdV_split (fun hc => ?_) (fun hc => ?_) <;> (try simp only [hc, ↓R1, RR, seval, q1, hw, hw1, hw2, hd, hd2])) | refine condV_split (fun hc => ?_) (fun hc => ?_) | (with_reducible intro β hβ; (try simp only [RB] at hβ); (repeat (obtain ⟨⟨_, _⟩, hβ⟩ := hβ)); (try (have hbis := apart_is (by assumption) hβ; obtain ⟨_, _⟩ := hbis))) | ((first | (refine appD_tslK (.inr rfl) rfl ?_ ?_ ?_ ?_ ?_ ?_; (first | rfl | exact St.tip_same _ _ _ | (simp only [↓R1, RR, seval, q1, hw, hw1, hw2, hd, hd2])); (first | omega | (simp only [RZ, cP_len, cI_len, List.length_nil, List.length_cons]; omega) | (simp only [RZ, cP_len, cI_len, List.length_nil, List.length_cons])); (first | rfl | first | omega | (simp only [RZ, cP_len, cI_len, List.length_nil, List.length_cons]; omega) | (simp only [RZ, cP_len, cI_len, List.length_nil, List.length_cons]))) | (refine appV_tslK rfl ?_ ?_ ?_ ?_ ?_ ?_; (first | rfl | exact St.tip_same _ _ _ | (simp only [↓R1, RR, seval, q1, hw, hw1, hw2, hd, hd2])); (first | omega | (simp only [RZ, cP_len, cI_len, List.length_nil, List.length_cons]; omega) | (simp only [RZ, cP_len, cI_len, List.length_nil, List.length_cons])); (first | rfl | first | omega | (simp only [RZ, cP_len, cI_len, List.length_nil, List.length_cons]; omega) | (simp only [RZ, cP_len, cI_len, List.length_nil, List.length_cons]))) | (refine appV_own ?_ ?_ ?_ ?_; exact flat_len (by intro _; rfl) _) | (refine appD_own ?_ ?_ ?_ ?_ ?_; omega; exact flat_len (by intro _; rfl) _) | (refine appV_fresh rfl trivial rfl ?_ ?_ ?_ ?_ ?_; (first | rfl | first | omega | (simp only [RZ, cP_len, cI_len, List.length_nil, List.length_cons]; omega) | (simp only [RZ, cP_len, cI_len, List.length_nil, List.length_cons])); (first | rfl | first | omega | (simp only [RZ, cP_len, cI_len, List.length_nil, List.length_cons]; omega) | (simp only [RZ, cP_len, cI_len, List.length_nil, List.length_cons]))) | (refine appD_fresh rfl trivial rfl ?_ ?_ ?_ ?_ ?_ ?_; omega; (first | rfl | first | omega | (simp only [RZ, cP_len, cI_len, List.length_nil, List.length_cons]; omega) | (simp only [RZ, cP_len, cI_len, List.length_nil, List.length_cons])); (first | rfl | first | omega | (simp only [RZ, cP_len, cI_len, List.length_nil, List.length_cons]; omega) | (simp only [RZ, cP_len, cI_len, List.length_nil, List.length_cons])))); (unfold maxLen; omega); omega)) <;> (try simp only [↓R1, RR, seval, q1, hw, hw1, hw2, hd, hd2])))
    · simp [subF, slot, wk_refl]
    · rw [hs]; exact St.le_refl _
  · have hke : k = l.length := by omega
    subst hke
    have q1 : decide (((l.length * 2 + 1 : Nat) : Int) < ((l.length * 2 : Nat) : Int)) = false := by rw [decide_eq_false_iff_not]; omega
    rw [List.take_length]
    simp only [q1, ↓R1, RR, seval, q1, hw, hw1, hw2, hd, hd2]
    repeat' (first | (with_reducible rw [allocV_eq]) | (with_reducible refine And.intro ?_ ?_; focus (intros; (repeat' (with_reducible apply And.intro)) <;> first | omega | (simp only [RZ, cP_len, cI_len]; omega))) | (with_reducible apply And.intro) | ((first | (refine gdV_split (fun hc => ?_) (fun hc => ?_) <;> (try simp only [hc, ↓R1, RR, seval, q1, hw, hw1, hw2, hd, hd2])) | refine condV_split (fun hc => ?_) (fun hc => ?_) | (with_reducible intro β hβ; (try simp only [RB] at hβ); (repeat (obtain ⟨⟨_, _⟩, hβ⟩ := hβ)); (try (have hbis := apart_is (by assumption) hβ; obtain ⟨_, _⟩ := hbis))) | ((first | (refine appD_tslK (.inr rfl) rfl ?_ ?_ ?_ ?_ ?_ ?_; (first | rfl | exact St.tip_same _ _ _ | (simp only [↓R1, RR, seval, q1, hw, hw1, hw2, hd, hd2])); (first | omega | (simp only [RZ, cP_len, cI_len, List.length_nil, List.length_cons]; omega) | (simp only [RZ, cP_len, cI_len, List.length_nil, List.length_cons])); (first | rfl | first | omega | (simp only [RZ, cP_len, cI_len, List.length_nil, List.length_cons]; omega) | (simp only [RZ, cP_len, cI_len, List.length_nil, List.length_cons]))) | (refine appV_tslK rfl ?_ ?_ ?_ ?_ ?_ ?_; (first | rfl | exact St.tip_same _ _ _ | (simp only [↓R1, RR, seval, q1, hw, hw1, hw2, hd, hd2])); (first | omega | (simp only [RZ, cP_len, cI_len, List.length_nil, List.length_cons]; omega) | (simp only [RZ, cP_len, cI_len, List.length_nil, List.length_cons])); (first | rfl | first | omega | (simp only [RZ, cP_len, cI_len, List.length_nil, List.length_cons]; omega) | (simp only [RZ, cP_len, cI_len, List.length_nil, List.length_cons]))) | (refine appV_own ?_ ?_ ?_ ?_; exact flat_len (by intro _; rfl) _) | (refine appD_own ?_ ?_ ?_ ?_ ?_; omega; exact flat_len (by intro _; rfl) _) | (refine appV_fresh rfl trivial rfl ?_ ?_ ?_ ?_ ?_; (first | rfl | first | omega | (simp only [RZ, cP_len, cI_len, List.length_nil, List.length_cons]; omega) | (simp only [RZ, cP_len, cI_len, List.length_nil, List.length_cons])); (first | rfl | first | omega | (simp only [RZ, cP_len, cI_len, List.length_nil, List.length_cons]; omega) | (simp only [RZ, cP_len, cI_len, List.length_nil, List.length_cons]))) | (refine appD_fresh rfl trivial rfl ?_ ?_ ?_ ?_ ?_ ?_; omega; (first | rfl | first | omega | (simp only [RZ, cP_len, cI_len, List.length_nil, List.length_cons]; omega) | (simp only [RZ, cP_len, cI_len, List.length_nil, List.length_cons])); (first | rfl | first | omega | (simp only [RZ, cP_len, cI_len, List.length_nil, List.length_cons]; omega) | (simp only [RZ, cP_len, cI_len, List.length_nil, List.length_cons])))); (unfold maxLen; omega); omega)) <;> (try simp only [↓R1, RR, seval, q1, hw, hw1, hw2, hd, hd2])))
    (refine endP_pu (by simp) (by first | (simp [rvsS, rvS]; done) | (simp only [rvsS, rvS, ↓R1, RR, seval, q1, hw, hw1, hw2, hd, hd2]; try simp)) ?_ (by (repeat (first | exact St.le_refl _ | (refine St.le_new ?_ (by assumption)) | (refine St.le_newT ?_ (by assumption))))))
    simp only [resAV, rvV, List.map_cons, List.map_nil, ↓R1, RR, seval, q1, hw, hw1, hw2, hd, hd2]
    (repeat' (first | exact wk_refl _ | exact wk_nils | exact wk_tsl _ _ _ | exact wk_full _ _ | exact wkL.nil | exact wkL_refl _ | refine wk_tup ?_ | refine wk_agg ?_ | refine wkL.cons ?_ ?_))
def twoL : List Stt := [⟨0, 0, 0, 0, 0, 0⟩, ⟨2, 7, 0, 0, 0, 0⟩]
theorem p42 : Pu Tryz.prog 42 [] (.sl true 2 (twoL.flatMap cSt)) := by
  (refine Pu_intro c42 b42 (Nat.le_of_ble_eq_true rfl) fun σ => ?_; simp only [c42, ↓R1, RR, seval])
  repeat' (first | (with_reducible rw [allocV_eq]) | (with_reducible refine And.intro ?_ ?_; focus (intros; (repeat' (with_reducible apply And.intro)) <;> first | omega | (simp only [RZ, cP_len, cI_len]; omega))) | (with_reducible apply And.intro) | ((first | (refine gdV_split (fun hc => ?_) (fun hc => ?_) <;> (try simp only [hc, ↓R1, RR, seval])) | refine condV_split (fun hc => ?_) (fun hc => ?_) | (with_reducible intro β hβ; (try simp only [RB] at hβ); (repeat (obtain ⟨⟨_, _⟩, hβ⟩ := hβ)); (try (have hbis := apart_is (by assumption) hβ; obtain ⟨_, _⟩ := hbis)))) <;> (try simp only [↓R1, RR, seval])))
  (refine endP_pu (by simp) (by first | (simp [rvsS, rvS]; done) | (simp only [rvsS, rvS, ↓R1, RR, seval]; try simp)) (wk_of_eq ?_) (by (repeat (first | exact St.le_refl _ | (refine St.le_new ?_ (by assumption)) | (refine St.le_newT ?_ (by assumption))))))
  (simp only [resAV, rvV, List.map_cons, List.map_nil, ↓R1, RR, seval])
  rfl
theorem p43 (x : It) (ox : OkIt x) (t : List UInt8) : PuG Tryz.prog gl3 43 [.agg (itL x), .str t] (.bool ((rightS x == 0) && ((bif rightS x == 0 then itemS x else []) == t))) := by
  have h := p11 x ox
  simp only [itemV, itL] at h
  (refine PuG_intro c43 b43 (Nat.le_of_ble_eq_true rfl) fun σ hσ => ?_; simp only [c43, ↓R1, RR, seval])
  simp only [itL, ↓R1, RR, seval]
  repeat' (first | (with_reducible rw [allocV_eq]) | (with_reducible refine And.intro ?_ ?_; focus (intros; (repeat' (with_reducible apply And.intro)) <;> first | omega | (simp only [RZ, cP_len, cI_len]; omega))) | (with_reducible apply And.intro) | ((first | (refine gdV_split (fun hc => ?_) (fun hc => ?_) <;> (try simp only [hc, ↓R1, RR, seval])) | refine condV_split (fun hc => ?_) (fun hc => ?_) | (with_reducible intro β hβ; (try simp only [RB] at hβ); (repeat (obtain ⟨⟨_, _⟩, hβ⟩ := hβ)); (try (have hbis := apart_is (by assumption) hβ; obtain ⟨_, _⟩ := hbis))) | refine PuG.to (h) hσ (wkL_refl _) ?_) <;> (try simp only [↓R1, RR, seval])))
  (refine endP_pu (by simp) (by first | (simp [rvsS, rvS]; done) | (simp only [rvsS, rvS, ↓R1, RR, seval]; try simp)) (wk_of_eq ?_) (by (repeat (first | exact St.le_refl _ | (refine St.le_new ?_ (by assumption)) | (refine St.le_newT ?_ (by assumption))))))
  (simp only [resAV, rvV, List.map_cons, List.map_nil, ↓R1, RR, seval])
theorem p44 (a b : List Pl) (ha : a.length ≤ 1000000) (hb : b.length ≤ 1000000) (n : Int) : Pu Tryz.prog 44 [.agg [.sl false a.length (a.flatMap cP)], .agg [.sl false b.length (b.flatMap cP)], .int .i64 n] (.bool ((cmpE a b == 0) && (cmpX a b == n))) := by
  have h := p24 a b ha hb
  (refine Pu_intro c44 b44 (Nat.le_of_ble_eq_true rfl) fun σ => ?_; simp only [c44, ↓R1, RR, seval])
  repeat' (first | (with_reducible rw [allocV_eq]) | (with_reducible refine And.intro ?_ ?_; focus (intros; (repeat' (with_reducible apply And.intro)) <;> first | omega | (simp only [RZ, cP_len, cI_len]; omega))) | (with_reducible apply And.intro) | ((first | (refine gdV_split (fun hc => ?_) (fun hc => ?_) <;> (try simp only [hc, ↓R1, RR, seval])) | refine condV_split (fun hc => ?_) (fun hc => ?_) | (with_reducible intro β hβ; (try simp only [RB] at hβ); (repeat (obtain ⟨⟨_, _⟩, hβ⟩ := hβ)); (try (have hbis := apart_is (by assumption) hβ; obtain ⟨_, _⟩ := hbis))) | refine Pt (h) ?_ | refine Ct (h) ?_) <;> (try simp only [↓R1, RR, seval])))
  (refine endP_pu (by simp) (by first | (simp [rvsS, rvS]; done) | (simp only [rvsS, rvS, ↓R1, RR, seval]; try simp)) (wk_of_eq ?_) (by (repeat (first | exact St.le_refl _ | (refine St.le_new ?_ (by assumption)) | (refine St.le_newT ?_ (by assumption))))))
  (simp only [resAV, rvV, List.map_cons, List.map_nil, ↓R1, RR, seval])
end Go.Proofs.YtncadbcjikekhaaGreatDoor
namespace Go.Proofs.YtncadbcjikekhaaGreatDoor
open Go.Abs Go.Lib
set_option linter.all false
set_option maxRecDepth 100000
def xA : It := fndI 2 [⟨1, 0⟩] twoL [5, -3] 0
def tA : List UInt8 := [102, 111, 117, 110, 100, 32, 50, 32, 123, 49, 125, 35, 55, 58, 48, 32, 61, 32, 53, 32, 45, 51]
def sA : List UInt8 := [48, 58, 48, 32, 51, 58, 49]
theorem a_found : fndE 2 [⟨1, 0⟩] twoL [5, -3] 0 = 0 ∧ rightS xA = 0 := by decide +kernel
theorem a_parse : parE sA = 0 ∧ (partsL sA 32).map pwPl = [⟨0, 0⟩, ⟨3, 1⟩] := by decide +kernel
theorem a_text : itemS xA = tA := by decide +kernel
theorem a_cmp : (cmpE [⟨0, 0⟩, ⟨3, 1⟩] [⟨1, 0⟩, ⟨2, 1⟩] = 0 ∧ cmpX [⟨0, 0⟩, ⟨3, 1⟩] [⟨1, 0⟩, ⟨2, 1⟩] = 1) ∧ cmpE [⟨0, 0⟩] [⟨0, 1⟩] = 0 ∧ cmpX [⟨0, 0⟩] [⟨0, 1⟩] = -1 := by decide +kernel
theorem okA : OkIt xA := by
  refine ⟨?_, ?_, ?_, ?_, ?_, ?_, by decide, by decide, by decide⟩ <;> simp [xA, fndI, twoL, evId, U64, I64]
theorem awake_pu : PuG Tryz.prog gl3 9 [] (.bool true) := by
  have h1 := p41 true [⟨1, 0⟩] (by simp)
  have h2 := p42
  have h3 := p15 2 [⟨1, 0⟩] twoL [5, -3] 0 (by simp) (by simp [twoL]) (by simp)
  have h4 := p33 sA (by simp [sA])
  have h5 := p43 xA okA tA
  have h6 := p41 true [⟨0, 0⟩, ⟨3, 1⟩] (by simp)
  have h7 := p20 [⟨0, 0⟩, ⟨3, 1⟩] [⟨0, 0⟩, ⟨3, 1⟩] (by simp) (by simp)
  have h8 := p41 true [⟨1, 0⟩, ⟨2, 1⟩] (by simp)
  have h9 := p44 [⟨0, 0⟩, ⟨3, 1⟩] [⟨1, 0⟩, ⟨2, 1⟩] (by simp) (by simp) 1
  have h10 := p41 true [⟨0, 0⟩] (by simp)
  have h11 := p41 true [⟨0, 1⟩] (by simp)
  have h12 := p44 [⟨0, 0⟩] [⟨0, 1⟩] (by simp) (by simp) (-1)
  have hC : fndC 2 [⟨1, 0⟩] twoL [5, -3] 0 = itL xA := by unfold fndC; rw [a_found.1]; rfl
  have hL : parL sA = [⟨0, 0⟩, ⟨3, 1⟩] := by unfold parL; rw [a_parse.1, a_parse.2]; rfl
  rw [hC, a_found.1] at h3
  rw [hL, a_parse.1] at h4
  rw [a_found.2, a_text] at h5
  rw [a_cmp.1.1, a_cmp.1.2] at h9
  rw [a_cmp.2.1, a_cmp.2.2] at h12
  rw [decide_eq_true rfl] at h7
  simp only [itL, beq_self_eq_true, cond_true, Bool.and_self] at h3 h5 h9 h12
  (refine PuG_intro c9 b9 (Nat.le_of_ble_eq_true rfl) fun σ hσ => ?_; simp only [c9, ↓R1, RR, seval])
  repeat' (first | (with_reducible rw [allocV_eq]) | (with_reducible refine And.intro ?_ ?_; focus (intros; (repeat' (with_reducible apply And.intro)) <;> first | omega | (simp only [RZ, cP_len, cI_len]; omega))) | (with_reducible apply And.intro) | ((first | (refine gdV_split (fun hc => ?_) (fun hc => ?_) <;> (try simp only [hc, ↓R1, RR, seval])) | refine condV_split (fun hc => ?_) (fun hc => ?_) | (with_reducible intro β hβ; (try simp only [RB] at hβ); (repeat (obtain ⟨⟨_, _⟩, hβ⟩ := hβ)); (try (have hbis := apart_is (by assumption) hβ; obtain ⟨_, _⟩ := hbis))) | refine Pt (h1) ?_ | refine Ct (h1) ?_ | refine Pt (h2) ?_ | refine Ct (h2) ?_ | refine Pt (h4) ?_ | refine Ct (h4) ?_ | (refine callGV_puG hσ (fun hgv => ⟨?_, (h5), wkL_refl _⟩) ?_; (first | trivial | (focus (simp only [↓R1, RR, seval]; done)))) | (refine callGV_pu (fun hgv => ⟨?_, (h6), wkL_refl _⟩) ?_; (first | trivial | (focus (simp only [↓R1, RR, seval]; done)))) | (refine callGV_pu (fun hgv => ⟨?_, (h7), wkL_refl _⟩) ?_; (first | trivial | (focus (simp only [↓R1, RR, seval]; done)))) | (refine callGV_pu (fun hgv => ⟨?_, (h8), wkL_refl _⟩) ?_; (first | trivial | (focus (simp only [↓R1, RR, seval]; done)))) | (refine callGV_pu (fun hgv => ⟨?_, (h9), wkL_refl _⟩) ?_; (first | trivial | (focus (simp only [↓R1, RR, seval]; done)))) | (refine callGV_pu (fun hgv => ⟨?_, (h10), wkL_refl _⟩) ?_; (first | trivial | (focus (simp only [↓R1, RR, seval]; done)))) | (refine callGV_pu (fun hgv => ⟨?_, (h11), wkL_refl _⟩) ?_; (first | trivial | (focus (simp only [↓R1, RR, seval]; done)))) | (refine callGV_pu (fun hgv => ⟨?_, (h12), wkL_refl _⟩) ?_; (first | trivial | (focus (simp only [↓R1, RR, seval]; done)))) | (refine Pu.to (h3) ?_ ?_; (focus ((repeat' (first | exact wk_refl _ | exact wk_nils | exact wk_tsl _ _ _ | exact wk_full _ _ | exact wkL.nil | exact wkL_refl _ | refine wk_tup ?_ | refine wk_agg ?_ | refine wkL.cons ?_ ?_)); done)))) <;> (try simp only [↓R1, RR, seval])))
  (refine endP_pu (by simp) (by first | (simp [rvsS, rvS]; done) | (simp only [rvsS, rvS, ↓R1, RR, seval]; try simp)) (wk_of_eq ?_) (by (repeat (first | exact St.le_refl _ | (refine St.le_new ?_ (by assumption)) | (refine St.le_newT ?_ (by assumption))))))
  (simp only [resAV, rvV, List.map_cons, List.map_nil, ↓R1, RR, seval])
end Go.Proofs.YtncadbcjikekhaaGreatDoor
namespace Go.Proofs.YtncadbcjikekhaaGreatDoor
open Go.Abs
set_option linter.all false
def tdPl : TD := .cons (.int .i64) (.cons (.int .i64) .nil)
def tdMa : TD := .cons (.sl tdPl) .nil
theorem has_pl (l : List AV) (h : tdPl.Has l) : ∃ y, l = cP y ∧ True := by
  obtain ⟨_, _, rfl, ⟨a, rfl, _⟩, _, _, rfl, ⟨b, rfl, _⟩, rfl⟩ := h
  exact ⟨⟨a, b⟩, by simp [cP], trivial⟩
def cMa (l : List Pl) : List AV := [.sl false l.length (l.flatMap cP)]
theorem has_ma (l : List AV) (h : tdMa.Has l) : ∃ y, l = cMa y ∧ True := by
  obtain ⟨_, _, rfl, h1, rfl⟩ := h
  obtain ⟨x, rfl, _⟩ := has_list has_pl h1
  exact ⟨x, by simp [cMa, sl], trivial⟩
end Go.Proofs.YtncadbcjikekhaaGreatDoor
namespace Go.Proofs.YtncadbcjikekhaaGreatDoor
open Go.Abs
set_option linter.all false
set_option maxRecDepth 100000
theorem sortV_cases (ls : List (List Pl)) : ∃ A e, sortV ls = .tup [A, .int .i64 e] ∧ (A = .nils ∨ A = .sl false ls.length ((isort cmpM ls).map cM)) := by
  by_cases h : badS ls = 0
  · exact ⟨_, 0, if_pos h, .inr rfl⟩
  · exact ⟨_, badS ls, if_neg h, .inl rfl⟩
theorem take_cM (ls : List (List Pl)) {k : Nat} (h : k < ls.length) : (ls.take k).map cM ++ [cM ls[k]] = (ls.take (k + 1)).map cM := by
  rw [List.take_succ_eq_append_getElem h, List.map_append]; rfl
theorem posR_len (m : List Pl) (h : m.length ≤ 14) : (posR m).length ≤ maxLen := by
  unfold posR posL maxLen
  cases checkS m == 0 <;> simp
  omega
set_option maxHeartbeats 8000000 in
theorem law_MatchSorts (ls : List (List Pl)) (hl : ls.length ≤ maxLen) : PuG Tryz.prog gl3 4 [.sl false ls.length (ls.map cM)] (.bool true) := by
  have q0 : True := trivial
  have q1 : True := trivial
  have q2 : True := trivial
  have q3 : True := trivial
  have q4 : True := trivial
  have q5 : True := trivial
  have hw : True := trivial
  have hw2 : True := trivial
  have hd : True := trivial
  have hd2 : True := trivial
  have hd3 : True := trivial
  have hd4 : True := trivial
  have aw := awake_pu
  obtain ⟨b, hL, hb⟩ := p21 ls hl
  cases b with
  | false =>
    (refine PuG_intro c4 b4 (Nat.le_of_ble_eq_true rfl) fun σ hσ => ?_; simp only [c4, ↓R1, RR, seval, q0, q1, q2, q3, q4, q5, hw, hw2, hd, hd2, hd3, hd4, bne_self_eq_false, beq_self_eq_true])
    repeat' (first | (with_reducible rw [allocV_eq]) | (with_reducible refine And.intro ?_ ?_; focus (intros; (repeat' (with_reducible apply And.intro)) <;> first | omega | (simp only [RZ, cells_len, cP_len, cI_len]; omega))) | (with_reducible apply And.intro) | ((first | (refine gdV_split (fun hc => ?_) (fun hc => ?_) <;> (try simp only [hc, ↓R1, RR, seval, q0, q1, q2, q3, q4, q5, hw, hw2, hd, hd2, hd3, hd4, bne_self_eq_false, beq_self_eq_true])) | refine condV_split (fun hc => ?_) (fun hc => ?_) | (with_reducible intro β hβ; (try simp only [RB] at hβ); (repeat (obtain ⟨⟨_, _⟩, hβ⟩ := hβ)); (try (have hbis := apart_is (by assumption) hβ; obtain ⟨_, _⟩ := hbis))) | ((first | (refine appD_tslK (.inr rfl) rfl ?_ ?_ ?_ ?_ ?_ ?_; (first | rfl | exact St.tip_same _ _ _ | (simp only [↓R1, RR, seval, q0, q1, q2, q3, q4, q5, hw, hw2, hd, hd2, hd3, hd4, bne_self_eq_false, beq_self_eq_true])); (first | omega | (simp only [RZ, cells_len, cP_len, cI_len, List.length_nil, List.length_cons]; omega) | (simp only [RZ, cells_len, cP_len, cI_len, List.length_nil, List.length_cons])); (first | rfl | first | omega | (simp only [RZ, cells_len, cP_len, cI_len, List.length_nil, List.length_cons]; omega) | (simp only [RZ, cells_len, cP_len, cI_len, List.length_nil, List.length_cons]))) | (refine appV_tslK rfl ?_ ?_ ?_ ?_ ?_ ?_; (first | rfl | exact St.tip_same _ _ _ | (simp only [↓R1, RR, seval, q0, q1, q2, q3, q4, q5, hw, hw2, hd, hd2, hd3, hd4, bne_self_eq_false, beq_self_eq_true])); (first | omega | (simp only [RZ, cells_len, cP_len, cI_len, List.length_nil, List.length_cons]; omega) | (simp only [RZ, cells_len, cP_len, cI_len, List.length_nil, List.length_cons])); (first | rfl | first | omega | (simp only [RZ, cells_len, cP_len, cI_len, List.length_nil, List.length_cons]; omega) | (simp only [RZ, cells_len, cP_len, cI_len, List.length_nil, List.length_cons]))) | (refine appV_own ?_ ?_ ?_ ?_; exact flat_len (by intro _; rfl) _) | (refine appD_own ?_ ?_ ?_ ?_ ?_; omega; exact flat_len (by intro _; rfl) _) | (refine appV_fresh rfl trivial rfl ?_ ?_ ?_ ?_ ?_; (first | rfl | first | omega | (simp only [RZ, cells_len, cP_len, cI_len, List.length_nil, List.length_cons]; omega) | (simp only [RZ, cells_len, cP_len, cI_len, List.length_nil, List.length_cons])); (first | rfl | first | omega | (simp only [RZ, cells_len, cP_len, cI_len, List.length_nil, List.length_cons]; omega) | (simp only [RZ, cells_len, cP_len, cI_len, List.length_nil, List.length_cons]))) | (refine appD_fresh rfl trivial rfl ?_ ?_ ?_ ?_ ?_ ?_; omega; (first | rfl | first | omega | (simp only [RZ, cells_len, cP_len, cI_len, List.length_nil, List.length_cons]; omega) | (simp only [RZ, cells_len, cP_len, cI_len, List.length_nil, List.length_cons])); (first | rfl | first | omega | (simp only [RZ, cells_len, cP_len, cI_len, List.length_nil, List.length_cons]; omega) | (simp only [RZ, cells_len, cP_len, cI_len, List.length_nil, List.length_cons])))); (unfold maxLen; omega); omega) | refine Pt (hL) ?_ | refine Ct (hL) ?_ | refine PuG.to (aw) hσ (wkL_refl _) ?_) <;> (try simp only [↓R1, RR, seval, q0, q1, q2, q3, q4, q5, hw, hw2, hd, hd2, hd3, hd4, bne_self_eq_false, beq_self_eq_true])))
    (refine endP_pu (by simp) (by first | (simp [rvsS, rvS]; done) | (simp only [rvsS, rvS, ↓R1, RR, seval, q0, q1, q2, q3, q4, q5, hw, hw2, hd, hd2, hd3, hd4, bne_self_eq_false, beq_self_eq_true]; try simp)) (wk_of_eq ?_) (by (repeat (first | exact St.le_refl _ | (refine St.le_new ?_ (by assumption)) | (refine St.le_newT ?_ (by assumption))))))
    (simp only [resAV, rvV, List.map_cons, List.map_nil, ↓R1, RR, seval, q0, q1, q2, q3, q4, q5, hw, hw2, hd, hd2, hd3, hd4, bne_self_eq_false, beq_self_eq_true])
  | true =>
    obtain ⟨h30, h14⟩ := hb rfl
    have hS1 := sort30 ls (by omega) (fun l h => by have := h14 l h; omega)
    have hS2 := rsort30 ls (by omega) (fun l h => by have := h14 l h; omega)
    obtain ⟨A, e, hS, hA⟩ := sortV_cases ls
    rw [hS] at hS1 hS2
    have hal := isort_len cmpM ls
    have hperm := isort_perm cmpM ls
    obtain ⟨n, hn⟩ : ∃ n, ls.length = n := ⟨_, rfl⟩
    rw [hn] at hL hS1 hS2 hA h30 hal ⊢
    clear hb hS hl
    (refine PuG_intro c4 b4 (Nat.le_of_ble_eq_true rfl) fun σ hσ => ?_; simp only [c4, ↓R1, RR, seval, q0, q1, q2, q3, q4, q5, hw, hw2, hd, hd2, hd3, hd4, bne_self_eq_false, beq_self_eq_true])
    repeat' (first | (with_reducible rw [allocV_eq]) | (with_reducible refine And.intro ?_ ?_; focus (intros; (repeat' (with_reducible apply And.intro)) <;> first | omega | (simp only [RZ, cells_len, cP_len, cI_len]; omega))) | (with_reducible apply And.intro) | ((first | (refine gdV_split (fun hc => ?_) (fun hc => ?_) <;> (try simp only [hc, ↓R1, RR, seval, q0, q1, q2, q3, q4, q5, hw, hw2, hd, hd2, hd3, hd4, bne_self_eq_false, beq_self_eq_true])) | refine condV_split (fun hc => ?_) (fun hc => ?_) | (with_reducible intro β hβ; (try simp only [RB] at hβ); (repeat (obtain ⟨⟨_, _⟩, hβ⟩ := hβ)); (try (have hbis := apart_is (by assumption) hβ; obtain ⟨_, _⟩ := hbis))) | ((first | (refine appD_tslK (.inr rfl) rfl ?_ ?_ ?_ ?_ ?_ ?_; (first | rfl | exact St.tip_same _ _ _ | (simp only [↓R1, RR, seval, q0, q1, q2, q3, q4, q5, hw, hw2, hd, hd2, hd3, hd4, bne_self_eq_false, beq_self_eq_true])); (first | omega | (simp only [RZ, cells_len, cP_len, cI_len, List.length_nil, List.length_cons]; omega) | (simp only [RZ, cells_len, cP_len, cI_len, List.length_nil, List.length_cons])); (first | rfl | first | omega | (simp only [RZ, cells_len, cP_len, cI_len, List.length_nil, List.length_cons]; omega) | (simp only [RZ, cells_len, cP_len, cI_len, List.length_nil, List.length_cons]))) | (refine appV_tslK rfl ?_ ?_ ?_ ?_ ?_ ?_; (first | rfl | exact St.tip_same _ _ _ | (simp only [↓R1, RR, seval, q0, q1, q2, q3, q4, q5, hw, hw2, hd, hd2, hd3, hd4, bne_self_eq_false, beq_self_eq_true])); (first | omega | (simp only [RZ, cells_len, cP_len, cI_len, List.length_nil, List.length_cons]; omega) | (simp only [RZ, cells_len, cP_len, cI_len, List.length_nil, List.length_cons])); (first | rfl | first | omega | (simp only [RZ, cells_len, cP_len, cI_len, List.length_nil, List.length_cons]; omega) | (simp only [RZ, cells_len, cP_len, cI_len, List.length_nil, List.length_cons]))) | (refine appV_own ?_ ?_ ?_ ?_; exact flat_len (by intro _; rfl) _) | (refine appD_own ?_ ?_ ?_ ?_ ?_; omega; exact flat_len (by intro _; rfl) _) | (refine appV_fresh rfl trivial rfl ?_ ?_ ?_ ?_ ?_; (first | rfl | first | omega | (simp only [RZ, cells_len, cP_len, cI_len, List.length_nil, List.length_cons]; omega) | (simp only [RZ, cells_len, cP_len, cI_len, List.length_nil, List.length_cons])); (first | rfl | first | omega | (simp only [RZ, cells_len, cP_len, cI_len, List.length_nil, List.length_cons]; omega) | (simp only [RZ, cells_len, cP_len, cI_len, List.length_nil, List.length_cons]))) | (refine appD_fresh rfl trivial rfl ?_ ?_ ?_ ?_ ?_ ?_; omega; (first | rfl | first | omega | (simp only [RZ, cells_len, cP_len, cI_len, List.length_nil, List.length_cons]; omega) | (simp only [RZ, cells_len, cP_len, cI_len, List.length_nil, List.length_cons])); (first | rfl | first | omega | (simp only [RZ, cells_len, cP_len, cI_len, List.length_nil, List.length_cons]; omega) | (simp only [RZ, cells_len, cP_len, cI_len, List.length_nil, List.length_cons])))); (unfold maxLen; omega); omega) | refine Pt (hL) ?_ | refine Ct (hL) ?_) <;> (try simp only [↓R1, RR, seval, q0, q1, q2, q3, q4, q5, hw, hw2, hd, hd2, hd3, hd4, bne_self_eq_false, beq_self_eq_true])))
    refine loopV_forT n 3 30 1 0 [] (fun τ j => [(0, .sl false n (ls.map cM)), (3, .tsl τ j ((ls.take j).map cM)), (4, .int .i64 (j : Nat))]) (fun τ j => St.setTip _ τ (30, 1, j)) (fun _ => True) (by simp only [fresh, slot, ↓R1, RR, seval, q0, q1, q2, q3, q4, q5, hw, hw2, hd, hd2, hd3, hd4, bne_self_eq_false, beq_self_eq_true]) (by simp only [slv, slot, ↓R1, RR, seval, q0, q1, q2, q3, q4, q5, hw, hw2, hd, hd2, hd3, hd4, bne_self_eq_false, beq_self_eq_true]) trivial
      (fun τ => by simp [subF, slot, wk_refl]) (fun τ hτ => St.le_refl _) (fun τ hτ j hj _ => ?_)
    by_cases hlt : j < n
    · have q0 : decide ((j : Int) < (n : Int)) = true := by rw [decide_eq_true_eq]; omega
      have hjl : j < ls.length := by omega
      have hd2 := cM_get ls hjl
      have hd := take_cM ls hjl
      obtain ⟨m, hm⟩ : ∃ m, ls[j] = m := ⟨_, rfl⟩
      have hml : m.length ≤ 14 := h14 m (by rw [← hm]; exact List.getElem_mem hjl)
      rw [hm] at hd hd2
      have hO := p10 m (by omega)
      have hw : IntKind.i64.wrap ((j : Int) + 1) = ((j + 1 : Nat) : Int) := by rw [wrap64 (by omega) (by omega)]; omega
      have hcl : ((ls.take j).map cM).length = j * 1 := by rw [List.length_map, List.length_take]; omega
      simp only [cM] at hd hd2
      simp only [q0, ↓R1, RR, seval, q0, q1, q2, q3, q4, q5, hw, hw2, hd, hd2, hd3, hd4, bne_self_eq_false, beq_self_eq_true]
      repeat' (first | (with_reducible rw [allocV_eq]) | (with_reducible refine And.intro ?_ ?_; focus (intros; (repeat' (with_reducible apply And.intro)) <;> first | omega | (simp only [RZ, cells_len, cP_len, cI_len]; omega))) | (with_reducible apply And.intro) | ((first | (refine gdV_split (fun hc => ?_) (fun hc => ?_) <;> (try simp only [hc, ↓R1, RR, seval, q0, q1, q2, q3, q4, q5, hw, hw2, hd, hd2, hd3, hd4, bne_self_eq_false, beq_self_eq_true])) | refine condV_split (fun hc => ?_) (fun hc => ?_) | (with_reducible intro β hβ; (try simp only [RB] at hβ); (repeat (obtain ⟨⟨_, _⟩, hβ⟩ := hβ)); (try (have hbis := apart_is (by assumption) hβ; obtain ⟨_, _⟩ := hbis))) | ((first | (refine appD_tslK (.inr rfl) rfl ?_ ?_ ?_ ?_ ?_ ?_; (first | rfl | exact St.tip_same _ _ _ | (simp only [↓R1, RR, seval, q0, q1, q2, q3, q4, q5, hw, hw2, hd, hd2, hd3, hd4, bne_self_eq_false, beq_self_eq_true])); (first | omega | (simp only [RZ, cells_len, cP_len, cI_len, List.length_nil, List.length_cons]; omega) | (simp only [RZ, cells_len, cP_len, cI_len, List.length_nil, List.length_cons])); (first | rfl | first | omega | (simp only [RZ, cells_len, cP_len, cI_len, List.length_nil, List.length_cons]; omega) | (simp only [RZ, cells_len, cP_len, cI_len, List.length_nil, List.length_cons]))) | (refine appV_tslK rfl ?_ ?_ ?_ ?_ ?_ ?_; (first | rfl | exact St.tip_same _ _ _ | (simp only [↓R1, RR, seval, q0, q1, q2, q3, q4, q5, hw, hw2, hd, hd2, hd3, hd4, bne_self_eq_false, beq_self_eq_true])); (first | omega | (simp only [RZ, cells_len, cP_len, cI_len, List.length_nil, List.length_cons]; omega) | (simp only [RZ, cells_len, cP_len, cI_len, List.length_nil, List.length_cons])); (first | rfl | first | omega | (simp only [RZ, cells_len, cP_len, cI_len, List.length_nil, List.length_cons]; omega) | (simp only [RZ, cells_len, cP_len, cI_len, List.length_nil, List.length_cons]))) | (refine appV_own ?_ ?_ ?_ ?_; exact flat_len (by intro _; rfl) _) | (refine appD_own ?_ ?_ ?_ ?_ ?_; omega; exact flat_len (by intro _; rfl) _) | (refine appV_fresh rfl trivial rfl ?_ ?_ ?_ ?_ ?_; (first | rfl | first | omega | (simp only [RZ, cells_len, cP_len, cI_len, List.length_nil, List.length_cons]; omega) | (simp only [RZ, cells_len, cP_len, cI_len, List.length_nil, List.length_cons])); (first | rfl | first | omega | (simp only [RZ, cells_len, cP_len, cI_len, List.length_nil, List.length_cons]; omega) | (simp only [RZ, cells_len, cP_len, cI_len, List.length_nil, List.length_cons]))) | (refine appD_fresh rfl trivial rfl ?_ ?_ ?_ ?_ ?_ ?_; omega; (first | rfl | first | omega | (simp only [RZ, cells_len, cP_len, cI_len, List.length_nil, List.length_cons]; omega) | (simp only [RZ, cells_len, cP_len, cI_len, List.length_nil, List.length_cons])); (first | rfl | first | omega | (simp only [RZ, cells_len, cP_len, cI_len, List.length_nil, List.length_cons]; omega) | (simp only [RZ, cells_len, cP_len, cI_len, List.length_nil, List.length_cons])))); (unfold maxLen; omega); omega) | refine Pt (hO) ?_ | refine Ct (hO) ?_) <;> (try simp only [↓R1, RR, seval, q0, q1, q2, q3, q4, q5, hw, hw2, hd, hd2, hd3, hd4, bne_self_eq_false, beq_self_eq_true])))
      · simp [subF, slot, wk_refl]
      · exact St.le_refl _
    · have hje : j = n := by omega
      subst hje
      have q0 : decide ((j : Int) < (j : Int)) = false := by simp
      rw [show ls.take j = ls from List.take_of_length_le (by omega)]
      rcases hA with rfl | rfl
      · simp only [q0, ↓R1, RR, seval, q0, q1, q2, q3, q4, q5, hw, hw2, hd, hd2, hd3, hd4, bne_self_eq_false, beq_self_eq_true]
        repeat' (first | (with_reducible rw [allocV_eq]) | (with_reducible refine And.intro ?_ ?_; focus (intros; (repeat' (with_reducible apply And.intro)) <;> first | omega | (simp only [RZ, cells_len, cP_len, cI_len]; omega))) | (with_reducible apply And.intro) | ((first | (refine gdV_split (fun hc => ?_) (fun hc => ?_) <;> (try simp only [hc, ↓R1, RR, seval, q0, q1, q2, q3, q4, q5, hw, hw2, hd, hd2, hd3, hd4, bne_self_eq_false, beq_self_eq_true])) | refine condV_split (fun hc => ?_) (fun hc => ?_) | (with_reducible intro β hβ; (try simp only [RB] at hβ); (repeat (obtain ⟨⟨_, _⟩, hβ⟩ := hβ)); (try (have hbis := apart_is (by assumption) hβ; obtain ⟨_, _⟩ := hbis))) | ((first | (refine appD_tslK (.inr rfl) rfl ?_ ?_ ?_ ?_ ?_ ?_; (first | rfl | exact St.tip_same _ _ _ | (simp only [↓R1, RR, seval, q0, q1, q2, q3, q4, q5, hw, hw2, hd, hd2, hd3, hd4, bne_self_eq_false, beq_self_eq_true])); (first | omega | (simp only [RZ, cells_len, cP_len, cI_len, List.length_nil, List.length_cons]; omega) | (simp only [RZ, cells_len, cP_len, cI_len, List.length_nil, List.length_cons])); (first | rfl | first | omega | (simp only [RZ, cells_len, cP_len, cI_len, List.length_nil, List.length_cons]; omega) | (simp only [RZ, cells_len, cP_len, cI_len, List.length_nil, List.length_cons]))) | (refine appV_tslK rfl ?_ ?_ ?_ ?_ ?_ ?_; (first | rfl | exact St.tip_same _ _ _ | (simp only [↓R1, RR, seval, q0, q1, q2, q3, q4, q5, hw, hw2, hd, hd2, hd3, hd4, bne_self_eq_false, beq_self_eq_true])); (first | omega | (simp only [RZ, cells_len, cP_len, cI_len, List.length_nil, List.length_cons]; omega) | (simp only [RZ, cells_len, cP_len, cI_len, List.length_nil, List.length_cons])); (first | rfl | first | omega | (simp only [RZ, cells_len, cP_len, cI_len, List.length_nil, List.length_cons]; omega) | (simp only [RZ, cells_len, cP_len, cI_len, List.length_nil, List.length_cons]))) | (refine appV_own ?_ ?_ ?_ ?_; exact flat_len (by intro _; rfl) _) | (refine appD_own ?_ ?_ ?_ ?_ ?_; omega; exact flat_len (by intro _; rfl) _) | (refine appV_fresh rfl trivial rfl ?_ ?_ ?_ ?_ ?_; (first | rfl | first | omega | (simp only [RZ, cells_len, cP_len, cI_len, List.length_nil, List.length_cons]; omega) | (simp only [RZ, cells_len, cP_len, cI_len, List.length_nil, List.length_cons])); (first | rfl | first | omega | (simp only [RZ, cells_len, cP_len, cI_len, List.length_nil, List.length_cons]; omega) | (simp only [RZ, cells_len, cP_len, cI_len, List.length_nil, List.length_cons]))) | (refine appD_fresh rfl trivial rfl ?_ ?_ ?_ ?_ ?_ ?_; omega; (first | rfl | first | omega | (simp only [RZ, cells_len, cP_len, cI_len, List.length_nil, List.length_cons]; omega) | (simp only [RZ, cells_len, cP_len, cI_len, List.length_nil, List.length_cons])); (first | rfl | first | omega | (simp only [RZ, cells_len, cP_len, cI_len, List.length_nil, List.length_cons]; omega) | (simp only [RZ, cells_len, cP_len, cI_len, List.length_nil, List.length_cons])))); (unfold maxLen; omega); omega) | refine Pt (hS2) ?_ | refine Ct (hS2) ?_ | (refine Pu.to (hS1) ?_ ?_; (focus ((repeat' (first | exact wk_refl _ | exact wk_nils | exact wk_tsl _ _ _ | exact wk_full _ _ | exact wkL.nil | exact wkL_refl _ | refine wk_tup ?_ | refine wk_agg ?_ | refine wkL.cons ?_ ?_)); done)))) <;> (try simp only [↓R1, RR, seval, q0, q1, q2, q3, q4, q5, hw, hw2, hd, hd2, hd3, hd4, bne_self_eq_false, beq_self_eq_true])))
        refine loopV_for j (fun i => [(0, .sl false j (ls.map cM)), (3, .sl false j (ls.map cM)), (5, .nils), (7, .nils), (9, .int .i64 (i : Nat))]) (fun _ => _) (fun _ => True) (by simp [subF, slot, wk_refl, wk_tsl]) (St.le_refl _) trivial (fun i hi _ => ?_)
        by_cases hil : i < j
        · have q0 : decide ((i : Int) < (j : Int)) = true := by rw [decide_eq_true_eq]; omega
          have q4 : decide ((i : Int) < 0) = false := by rw [decide_eq_false_iff_not]; omega
          have hi1 : i < ls.length := by omega
          obtain ⟨r, hr⟩ : ∃ r, (i + 1) % j = r := ⟨_, rfl⟩
          have hrj : r < j := by rw [← hr]; exact Nat.mod_lt _ (by omega)
          have hr1 : r < ls.length := by omega
          have hw : IntKind.i64.wrap ((i : Int) + 1) = ((i + 1 : Nat) : Int) := by rw [wrap64 (by omega) (by omega)]; omega
          have hw2 : Int.tmod ((i + 1 : Nat) : Int) (j : Int) = (r : Int) := by rw [Int.tmod_eq_emod_of_nonneg (by omega), ← hr]; rfl
          have hd := cM_get ls hi1
          have hd2 := cM_get ls hr1
          obtain ⟨m, hm⟩ : ∃ m, ls[i] = m := ⟨_, rfl⟩
          obtain ⟨x, hx⟩ : ∃ x, ls[r] = x := ⟨_, rfl⟩
          have hml : m.length ≤ 14 := h14 m (by rw [← hm]; exact List.getElem_mem hi1)
          have hxl : x.length ≤ 14 := h14 x (by rw [← hx]; exact List.getElem_mem hr1)
          rw [hm] at hd
          rw [hx] at hd2
          have hO := p10 x (by omega)
          have hK1 := p24 m x (by omega) (by omega)
          have hK2 := p25 m x (by omega) (by omega)
          have hT1 := p26 m (by omega)
          have hT2 := p27 m (by omega)
          have hP1 := p28 m (by omega)
          have hP2 := p29 m (by omega)
          have hI : Pu Tryz.prog 30 [.sl false (posR m).length ((posR m).flatMap cI), .sl false (posR m).length ((posR m).flatMap cI)] (.bool true) := by
            have h := p30 (posR m) (posR m) (posR_len m (by omega))
            rw [decide_eq_true rfl] at h
            exact h
          have hC1 := p31 m (by omega)
          have hC2 := p32 m (by omega)
          have hM1 := p20 m m (by omega) (by omega)
          rw [decide_eq_true rfl] at hM1
          simp only [matchV] at hT1 hT2
          simp only [posV] at hP1 hP2
          generalize (bif checkS m == 0 then matchT m else []) = tx at *
          generalize checkS m = cm at *
          generalize cmpX m x = cx at *
          generalize cmpE m x = ce at *
          generalize posR m = P at *
          simp only [cM] at hd hd2
          simp only [q0, ↓R1, RR, seval, q0, q1, q2, q3, q4, q5, hw, hw2, hd, hd2, hd3, hd4, bne_self_eq_false, beq_self_eq_true]
          repeat' (first | (with_reducible rw [allocV_eq]) | (with_reducible refine And.intro ?_ ?_; focus (intros; (repeat' (with_reducible apply And.intro)) <;> first | omega | (simp only [RZ, cells_len, cP_len, cI_len]; omega))) | (with_reducible apply And.intro) | ((first | (refine gdV_split (fun hc => ?_) (fun hc => ?_) <;> (try simp only [hc, ↓R1, RR, seval, q0, q1, q2, q3, q4, q5, hw, hw2, hd, hd2, hd3, hd4, bne_self_eq_false, beq_self_eq_true])) | refine condV_split (fun hc => ?_) (fun hc => ?_) | (with_reducible intro β hβ; (try simp only [RB] at hβ); (repeat (obtain ⟨⟨_, _⟩, hβ⟩ := hβ)); (try (have hbis := apart_is (by assumption) hβ; obtain ⟨_, _⟩ := hbis))) | ((first | (refine appD_tslK (.inr rfl) rfl ?_ ?_ ?_ ?_ ?_ ?_; (first | rfl | exact St.tip_same _ _ _ | (simp only [↓R1, RR, seval, q0, q1, q2, q3, q4, q5, hw, hw2, hd, hd2, hd3, hd4, bne_self_eq_false, beq_self_eq_true])); (first | omega | (simp only [RZ, cells_len, cP_len, cI_len, List.length_nil, List.length_cons]; omega) | (simp only [RZ, cells_len, cP_len, cI_len, List.length_nil, List.length_cons])); (first | rfl | first | omega | (simp only [RZ, cells_len, cP_len, cI_len, List.length_nil, List.length_cons]; omega) | (simp only [RZ, cells_len, cP_len, cI_len, List.length_nil, List.length_cons]))) | (refine appV_tslK rfl ?_ ?_ ?_ ?_ ?_ ?_; (first | rfl | exact St.tip_same _ _ _ | (simp only [↓R1, RR, seval, q0, q1, q2, q3, q4, q5, hw, hw2, hd, hd2, hd3, hd4, bne_self_eq_false, beq_self_eq_true])); (first | omega | (simp only [RZ, cells_len, cP_len, cI_len, List.length_nil, List.length_cons]; omega) | (simp only [RZ, cells_len, cP_len, cI_len, List.length_nil, List.length_cons])); (first | rfl | first | omega | (simp only [RZ, cells_len, cP_len, cI_len, List.length_nil, List.length_cons]; omega) | (simp only [RZ, cells_len, cP_len, cI_len, List.length_nil, List.length_cons]))) | (refine appV_own ?_ ?_ ?_ ?_; exact flat_len (by intro _; rfl) _) | (refine appD_own ?_ ?_ ?_ ?_ ?_; omega; exact flat_len (by intro _; rfl) _) | (refine appV_fresh rfl trivial rfl ?_ ?_ ?_ ?_ ?_; (first | rfl | first | omega | (simp only [RZ, cells_len, cP_len, cI_len, List.length_nil, List.length_cons]; omega) | (simp only [RZ, cells_len, cP_len, cI_len, List.length_nil, List.length_cons])); (first | rfl | first | omega | (simp only [RZ, cells_len, cP_len, cI_len, List.length_nil, List.length_cons]; omega) | (simp only [RZ, cells_len, cP_len, cI_len, List.length_nil, List.length_cons]))) | (refine appD_fresh rfl trivial rfl ?_ ?_ ?_ ?_ ?_ ?_; omega; (first | rfl | first | omega | (simp only [RZ, cells_len, cP_len, cI_len, List.length_nil, List.length_cons]; omega) | (simp only [RZ, cells_len, cP_len, cI_len, List.length_nil, List.length_cons])); (first | rfl | first | omega | (simp only [RZ, cells_len, cP_len, cI_len, List.length_nil, List.length_cons]; omega) | (simp only [RZ, cells_len, cP_len, cI_len, List.length_nil, List.length_cons])))); (unfold maxLen; omega); omega) | refine callDV_pu (hO) (wkL_refl _) ?_ | refine callDV_pu (hK1) (wkL_refl _) ?_ | refine callDV_pu (hK2) (wkL_refl _) ?_ | refine PuG.to (hT1) hσ (wkL_refl _) ?_ | refine Pt (hT2) ?_ | refine Ct (hT2) ?_ | refine Pt (hP1) ?_ | refine Ct (hP1) ?_ | refine Pt (hP2) ?_ | refine Ct (hP2) ?_ | (refine callGV_pu (fun hgv => ⟨?_, (hI), wkL_refl _⟩) ?_; (first | trivial | (focus (simp only [↓R1, RR, seval, q0, q1, q2, q3, q4, q5, hw, hw2, hd, hd2, hd3, hd4, bne_self_eq_false, beq_self_eq_true]; done)))) | (refine callGV_pu (fun hgv => ⟨?_, (hC1), wkL_refl _⟩) ?_; (first | trivial | (focus (simp only [↓R1, RR, seval, q0, q1, q2, q3, q4, q5, hw, hw2, hd, hd2, hd3, hd4, bne_self_eq_false, beq_self_eq_true]; done)))) | (refine callGV_pu (fun hgv => ⟨?_, (hC2), wkL_refl _⟩) ?_; (first | trivial | (focus (simp only [↓R1, RR, seval, q0, q1, q2, q3, q4, q5, hw, hw2, hd, hd2, hd3, hd4, bne_self_eq_false, beq_self_eq_true]; done)))) | (refine callGV_pu (fun hgv => ⟨?_, (hM1), wkL_refl _⟩) ?_; (first | trivial | (focus (simp only [↓R1, RR, seval, q0, q1, q2, q3, q4, q5, hw, hw2, hd, hd2, hd3, hd4, bne_self_eq_false, beq_self_eq_true]; done)))) | (refine callGV_not ?_)) <;> (try simp only [↓R1, RR, seval, q0, q1, q2, q3, q4, q5, hw, hw2, hd, hd2, hd3, hd4, bne_self_eq_false, beq_self_eq_true])))
          · simp [subF, slot, wk_refl]
          · show St.le _ ((St.setTip _ _ _).setBox _ _)
            exact St.le_new (St.le_refl _) hβ
        · have hie : i = j := by omega
          subst hie
          have q0 : decide ((i : Int) < (i : Int)) = false := by simp
          simp only [q0, ↓R1, RR, seval, q0, q1, q2, q3, q4, q5, hw, hw2, hd, hd2, hd3, hd4, bne_self_eq_false, beq_self_eq_true]
          repeat' (first | (with_reducible rw [allocV_eq]) | (with_reducible refine And.intro ?_ ?_; focus (intros; (repeat' (with_reducible apply And.intro)) <;> first | omega | (simp only [RZ, cells_len, cP_len, cI_len]; omega))) | (with_reducible apply And.intro) | ((first | (refine gdV_split (fun hc => ?_) (fun hc => ?_) <;> (try simp only [hc, ↓R1, RR, seval, q0, q1, q2, q3, q4, q5, hw, hw2, hd, hd2, hd3, hd4, bne_self_eq_false, beq_self_eq_true])) | refine condV_split (fun hc => ?_) (fun hc => ?_) | (with_reducible intro β hβ; (try simp only [RB] at hβ); (repeat (obtain ⟨⟨_, _⟩, hβ⟩ := hβ)); (try (have hbis := apart_is (by assumption) hβ; obtain ⟨_, _⟩ := hbis))) | ((first | (refine appD_tslK (.inr rfl) rfl ?_ ?_ ?_ ?_ ?_ ?_; (first | rfl | exact St.tip_same _ _ _ | (simp only [↓R1, RR, seval, q0, q1, q2, q3, q4, q5, hw, hw2, hd, hd2, hd3, hd4, bne_self_eq_false, beq_self_eq_true])); (first | omega | (simp only [RZ, cells_len, cP_len, cI_len, List.length_nil, List.length_cons]; omega) | (simp only [RZ, cells_len, cP_len, cI_len, List.length_nil, List.length_cons])); (first | rfl | first | omega | (simp only [RZ, cells_len, cP_len, cI_len, List.length_nil, List.length_cons]; omega) | (simp only [RZ, cells_len, cP_len, cI_len, List.length_nil, List.length_cons]))) | (refine appV_tslK rfl ?_ ?_ ?_ ?_ ?_ ?_; (first | rfl | exact St.tip_same _ _ _ | (simp only [↓R1, RR, seval, q0, q1, q2, q3, q4, q5, hw, hw2, hd, hd2, hd3, hd4, bne_self_eq_false, beq_self_eq_true])); (first | omega | (simp only [RZ, cells_len, cP_len, cI_len, List.length_nil, List.length_cons]; omega) | (simp only [RZ, cells_len, cP_len, cI_len, List.length_nil, List.length_cons])); (first | rfl | first | omega | (simp only [RZ, cells_len, cP_len, cI_len, List.length_nil, List.length_cons]; omega) | (simp only [RZ, cells_len, cP_len, cI_len, List.length_nil, List.length_cons]))) | (refine appV_own ?_ ?_ ?_ ?_; exact flat_len (by intro _; rfl) _) | (refine appD_own ?_ ?_ ?_ ?_ ?_; omega; exact flat_len (by intro _; rfl) _) | (refine appV_fresh rfl trivial rfl ?_ ?_ ?_ ?_ ?_; (first | rfl | first | omega | (simp only [RZ, cells_len, cP_len, cI_len, List.length_nil, List.length_cons]; omega) | (simp only [RZ, cells_len, cP_len, cI_len, List.length_nil, List.length_cons])); (first | rfl | first | omega | (simp only [RZ, cells_len, cP_len, cI_len, List.length_nil, List.length_cons]; omega) | (simp only [RZ, cells_len, cP_len, cI_len, List.length_nil, List.length_cons]))) | (refine appD_fresh rfl trivial rfl ?_ ?_ ?_ ?_ ?_ ?_; omega; (first | rfl | first | omega | (simp only [RZ, cells_len, cP_len, cI_len, List.length_nil, List.length_cons]; omega) | (simp only [RZ, cells_len, cP_len, cI_len, List.length_nil, List.length_cons])); (first | rfl | first | omega | (simp only [RZ, cells_len, cP_len, cI_len, List.length_nil, List.length_cons]; omega) | (simp only [RZ, cells_len, cP_len, cI_len, List.length_nil, List.length_cons])))); (unfold maxLen; omega); omega) | refine PuG.to (aw) hσ (wkL_refl _) ?_) <;> (try simp only [↓R1, RR, seval, q0, q1, q2, q3, q4, q5, hw, hw2, hd, hd2, hd3, hd4, bne_self_eq_false, beq_self_eq_true])))
          (refine endP_pu (by simp) (by first | (simp [rvsS, rvS]; done) | (simp only [rvsS, rvS, ↓R1, RR, seval, q0, q1, q2, q3, q4, q5, hw, hw2, hd, hd2, hd3, hd4, bne_self_eq_false, beq_self_eq_true]; try simp)) (wk_of_eq ?_) (by (repeat (first | exact St.le_refl _ | (refine St.le_new ?_ (by assumption)) | (refine St.le_newT ?_ (by assumption))))))
          (simp only [resAV, rvV, List.map_cons, List.map_nil, ↓R1, RR, seval, q0, q1, q2, q3, q4, q5, hw, hw2, hd, hd2, hd3, hd4, bne_self_eq_false, beq_self_eq_true])
      · simp only [q0, ↓R1, RR, seval, q0, q1, q2, q3, q4, q5, hw, hw2, hd, hd2, hd3, hd4, bne_self_eq_false, beq_self_eq_true]
        repeat' (first | (with_reducible rw [allocV_eq]) | (with_reducible refine And.intro ?_ ?_; focus (intros; (repeat' (with_reducible apply And.intro)) <;> first | omega | (simp only [RZ, cells_len, cP_len, cI_len]; omega))) | (with_reducible apply And.intro) | ((first | (refine gdV_split (fun hc => ?_) (fun hc => ?_) <;> (try simp only [hc, ↓R1, RR, seval, q0, q1, q2, q3, q4, q5, hw, hw2, hd, hd2, hd3, hd4, bne_self_eq_false, beq_self_eq_true])) | refine condV_split (fun hc => ?_) (fun hc => ?_) | (with_reducible intro β hβ; (try simp only [RB] at hβ); (repeat (obtain ⟨⟨_, _⟩, hβ⟩ := hβ)); (try (have hbis := apart_is (by assumption) hβ; obtain ⟨_, _⟩ := hbis))) | ((first | (refine appD_tslK (.inr rfl) rfl ?_ ?_ ?_ ?_ ?_ ?_; (first | rfl | exact St.tip_same _ _ _ | (simp only [↓R1, RR, seval, q0, q1, q2, q3, q4, q5, hw, hw2, hd, hd2, hd3, hd4, bne_self_eq_false, beq_self_eq_true])); (first | omega | (simp only [RZ, cells_len, cP_len, cI_len, List.length_nil, List.length_cons]; omega) | (simp only [RZ, cells_len, cP_len, cI_len, List.length_nil, List.length_cons])); (first | rfl | first | omega | (simp only [RZ, cells_len, cP_len, cI_len, List.length_nil, List.length_cons]; omega) | (simp only [RZ, cells_len, cP_len, cI_len, List.length_nil, List.length_cons]))) | (refine appV_tslK rfl ?_ ?_ ?_ ?_ ?_ ?_; (first | rfl | exact St.tip_same _ _ _ | (simp only [↓R1, RR, seval, q0, q1, q2, q3, q4, q5, hw, hw2, hd, hd2, hd3, hd4, bne_self_eq_false, beq_self_eq_true])); (first | omega | (simp only [RZ, cells_len, cP_len, cI_len, List.length_nil, List.length_cons]; omega) | (simp only [RZ, cells_len, cP_len, cI_len, List.length_nil, List.length_cons])); (first | rfl | first | omega | (simp only [RZ, cells_len, cP_len, cI_len, List.length_nil, List.length_cons]; omega) | (simp only [RZ, cells_len, cP_len, cI_len, List.length_nil, List.length_cons]))) | (refine appV_own ?_ ?_ ?_ ?_; exact flat_len (by intro _; rfl) _) | (refine appD_own ?_ ?_ ?_ ?_ ?_; omega; exact flat_len (by intro _; rfl) _) | (refine appV_fresh rfl trivial rfl ?_ ?_ ?_ ?_ ?_; (first | rfl | first | omega | (simp only [RZ, cells_len, cP_len, cI_len, List.length_nil, List.length_cons]; omega) | (simp only [RZ, cells_len, cP_len, cI_len, List.length_nil, List.length_cons])); (first | rfl | first | omega | (simp only [RZ, cells_len, cP_len, cI_len, List.length_nil, List.length_cons]; omega) | (simp only [RZ, cells_len, cP_len, cI_len, List.length_nil, List.length_cons]))) | (refine appD_fresh rfl trivial rfl ?_ ?_ ?_ ?_ ?_ ?_; omega; (first | rfl | first | omega | (simp only [RZ, cells_len, cP_len, cI_len, List.length_nil, List.length_cons]; omega) | (simp only [RZ, cells_len, cP_len, cI_len, List.length_nil, List.length_cons])); (first | rfl | first | omega | (simp only [RZ, cells_len, cP_len, cI_len, List.length_nil, List.length_cons]; omega) | (simp only [RZ, cells_len, cP_len, cI_len, List.length_nil, List.length_cons])))); (unfold maxLen; omega); omega) | refine Pt (hS2) ?_ | refine Ct (hS2) ?_ | (refine Pu.to (hS1) ?_ ?_; (focus ((repeat' (first | exact wk_refl _ | exact wk_nils | exact wk_tsl _ _ _ | exact wk_full _ _ | exact wkL.nil | exact wkL_refl _ | refine wk_tup ?_ | refine wk_agg ?_ | refine wkL.cons ?_ ?_)); done)))) <;> (try simp only [↓R1, RR, seval, q0, q1, q2, q3, q4, q5, hw, hw2, hd, hd2, hd3, hd4, bne_self_eq_false, beq_self_eq_true])))
        refine loopV_for j (fun i => [(0, .sl false j (ls.map cM)), (3, .sl false j (ls.map cM)), (5, .sl false j ((isort cmpM ls).map cM)), (7, .sl false j ((isort cmpM ls).map cM)), (9, .int .i64 (i : Nat))]) (fun _ => _) (fun _ => True) (by simp [subF, slot, wk_refl, wk_tsl]) (St.le_refl _) trivial (fun i hi _ => ?_)
        by_cases hil : i < j
        · have q0 : decide ((i : Int) < (j : Int)) = true := by rw [decide_eq_true_eq]; omega
          have q4 : decide ((i : Int) < 0) = false := by rw [decide_eq_false_iff_not]; omega
          have hi1 : i < ls.length := by omega
          obtain ⟨r, hr⟩ : ∃ r, (i + 1) % j = r := ⟨_, rfl⟩
          have hrj : r < j := by rw [← hr]; exact Nat.mod_lt _ (by omega)
          have hr1 : r < ls.length := by omega
          have hw : IntKind.i64.wrap ((i : Int) + 1) = ((i + 1 : Nat) : Int) := by rw [wrap64 (by omega) (by omega)]; omega
          have hw2 : Int.tmod ((i + 1 : Nat) : Int) (j : Int) = (r : Int) := by rw [Int.tmod_eq_emod_of_nonneg (by omega), ← hr]; rfl
          have hd := cM_get ls hi1
          have hd2 := cM_get ls hr1
          obtain ⟨m, hm⟩ : ∃ m, ls[i] = m := ⟨_, rfl⟩
          obtain ⟨x, hx⟩ : ∃ x, ls[r] = x := ⟨_, rfl⟩
          have hml : m.length ≤ 14 := h14 m (by rw [← hm]; exact List.getElem_mem hi1)
          have hxl : x.length ≤ 14 := h14 x (by rw [← hx]; exact List.getElem_mem hr1)
          rw [hm] at hd
          rw [hx] at hd2
          have hO := p10 x (by omega)
          have hK1 := p24 m x (by omega) (by omega)
          have hK2 := p25 m x (by omega) (by omega)
          have hT1 := p26 m (by omega)
          have hT2 := p27 m (by omega)
          have hP1 := p28 m (by omega)
          have hP2 := p29 m (by omega)
          have hI : Pu Tryz.prog 30 [.sl false (posR m).length ((posR m).flatMap cI), .sl false (posR m).length ((posR m).flatMap cI)] (.bool true) := by
            have h := p30 (posR m) (posR m) (posR_len m (by omega))
            rw [decide_eq_true rfl] at h
            exact h
          have hC1 := p31 m (by omega)
          have hC2 := p32 m (by omega)
          have hM1 := p20 m m (by omega) (by omega)
          rw [decide_eq_true rfl] at hM1
          simp only [matchV] at hT1 hT2
          simp only [posV] at hP1 hP2
          generalize (bif checkS m == 0 then matchT m else []) = tx at *
          generalize checkS m = cm at *
          generalize cmpX m x = cx at *
          generalize cmpE m x = ce at *
          generalize posR m = P at *
          have hi3 : i < (isort cmpM ls).length := by omega
          have hd3 := cM_get (isort cmpM ls) hi3
          obtain ⟨y, hy⟩ : ∃ y, (isort cmpM ls)[i] = y := ⟨_, rfl⟩
          have hyl : y.length ≤ 14 := h14 y (hperm.mem_iff.1 (by rw [← hy]; exact List.getElem_mem hi3))
          rw [hy] at hd3
          have hM2 := p20 y y (by omega) (by omega)
          rw [decide_eq_true rfl] at hM2
          simp only [cM] at hd3
          simp only [cM] at hd hd2
          simp only [q0, ↓R1, RR, seval, q0, q1, q2, q3, q4, q5, hw, hw2, hd, hd2, hd3, hd4, bne_self_eq_false, beq_self_eq_true]
          repeat' (first | (with_reducible rw [allocV_eq]) | (with_reducible refine And.intro ?_ ?_; focus (intros; (repeat' (with_reducible apply And.intro)) <;> first | omega | (simp only [RZ, cells_len, cP_len, cI_len]; omega))) | (with_reducible apply And.intro) | ((first | (refine gdV_split (fun hc => ?_) (fun hc => ?_) <;> (try simp only [hc, ↓R1, RR, seval, q0, q1, q2, q3, q4, q5, hw, hw2, hd, hd2, hd3, hd4, bne_self_eq_false, beq_self_eq_true])) | refine condV_split (fun hc => ?_) (fun hc => ?_) | (with_reducible intro β hβ; (try simp only [RB] at hβ); (repeat (obtain ⟨⟨_, _⟩, hβ⟩ := hβ)); (try (have hbis := apart_is (by assumption) hβ; obtain ⟨_, _⟩ := hbis))) | ((first | (refine appD_tslK (.inr rfl) rfl ?_ ?_ ?_ ?_ ?_ ?_; (first | rfl | exact St.tip_same _ _ _ | (simp only [↓R1, RR, seval, q0, q1, q2, q3, q4, q5, hw, hw2, hd, hd2, hd3, hd4, bne_self_eq_false, beq_self_eq_true])); (first | omega | (simp only [RZ, cells_len, cP_len, cI_len, List.length_nil, List.length_cons]; omega) | (simp only [RZ, cells_len, cP_len, cI_len, List.length_nil, List.length_cons])); (first | rfl | first | omega | (simp only [RZ, cells_len, cP_len, cI_len, List.length_nil, List.length_cons]; omega) | (simp only [RZ, cells_len, cP_len, cI_len, List.length_nil, List.length_cons]))) | (refine appV_tslK rfl ?_ ?_ ?_ ?_ ?_ ?_; (first | rfl | exact St.tip_same _ _ _ | (simp only [↓R1, RR, seval, q0, q1, q2, q3, q4, q5, hw, hw2, hd, hd2, hd3, hd4, bne_self_eq_false, beq_self_eq_true])); (first | omega | (simp only [RZ, cells_len, cP_len, cI_len, List.length_nil, List.length_cons]; omega) | (simp only [RZ, cells_len, cP_len, cI_len, List.length_nil, List.length_cons])); (first | rfl | first | omega | (simp only [RZ, cells_len, cP_len, cI_len, List.length_nil, List.length_cons]; omega) | (simp only [RZ, cells_len, cP_len, cI_len, List.length_nil, List.length_cons]))) | (refine appV_own ?_ ?_ ?_ ?_; exact flat_len (by intro _; rfl) _) | (refine appD_own ?_ ?_ ?_ ?_ ?_; omega; exact flat_len (by intro _; rfl) _) | (refine appV_fresh rfl trivial rfl ?_ ?_ ?_ ?_ ?_; (first | rfl | first | omega | (simp only [RZ, cells_len, cP_len, cI_len, List.length_nil, List.length_cons]; omega) | (simp only [RZ, cells_len, cP_len, cI_len, List.length_nil, List.length_cons])); (first | rfl | first | omega | (simp only [RZ, cells_len, cP_len, cI_len, List.length_nil, List.length_cons]; omega) | (simp only [RZ, cells_len, cP_len, cI_len, List.length_nil, List.length_cons]))) | (refine appD_fresh rfl trivial rfl ?_ ?_ ?_ ?_ ?_ ?_; omega; (first | rfl | first | omega | (simp only [RZ, cells_len, cP_len, cI_len, List.length_nil, List.length_cons]; omega) | (simp only [RZ, cells_len, cP_len, cI_len, List.length_nil, List.length_cons])); (first | rfl | first | omega | (simp only [RZ, cells_len, cP_len, cI_len, List.length_nil, List.length_cons]; omega) | (simp only [RZ, cells_len, cP_len, cI_len, List.length_nil, List.length_cons])))); (unfold maxLen; omega); omega) | refine callDV_pu (hO) (wkL_refl _) ?_ | refine callDV_pu (hK1) (wkL_refl _) ?_ | refine callDV_pu (hK2) (wkL_refl _) ?_ | refine PuG.to (hT1) hσ (wkL_refl _) ?_ | refine Pt (hT2) ?_ | refine Ct (hT2) ?_ | refine Pt (hP1) ?_ | refine Ct (hP1) ?_ | refine Pt (hP2) ?_ | refine Ct (hP2) ?_ | (refine callGV_pu (fun hgv => ⟨?_, (hI), wkL_refl _⟩) ?_; (first | trivial | (focus (simp only [↓R1, RR, seval, q0, q1, q2, q3, q4, q5, hw, hw2, hd, hd2, hd3, hd4, bne_self_eq_false, beq_self_eq_true]; done)))) | (refine callGV_pu (fun hgv => ⟨?_, (hC1), wkL_refl _⟩) ?_; (first | trivial | (focus (simp only [↓R1, RR, seval, q0, q1, q2, q3, q4, q5, hw, hw2, hd, hd2, hd3, hd4, bne_self_eq_false, beq_self_eq_true]; done)))) | (refine callGV_pu (fun hgv => ⟨?_, (hC2), wkL_refl _⟩) ?_; (first | trivial | (focus (simp only [↓R1, RR, seval, q0, q1, q2, q3, q4, q5, hw, hw2, hd, hd2, hd3, hd4, bne_self_eq_false, beq_self_eq_true]; done)))) | (refine callGV_pu (fun hgv => ⟨?_, (hM1), wkL_refl _⟩) ?_; (first | trivial | (focus (simp only [↓R1, RR, seval, q0, q1, q2, q3, q4, q5, hw, hw2, hd, hd2, hd3, hd4, bne_self_eq_false, beq_self_eq_true]; done)))) | (refine callGV_pu (fun hgv => ⟨?_, (hM2), wkL_refl _⟩) ?_; (first | trivial | (focus (simp only [↓R1, RR, seval, q0, q1, q2, q3, q4, q5, hw, hw2, hd, hd2, hd3, hd4, bne_self_eq_false, beq_self_eq_true]; done))))) <;> (try simp only [↓R1, RR, seval, q0, q1, q2, q3, q4, q5, hw, hw2, hd, hd2, hd3, hd4, bne_self_eq_false, beq_self_eq_true])))
          · simp [subF, slot, wk_refl]
          · show St.le _ ((St.setTip _ _ _).setBox _ _)
            exact St.le_new (St.le_refl _) hβ
        · have hie : i = j := by omega
          subst hie
          have q0 : decide ((i : Int) < (i : Int)) = false := by simp
          simp only [q0, ↓R1, RR, seval, q0, q1, q2, q3, q4, q5, hw, hw2, hd, hd2, hd3, hd4, bne_self_eq_false, beq_self_eq_true]
          repeat' (first | (with_reducible rw [allocV_eq]) | (with_reducible refine And.intro ?_ ?_; focus (intros; (repeat' (with_reducible apply And.intro)) <;> first | omega | (simp only [RZ, cells_len, cP_len, cI_len]; omega))) | (with_reducible apply And.intro) | ((first | (refine gdV_split (fun hc => ?_) (fun hc => ?_) <;> (try simp only [hc, ↓R1, RR, seval, q0, q1, q2, q3, q4, q5, hw, hw2, hd, hd2, hd3, hd4, bne_self_eq_false, beq_self_eq_true])) | refine condV_split (fun hc => ?_) (fun hc => ?_) | (with_reducible intro β hβ; (try simp only [RB] at hβ); (repeat (obtain ⟨⟨_, _⟩, hβ⟩ := hβ)); (try (have hbis := apart_is (by assumption) hβ; obtain ⟨_, _⟩ := hbis))) | ((first | (refine appD_tslK (.inr rfl) rfl ?_ ?_ ?_ ?_ ?_ ?_; (first | rfl | exact St.tip_same _ _ _ | (simp only [↓R1, RR, seval, q0, q1, q2, q3, q4, q5, hw, hw2, hd, hd2, hd3, hd4, bne_self_eq_false, beq_self_eq_true])); (first | omega | (simp only [RZ, cells_len, cP_len, cI_len, List.length_nil, List.length_cons]; omega) | (simp only [RZ, cells_len, cP_len, cI_len, List.length_nil, List.length_cons])); (first | rfl | first | omega | (simp only [RZ, cells_len, cP_len, cI_len, List.length_nil, List.length_cons]; omega) | (simp only [RZ, cells_len, cP_len, cI_len, List.length_nil, List.length_cons]))) | (refine appV_tslK rfl ?_ ?_ ?_ ?_ ?_ ?_; (first | rfl | exact St.tip_same _ _ _ | (simp only [↓R1, RR, seval, q0, q1, q2, q3, q4, q5, hw, hw2, hd, hd2, hd3, hd4, bne_self_eq_false, beq_self_eq_true])); (first | omega | (simp only [RZ, cells_len, cP_len, cI_len, List.length_nil, List.length_cons]; omega) | (simp only [RZ, cells_len, cP_len, cI_len, List.length_nil, List.length_cons])); (first | rfl | first | omega | (simp only [RZ, cells_len, cP_len, cI_len, List.length_nil, List.length_cons]; omega) | (simp only [RZ, cells_len, cP_len, cI_len, List.length_nil, List.length_cons]))) | (refine appV_own ?_ ?_ ?_ ?_; exact flat_len (by intro _; rfl) _) | (refine appD_own ?_ ?_ ?_ ?_ ?_; omega; exact flat_len (by intro _; rfl) _) | (refine appV_fresh rfl trivial rfl ?_ ?_ ?_ ?_ ?_; (first | rfl | first | omega | (simp only [RZ, cells_len, cP_len, cI_len, List.length_nil, List.length_cons]; omega) | (simp only [RZ, cells_len, cP_len, cI_len, List.length_nil, List.length_cons])); (first | rfl | first | omega | (simp only [RZ, cells_len, cP_len, cI_len, List.length_nil, List.length_cons]; omega) | (simp only [RZ, cells_len, cP_len, cI_len, List.length_nil, List.length_cons]))) | (refine appD_fresh rfl trivial rfl ?_ ?_ ?_ ?_ ?_ ?_; omega; (first | rfl | first | omega | (simp only [RZ, cells_len, cP_len, cI_len, List.length_nil, List.length_cons]; omega) | (simp only [RZ, cells_len, cP_len, cI_len, List.length_nil, List.length_cons])); (first | rfl | first | omega | (simp only [RZ, cells_len, cP_len, cI_len, List.length_nil, List.length_cons]; omega) | (simp only [RZ, cells_len, cP_len, cI_len, List.length_nil, List.length_cons])))); (unfold maxLen; omega); omega) | refine PuG.to (aw) hσ (wkL_refl _) ?_) <;> (try simp only [↓R1, RR, seval, q0, q1, q2, q3, q4, q5, hw, hw2, hd, hd2, hd3, hd4, bne_self_eq_false, beq_self_eq_true])))
          (refine endP_pu (by simp) (by first | (simp [rvsS, rvS]; done) | (simp only [rvsS, rvS, ↓R1, RR, seval, q0, q1, q2, q3, q4, q5, hw, hw2, hd, hd2, hd3, hd4, bne_self_eq_false, beq_self_eq_true]; try simp)) (wk_of_eq ?_) (by (repeat (first | exact St.le_refl _ | (refine St.le_new ?_ (by assumption)) | (refine St.le_newT ?_ (by assumption))))))
          (simp only [resAV, rvV, List.map_cons, List.map_nil, ↓R1, RR, seval, q0, q1, q2, q3, q4, q5, hw, hw2, hd, hd2, hd3, hd4, bne_self_eq_false, beq_self_eq_true])
theorem map_cM : ∀ ls : List (List Pl), ls.flatMap cMa = ls.map cM
  | [] => rfl
  | l :: ls => by rw [List.flatMap_cons, List.map_cons, map_cM ls]; rfl
theorem arg_MatchSorts (ls : List (List Pl)) (hl : ls.length ≤ maxLen) : PuG Tryz.prog gl3 4 [sl cMa ls] (.bool true) := by
  have h := law_MatchSorts ls hl
  rw [← map_cM] at h
  exact h
end Go.Proofs.YtncadbcjikekhaaGreatDoor
