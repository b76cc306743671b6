/- Part 22 of the proof of AuditKnown: an abstract semantics that is proved sound for the model, contracts of functions in it, and plain facts (AF AU15 AU16 AU17 AU19). No condition. -/
import Derived.Test.YtbbkckogjdjjgaaDoorKAuditKnown21
import Derived.LoopTactic
import Derived.WalkKit
import Derived.BigCall
import Derived.BigGuard
import Derived.Lib.Walk
import Derived.Lib.ItoaMem
set_option linter.all false
namespace Go.Proofs.YtbbkckogjdjjgaaDoor
open Go.Abs Go.Lib Go.Sort Go.RowKit
set_option linter.all false
set_option maxRecDepth 100000
theorem zero_row (w : World) (T : TypeId) (nd : Nat) (hs : nd ≤ 24) : Holds (fun (b : UInt8) => Value.int .u8 (b.toNat : Int)) (w.alloc (.cells Lib.zeros24 T)) w.heap.size 0 (Array.replicate nd (0 : UInt8)) := fun j hj => by
  have hj' : j < nd := by simpa using hj
  refine ⟨?_, World.frozen?_alloc_new _ _ _ _⟩
  rw [World.cell?_alloc_new, Lib.zeros24_at _ (by omega), getElem!_pos _ j hj]
  simp
theorem fin_zero (w : World) (o : Obj) (dk : Array UInt8) (k : Nat) : ∃ os, (putRow (fun (b : UInt8) => Value.int .u8 (b.toNat : Int)) (w.alloc o) w.heap.size 0 dk).drewN k = grow (w.drewN k) os := by
  rw [alloc_eq_grow]
  obtain ⟨os', _, e⟩ := putRow_grow_new (fun (b : UInt8) => Value.int .u8 (b.toNat : Int)) w #[o] w.heap.size 0 dk (Nat.le_refl _)
  exact ⟨os', by rw [e]; rfl⟩
set_option maxHeartbeats 6400000 in
theorem fmtU (u : Nat) (h1 : u < 18446744073709551616) (w : World) (htab : Lib.TabIs Tryd.prog w "internal/strconv.uint64pow10" .u64 Lib.pow10Tab) :
    Calls Tryd.prog 55 #[.int .u64 u, .int .i64 10] w fun e w' => e = .returned (.string ⟨(Lib.decDigits u).toArray⟩) ∧ ∃ k os, w' = grow (w.drewN k) os := by
  have t105 := Tryd.underlying105
  by_cases hs : u < 100
  · have hwr : IntKind.i64.wrap (u : Int) = (u : Int) := wrap64 (by omega) (by omega)
    go_enter Tryd.func55, Tryd.ntmps55
    go_wp2_with (go_at_call 70; refine (Tryd.internal_strconv_small u hs _).mono ?_; rintro e w' ⟨rfl, rfl⟩)
    go_ret
    exact ⟨rfl, 0, #[], by simp [World.drewN_zero]⟩
  · have hu1 : 1 ≤ u := by omega
    have hnd20 : Lib.nDigits u ≤ 20 := by have := Lib.numDigits_eq u hu1 h1; split at this <;> omega
    have hal : Tryd.prog.arrayLen 105 = 24 := by simp [Program.arrayLen, t105]
    have hsl : ∀ W, (Instr.sliceAt 105 (.pointer (some ⟨w.heap.size, 0, none⟩)) none (some (.int .i64 (Lib.nDigits u : Int))) none).run Tryd.prog W = .ok (.slice (some ⟨w.heap.size, 0, none⟩) (Lib.nDigits u) 24) W := fun W => by
      rw [run_sliceAt_array_h W 105 ⟨w.heap.size, 0, none⟩ (by simp [Program.arrayLen, Program.elem, t105]) .i64 (Lib.nDigits u : Int) (by omega) (by rw [hal]; omega)]
      go_simp
    have hH0 := zero_row w 105 (Lib.nDigits u) (by omega)
    have hfmt := Tryd.internal_strconv_formatBase10 w.heap.size 0 24 u (Array.replicate (Lib.nDigits u) 0) (w.alloc (.cells Lib.zeros24 105)) hH0 (by rw [Array.size_replicate]; exact Lib.lt_pow_nDigits u) h1 (by rw [Array.size_replicate]; omega)
    rw [Array.size_replicate] at hfmt
    have HH0 := Lib.hid hH0
    clear hH0 hal
    go_enter Tryd.func55, Tryd.ntmps55
    go_wp2_with (go_at_call 71; refine (Tryd.internal_strconv_numDigits u hu1 h1 _ (Lib.tabIs_alloc htab _)).mono ?_; rintro e w' ⟨rfl, rfl⟩)
    go_at_call 72
    refine hfmt.mono ?_
    rintro e w' ⟨rfl, k, v', dk, rfl, hF⟩
    have hcv : (convert 96 9 (.slice (some ⟨w.heap.size, 0, none⟩) (Lib.nDigits u) 24)).run Tryd.prog ((putRow (fun (b : UInt8) => Value.int .u8 (b.toNat : Int)) (w.alloc (.cells Lib.zeros24 105)) w.heap.size 0 dk).drewN k) = .ok (.string ⟨(Lib.decDigits u).toArray⟩) ((putRow (fun (b : UInt8) => Value.int .u8 (b.toNat : Int)) (w.alloc (.cells Lib.zeros24 105)) w.heap.size 0 dk).drewN k) := by
      have h := run_convert_bytes_back (P := Tryd.prog) ((putRow (fun (b : UInt8) => Value.int .u8 (b.toNat : Int)) (w.alloc (.cells Lib.zeros24 105)) w.heap.size 0 dk).drewN k) 96 9 5 ⟨w.heap.size, 0, none⟩ 24 (Lib.decDigits u) Tryd.underlying96 Tryd.underlying5 Tryd.underlying9 (fun j hj => by
        rw [Lib.row_is_numeral hF j hj, Lib.add_plain, World.cell?_drewN]
        exact cell?_putRow (fun (b : UInt8) => Value.int .u8 (b.toNat : Int)) _ w.heap.size 0 _ dk HH0.out (by rw [hF.size, Array.size_replicate]) j (by rw [hF.size]; rw [Lib.decDigits_length] at hj; exact hj))
      rw [Lib.decDigits_length] at h
      exact h
    go_wp2
    go_ret
    obtain ⟨os, eo⟩ := fin_zero w (.cells Lib.zeros24 105) dk k
    exact ⟨rfl, k, os, eo⟩
end Go.Proofs.YtbbkckogjdjjgaaDoor
namespace Go.Proofs.YtbbkckogjdjjgaaDoor
open Go.Abs Go.Lib
set_option linter.all false
set_option maxRecDepth 100000
theorem fmtUs (u : Nat) (h : u < 18446744073709551616) : PuG Tryd.prog gl3 55 [.int .u64 u, .int .i64 10] (.str (decDigits u)) := by
  intro σ hσ
  refine AC.of_calls (Go.Proofs.enters_of Tryd.func55 (by kernel_rfl) rfl) ?_
  intro g w vs hI hv
  obtain ⟨v1, vs, rfl, r1, hv⟩ := hv.cons_inv
  obtain ⟨v2, vs, rfl, r2, hv⟩ := hv.cons_inv
  rw [hv.nil_inv, r1.int_inv, r2.int_inv]
  refine (fmtU u h w (var_of_glob hI gPow (hσ _ _ rfl))).mono ?_
  rintro e w' ⟨rfl, k', os, rfl⟩
  refine ⟨_, rfl, ⟨rfl, rfl, rfl, by simp [Go.Sort.grow, World.drewN], fun i hi => ?_⟩, fun g' _ => .str _⟩
  simp only [Go.Sort.grow, World.drewN]
  rw [Array.getElem?_append_left hi]
theorem p42 (u : Nat) (h : u < 18446744073709551616) : PuG Tryd.prog gl3 42 [.int .u64 u, .int .i64 10] (.str (decDigits u)) := by
  have h1 := fmtUs u h
  (refine PuG_intro c42 b42 (Nat.le_of_ble_eq_true rfl) fun σ hσ => ?_; simp only [c42, ↓R1, R2, R3, R4, R5, Nat.reduceEqDiff, Nat.reduceAdd, Nat.reduceMul, Nat.reduceSub, Nat.reduceLeDiff, Nat.reduceLT, reduceIte, reduceCtorEq, Int.reduceBNe, Int.reduceBEq])
  repeat' (first | (with_reducible rw [allocV_eq]) | (refine gdV_split (fun hc => ?_) (fun hc => ?_) <;> (try simp only [hc, ↓R1, R2, R3, R4, R5, Nat.reduceEqDiff, Nat.reduceAdd, Nat.reduceMul, Nat.reduceSub, Nat.reduceLeDiff, Nat.reduceLT, reduceIte, reduceCtorEq, Int.reduceBNe, Int.reduceBEq])) | ((first | refine condV_split (fun hc => ?_) (fun hc => ?_) | (with_reducible intro β hβ; (try simp only [St.box_noneA, St.tip_noneA, St.tip_set, St.box_tip, St.box_lp, St.tip_lp] at hβ); (repeat (obtain ⟨⟨_, _⟩, hβ⟩ := hβ)); (try (have hbis := apart_is (by assumption) hβ; obtain ⟨_, _⟩ := hbis)))) <;> (try simp only [↓R1, R2, R3, R4, R5, Nat.reduceEqDiff, Nat.reduceAdd, Nat.reduceMul, Nat.reduceSub, Nat.reduceLeDiff, Nat.reduceLT, reduceIte, reduceCtorEq, Int.reduceBNe, Int.reduceBEq])) | (with_reducible refine And.intro ?_ ?_; (focus (first | omega | (intros; (repeat' (with_reducible apply And.intro)) <;> first | omega | (simp only [List.length_append, List.length_cons, List.length_nil]; omega))))) | (with_reducible apply And.intro) | ((first | refine PuG.to (h1) hσ (wkL_refl _) ?_); (try simp only [↓R1, R2, R3, R4, R5, Nat.reduceEqDiff, Nat.reduceAdd, Nat.reduceMul, Nat.reduceSub, Nat.reduceLeDiff, Nat.reduceLT, reduceIte, reduceCtorEq, Int.reduceBNe, Int.reduceBEq])))
  (refine endP_pu (by simp) (by first | (simp [rvsS, rvS]; done) | (simp only [rvsS, rvS, ↓R1, R2, R3, R4, R5, Nat.reduceEqDiff, Nat.reduceAdd, Nat.reduceMul, Nat.reduceSub, Nat.reduceLeDiff, Nat.reduceLT, reduceIte, reduceCtorEq, Int.reduceBNe, Int.reduceBEq]; try simp)) (wk_of_eq ?_) (by (repeat (first | exact St.le_refl _ | (refine St.le_new ?_ (by assumption)) | (refine St.le_newT ?_ (by assumption))))))
  (simp only [resAV, rvV, List.map_cons, List.map_nil, ↓R1, R2, R3, R4, R5, Nat.reduceEqDiff, Nat.reduceAdd, Nat.reduceMul, Nat.reduceSub, Nat.reduceLeDiff, Nat.reduceLT, reduceIte, reduceCtorEq, Int.reduceBNe, Int.reduceBEq])
theorem idE_ok {n : Int} : (idE n == 0) = (decide (1 ≤ n) && decide (n ≤ 1099511627776)) := by
  simp only [idE, Bool.cond_eq_ite]; grind
def idText (l : BitVec 64) (n : Int) : List UInt8 := bif idE n == 0 then textL l ++ [35] ++ decDigits n.toNat else []
theorem itoa_nat (n : Nat) : itoa (n : Int) = decDigits n := by unfold itoa; rw [if_neg (by omega)]; simp
theorem idText_len (l : BitVec 64) (n : Int) : (idText l n).length ≤ 300 := by
  unfold idText
  cases h : (idE n == 0) with
  | false => simp
  | true =>
    rw [idE_ok] at h
    simp only [Bool.and_eq_true, decide_eq_true_eq] at h
    have h1 := textL_len l
    have h2 := dec_len20 n.toNat (by omega)
    simp only [cond_true, List.length_append, List.length_cons, List.length_nil]; omega
theorem p39 (l : BitVec 64) (n : Int) : PuG Tryd.prog gl3 39 [.agg [.int .u64 l.toNat, .int .u64 n]] (.tup [.str (idText l n), .int .i64 (idE n)]) := by
  have h0 := p46 l.toNat n
  have h1 := PuG.up3 (p41 l)
  have l1 := textL_len l
  by_cases he : idE n = 0
  · have hb : (idE n == 0) = true := by simpa using he
    rw [idE_ok] at hb
    simp only [Bool.and_eq_true, decide_eq_true_eq] at hb
    obtain ⟨m, rfl⟩ := Int.eq_ofNat_of_zero_le (show 0 ≤ n by omega)
    have hx : IntKind.i64.wrap (m : Int) = m := wrap64 (by omega) (by omega)
    have h2 := p51 m (by unfold I64; omega)
    rw [itoa_nat] at h2
    have l2 := dec_len20 m (by omega)
    have ht : idText l m = textL l ++ [35] ++ decDigits m := by simp [idText, he]
    rw [he] at h0 ⊢
    rw [ht]
    (refine PuG_intro c39 b39 (Nat.le_of_ble_eq_true rfl) fun σ hσ => ?_; simp only [c39, ↓R1, R2, R3, R4, R5, Nat.reduceEqDiff, Nat.reduceAdd, Nat.reduceMul, Nat.reduceSub, Nat.reduceLeDiff, Nat.reduceLT, reduceIte, reduceCtorEq, Int.reduceBNe, Int.reduceBEq, hx])
    repeat' (first | (with_reducible rw [allocV_eq]) | (refine gdV_split (fun hc => ?_) (fun hc => ?_) <;> (try simp only [hc, ↓R1, R2, R3, R4, R5, Nat.reduceEqDiff, Nat.reduceAdd, Nat.reduceMul, Nat.reduceSub, Nat.reduceLeDiff, Nat.reduceLT, reduceIte, reduceCtorEq, Int.reduceBNe, Int.reduceBEq, hx])) | ((first | refine condV_split (fun hc => ?_) (fun hc => ?_) | (with_reducible intro β hβ; (try simp only [St.box_noneA, St.tip_noneA, St.tip_set, St.box_tip, St.box_lp, St.tip_lp] at hβ); (repeat (obtain ⟨⟨_, _⟩, hβ⟩ := hβ)); (try (have hbis := apart_is (by assumption) hβ; obtain ⟨_, _⟩ := hbis)))) <;> (try simp only [↓R1, R2, R3, R4, R5, Nat.reduceEqDiff, Nat.reduceAdd, Nat.reduceMul, Nat.reduceSub, Nat.reduceLeDiff, Nat.reduceLT, reduceIte, reduceCtorEq, Int.reduceBNe, Int.reduceBEq, hx])) | (with_reducible refine And.intro ?_ ?_; (focus (first | omega | (intros; (repeat' (with_reducible apply And.intro)) <;> first | omega | (simp only [List.length_append, List.length_cons, List.length_nil]; omega))))) | (with_reducible apply And.intro) | ((first | refine Pu.to (h0) (wkL_refl _) ?_ | refine callDV_pu (h0) (wkL_refl _) ?_ | refine callDV_puG (h1) hσ (wkL_refl _) ?_ | refine callDV_puG (h2) hσ (wkL_refl _) ?_); (try simp only [↓R1, R2, R3, R4, R5, Nat.reduceEqDiff, Nat.reduceAdd, Nat.reduceMul, Nat.reduceSub, Nat.reduceLeDiff, Nat.reduceLT, reduceIte, reduceCtorEq, Int.reduceBNe, Int.reduceBEq, hx])))
    all_goals (refine endP_pu (by simp) (by first | (simp [rvsS, rvS]; done) | (simp only [rvsS, rvS, ↓R1, R2, R3, R4, R5, Nat.reduceEqDiff, Nat.reduceAdd, Nat.reduceMul, Nat.reduceSub, Nat.reduceLeDiff, Nat.reduceLT, reduceIte, reduceCtorEq, Int.reduceBNe, Int.reduceBEq, hx]; try simp)) (wk_of_eq ?_) (by (repeat (first | exact St.le_refl _ | (refine St.le_new ?_ (by assumption)) | (refine St.le_newT ?_ (by assumption))))))
    all_goals (simp only [resAV, rvV, List.map_cons, List.map_nil, ↓R1, R2, R3, R4, R5, Nat.reduceEqDiff, Nat.reduceAdd, Nat.reduceMul, Nat.reduceSub, Nat.reduceLeDiff, Nat.reduceLT, reduceIte, reduceCtorEq, Int.reduceBNe, Int.reduceBEq, hx])
  · have hb : (idE n == 0) = false := by simpa using he
    have hx : (idE n != 0) = true := by simpa using he
    have ht : idText l n = [] := by simp [idText, hb]
    rw [ht]
    (refine PuG_intro c39 b39 (Nat.le_of_ble_eq_true rfl) fun σ hσ => ?_; simp only [c39, ↓R1, R2, R3, R4, R5, Nat.reduceEqDiff, Nat.reduceAdd, Nat.reduceMul, Nat.reduceSub, Nat.reduceLeDiff, Nat.reduceLT, reduceIte, reduceCtorEq, Int.reduceBNe, Int.reduceBEq, hx])
    repeat' (first | (with_reducible rw [allocV_eq]) | (refine gdV_split (fun hc => ?_) (fun hc => ?_) <;> (try simp only [hc, ↓R1, R2, R3, R4, R5, Nat.reduceEqDiff, Nat.reduceAdd, Nat.reduceMul, Nat.reduceSub, Nat.reduceLeDiff, Nat.reduceLT, reduceIte, reduceCtorEq, Int.reduceBNe, Int.reduceBEq, hx])) | ((first | refine condV_split (fun hc => ?_) (fun hc => ?_) | (with_reducible intro β hβ; (try simp only [St.box_noneA, St.tip_noneA, St.tip_set, St.box_tip, St.box_lp, St.tip_lp] at hβ); (repeat (obtain ⟨⟨_, _⟩, hβ⟩ := hβ)); (try (have hbis := apart_is (by assumption) hβ; obtain ⟨_, _⟩ := hbis)))) <;> (try simp only [↓R1, R2, R3, R4, R5, Nat.reduceEqDiff, Nat.reduceAdd, Nat.reduceMul, Nat.reduceSub, Nat.reduceLeDiff, Nat.reduceLT, reduceIte, reduceCtorEq, Int.reduceBNe, Int.reduceBEq, hx])) | (with_reducible refine And.intro ?_ ?_; (focus (first | omega | (intros; (repeat' (with_reducible apply And.intro)) <;> first | omega | (simp only [List.length_append, List.length_cons, List.length_nil]; omega))))) | (with_reducible apply And.intro) | ((first | refine Pu.to (h0) (wkL_refl _) ?_ | refine callDV_pu (h0) (wkL_refl _) ?_); (try simp only [↓R1, R2, R3, R4, R5, Nat.reduceEqDiff, Nat.reduceAdd, Nat.reduceMul, Nat.reduceSub, Nat.reduceLeDiff, Nat.reduceLT, reduceIte, reduceCtorEq, Int.reduceBNe, Int.reduceBEq, hx])))
    all_goals (refine endP_pu (by simp) (by first | (simp [rvsS, rvS]; done) | (simp only [rvsS, rvS, ↓R1, R2, R3, R4, R5, Nat.reduceEqDiff, Nat.reduceAdd, Nat.reduceMul, Nat.reduceSub, Nat.reduceLeDiff, Nat.reduceLT, reduceIte, reduceCtorEq, Int.reduceBNe, Int.reduceBEq, hx]; try simp)) (wk_of_eq ?_) (by (repeat (first | exact St.le_refl _ | (refine St.le_new ?_ (by assumption)) | (refine St.le_newT ?_ (by assumption))))))
    all_goals (simp only [resAV, rvV, List.map_cons, List.map_nil, ↓R1, R2, R3, R4, R5, Nat.reduceEqDiff, Nat.reduceAdd, Nat.reduceMul, Nat.reduceSub, Nat.reduceLeDiff, Nat.reduceLT, reduceIte, reduceCtorEq, Int.reduceBNe, Int.reduceBEq, hx])
def toB (n : Int) : BitVec 64 := BitVec.ofNat 64 n.toNat
theorem toB_eq {n : Int} (h : 0 ≤ n ∧ n ≤ 18446744073709551615) : ((toB n).toNat : Int) = n := by
  unfold toB
  rw [BitVec.toNat_ofNat, Nat.mod_eq_of_lt (by omega)]; omega
/-- The text of a record. -/
def textR (x : LE) : List UInt8 := bif rightE x == 0 then decDigits x.rule.toNat ++ [32] ++ idText (toB x.el) x.no ++ [32, 45, 62, 32] ++ textL (toB x.new) ++ [32, 64] ++ decDigits x.tick.toNat else []
structure LW (x : LE) : Prop where
  el : 0 ≤ x.el ∧ x.el ≤ 18446744073709551615
  new : 0 ≤ x.new ∧ x.new ≤ 18446744073709551615
  tick : 0 ≤ x.tick ∧ x.tick ≤ 18446744073709551615
theorem rightE_ok {x : LE} (h : rightE x = 0) : (0 ≤ x.rule ∧ x.rule < 8) ∧ (1 ≤ x.no ∧ x.no ≤ 1099511627776) ∧ x.tick ≤ 1099511627776 ∧ x.old = x.el := by
  unfold rightE at h
  cases hq : (decide (x.rule < 0) || decide (8 ≤ x.rule) || decide (x.no < 1) || decide (1099511627776 < x.no) || decide (1099511627776 < x.tick)) with
  | true => rw [hq] at h; cases h
  | false =>
    rw [hq, cond_false] at h
    cases ho : (x.old == x.el) with
    | false => rw [ho] at h; cases h
    | true =>
      simp only [Bool.or_eq_false_iff, decide_eq_false_iff_not] at hq
      exact ⟨by omega, by omega, by omega, by simpa using ho⟩
set_option maxHeartbeats 2000000 in
theorem p13 (x : LE) (hx : LW x) : PuG Tryd.prog gl3 13 [.agg (cRec x)] (.tup [.str (textR x), .int .i64 (rightE x)]) := by
  have h := p17 x
  have hw : True := trivial
  by_cases hr : rightE x = 0
  · have hq : True := trivial
    obtain ⟨r1, r2, r3, r4⟩ := rightE_ok hr
    have h1 := p39 (toB x.el) x.no
    rw [toB_eq hx.el, show idE x.no = 0 by simp only [idE, Bool.cond_eq_ite]; grind] at h1
    obtain ⟨k, hk⟩ := Int.eq_ofNat_of_zero_le r1.1
    obtain ⟨u, hu⟩ := Int.eq_ofNat_of_zero_le hx.tick.1
    have h2 := itoas k (by omega)
    have h3 := PuG.up3 (p41 (toB x.new))
    rw [toB_eq hx.new] at h3
    have h4 := p42 u (by omega)
    have l1 := idText_len (toB x.el) x.no
    have l2 := textL_len (toB x.new)
    have l3 := dec_len20 k (by omega)
    have l4 := dec_len20 u (by omega)
    have hT : textR x = decDigits k ++ [32] ++ idText (toB x.el) x.no ++ [32, 45, 62, 32] ++ textL (toB x.new) ++ [32, 64] ++ decDigits u := by
      simp only [textR, hr, beq_self_eq_true, cond_true, hk, hu, Int.toNat_natCast]
    rw [hT, hr]
    rw [hr] at h
    simp only [cRec, hk, hu] at h ⊢
    (refine PuG_intro c13 b13 (Nat.le_of_ble_eq_true rfl) fun σ hσ => ?_; simp only [c13, ↓R1, R2, R3, R4, R5, Nat.reduceEqDiff, Nat.reduceAdd, Nat.reduceMul, Nat.reduceSub, Nat.reduceLeDiff, Nat.reduceLT, reduceIte, reduceCtorEq, Int.reduceBNe, Int.reduceBEq, hq, hw])
    repeat' (first | (with_reducible rw [allocV_eq]) | (refine gdV_split (fun hc => ?_) (fun hc => ?_) <;> (try simp only [hc, ↓R1, R2, R3, R4, R5, Nat.reduceEqDiff, Nat.reduceAdd, Nat.reduceMul, Nat.reduceSub, Nat.reduceLeDiff, Nat.reduceLT, reduceIte, reduceCtorEq, Int.reduceBNe, Int.reduceBEq, hq, hw])) | ((first | refine condV_split (fun hc => ?_) (fun hc => ?_) | (with_reducible intro β hβ; (try simp only [St.box_noneA, St.tip_noneA, St.tip_set, St.box_tip, St.box_lp, St.tip_lp] at hβ); (repeat (obtain ⟨⟨_, _⟩, hβ⟩ := hβ)); (try (have hbis := apart_is (by assumption) hβ; obtain ⟨_, _⟩ := hbis)))) <;> (try simp only [↓R1, R2, R3, R4, R5, Nat.reduceEqDiff, Nat.reduceAdd, Nat.reduceMul, Nat.reduceSub, Nat.reduceLeDiff, Nat.reduceLT, reduceIte, reduceCtorEq, Int.reduceBNe, Int.reduceBEq, hq, hw])) | (with_reducible refine And.intro ?_ ?_; (focus (first | omega | (intros; (repeat' (with_reducible apply And.intro)) <;> first | omega | (simp only [List.length_append, List.length_cons, List.length_nil]; omega))))) | (with_reducible apply And.intro) | ((first | refine Pu.to (h) (wkL_refl _) ?_ | refine callDV_pu (h) (wkL_refl _) ?_ | refine PuG.to (h1) hσ (wkL_refl _) ?_ | refine Pu.to (h2) (wkL_refl _) ?_ | refine callDV_pu (h2) (wkL_refl _) ?_ | refine callDV_puG (h3) hσ (wkL_refl _) ?_ | refine callDV_puG (h4) hσ (wkL_refl _) ?_); (try simp only [↓R1, R2, R3, R4, R5, Nat.reduceEqDiff, Nat.reduceAdd, Nat.reduceMul, Nat.reduceSub, Nat.reduceLeDiff, Nat.reduceLT, reduceIte, reduceCtorEq, Int.reduceBNe, Int.reduceBEq, hq, hw])))
    all_goals first | (exfalso; simp_all; done) | (with_reducible intro hno; exfalso; simp_all; done) | skip
    all_goals (refine endP_pu (by simp) (by first | (simp [rvsS, rvS]; done) | (simp only [rvsS, rvS, ↓R1, R2, R3, R4, R5, Nat.reduceEqDiff, Nat.reduceAdd, Nat.reduceMul, Nat.reduceSub, Nat.reduceLeDiff, Nat.reduceLT, reduceIte, reduceCtorEq, Int.reduceBNe, Int.reduceBEq, hq, hw]; try simp)) (wk_of_eq ?_) (by (repeat (first | exact St.le_refl _ | (refine St.le_new ?_ (by assumption)) | (refine St.le_newT ?_ (by assumption))))))
    all_goals (simp only [resAV, rvV, List.map_cons, List.map_nil, ↓R1, R2, R3, R4, R5, Nat.reduceEqDiff, Nat.reduceAdd, Nat.reduceMul, Nat.reduceSub, Nat.reduceLeDiff, Nat.reduceLT, reduceIte, reduceCtorEq, Int.reduceBNe, Int.reduceBEq, hq, hw])
  · have hq : (rightE x != 0) = true := by simpa using hr
    have hT : textR x = [] := by rw [textR, beq_eq_false_iff_ne.2 hr]; rfl
    rw [hT]
    simp only [cRec] at h ⊢
    (refine PuG_intro c13 b13 (Nat.le_of_ble_eq_true rfl) fun σ hσ => ?_; simp only [c13, ↓R1, R2, R3, R4, R5, Nat.reduceEqDiff, Nat.reduceAdd, Nat.reduceMul, Nat.reduceSub, Nat.reduceLeDiff, Nat.reduceLT, reduceIte, reduceCtorEq, Int.reduceBNe, Int.reduceBEq, hq, hw])
    repeat' (first | (with_reducible rw [allocV_eq]) | (refine gdV_split (fun hc => ?_) (fun hc => ?_) <;> (try simp only [hc, ↓R1, R2, R3, R4, R5, Nat.reduceEqDiff, Nat.reduceAdd, Nat.reduceMul, Nat.reduceSub, Nat.reduceLeDiff, Nat.reduceLT, reduceIte, reduceCtorEq, Int.reduceBNe, Int.reduceBEq, hq, hw])) | ((first | refine condV_split (fun hc => ?_) (fun hc => ?_) | (with_reducible intro β hβ; (try simp only [St.box_noneA, St.tip_noneA, St.tip_set, St.box_tip, St.box_lp, St.tip_lp] at hβ); (repeat (obtain ⟨⟨_, _⟩, hβ⟩ := hβ)); (try (have hbis := apart_is (by assumption) hβ; obtain ⟨_, _⟩ := hbis)))) <;> (try simp only [↓R1, R2, R3, R4, R5, Nat.reduceEqDiff, Nat.reduceAdd, Nat.reduceMul, Nat.reduceSub, Nat.reduceLeDiff, Nat.reduceLT, reduceIte, reduceCtorEq, Int.reduceBNe, Int.reduceBEq, hq, hw])) | (with_reducible refine And.intro ?_ ?_; (focus (first | omega | (intros; (repeat' (with_reducible apply And.intro)) <;> first | omega | (simp only [List.length_append, List.length_cons, List.length_nil]; omega))))) | (with_reducible apply And.intro) | ((first | refine Pu.to (h) (wkL_refl _) ?_ | refine callDV_pu (h) (wkL_refl _) ?_); (try simp only [↓R1, R2, R3, R4, R5, Nat.reduceEqDiff, Nat.reduceAdd, Nat.reduceMul, Nat.reduceSub, Nat.reduceLeDiff, Nat.reduceLT, reduceIte, reduceCtorEq, Int.reduceBNe, Int.reduceBEq, hq, hw])))
    all_goals first | (exfalso; simp_all; done) | (with_reducible intro hno; exfalso; simp_all; done) | skip
    all_goals (refine endP_pu (by simp) (by first | (simp [rvsS, rvS]; done) | (simp only [rvsS, rvS, ↓R1, R2, R3, R4, R5, Nat.reduceEqDiff, Nat.reduceAdd, Nat.reduceMul, Nat.reduceSub, Nat.reduceLeDiff, Nat.reduceLT, reduceIte, reduceCtorEq, Int.reduceBNe, Int.reduceBEq, hq, hw]; try simp)) (wk_of_eq ?_) (by (repeat (first | exact St.le_refl _ | (refine St.le_new ?_ (by assumption)) | (refine St.le_newT ?_ (by assumption))))))
    all_goals (simp only [resAV, rvV, List.map_cons, List.map_nil, ↓R1, R2, R3, R4, R5, Nat.reduceEqDiff, Nat.reduceAdd, Nat.reduceMul, Nat.reduceSub, Nat.reduceLeDiff, Nat.reduceLT, reduceIte, reduceCtorEq, Int.reduceBNe, Int.reduceBEq, hq, hw])
end Go.Proofs.YtbbkckogjdjjgaaDoor
namespace Go.Proofs.YtbbkckogjdjjgaaDoor
open Go.Abs Go.Lib
set_option linter.all false
set_option maxRecDepth 100000
def recK (x : LE) : Int × Int × Int × Int × Int × Int := (x.rule, x.el, x.no, x.old, x.new, x.tick)
theorem cRec_drop (l : List LE) (k : Nat) (h : k < l.length) : (l.flatMap cRec).drop (k * 6) = .int .i64 (eAt l k).rule :: .int .u64 (eAt l k).el :: .int .u64 (eAt l k).no :: .int .u64 (eAt l k).old :: .int .u64 (eAt l k).new :: .int .u64 (eAt l k).tick :: (l.flatMap cRec).drop ((k + 1) * 6) := by
  rw [flat_drop cRec_f, List.drop_eq_getElem_cons h, List.flatMap_cons, flat_drop cRec_f, eAt_lt h]; rfl
theorem take_ext {α β : Type} (f : α → β) {a b : List α} {k : Nat} (ha : k < a.length) (hb : k < b.length) (h : (a.take k).map f = (b.take k).map f) : (a.take (k + 1)).map f = (b.take (k + 1)).map f ↔ f a[k] = f b[k] := by
  rw [← List.take_append_getElem ha, ← List.take_append_getElem hb, List.map_append, List.map_append, h]
  simp
theorem map_ne {α β : Type} (f : α → β) {a b : List α} {k : Nat} (h : (a.take k).map f ≠ (b.take k).map f) : a.map f ≠ b.map f := fun e => h (by rw [List.map_take, List.map_take, e])
set_option maxHeartbeats 4000000 in
theorem p22 (a b : List LE) (hl : a.length ≤ 1000000) : Pu Tryd.prog 22 [sl cRec a, sl cRec b] (.bool (decide (a.map recK = b.map recK))) := by
  have hd : True := trivial
  have hd2 : True := trivial
  have hwi : True := trivial
  have hq : True := trivial
  by_cases hlen : a.length = b.length
  · have hne : ((a.length : Int) != (b.length : Int)) = false := by rw [hlen]; simp
    (refine Pu_intro c22 b22 (Nat.le_of_ble_eq_true rfl) fun σ => ?_; simp only [c22, ↓R1, R2, R3, R4, R5, Nat.reduceEqDiff, Nat.reduceAdd, Nat.reduceMul, Nat.reduceSub, Nat.reduceLeDiff, Nat.reduceLT, reduceIte, reduceCtorEq, Int.reduceBNe, Int.reduceBEq, hd, hd2, hwi, hq, hne])
    repeat' (first | (with_reducible rw [allocV_eq]) | (refine gdV_split (fun hc => ?_) (fun hc => ?_) <;> (try simp only [hc, ↓R1, R2, R3, R4, R5, Nat.reduceEqDiff, Nat.reduceAdd, Nat.reduceMul, Nat.reduceSub, Nat.reduceLeDiff, Nat.reduceLT, reduceIte, reduceCtorEq, Int.reduceBNe, Int.reduceBEq, hd, hd2, hwi, hq, hne])) | ((first | refine condV_split (fun hc => ?_) (fun hc => ?_) | (with_reducible intro β hβ; (try simp only [St.box_noneA, St.tip_noneA, St.tip_set, St.box_tip, St.box_lp, St.tip_lp] at hβ); (repeat (obtain ⟨⟨_, _⟩, hβ⟩ := hβ)); (try (have hbis := apart_is (by assumption) hβ; obtain ⟨_, _⟩ := hbis))) | ((first | (refine appD_tslK (.inr rfl) rfl ?_ ?_ ?_ ?_ ?_ ?_; (first | rfl | exact St.tip_same _ _ _ | (simp only [↓R1, R2, R3, R4, R5, Nat.reduceEqDiff, Nat.reduceAdd, Nat.reduceMul, Nat.reduceSub, Nat.reduceLeDiff, Nat.reduceLT, reduceIte, reduceCtorEq, Int.reduceBNe, Int.reduceBEq, hd, hd2, hwi, hq, hne])); (first | omega | (simp only [cLE_len, cRec_len, List.length_append, List.length_cons, List.length_nil, List.length_nil, List.length_cons]; omega) | (simp only [cLE_len, cRec_len, List.length_append, List.length_cons, List.length_nil, List.length_nil, List.length_cons])); (first | rfl | first | omega | (simp only [cLE_len, cRec_len, List.length_append, List.length_cons, List.length_nil, List.length_nil, List.length_cons]; omega) | (simp only [cLE_len, cRec_len, List.length_append, List.length_cons, List.length_nil, List.length_nil, List.length_cons]))) | (refine appV_tslK rfl ?_ ?_ ?_ ?_ ?_ ?_; (first | rfl | exact St.tip_same _ _ _ | (simp only [↓R1, R2, R3, R4, R5, Nat.reduceEqDiff, Nat.reduceAdd, Nat.reduceMul, Nat.reduceSub, Nat.reduceLeDiff, Nat.reduceLT, reduceIte, reduceCtorEq, Int.reduceBNe, Int.reduceBEq, hd, hd2, hwi, hq, hne])); (first | omega | (simp only [cLE_len, cRec_len, List.length_append, List.length_cons, List.length_nil, List.length_nil, List.length_cons]; omega) | (simp only [cLE_len, cRec_len, List.length_append, List.length_cons, List.length_nil, List.length_nil, List.length_cons])); (first | rfl | first | omega | (simp only [cLE_len, cRec_len, List.length_append, List.length_cons, List.length_nil, List.length_nil, List.length_cons]; omega) | (simp only [cLE_len, cRec_len, List.length_append, List.length_cons, List.length_nil, List.length_nil, List.length_cons]))) | (refine appV_own ?_ ?_ ?_ ?_; exact flat_len (by intro _; rfl) _) | (refine appD_own ?_ ?_ ?_ ?_ ?_; omega; exact flat_len (by intro _; rfl) _) | (refine appV_fresh rfl trivial rfl ?_ ?_ ?_ ?_ ?_; (first | rfl | first | omega | (simp only [cLE_len, cRec_len, List.length_append, List.length_cons, List.length_nil, List.length_nil, List.length_cons]; omega) | (simp only [cLE_len, cRec_len, List.length_append, List.length_cons, List.length_nil, List.length_nil, List.length_cons])); (first | rfl | first | omega | (simp only [cLE_len, cRec_len, List.length_append, List.length_cons, List.length_nil, List.length_nil, List.length_cons]; omega) | (simp only [cLE_len, cRec_len, List.length_append, List.length_cons, List.length_nil, List.length_nil, List.length_cons]))) | (refine appD_fresh rfl trivial rfl ?_ ?_ ?_ ?_ ?_ ?_; omega; (first | rfl | first | omega | (simp only [cLE_len, cRec_len, List.length_append, List.length_cons, List.length_nil, List.length_nil, List.length_cons]; omega) | (simp only [cLE_len, cRec_len, List.length_append, List.length_cons, List.length_nil, List.length_nil, List.length_cons])); (first | rfl | first | omega | (simp only [cLE_len, cRec_len, List.length_append, List.length_cons, List.length_nil, List.length_nil, List.length_cons]; omega) | (simp only [cLE_len, cRec_len, List.length_append, List.length_cons, List.length_nil, List.length_nil, List.length_cons])))); (unfold maxLen; omega); omega)) <;> (try simp only [↓R1, R2, R3, R4, R5, Nat.reduceEqDiff, Nat.reduceAdd, Nat.reduceMul, Nat.reduceSub, Nat.reduceLeDiff, Nat.reduceLT, reduceIte, reduceCtorEq, Int.reduceBNe, Int.reduceBEq, hd, hd2, hwi, hq, hne])) | (with_reducible refine And.intro ?_ ?_; (focus (first | omega | (intros; (repeat' (with_reducible apply And.intro)) <;> first | omega | (simp only [cLE_len, cRec_len, List.length_append, List.length_cons, List.length_nil]; omega))))) | (with_reducible apply And.intro))
    all_goals first | (exfalso; simp_all; done) | (with_reducible intro hno; exfalso; simp_all; done) | skip
    refine loopV_for a.length (fun k => [(0, sl cRec a), (1, sl cRec b), (5, .int .i64 k)]) (fun _ => σ) (fun k => (a.take k).map recK = (b.take k).map recK) (by simp [subF, slot, wk_refl]) (St.le_refl _) rfl (fun k hk hI => ?_)
    simp only [↓R1, R2, R3, R4, R5, Nat.reduceEqDiff, Nat.reduceAdd, Nat.reduceMul, Nat.reduceSub, Nat.reduceLeDiff, Nat.reduceLT, reduceIte, reduceCtorEq, Int.reduceBNe, Int.reduceBEq, hd, hd2, hwi, hq, hne]
    refine condV_split (fun hc => ?_) (fun hc => ?_)
    · have hlt : k < a.length := by simpa using hc
      have hlt2 : k < b.length := by omega
      have hd := cRec_drop a k hlt
      have hd2 := cRec_drop b k hlt2
      have hwi : IntKind.i64.wrap ((k : Int) + 1) = ((k + 1 : Nat) : Int) := by rw [wrap64 (by omega) (by omega)]; omega
      have hx := take_ext recK hlt hlt2 hI
      rw [← eAt_lt hlt, ← eAt_lt hlt2] at hx
      simp only [↓R1, R2, R3, R4, R5, Nat.reduceEqDiff, Nat.reduceAdd, Nat.reduceMul, Nat.reduceSub, Nat.reduceLeDiff, Nat.reduceLT, reduceIte, reduceCtorEq, Int.reduceBNe, Int.reduceBEq, hd, hd2, hwi, hq, hne]
      repeat' (first | (with_reducible rw [allocV_eq]) | (refine gdV_split (fun hc => ?_) (fun hc => ?_) <;> (try simp only [hc, ↓R1, R2, R3, R4, R5, Nat.reduceEqDiff, Nat.reduceAdd, Nat.reduceMul, Nat.reduceSub, Nat.reduceLeDiff, Nat.reduceLT, reduceIte, reduceCtorEq, Int.reduceBNe, Int.reduceBEq, hd, hd2, hwi, hq, hne])) | ((first | refine condV_split (fun hc => ?_) (fun hc => ?_) | (with_reducible intro β hβ; (try simp only [St.box_noneA, St.tip_noneA, St.tip_set, St.box_tip, St.box_lp, St.tip_lp] at hβ); (repeat (obtain ⟨⟨_, _⟩, hβ⟩ := hβ)); (try (have hbis := apart_is (by assumption) hβ; obtain ⟨_, _⟩ := hbis))) | ((first | (refine appD_tslK (.inr rfl) rfl ?_ ?_ ?_ ?_ ?_ ?_; (first | rfl | exact St.tip_same _ _ _ | (simp only [↓R1, R2, R3, R4, R5, Nat.reduceEqDiff, Nat.reduceAdd, Nat.reduceMul, Nat.reduceSub, Nat.reduceLeDiff, Nat.reduceLT, reduceIte, reduceCtorEq, Int.reduceBNe, Int.reduceBEq, hd, hd2, hwi, hq, hne])); (first | omega | (simp only [cLE_len, cRec_len, List.length_append, List.length_cons, List.length_nil, List.length_nil, List.length_cons]; omega) | (simp only [cLE_len, cRec_len, List.length_append, List.length_cons, List.length_nil, List.length_nil, List.length_cons])); (first | rfl | first | omega | (simp only [cLE_len, cRec_len, List.length_append, List.length_cons, List.length_nil, List.length_nil, List.length_cons]; omega) | (simp only [cLE_len, cRec_len, List.length_append, List.length_cons, List.length_nil, List.length_nil, List.length_cons]))) | (refine appV_tslK rfl ?_ ?_ ?_ ?_ ?_ ?_; (first | rfl | exact St.tip_same _ _ _ | (simp only [↓R1, R2, R3, R4, R5, Nat.reduceEqDiff, Nat.reduceAdd, Nat.reduceMul, Nat.reduceSub, Nat.reduceLeDiff, Nat.reduceLT, reduceIte, reduceCtorEq, Int.reduceBNe, Int.reduceBEq, hd, hd2, hwi, hq, hne])); (first | omega | (simp only [cLE_len, cRec_len, List.length_append, List.length_cons, List.length_nil, List.length_nil, List.length_cons]; omega) | (simp only [cLE_len, cRec_len, List.length_append, List.length_cons, List.length_nil, List.length_nil, List.length_cons])); (first | rfl | first | omega | (simp only [cLE_len, cRec_len, List.length_append, List.length_cons, List.length_nil, List.length_nil, List.length_cons]; omega) | (simp only [cLE_len, cRec_len, List.length_append, List.length_cons, List.length_nil, List.length_nil, List.length_cons]))) | (refine appV_own ?_ ?_ ?_ ?_; exact flat_len (by intro _; rfl) _) | (refine appD_own ?_ ?_ ?_ ?_ ?_; omega; exact flat_len (by intro _; rfl) _) | (refine appV_fresh rfl trivial rfl ?_ ?_ ?_ ?_ ?_; (first | rfl | first | omega | (simp only [cLE_len, cRec_len, List.length_append, List.length_cons, List.length_nil, List.length_nil, List.length_cons]; omega) | (simp only [cLE_len, cRec_len, List.length_append, List.length_cons, List.length_nil, List.length_nil, List.length_cons])); (first | rfl | first | omega | (simp only [cLE_len, cRec_len, List.length_append, List.length_cons, List.length_nil, List.length_nil, List.length_cons]; omega) | (simp only [cLE_len, cRec_len, List.length_append, List.length_cons, List.length_nil, List.length_nil, List.length_cons]))) | (refine appD_fresh rfl trivial rfl ?_ ?_ ?_ ?_ ?_ ?_; omega; (first | rfl | first | omega | (simp only [cLE_len, cRec_len, List.length_append, List.length_cons, List.length_nil, List.length_nil, List.length_cons]; omega) | (simp only [cLE_len, cRec_len, List.length_append, List.length_cons, List.length_nil, List.length_nil, List.length_cons])); (first | rfl | first | omega | (simp only [cLE_len, cRec_len, List.length_append, List.length_cons, List.length_nil, List.length_nil, List.length_cons]; omega) | (simp only [cLE_len, cRec_len, List.length_append, List.length_cons, List.length_nil, List.length_nil, List.length_cons])))); (unfold maxLen; omega); omega)) <;> (try simp only [↓R1, R2, R3, R4, R5, Nat.reduceEqDiff, Nat.reduceAdd, Nat.reduceMul, Nat.reduceSub, Nat.reduceLeDiff, Nat.reduceLT, reduceIte, reduceCtorEq, Int.reduceBNe, Int.reduceBEq, hd, hd2, hwi, hq, hne])) | (with_reducible refine And.intro ?_ ?_; (focus (first | omega | (intros; (repeat' (with_reducible apply And.intro)) <;> first | omega | (simp only [cLE_len, cRec_len, List.length_append, List.length_cons, List.length_nil]; omega))))) | (with_reducible apply And.intro))
      · have hk2 : recK (eAt a k) ≠ recK (eAt b k) := by
          intro h
          simp only [recK, Prod.mk.injEq] at h
          simp [h] at hc
        have e : decide (a.map recK = b.map recK) = false := by
          rw [decide_eq_false_iff_not]
          exact map_ne recK (k := k + 1) (fun h => hk2 (hx.1 h))
        rw [e]
        (refine endP_pu (by simp) (by first | (simp [rvsS, rvS]; done) | (simp only [rvsS, rvS, ↓R1, R2, R3, R4, R5, Nat.reduceEqDiff, Nat.reduceAdd, Nat.reduceMul, Nat.reduceSub, Nat.reduceLeDiff, Nat.reduceLT, reduceIte, reduceCtorEq, Int.reduceBNe, Int.reduceBEq, hd, hd2, hwi, hq, hne]; try simp)) (wk_of_eq ?_) (by (repeat (first | exact St.le_refl _ | (refine St.le_new ?_ (by assumption)) | (refine St.le_newT ?_ (by assumption))))))
        (simp only [resAV, rvV, List.map_cons, List.map_nil, ↓R1, R2, R3, R4, R5, Nat.reduceEqDiff, Nat.reduceAdd, Nat.reduceMul, Nat.reduceSub, Nat.reduceLeDiff, Nat.reduceLT, reduceIte, reduceCtorEq, Int.reduceBNe, Int.reduceBEq, hd, hd2, hwi, hq, hne])
      · refine hx.2 ?_
        simp only [recK, Prod.mk.injEq]
        simpa using hc
      · simp only [subF, slot, wk_refl, ↓R1, R2, R3, R4, R5, Nat.reduceEqDiff, Nat.reduceAdd, Nat.reduceMul, Nat.reduceSub, Nat.reduceLeDiff, Nat.reduceLT, reduceIte, reduceCtorEq, Int.reduceBNe, Int.reduceBEq, hd, hd2, hwi, hq, hne]
      · exact St.le_refl _
    · have : k = a.length := by simp at hc; omega
      subst this
      rw [List.take_length, hlen, List.take_length] at hI
      rw [hI, decide_eq_true rfl]
      simp only [↓R1, R2, R3, R4, R5, Nat.reduceEqDiff, Nat.reduceAdd, Nat.reduceMul, Nat.reduceSub, Nat.reduceLeDiff, Nat.reduceLT, reduceIte, reduceCtorEq, Int.reduceBNe, Int.reduceBEq, hd, hd2, hwi, hq, hne]
      repeat' (first | (with_reducible rw [allocV_eq]) | (refine gdV_split (fun hc => ?_) (fun hc => ?_) <;> (try simp only [hc, ↓R1, R2, R3, R4, R5, Nat.reduceEqDiff, Nat.reduceAdd, Nat.reduceMul, Nat.reduceSub, Nat.reduceLeDiff, Nat.reduceLT, reduceIte, reduceCtorEq, Int.reduceBNe, Int.reduceBEq, hd, hd2, hwi, hq, hne])) | ((first | refine condV_split (fun hc => ?_) (fun hc => ?_) | (with_reducible intro β hβ; (try simp only [St.box_noneA, St.tip_noneA, St.tip_set, St.box_tip, St.box_lp, St.tip_lp] at hβ); (repeat (obtain ⟨⟨_, _⟩, hβ⟩ := hβ)); (try (have hbis := apart_is (by assumption) hβ; obtain ⟨_, _⟩ := hbis))) | ((first | (refine appD_tslK (.inr rfl) rfl ?_ ?_ ?_ ?_ ?_ ?_; (first | rfl | exact St.tip_same _ _ _ | (simp only [↓R1, R2, R3, R4, R5, Nat.reduceEqDiff, Nat.reduceAdd, Nat.reduceMul, Nat.reduceSub, Nat.reduceLeDiff, Nat.reduceLT, reduceIte, reduceCtorEq, Int.reduceBNe, Int.reduceBEq, hd, hd2, hwi, hq, hne])); (first | omega | (simp only [cLE_len, cRec_len, List.length_append, List.length_cons, List.length_nil, List.length_nil, List.length_cons]; omega) | (simp only [cLE_len, cRec_len, List.length_append, List.length_cons, List.length_nil, List.length_nil, List.length_cons])); (first | rfl | first | omega | (simp only [cLE_len, cRec_len, List.length_append, List.length_cons, List.length_nil, List.length_nil, List.length_cons]; omega) | (simp only [cLE_len, cRec_len, List.length_append, List.length_cons, List.length_nil, List.length_nil, List.length_cons]))) | (refine appV_tslK rfl ?_ ?_ ?_ ?_ ?_ ?_; (first | rfl | exact St.tip_same _ _ _ | (simp only [↓R1, R2, R3, R4, R5, Nat.reduceEqDiff, Nat.reduceAdd, Nat.reduceMul, Nat.reduceSub, Nat.reduceLeDiff, Nat.reduceLT, reduceIte, reduceCtorEq, Int.reduceBNe, Int.reduceBEq, hd, hd2, hwi, hq, hne])); (first | omega | (simp only [cLE_len, cRec_len, List.length_append, List.length_cons, List.length_nil, List.length_nil, List.length_cons]; omega) | (simp only [cLE_len, cRec_len, List.length_append, List.length_cons, List.length_nil, List.length_nil, List.length_cons])); (first | rfl | first | omega | (simp only [cLE_len, cRec_len, List.length_append, List.length_cons, List.length_nil, List.length_nil, List.length_cons]; omega) | (simp only [cLE_len, cRec_len, List.length_append, List.length_cons, List.length_nil, List.length_nil, List.length_cons]))) | (refine appV_own ?_ ?_ ?_ ?_; exact flat_len (by intro _; rfl) _) | (refine appD_own ?_ ?_ ?_ ?_ ?_; omega; exact flat_len (by intro _; rfl) _) | (refine appV_fresh rfl trivial rfl ?_ ?_ ?_ ?_ ?_; (first | rfl | first | omega | (simp only [cLE_len, cRec_len, List.length_append, List.length_cons, List.length_nil, List.length_nil, List.length_cons]; omega) | (simp only [cLE_len, cRec_len, List.length_append, List.length_cons, List.length_nil, List.length_nil, List.length_cons])); (first | rfl | first | omega | (simp only [cLE_len, cRec_len, List.length_append, List.length_cons, List.length_nil, List.length_nil, List.length_cons]; omega) | (simp only [cLE_len, cRec_len, List.length_append, List.length_cons, List.length_nil, List.length_nil, List.length_cons]))) | (refine appD_fresh rfl trivial rfl ?_ ?_ ?_ ?_ ?_ ?_; omega; (first | rfl | first | omega | (simp only [cLE_len, cRec_len, List.length_append, List.length_cons, List.length_nil, List.length_nil, List.length_cons]; omega) | (simp only [cLE_len, cRec_len, List.length_append, List.length_cons, List.length_nil, List.length_nil, List.length_cons])); (first | rfl | first | omega | (simp only [cLE_len, cRec_len, List.length_append, List.length_cons, List.length_nil, List.length_nil, List.length_cons]; omega) | (simp only [cLE_len, cRec_len, List.length_append, List.length_cons, List.length_nil, List.length_nil, List.length_cons])))); (unfold maxLen; omega); omega)) <;> (try simp only [↓R1, R2, R3, R4, R5, Nat.reduceEqDiff, Nat.reduceAdd, Nat.reduceMul, Nat.reduceSub, Nat.reduceLeDiff, Nat.reduceLT, reduceIte, reduceCtorEq, Int.reduceBNe, Int.reduceBEq, hd, hd2, hwi, hq, hne])) | (with_reducible refine And.intro ?_ ?_; (focus (first | omega | (intros; (repeat' (with_reducible apply And.intro)) <;> first | omega | (simp only [cLE_len, cRec_len, List.length_append, List.length_cons, List.length_nil]; omega))))) | (with_reducible apply And.intro))
      (refine endP_pu (by simp) (by first | (simp [rvsS, rvS]; done) | (simp only [rvsS, rvS, ↓R1, R2, R3, R4, R5, Nat.reduceEqDiff, Nat.reduceAdd, Nat.reduceMul, Nat.reduceSub, Nat.reduceLeDiff, Nat.reduceLT, reduceIte, reduceCtorEq, Int.reduceBNe, Int.reduceBEq, hd, hd2, hwi, hq, hne]; try simp)) (wk_of_eq ?_) (by (repeat (first | exact St.le_refl _ | (refine St.le_new ?_ (by assumption)) | (refine St.le_newT ?_ (by assumption))))))
      (simp only [resAV, rvV, List.map_cons, List.map_nil, ↓R1, R2, R3, R4, R5, Nat.reduceEqDiff, Nat.reduceAdd, Nat.reduceMul, Nat.reduceSub, Nat.reduceLeDiff, Nat.reduceLT, reduceIte, reduceCtorEq, Int.reduceBNe, Int.reduceBEq, hd, hd2, hwi, hq, hne])
  · have hne : ((a.length : Int) != (b.length : Int)) = true := by rw [bne_iff_ne]; omega
    have e : decide (a.map recK = b.map recK) = false := by
      rw [decide_eq_false_iff_not]; intro h; have := congrArg List.length h; simp at this; exact hlen this
    rw [e]
    (refine Pu_intro c22 b22 (Nat.le_of_ble_eq_true rfl) fun σ => ?_; simp only [c22, ↓R1, R2, R3, R4, R5, Nat.reduceEqDiff, Nat.reduceAdd, Nat.reduceMul, Nat.reduceSub, Nat.reduceLeDiff, Nat.reduceLT, reduceIte, reduceCtorEq, Int.reduceBNe, Int.reduceBEq, hd, hd2, hwi, hq, hne])
    repeat' (first | (with_reducible rw [allocV_eq]) | (refine gdV_split (fun hc => ?_) (fun hc => ?_) <;> (try simp only [hc, ↓R1, R2, R3, R4, R5, Nat.reduceEqDiff, Nat.reduceAdd, Nat.reduceMul, Nat.reduceSub, Nat.reduceLeDiff, Nat.reduceLT, reduceIte, reduceCtorEq, Int.reduceBNe, Int.reduceBEq, hd, hd2, hwi, hq, hne])) | ((first | refine condV_split (fun hc => ?_) (fun hc => ?_) | (with_reducible intro β hβ; (try simp only [St.box_noneA, St.tip_noneA, St.tip_set, St.box_tip, St.box_lp, St.tip_lp] at hβ); (repeat (obtain ⟨⟨_, _⟩, hβ⟩ := hβ)); (try (have hbis := apart_is (by assumption) hβ; obtain ⟨_, _⟩ := hbis))) | ((first | (refine appD_tslK (.inr rfl) rfl ?_ ?_ ?_ ?_ ?_ ?_; (first | rfl | exact St.tip_same _ _ _ | (simp only [↓R1, R2, R3, R4, R5, Nat.reduceEqDiff, Nat.reduceAdd, Nat.reduceMul, Nat.reduceSub, Nat.reduceLeDiff, Nat.reduceLT, reduceIte, reduceCtorEq, Int.reduceBNe, Int.reduceBEq, hd, hd2, hwi, hq, hne])); (first | omega | (simp only [cLE_len, cRec_len, List.length_append, List.length_cons, List.length_nil, List.length_nil, List.length_cons]; omega) | (simp only [cLE_len, cRec_len, List.length_append, List.length_cons, List.length_nil, List.length_nil, List.length_cons])); (first | rfl | first | omega | (simp only [cLE_len, cRec_len, List.length_append, List.length_cons, List.length_nil, List.length_nil, List.length_cons]; omega) | (simp only [cLE_len, cRec_len, List.length_append, List.length_cons, List.length_nil, List.length_nil, List.length_cons]))) | (refine appV_tslK rfl ?_ ?_ ?_ ?_ ?_ ?_; (first | rfl | exact St.tip_same _ _ _ | (simp only [↓R1, R2, R3, R4, R5, Nat.reduceEqDiff, Nat.reduceAdd, Nat.reduceMul, Nat.reduceSub, Nat.reduceLeDiff, Nat.reduceLT, reduceIte, reduceCtorEq, Int.reduceBNe, Int.reduceBEq, hd, hd2, hwi, hq, hne])); (first | omega | (simp only [cLE_len, cRec_len, List.length_append, List.length_cons, List.length_nil, List.length_nil, List.length_cons]; omega) | (simp only [cLE_len, cRec_len, List.length_append, List.length_cons, List.length_nil, List.length_nil, List.length_cons])); (first | rfl | first | omega | (simp only [cLE_len, cRec_len, List.length_append, List.length_cons, List.length_nil, List.length_nil, List.length_cons]; omega) | (simp only [cLE_len, cRec_len, List.length_append, List.length_cons, List.length_nil, List.length_nil, List.length_cons]))) | (refine appV_own ?_ ?_ ?_ ?_; exact flat_len (by intro _; rfl) _) | (refine appD_own ?_ ?_ ?_ ?_ ?_; omega; exact flat_len (by intro _; rfl) _) | (refine appV_fresh rfl trivial rfl ?_ ?_ ?_ ?_ ?_; (first | rfl | first | omega | (simp only [cLE_len, cRec_len, List.length_append, List.length_cons, List.length_nil, List.length_nil, List.length_cons]; omega) | (simp only [cLE_len, cRec_len, List.length_append, List.length_cons, List.length_nil, List.length_nil, List.length_cons])); (first | rfl | first | omega | (simp only [cLE_len, cRec_len, List.length_append, List.length_cons, List.length_nil, List.length_nil, List.length_cons]; omega) | (simp only [cLE_len, cRec_len, List.length_append, List.length_cons, List.length_nil, List.length_nil, List.length_cons]))) | (refine appD_fresh rfl trivial rfl ?_ ?_ ?_ ?_ ?_ ?_; omega; (first | rfl | first | omega | (simp only [cLE_len, cRec_len, List.length_append, List.length_cons, List.length_nil, List.length_nil, List.length_cons]; omega) | (simp only [cLE_len, cRec_len, List.length_append, List.length_cons, List.length_nil, List.length_nil, List.length_cons])); (first | rfl | first | omega | (simp only [cLE_len, cRec_len, List.length_append, List.length_cons, List.length_nil, List.length_nil, List.length_cons]; omega) | (simp only [cLE_len, cRec_len, List.length_append, List.length_cons, List.length_nil, List.length_nil, List.length_cons])))); (unfold maxLen; omega); omega)) <;> (try simp only [↓R1, R2, R3, R4, R5, Nat.reduceEqDiff, Nat.reduceAdd, Nat.reduceMul, Nat.reduceSub, Nat.reduceLeDiff, Nat.reduceLT, reduceIte, reduceCtorEq, Int.reduceBNe, Int.reduceBEq, hd, hd2, hwi, hq, hne])) | (with_reducible refine And.intro ?_ ?_; (focus (first | omega | (intros; (repeat' (with_reducible apply And.intro)) <;> first | omega | (simp only [cLE_len, cRec_len, List.length_append, List.length_cons, List.length_nil]; omega))))) | (with_reducible apply And.intro))
    all_goals first | (exfalso; simp_all; done) | (with_reducible intro hno; exfalso; simp_all; done) | skip
    (refine endP_pu (by simp) (by first | (simp [rvsS, rvS]; done) | (simp only [rvsS, rvS, ↓R1, R2, R3, R4, R5, Nat.reduceEqDiff, Nat.reduceAdd, Nat.reduceMul, Nat.reduceSub, Nat.reduceLeDiff, Nat.reduceLT, reduceIte, reduceCtorEq, Int.reduceBNe, Int.reduceBEq, hd, hd2, hwi, hq, hne]; try simp)) (wk_of_eq ?_) (by (repeat (first | exact St.le_refl _ | (refine St.le_new ?_ (by assumption)) | (refine St.le_newT ?_ (by assumption))))))
    (simp only [resAV, rvV, List.map_cons, List.map_nil, ↓R1, R2, R3, R4, R5, Nat.reduceEqDiff, Nat.reduceAdd, Nat.reduceMul, Nat.reduceSub, Nat.reduceLeDiff, Nat.reduceLT, reduceIte, reduceCtorEq, Int.reduceBNe, Int.reduceBEq, hd, hd2, hwi, hq, hne])
end Go.Proofs.YtbbkckogjdjjgaaDoor
namespace Go.Proofs.YtbbkckogjdjjgaaDoor
open Go.Abs Go.Lib
set_option linter.all false
set_option maxRecDepth 100000
def x1 : LE := ⟨2, 14, 0, 6, 5, 6, 2, 7⟩
def x2 : LE := ⟨2, 14, 1, 6, 5, 6, 2, 8⟩
theorem p23 : Pu Tryd.prog 23 [] (.agg [.int .i64 0, .int .u64 6, .int .u64 5, .int .u64 6, .int .u64 2, .int .u64 7]) := by
  (refine Pu_intro c23 b23 (Nat.le_of_ble_eq_true rfl) fun σ => ?_; simp only [c23, ↓R1, R2, R3, R4, R5, Nat.reduceEqDiff, Nat.reduceAdd, Nat.reduceMul, Nat.reduceSub, Nat.reduceLeDiff, Nat.reduceLT, reduceIte, reduceCtorEq, Int.reduceBNe, Int.reduceBEq])
  repeat' (first | (with_reducible rw [allocV_eq]) | (refine gdV_split (fun hc => ?_) (fun hc => ?_) <;> (try simp only [hc, ↓R1, R2, R3, R4, R5, Nat.reduceEqDiff, Nat.reduceAdd, Nat.reduceMul, Nat.reduceSub, Nat.reduceLeDiff, Nat.reduceLT, reduceIte, reduceCtorEq, Int.reduceBNe, Int.reduceBEq])) | ((first | refine condV_split (fun hc => ?_) (fun hc => ?_) | (with_reducible intro β hβ; (try simp only [St.box_noneA, St.tip_noneA, St.tip_set, St.box_tip, St.box_lp, St.tip_lp] at hβ); (repeat (obtain ⟨⟨_, _⟩, hβ⟩ := hβ)); (try (have hbis := apart_is (by assumption) hβ; obtain ⟨_, _⟩ := hbis)))) <;> (try simp only [↓R1, R2, R3, R4, R5, Nat.reduceEqDiff, Nat.reduceAdd, Nat.reduceMul, Nat.reduceSub, Nat.reduceLeDiff, Nat.reduceLT, reduceIte, reduceCtorEq, Int.reduceBNe, Int.reduceBEq])) | (with_reducible refine And.intro ?_ ?_; (focus (first | omega | (intros; (repeat' (with_reducible apply And.intro)) <;> first | omega | (simp only [cLE_len, cRec_len, List.length_append, List.length_cons, List.length_nil]; omega))))) | (with_reducible apply And.intro))
  (refine endP_pu (by simp) (by first | (simp [rvsS, rvS]; done) | (simp only [rvsS, rvS, ↓R1, R2, R3, R4, R5, Nat.reduceEqDiff, Nat.reduceAdd, Nat.reduceMul, Nat.reduceSub, Nat.reduceLeDiff, Nat.reduceLT, reduceIte, reduceCtorEq, Int.reduceBNe, Int.reduceBEq]; try simp)) (wk_of_eq ?_) (by (repeat (first | exact St.le_refl _ | (refine St.le_new ?_ (by assumption)) | (refine St.le_newT ?_ (by assumption))))))
  (simp only [resAV, rvV, List.map_cons, List.map_nil, ↓R1, R2, R3, R4, R5, Nat.reduceEqDiff, Nat.reduceAdd, Nat.reduceMul, Nat.reduceSub, Nat.reduceLeDiff, Nat.reduceLT, reduceIte, reduceCtorEq, Int.reduceBNe, Int.reduceBEq])
theorem p24 : Pu Tryd.prog 24 [] (.agg [.int .i64 1, .int .u64 6, .int .u64 5, .int .u64 6, .int .u64 2, .int .u64 8]) := by
  have h := p23
  (refine Pu_intro c24 b24 (Nat.le_of_ble_eq_true rfl) fun σ => ?_; simp only [c24, ↓R1, R2, R3, R4, R5, Nat.reduceEqDiff, Nat.reduceAdd, Nat.reduceMul, Nat.reduceSub, Nat.reduceLeDiff, Nat.reduceLT, reduceIte, reduceCtorEq, Int.reduceBNe, Int.reduceBEq])
  repeat' (first | (with_reducible rw [allocV_eq]) | (refine gdV_split (fun hc => ?_) (fun hc => ?_) <;> (try simp only [hc, ↓R1, R2, R3, R4, R5, Nat.reduceEqDiff, Nat.reduceAdd, Nat.reduceMul, Nat.reduceSub, Nat.reduceLeDiff, Nat.reduceLT, reduceIte, reduceCtorEq, Int.reduceBNe, Int.reduceBEq])) | ((first | refine condV_split (fun hc => ?_) (fun hc => ?_) | (with_reducible intro β hβ; (try simp only [St.box_noneA, St.tip_noneA, St.tip_set, St.box_tip, St.box_lp, St.tip_lp] at hβ); (repeat (obtain ⟨⟨_, _⟩, hβ⟩ := hβ)); (try (have hbis := apart_is (by assumption) hβ; obtain ⟨_, _⟩ := hbis)))) <;> (try simp only [↓R1, R2, R3, R4, R5, Nat.reduceEqDiff, Nat.reduceAdd, Nat.reduceMul, Nat.reduceSub, Nat.reduceLeDiff, Nat.reduceLT, reduceIte, reduceCtorEq, Int.reduceBNe, Int.reduceBEq])) | (with_reducible refine And.intro ?_ ?_; (focus (first | omega | (intros; (repeat' (with_reducible apply And.intro)) <;> first | omega | (simp only [cLE_len, cRec_len, List.length_append, List.length_cons, List.length_nil]; omega))))) | (with_reducible apply And.intro) | ((first | refine Pu.to (h) (wkL_refl _) ?_ | refine callDV_pu (h) (wkL_refl _) ?_); (try simp only [↓R1, R2, R3, R4, R5, Nat.reduceEqDiff, Nat.reduceAdd, Nat.reduceMul, Nat.reduceSub, Nat.reduceLeDiff, Nat.reduceLT, reduceIte, reduceCtorEq, Int.reduceBNe, Int.reduceBEq])))
  (refine endP_pu (by simp) (by first | (simp [rvsS, rvS]; done) | (simp only [rvsS, rvS, ↓R1, R2, R3, R4, R5, Nat.reduceEqDiff, Nat.reduceAdd, Nat.reduceMul, Nat.reduceSub, Nat.reduceLeDiff, Nat.reduceLT, reduceIte, reduceCtorEq, Int.reduceBNe, Int.reduceBEq]; try simp)) (wk_of_eq ?_) (by (repeat (first | exact St.le_refl _ | (refine St.le_new ?_ (by assumption)) | (refine St.le_newT ?_ (by assumption))))))
  (simp only [resAV, rvV, List.map_cons, List.map_nil, ↓R1, R2, R3, R4, R5, Nat.reduceEqDiff, Nat.reduceAdd, Nat.reduceMul, Nat.reduceSub, Nat.reduceLeDiff, Nat.reduceLT, reduceIte, reduceCtorEq, Int.reduceBNe, Int.reduceBEq])
theorem one_app : appL [] x1 1 = [x1] ∧ appE [] x1 1 = 0 := ⟨by kernel_rfl, by kernel_rfl⟩
theorem two_app : appL [x1] x2 2 = [x1, x2] ∧ appE [x1] x2 2 = 0 := ⟨by kernel_rfl, by kernel_rfl⟩
theorem vis_two : visL [x1, x2] 15 = [x1, x2] ∧ chkE [x1, x2] = 0 := ⟨by kernel_rfl, by kernel_rfl⟩
theorem text_one : textR x1 = [48, 32, 123, 49, 44, 50, 125, 35, 53, 32, 45, 62, 32, 123, 49, 125, 32, 64, 55] ∧ rightE x1 = 0 := by
  have d0 : decDigits 0 = [48] := by rw [decDigits]; rfl
  have d5 : decDigits 5 = [53] := by rw [decDigits]; rfl
  have d7 : decDigits 7 = [55] := by rw [decDigits]; rfl
  have t6 : textL (toB 6) = [123, 49, 44, 50, 125] := by kernel_rfl
  have t2 : textL (toB 2) = [123, 49, 125] := by kernel_rfl
  refine ⟨?_, by kernel_rfl⟩
  show decDigits 0 ++ [32] ++ (textL (toB 6) ++ [35] ++ decDigits 5) ++ [32, 45, 62, 32] ++ textL (toB 2) ++ [32, 64] ++ decDigits 7 = _
  rw [d0, d5, d7, t6, t2]; rfl
theorem p25 : Pu Tryd.prog 25 [] (.agg [sl cLE [x1, x2]]) := by
  have h1 := p23
  have h2 := p24
  have a1 := p11 [] x1 1 (by decide)
  rw [one_app.1, one_app.2] at a1
  have a2 := p11 [x1] x2 2 (by decide)
  rw [two_app.1, two_app.2] at a2
  simp only [x1, x2, cLE, cRec, List.flatMap_cons, List.flatMap_nil, List.cons_append, List.nil_append, List.length_cons, List.length_nil, Nat.reduceAdd] at a1 a2 ⊢
  (refine Pu_intro c25 b25 (Nat.le_of_ble_eq_true rfl) fun σ => ?_; simp only [c25, ↓R1, R2, R3, R4, R5, Nat.reduceEqDiff, Nat.reduceAdd, Nat.reduceMul, Nat.reduceSub, Nat.reduceLeDiff, Nat.reduceLT, reduceIte, reduceCtorEq, Int.reduceBNe, Int.reduceBEq, cLE, cRec, x1, x2])
  repeat' (first | (with_reducible rw [allocV_eq]) | (refine gdV_split (fun hc => ?_) (fun hc => ?_) <;> (try simp only [hc, ↓R1, R2, R3, R4, R5, Nat.reduceEqDiff, Nat.reduceAdd, Nat.reduceMul, Nat.reduceSub, Nat.reduceLeDiff, Nat.reduceLT, reduceIte, reduceCtorEq, Int.reduceBNe, Int.reduceBEq, cLE, cRec, x1, x2])) | ((first | refine condV_split (fun hc => ?_) (fun hc => ?_) | (with_reducible intro β hβ; (try simp only [St.box_noneA, St.tip_noneA, St.tip_set, St.box_tip, St.box_lp, St.tip_lp] at hβ); (repeat (obtain ⟨⟨_, _⟩, hβ⟩ := hβ)); (try (have hbis := apart_is (by assumption) hβ; obtain ⟨_, _⟩ := hbis)))) <;> (try simp only [↓R1, R2, R3, R4, R5, Nat.reduceEqDiff, Nat.reduceAdd, Nat.reduceMul, Nat.reduceSub, Nat.reduceLeDiff, Nat.reduceLT, reduceIte, reduceCtorEq, Int.reduceBNe, Int.reduceBEq, cLE, cRec, x1, x2])) | (with_reducible refine And.intro ?_ ?_; (focus (first | omega | (intros; (repeat' (with_reducible apply And.intro)) <;> first | omega | (simp only [cLE_len, cRec_len, List.length_append, List.length_cons, List.length_nil]; omega))))) | (with_reducible apply And.intro) | ((first | refine Pu.to (h1) (wkL_refl _) ?_ | refine callDV_pu (h1) (wkL_refl _) ?_ | refine Pu.to (h2) (wkL_refl _) ?_ | refine callDV_pu (h2) (wkL_refl _) ?_ | refine Pu.to (a1) (wkL_refl _) ?_ | refine callDV_pu (a1) (wkL_refl _) ?_ | refine Pu.to (a2) (wkL_refl _) ?_ | refine callDV_pu (a2) (wkL_refl _) ?_); (try simp only [↓R1, R2, R3, R4, R5, Nat.reduceEqDiff, Nat.reduceAdd, Nat.reduceMul, Nat.reduceSub, Nat.reduceLeDiff, Nat.reduceLT, reduceIte, reduceCtorEq, Int.reduceBNe, Int.reduceBEq, cLE, cRec, x1, x2])) | (refine Pu.to (a1) ?_ ?_; (focus ((repeat' (first | exact wk_refl _ | exact wk_nils | exact wk_tsl _ _ _ | exact wk_full _ _ | exact wkL.nil | exact wkL_refl _ | refine wk_tup ?_ | refine wk_agg ?_ | refine wkL.cons ?_ ?_)); done)); (try simp only [↓R1, R2, R3, R4, R5, Nat.reduceEqDiff, Nat.reduceAdd, Nat.reduceMul, Nat.reduceSub, Nat.reduceLeDiff, Nat.reduceLT, reduceIte, reduceCtorEq, Int.reduceBNe, Int.reduceBEq, cLE, cRec, x1, x2])))
  all_goals first | (exfalso; simp_all; done) | (with_reducible intro hno; exfalso; simp_all; done) | skip
  all_goals first | exact .inr trivial | skip
  all_goals (refine endP_pu (by simp) (by first | (simp [rvsS, rvS]; done) | (simp only [rvsS, rvS, ↓R1, R2, R3, R4, R5, Nat.reduceEqDiff, Nat.reduceAdd, Nat.reduceMul, Nat.reduceSub, Nat.reduceLeDiff, Nat.reduceLT, reduceIte, reduceCtorEq, Int.reduceBNe, Int.reduceBEq, cLE, cRec, x1, x2]; try simp)) (wk_of_eq ?_) (by (repeat (first | exact St.le_refl _ | (refine St.le_new ?_ (by assumption)) | (refine St.le_newT ?_ (by assumption))))))
  all_goals (simp only [resAV, rvV, List.map_cons, List.map_nil, ↓R1, R2, R3, R4, R5, Nat.reduceEqDiff, Nat.reduceAdd, Nat.reduceMul, Nat.reduceSub, Nat.reduceLeDiff, Nat.reduceLT, reduceIte, reduceCtorEq, Int.reduceBNe, Int.reduceBEq, cLE, cRec, x1, x2])
theorem awake_pu : PuG Tryd.prog gl3 9 [] (.bool true) := by
  have h1 := p23
  have h2 := p24
  have h3 := p25
  have h4 := p13 x1 ⟨by decide, by decide, by decide⟩
  rw [text_one.1, text_one.2] at h4
  have h5 := p21 [x1, x2] 15 (by decide)
  rw [vis_two.1, vis_two.2] at h5
  have h6 := p22 [x1, x2] [x1, x2] (by decide)
  rw [decide_eq_true rfl] at h6
  simp only [x1, x2, cLE, cRec, List.flatMap_cons, List.flatMap_nil, List.cons_append, List.nil_append, List.length_cons, List.length_nil, Nat.reduceAdd] at h3 h4 h5 h6
  (refine PuG_intro c9 b9 (Nat.le_of_ble_eq_true rfl) fun σ hσ => ?_; simp only [c9, ↓R1, R2, R3, R4, R5, Nat.reduceEqDiff, Nat.reduceAdd, Nat.reduceMul, Nat.reduceSub, Nat.reduceLeDiff, Nat.reduceLT, reduceIte, reduceCtorEq, Int.reduceBNe, Int.reduceBEq, cLE, cRec, x1, x2])
  repeat' (first | (with_reducible rw [allocV_eq]) | (refine gdV_split (fun hc => ?_) (fun hc => ?_) <;> (try simp only [hc, ↓R1, R2, R3, R4, R5, Nat.reduceEqDiff, Nat.reduceAdd, Nat.reduceMul, Nat.reduceSub, Nat.reduceLeDiff, Nat.reduceLT, reduceIte, reduceCtorEq, Int.reduceBNe, Int.reduceBEq, cLE, cRec, x1, x2])) | ((first | refine condV_split (fun hc => ?_) (fun hc => ?_) | (with_reducible intro β hβ; (try simp only [St.box_noneA, St.tip_noneA, St.tip_set, St.box_tip, St.box_lp, St.tip_lp] at hβ); (repeat (obtain ⟨⟨_, _⟩, hβ⟩ := hβ)); (try (have hbis := apart_is (by assumption) hβ; obtain ⟨_, _⟩ := hbis)))) <;> (try simp only [↓R1, R2, R3, R4, R5, Nat.reduceEqDiff, Nat.reduceAdd, Nat.reduceMul, Nat.reduceSub, Nat.reduceLeDiff, Nat.reduceLT, reduceIte, reduceCtorEq, Int.reduceBNe, Int.reduceBEq, cLE, cRec, x1, x2])) | (with_reducible refine And.intro ?_ ?_; (focus (first | omega | (intros; (repeat' (with_reducible apply And.intro)) <;> first | omega | (simp only [cLE_len, cRec_len, List.length_append, List.length_cons, List.length_nil]; omega))))) | (with_reducible apply And.intro) | ((first | refine Pu.to (h1) (wkL_refl _) ?_ | refine callDV_pu (h1) (wkL_refl _) ?_ | refine Pu.to (h2) (wkL_refl _) ?_ | refine callDV_pu (h2) (wkL_refl _) ?_ | refine Pu.to (h3) (wkL_refl _) ?_ | refine callDV_pu (h3) (wkL_refl _) ?_ | refine PuG.to (h4) hσ (wkL_refl _) ?_ | refine Pu.to (h5) (wkL_refl _) ?_ | refine callDV_pu (h5) (wkL_refl _) ?_ | (refine callGV_pu (fun hgv => ⟨?_, (h1), wkL_refl _⟩) ?_; (first | trivial | (focus (simp only [↓R1, R2, R3, R4, R5, Nat.reduceEqDiff, Nat.reduceAdd, Nat.reduceMul, Nat.reduceSub, Nat.reduceLeDiff, Nat.reduceLT, reduceIte, reduceCtorEq, Int.reduceBNe, Int.reduceBEq, cLE, cRec, x1, x2]; done)))) | (refine callGV_pu (fun hgv => ⟨?_, (h2), wkL_refl _⟩) ?_; (first | trivial | (focus (simp only [↓R1, R2, R3, R4, R5, Nat.reduceEqDiff, Nat.reduceAdd, Nat.reduceMul, Nat.reduceSub, Nat.reduceLeDiff, Nat.reduceLT, reduceIte, reduceCtorEq, Int.reduceBNe, Int.reduceBEq, cLE, cRec, x1, x2]; done)))) | (refine callGV_pu (fun hgv => ⟨?_, (h6), wkL_refl _⟩) ?_; (first | trivial | (focus (simp only [↓R1, R2, R3, R4, R5, Nat.reduceEqDiff, Nat.reduceAdd, Nat.reduceMul, Nat.reduceSub, Nat.reduceLeDiff, Nat.reduceLT, reduceIte, reduceCtorEq, Int.reduceBNe, Int.reduceBEq, cLE, cRec, x1, x2]; done))))); (try simp only [↓R1, R2, R3, R4, R5, Nat.reduceEqDiff, Nat.reduceAdd, Nat.reduceMul, Nat.reduceSub, Nat.reduceLeDiff, Nat.reduceLT, reduceIte, reduceCtorEq, Int.reduceBNe, Int.reduceBEq, cLE, cRec, x1, x2])) | (refine Pu.to (h6) ?_ ?_; (focus ((repeat' (first | exact wk_refl _ | exact wk_nils | exact wk_tsl _ _ _ | exact wk_full _ _ | exact wkL.nil | exact wkL_refl _ | refine wk_tup ?_ | refine wk_agg ?_ | refine wkL.cons ?_ ?_)); done)); (try simp only [↓R1, R2, R3, R4, R5, Nat.reduceEqDiff, Nat.reduceAdd, Nat.reduceMul, Nat.reduceSub, Nat.reduceLeDiff, Nat.reduceLT, reduceIte, reduceCtorEq, Int.reduceBNe, Int.reduceBEq, cLE, cRec, x1, x2])))
  all_goals first | (exfalso; simp_all; done) | (with_reducible intro hno; exfalso; simp_all; done) | skip

  all_goals (refine endP_pu (by simp) (by first | (simp [rvsS, rvS]; done) | (simp only [rvsS, rvS, ↓R1, R2, R3, R4, R5, Nat.reduceEqDiff, Nat.reduceAdd, Nat.reduceMul, Nat.reduceSub, Nat.reduceLeDiff, Nat.reduceLT, reduceIte, reduceCtorEq, Int.reduceBNe, Int.reduceBEq, cLE, cRec, x1, x2]; try simp)) (wk_of_eq ?_) (by (repeat (first | exact St.le_refl _ | (refine St.le_new ?_ (by assumption)) | (refine St.le_newT ?_ (by assumption))))))
  all_goals (simp only [resAV, rvV, List.map_cons, List.map_nil, ↓R1, R2, R3, R4, R5, Nat.reduceEqDiff, Nat.reduceAdd, Nat.reduceMul, Nat.reduceSub, Nat.reduceLeDiff, Nat.reduceLT, reduceIte, reduceCtorEq, Int.reduceBNe, Int.reduceBEq, cLE, cRec, x1, x2])
end Go.Proofs.YtbbkckogjdjjgaaDoor
namespace Go.Proofs.YtbbkckogjdjjgaaDoor
open Go.Abs Go.Lib
set_option linter.all false
set_option maxRecDepth 100000
theorem nz0 : ((0 : Nat) : Int) = 0 := rfl
theorem nz1 : ((1 : Nat) : Int) = 1 := rfl
theorem nz2 : ((2 : Nat) : Int) = 2 := rfl
def x3 : LE := ⟨2, 6, 1, 6, 5, 6, 2, 8⟩
def x4 : LE := ⟨3, 1, 0, 6, 5, 6, 2, 7⟩
def x5 : LE := ⟨7, 1, 1, 6, 5, 6, 2, 8⟩
def x6 : LE := ⟨0, 0, 0, 6, 0, 6, 2, 7⟩
def x7 : LE := ⟨0, 0, 0, 6, 5, 2, 2, 7⟩
theorem kn2 : appL [x1] x2 1 = [] ∧ appE [x1] x2 1 = 21 := ⟨by kernel_rfl, by kernel_rfl⟩
theorem kn3 : appL [x1] x3 9 = [] ∧ appE [x1] x3 9 = 13 := ⟨by kernel_rfl, by kernel_rfl⟩
theorem kn4 : appL [x1, x2] x4 9 = [] ∧ appE [x1, x2] x4 9 = 9 := ⟨by kernel_rfl, by kernel_rfl⟩
theorem kn5 : appL [x1] x5 9 = [] ∧ appE [x1] x5 9 = 2 := ⟨by kernel_rfl, by kernel_rfl⟩
theorem kn6 : visL [x1, x2] 6 = [] ∧ chkE [x1, x2] = 0 := ⟨by kernel_rfl, by kernel_rfl⟩
theorem kr1 : readL' [x1, x2] 14 1 5 = [x2] ∧ readE [x1, x2] 1 5 = 0 := ⟨by kernel_rfl, by kernel_rfl⟩
theorem kr2 : readL' [x1, x2] 14 2 5 = [] ∧ readE [x1, x2] 2 5 = 0 := ⟨by kernel_rfl, by kernel_rfl⟩
theorem kr3 : readL' [x1, x2] 14 (-1) 5 = [] ∧ readE [x1, x2] (-1) 5 = 2 := ⟨by kernel_rfl, by kernel_rfl⟩
theorem kr4 : readL' [x1, x2] 14 0 65 = [] ∧ readE [x1, x2] 0 65 = 2 := ⟨by kernel_rfl, by kernel_rfl⟩
theorem kb : rightE x6 = 2 ∧ rightE x7 = 13 := ⟨by kernel_rfl, by kernel_rfl⟩
set_option maxHeartbeats 4000000 in
theorem known_pu : PuG Tryd.prog gl3 5 [] (.bool true) := by
  have h1 := p23
  have h2 := p24
  have h3 := p25
  have a1 := p11 [] x1 1 (by decide)
  rw [one_app.1, one_app.2] at a1
  have a2 := p11 [x1] x2 1 (by decide)
  rw [kn2.1, kn2.2] at a2
  have a3 := p11 [x1] x3 9 (by decide)
  rw [kn3.1, kn3.2] at a3
  have a4 := p11 [x1, x2] x4 9 (by decide)
  rw [kn4.1, kn4.2] at a4
  have a5 := p11 [x1] x5 9 (by decide)
  rw [kn5.1, kn5.2] at a5
  have v1 := p21 [x1, x2] 6 (by decide)
  rw [kn6.1, kn6.2] at v1
  have r1 := p26 [x1, x2] 14 1 5 (by decide)
  rw [kr1.1, kr1.2] at r1
  have r2 := p26 [x1, x2] 14 2 5 (by decide)
  rw [kr2.1, kr2.2] at r2
  have r3 := p26 [x1, x2] 14 (-1) 5 (by decide)
  rw [kr3.1, kr3.2] at r3
  have r4 := p26 [x1, x2] 14 0 65 (by decide)
  rw [kr4.1, kr4.2] at r4
  have s1 := p22 [x2] [x2] (by decide)
  rw [decide_eq_true rfl] at s1
  have b1 := p17 x6
  rw [kb.1] at b1
  have b2 := p17 x7
  rw [kb.2] at b2
  simp only [x1, x2, x3, x4, x5, x6, x7, cLE, cRec, List.flatMap_cons, List.flatMap_nil, List.cons_append, List.nil_append, List.length_cons, List.length_nil, Nat.reduceAdd] at h3 a1 a2 a3 a4 a5 v1 r1 r2 r3 r4 s1 b1 b2
  (refine PuG_intro c5 b5 (Nat.le_of_ble_eq_true rfl) fun σ hσ => ?_; simp only [c5, ↓R1, R2, R3, R4, R5, Nat.reduceEqDiff, Nat.reduceAdd, Nat.reduceMul, Nat.reduceSub, Nat.reduceLeDiff, Nat.reduceLT, reduceIte, reduceCtorEq, Int.reduceBNe, Int.reduceBEq, nz0, nz1, nz2, cLE, cRec, x1, x2, x3, x4, x5, x6, x7])
  repeat' (first | (with_reducible rw [allocV_eq]) | (refine gdV_split (fun hc => ?_) (fun hc => ?_) <;> (try simp only [hc, ↓R1, R2, R3, R4, R5, Nat.reduceEqDiff, Nat.reduceAdd, Nat.reduceMul, Nat.reduceSub, Nat.reduceLeDiff, Nat.reduceLT, reduceIte, reduceCtorEq, Int.reduceBNe, Int.reduceBEq, nz0, nz1, nz2, cLE, cRec, x1, x2, x3, x4, x5, x6, x7])) | ((first | refine condV_split (fun hc => ?_) (fun hc => ?_) | (with_reducible intro β hβ; (try simp only [St.box_noneA, St.tip_noneA, St.tip_set, St.box_tip, St.box_lp, St.tip_lp] at hβ); (repeat (obtain ⟨⟨_, _⟩, hβ⟩ := hβ)); (try (have hbis := apart_is (by assumption) hβ; obtain ⟨_, _⟩ := hbis)))) <;> (try simp only [↓R1, R2, R3, R4, R5, Nat.reduceEqDiff, Nat.reduceAdd, Nat.reduceMul, Nat.reduceSub, Nat.reduceLeDiff, Nat.reduceLT, reduceIte, reduceCtorEq, Int.reduceBNe, Int.reduceBEq, nz0, nz1, nz2, cLE, cRec, x1, x2, x3, x4, x5, x6, x7])) | (with_reducible refine And.intro ?_ ?_; (focus (first | omega | (intros; (repeat' (with_reducible apply And.intro)) <;> first | omega | (simp only [cLE_len, cRec_len, List.length_append, List.length_cons, List.length_nil]; omega))))) | (with_reducible apply And.intro) | ((first | refine Pu.to (h1) (wkL_refl _) ?_ | refine callDV_pu (h1) (wkL_refl _) ?_ | refine Pu.to (h2) (wkL_refl _) ?_ | refine callDV_pu (h2) (wkL_refl _) ?_ | refine Pu.to (h3) (wkL_refl _) ?_ | refine callDV_pu (h3) (wkL_refl _) ?_ | refine Pu.to (a2) (wkL_refl _) ?_ | refine callDV_pu (a2) (wkL_refl _) ?_ | refine Pu.to (a3) (wkL_refl _) ?_ | refine callDV_pu (a3) (wkL_refl _) ?_ | refine Pu.to (a4) (wkL_refl _) ?_ | refine callDV_pu (a4) (wkL_refl _) ?_ | refine Pu.to (a5) (wkL_refl _) ?_ | refine callDV_pu (a5) (wkL_refl _) ?_ | refine Pu.to (v1) (wkL_refl _) ?_ | refine callDV_pu (v1) (wkL_refl _) ?_ | refine Pu.to (r1) (wkL_refl _) ?_ | refine callDV_pu (r1) (wkL_refl _) ?_ | refine Pu.to (r2) (wkL_refl _) ?_ | refine callDV_pu (r2) (wkL_refl _) ?_ | refine Pu.to (r3) (wkL_refl _) ?_ | refine callDV_pu (r3) (wkL_refl _) ?_ | refine Pu.to (r4) (wkL_refl _) ?_ | refine callDV_pu (r4) (wkL_refl _) ?_ | (refine callGV_pu (fun hgv => ⟨?_, (s1), wkL_refl _⟩) ?_; (first | trivial | (focus (simp only [↓R1, R2, R3, R4, R5, Nat.reduceEqDiff, Nat.reduceAdd, Nat.reduceMul, Nat.reduceSub, Nat.reduceLeDiff, Nat.reduceLT, reduceIte, reduceCtorEq, Int.reduceBNe, Int.reduceBEq, nz0, nz1, nz2, cLE, cRec, x1, x2, x3, x4, x5, x6, x7]; done)))) | refine Pu.to (b1) (wkL_refl _) ?_ | refine callDV_pu (b1) (wkL_refl _) ?_ | refine Pu.to (b2) (wkL_refl _) ?_ | refine callDV_pu (b2) (wkL_refl _) ?_ | (refine callGV_pu (fun hgv => ⟨?_, (b1), wkL_refl _⟩) ?_; (first | trivial | (focus (simp only [↓R1, R2, R3, R4, R5, Nat.reduceEqDiff, Nat.reduceAdd, Nat.reduceMul, Nat.reduceSub, Nat.reduceLeDiff, Nat.reduceLT, reduceIte, reduceCtorEq, Int.reduceBNe, Int.reduceBEq, nz0, nz1, nz2, cLE, cRec, x1, x2, x3, x4, x5, x6, x7]; done)))) | (refine callGV_pu (fun hgv => ⟨?_, (b2), wkL_refl _⟩) ?_; (first | trivial | (focus (simp only [↓R1, R2, R3, R4, R5, Nat.reduceEqDiff, Nat.reduceAdd, Nat.reduceMul, Nat.reduceSub, Nat.reduceLeDiff, Nat.reduceLT, reduceIte, reduceCtorEq, Int.reduceBNe, Int.reduceBEq, nz0, nz1, nz2, cLE, cRec, x1, x2, x3, x4, x5, x6, x7]; done)))) | (refine callGV_pu (fun hgv => ⟨?_, (h2), wkL_refl _⟩) ?_; (first | trivial | (focus (simp only [↓R1, R2, R3, R4, R5, Nat.reduceEqDiff, Nat.reduceAdd, Nat.reduceMul, Nat.reduceSub, Nat.reduceLeDiff, Nat.reduceLT, reduceIte, reduceCtorEq, Int.reduceBNe, Int.reduceBEq, nz0, nz1, nz2, cLE, cRec, x1, x2, x3, x4, x5, x6, x7]; done)))) | refine PuG.to (awake_pu) hσ (wkL_refl _) ?_ | (refine callGV_puG hσ (fun hgv => ⟨?_, (awake_pu), wkL_refl _⟩) ?_; (first | trivial | (focus (simp only [↓R1, R2, R3, R4, R5, Nat.reduceEqDiff, Nat.reduceAdd, Nat.reduceMul, Nat.reduceSub, Nat.reduceLeDiff, Nat.reduceLT, reduceIte, reduceCtorEq, Int.reduceBNe, Int.reduceBEq, nz0, nz1, nz2, cLE, cRec, x1, x2, x3, x4, x5, x6, x7]; done))))); (try simp only [↓R1, R2, R3, R4, R5, Nat.reduceEqDiff, Nat.reduceAdd, Nat.reduceMul, Nat.reduceSub, Nat.reduceLeDiff, Nat.reduceLT, reduceIte, reduceCtorEq, Int.reduceBNe, Int.reduceBEq, nz0, nz1, nz2, cLE, cRec, x1, x2, x3, x4, x5, x6, x7])) | (refine Pu.to (a1) ?_ ?_; (focus ((repeat' (first | exact wk_refl _ | exact wk_nils | exact wk_tsl _ _ _ | exact wk_full _ _ | exact wkL.nil | exact wkL_refl _ | refine wk_tup ?_ | refine wk_agg ?_ | refine wkL.cons ?_ ?_)); done)); (try simp only [↓R1, R2, R3, R4, R5, Nat.reduceEqDiff, Nat.reduceAdd, Nat.reduceMul, Nat.reduceSub, Nat.reduceLeDiff, Nat.reduceLT, reduceIte, reduceCtorEq, Int.reduceBNe, Int.reduceBEq, nz0, nz1, nz2, cLE, cRec, x1, x2, x3, x4, x5, x6, x7])) | (refine Pu.to (s1) ?_ ?_; (focus ((repeat' (first | exact wk_refl _ | exact wk_nils | exact wk_tsl _ _ _ | exact wk_full _ _ | exact wkL.nil | exact wkL_refl _ | refine wk_tup ?_ | refine wk_agg ?_ | refine wkL.cons ?_ ?_)); done)); (try simp only [↓R1, R2, R3, R4, R5, Nat.reduceEqDiff, Nat.reduceAdd, Nat.reduceMul, Nat.reduceSub, Nat.reduceLeDiff, Nat.reduceLT, reduceIte, reduceCtorEq, Int.reduceBNe, Int.reduceBEq, nz0, nz1, nz2, cLE, cRec, x1, x2, x3, x4, x5, x6, x7])))
  all_goals first | (exfalso; simp_all; done) | (with_reducible intro hno; exfalso; simp_all; done) | skip
  all_goals first | exact .inr trivial | skip
  all_goals (refine endP_pu (by simp) (by first | (simp [rvsS, rvS]; done) | (simp only [rvsS, rvS, ↓R1, R2, R3, R4, R5, Nat.reduceEqDiff, Nat.reduceAdd, Nat.reduceMul, Nat.reduceSub, Nat.reduceLeDiff, Nat.reduceLT, reduceIte, reduceCtorEq, Int.reduceBNe, Int.reduceBEq, nz0, nz1, nz2, cLE, cRec, x1, x2, x3, x4, x5, x6, x7]; try simp)) (wk_of_eq ?_) (by (repeat (first | exact St.le_refl _ | (refine St.le_new ?_ (by assumption)) | (refine St.le_newT ?_ (by assumption))))))
  all_goals (simp only [resAV, rvV, List.map_cons, List.map_nil, ↓R1, R2, R3, R4, R5, Nat.reduceEqDiff, Nat.reduceAdd, Nat.reduceMul, Nat.reduceSub, Nat.reduceLeDiff, Nat.reduceLT, reduceIte, reduceCtorEq, Int.reduceBNe, Int.reduceBEq, nz0, nz1, nz2, cLE, cRec, x1, x2, x3, x4, x5, x6, x7])
end Go.Proofs.YtbbkckogjdjjgaaDoor
