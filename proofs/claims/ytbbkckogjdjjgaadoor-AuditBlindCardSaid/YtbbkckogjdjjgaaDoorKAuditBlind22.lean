/- Part 22 of the proof of AuditBlind: an abstract semantics that is proved sound for the model, contracts of functions in it, and plain facts (AF AU15 AU16 AU17 AU21 A28b AU23 AU24). No condition. -/
import Derived.Test.YtbbkckogjdjjgaaDoorKAuditBlind21
import Derived.LoopTactic
import Derived.WalkKit
import Derived.BigCall
import Derived.BigGuard
import Derived.Lib.Walk
import Derived.Lib.ItoaMem
set_option linter.all false
namespace Go.Proofs.YtbbkckogjdjjgaaDoor
open Go.Abs Go.Lib Go.Sort Go.RowKit
set_option linter.all false
set_option maxRecDepth 100000
theorem zero_row (w : World) (T : TypeId) (nd : Nat) (hs : nd ≤ 24) : Holds (fun (b : UInt8) => Value.int .u8 (b.toNat : Int)) (w.alloc (.cells Lib.zeros24 T)) w.heap.size 0 (Array.replicate nd (0 : UInt8)) := fun j hj => by
  have hj' : j < nd := by simpa using hj
  refine ⟨?_, World.frozen?_alloc_new _ _ _ _⟩
  rw [World.cell?_alloc_new, Lib.zeros24_at _ (by omega), getElem!_pos _ j hj]
  simp
theorem fin_zero (w : World) (o : Obj) (dk : Array UInt8) (k : Nat) : ∃ os, (putRow (fun (b : UInt8) => Value.int .u8 (b.toNat : Int)) (w.alloc o) w.heap.size 0 dk).drewN k = grow (w.drewN k) os := by
  rw [alloc_eq_grow]
  obtain ⟨os', _, e⟩ := putRow_grow_new (fun (b : UInt8) => Value.int .u8 (b.toNat : Int)) w #[o] w.heap.size 0 dk (Nat.le_refl _)
  exact ⟨os', by rw [e]; rfl⟩
set_option maxHeartbeats 6400000 in
theorem fmtU (u : Nat) (h1 : u < 18446744073709551616) (w : World) (htab : Lib.TabIs Tryd.prog w "internal/strconv.uint64pow10" .u64 Lib.pow10Tab) :
    Calls Tryd.prog 55 #[.int .u64 u, .int .i64 10] w fun e w' => e = .returned (.string ⟨(Lib.decDigits u).toArray⟩) ∧ ∃ k os, w' = grow (w.drewN k) os := by
  have t105 := Tryd.underlying105
  by_cases hs : u < 100
  · have hwr : IntKind.i64.wrap (u : Int) = (u : Int) := wrap64 (by omega) (by omega)
    go_enter Tryd.func55, Tryd.ntmps55
    go_wp2_with (go_at_call 70; refine (Tryd.internal_strconv_small u hs _).mono ?_; rintro e w' ⟨rfl, rfl⟩)
    go_ret
    exact ⟨rfl, 0, #[], by simp [World.drewN_zero]⟩
  · have hu1 : 1 ≤ u := by omega
    have hnd20 : Lib.nDigits u ≤ 20 := by have := Lib.numDigits_eq u hu1 h1; split at this <;> omega
    have hal : Tryd.prog.arrayLen 105 = 24 := by simp [Program.arrayLen, t105]
    have hsl : ∀ W, (Instr.sliceAt 105 (.pointer (some ⟨w.heap.size, 0, none⟩)) none (some (.int .i64 (Lib.nDigits u : Int))) none).run Tryd.prog W = .ok (.slice (some ⟨w.heap.size, 0, none⟩) (Lib.nDigits u) 24) W := fun W => by
      rw [run_sliceAt_array_h W 105 ⟨w.heap.size, 0, none⟩ (by simp [Program.arrayLen, Program.elem, t105]) .i64 (Lib.nDigits u : Int) (by omega) (by rw [hal]; omega)]
      go_simp
    have hH0 := zero_row w 105 (Lib.nDigits u) (by omega)
    have hfmt := Tryd.internal_strconv_formatBase10 w.heap.size 0 24 u (Array.replicate (Lib.nDigits u) 0) (w.alloc (.cells Lib.zeros24 105)) hH0 (by rw [Array.size_replicate]; exact Lib.lt_pow_nDigits u) h1 (by rw [Array.size_replicate]; omega)
    rw [Array.size_replicate] at hfmt
    have HH0 := Lib.hid hH0
    clear hH0 hal
    go_enter Tryd.func55, Tryd.ntmps55
    go_wp2_with (go_at_call 71; refine (Tryd.internal_strconv_numDigits u hu1 h1 _ (Lib.tabIs_alloc htab _)).mono ?_; rintro e w' ⟨rfl, rfl⟩)
    go_at_call 72
    refine hfmt.mono ?_
    rintro e w' ⟨rfl, k, v', dk, rfl, hF⟩
    have hcv : (convert 96 9 (.slice (some ⟨w.heap.size, 0, none⟩) (Lib.nDigits u) 24)).run Tryd.prog ((putRow (fun (b : UInt8) => Value.int .u8 (b.toNat : Int)) (w.alloc (.cells Lib.zeros24 105)) w.heap.size 0 dk).drewN k) = .ok (.string ⟨(Lib.decDigits u).toArray⟩) ((putRow (fun (b : UInt8) => Value.int .u8 (b.toNat : Int)) (w.alloc (.cells Lib.zeros24 105)) w.heap.size 0 dk).drewN k) := by
      have h := run_convert_bytes_back (P := Tryd.prog) ((putRow (fun (b : UInt8) => Value.int .u8 (b.toNat : Int)) (w.alloc (.cells Lib.zeros24 105)) w.heap.size 0 dk).drewN k) 96 9 5 ⟨w.heap.size, 0, none⟩ 24 (Lib.decDigits u) Tryd.underlying96 Tryd.underlying5 Tryd.underlying9 (fun j hj => by
        rw [Lib.row_is_numeral hF j hj, Lib.add_plain, World.cell?_drewN]
        exact cell?_putRow (fun (b : UInt8) => Value.int .u8 (b.toNat : Int)) _ w.heap.size 0 _ dk HH0.out (by rw [hF.size, Array.size_replicate]) j (by rw [hF.size]; rw [Lib.decDigits_length] at hj; exact hj))
      rw [Lib.decDigits_length] at h
      exact h
    go_wp2
    go_ret
    obtain ⟨os, eo⟩ := fin_zero w (.cells Lib.zeros24 105) dk k
    exact ⟨rfl, k, os, eo⟩
end Go.Proofs.YtbbkckogjdjjgaaDoor
namespace Go.Proofs.YtbbkckogjdjjgaaDoor
open Go.Abs Go.Lib
set_option linter.all false
set_option maxRecDepth 100000
theorem fmtUs (u : Nat) (h : u < 18446744073709551616) : PuG Tryd.prog gl3 55 [.int .u64 u, .int .i64 10] (.str (decDigits u)) := by
  intro σ hσ
  refine AC.of_calls (Go.Proofs.enters_of Tryd.func55 (by kernel_rfl) rfl) ?_
  intro g w vs hI hv
  obtain ⟨v1, vs, rfl, r1, hv⟩ := hv.cons_inv
  obtain ⟨v2, vs, rfl, r2, hv⟩ := hv.cons_inv
  rw [hv.nil_inv, r1.int_inv, r2.int_inv]
  refine (fmtU u h w (var_of_glob hI gPow (hσ _ _ rfl))).mono ?_
  rintro e w' ⟨rfl, k', os, rfl⟩
  refine ⟨_, rfl, ⟨rfl, rfl, rfl, by simp [Go.Sort.grow, World.drewN], fun i hi => ?_⟩, fun g' _ => .str _⟩
  simp only [Go.Sort.grow, World.drewN]
  rw [Array.getElem?_append_left hi]
theorem p42 (u : Nat) (h : u < 18446744073709551616) : PuG Tryd.prog gl3 42 [.int .u64 u, .int .i64 10] (.str (decDigits u)) := by
  have h1 := fmtUs u h
  (refine PuG_intro c42 b42 (Nat.le_of_ble_eq_true rfl) fun σ hσ => ?_; simp only [c42, ↓R1, R2, R3, R4, R5, Nat.reduceEqDiff, Nat.reduceAdd, Nat.reduceMul, Nat.reduceSub, Nat.reduceLeDiff, Nat.reduceLT, reduceIte, reduceCtorEq, Int.reduceBNe, Int.reduceBEq])
  repeat' (first | (with_reducible rw [allocV_eq]) | (refine gdV_split (fun hc => ?_) (fun hc => ?_) <;> (try simp only [hc, ↓R1, R2, R3, R4, R5, Nat.reduceEqDiff, Nat.reduceAdd, Nat.reduceMul, Nat.reduceSub, Nat.reduceLeDiff, Nat.reduceLT, reduceIte, reduceCtorEq, Int.reduceBNe, Int.reduceBEq])) | ((first | refine condV_split (fun hc => ?_) (fun hc => ?_) | (with_reducible intro β hβ; (try simp only [St.box_noneA, St.tip_noneA, St.tip_set, St.box_tip, St.box_lp, St.tip_lp] at hβ); (repeat (obtain ⟨⟨_, _⟩, hβ⟩ := hβ)); (try (have hbis := apart_is (by assumption) hβ; obtain ⟨_, _⟩ := hbis)))) <;> (try simp only [↓R1, R2, R3, R4, R5, Nat.reduceEqDiff, Nat.reduceAdd, Nat.reduceMul, Nat.reduceSub, Nat.reduceLeDiff, Nat.reduceLT, reduceIte, reduceCtorEq, Int.reduceBNe, Int.reduceBEq])) | (with_reducible refine And.intro ?_ ?_; (focus (first | omega | (intros; (repeat' (with_reducible apply And.intro)) <;> first | omega | (simp only [List.length_append, List.length_cons, List.length_nil]; omega))))) | (with_reducible apply And.intro) | ((first | refine PuG.to (h1) hσ (wkL_refl _) ?_); (try simp only [↓R1, R2, R3, R4, R5, Nat.reduceEqDiff, Nat.reduceAdd, Nat.reduceMul, Nat.reduceSub, Nat.reduceLeDiff, Nat.reduceLT, reduceIte, reduceCtorEq, Int.reduceBNe, Int.reduceBEq])))
  (refine endP_pu (by simp) (by first | (simp [rvsS, rvS]; done) | (simp only [rvsS, rvS, ↓R1, R2, R3, R4, R5, Nat.reduceEqDiff, Nat.reduceAdd, Nat.reduceMul, Nat.reduceSub, Nat.reduceLeDiff, Nat.reduceLT, reduceIte, reduceCtorEq, Int.reduceBNe, Int.reduceBEq]; try simp)) (wk_of_eq ?_) (by (repeat (first | exact St.le_refl _ | (refine St.le_new ?_ (by assumption)) | (refine St.le_newT ?_ (by assumption))))))
  (simp only [resAV, rvV, List.map_cons, List.map_nil, ↓R1, R2, R3, R4, R5, Nat.reduceEqDiff, Nat.reduceAdd, Nat.reduceMul, Nat.reduceSub, Nat.reduceLeDiff, Nat.reduceLT, reduceIte, reduceCtorEq, Int.reduceBNe, Int.reduceBEq])
theorem idE_ok {n : Int} : (idE n == 0) = (decide (1 ≤ n) && decide (n ≤ 1099511627776)) := by
  simp only [idE, Bool.cond_eq_ite]; grind
def idText (l : BitVec 64) (n : Int) : List UInt8 := bif idE n == 0 then textL l ++ [35] ++ decDigits n.toNat else []
theorem itoa_nat (n : Nat) : itoa (n : Int) = decDigits n := by unfold itoa; rw [if_neg (by omega)]; simp
theorem idText_len (l : BitVec 64) (n : Int) : (idText l n).length ≤ 300 := by
  unfold idText
  cases h : (idE n == 0) with
  | false => simp
  | true =>
    rw [idE_ok] at h
    simp only [Bool.and_eq_true, decide_eq_true_eq] at h
    have h1 := textL_len l
    have h2 := dec_len20 n.toNat (by omega)
    simp only [cond_true, List.length_append, List.length_cons, List.length_nil]; omega
theorem p39 (l : BitVec 64) (n : Int) : PuG Tryd.prog gl3 39 [.agg [.int .u64 l.toNat, .int .u64 n]] (.tup [.str (idText l n), .int .i64 (idE n)]) := by
  have h0 := p46 l.toNat n
  have h1 := PuG.up3 (p41 l)
  have l1 := textL_len l
  by_cases he : idE n = 0
  · have hb : (idE n == 0) = true := by simpa using he
    rw [idE_ok] at hb
    simp only [Bool.and_eq_true, decide_eq_true_eq] at hb
    obtain ⟨m, rfl⟩ := Int.eq_ofNat_of_zero_le (show 0 ≤ n by omega)
    have hx : IntKind.i64.wrap (m : Int) = m := wrap64 (by omega) (by omega)
    have h2 := p51 m (by unfold I64; omega)
    rw [itoa_nat] at h2
    have l2 := dec_len20 m (by omega)
    have ht : idText l m = textL l ++ [35] ++ decDigits m := by simp [idText, he]
    rw [he] at h0 ⊢
    rw [ht]
    (refine PuG_intro c39 b39 (Nat.le_of_ble_eq_true rfl) fun σ hσ => ?_; simp only [c39, ↓R1, R2, R3, R4, R5, Nat.reduceEqDiff, Nat.reduceAdd, Nat.reduceMul, Nat.reduceSub, Nat.reduceLeDiff, Nat.reduceLT, reduceIte, reduceCtorEq, Int.reduceBNe, Int.reduceBEq, hx])
    repeat' (first | (with_reducible rw [allocV_eq]) | (refine gdV_split (fun hc => ?_) (fun hc => ?_) <;> (try simp only [hc, ↓R1, R2, R3, R4, R5, Nat.reduceEqDiff, Nat.reduceAdd, Nat.reduceMul, Nat.reduceSub, Nat.reduceLeDiff, Nat.reduceLT, reduceIte, reduceCtorEq, Int.reduceBNe, Int.reduceBEq, hx])) | ((first | refine condV_split (fun hc => ?_) (fun hc => ?_) | (with_reducible intro β hβ; (try simp only [St.box_noneA, St.tip_noneA, St.tip_set, St.box_tip, St.box_lp, St.tip_lp] at hβ); (repeat (obtain ⟨⟨_, _⟩, hβ⟩ := hβ)); (try (have hbis := apart_is (by assumption) hβ; obtain ⟨_, _⟩ := hbis)))) <;> (try simp only [↓R1, R2, R3, R4, R5, Nat.reduceEqDiff, Nat.reduceAdd, Nat.reduceMul, Nat.reduceSub, Nat.reduceLeDiff, Nat.reduceLT, reduceIte, reduceCtorEq, Int.reduceBNe, Int.reduceBEq, hx])) | (with_reducible refine And.intro ?_ ?_; (focus (first | omega | (intros; (repeat' (with_reducible apply And.intro)) <;> first | omega | (simp only [List.length_append, List.length_cons, List.length_nil]; omega))))) | (with_reducible apply And.intro) | ((first | refine Pu.to (h0) (wkL_refl _) ?_ | refine callDV_pu (h0) (wkL_refl _) ?_ | refine callDV_puG (h1) hσ (wkL_refl _) ?_ | refine callDV_puG (h2) hσ (wkL_refl _) ?_); (try simp only [↓R1, R2, R3, R4, R5, Nat.reduceEqDiff, Nat.reduceAdd, Nat.reduceMul, Nat.reduceSub, Nat.reduceLeDiff, Nat.reduceLT, reduceIte, reduceCtorEq, Int.reduceBNe, Int.reduceBEq, hx])))
    all_goals (refine endP_pu (by simp) (by first | (simp [rvsS, rvS]; done) | (simp only [rvsS, rvS, ↓R1, R2, R3, R4, R5, Nat.reduceEqDiff, Nat.reduceAdd, Nat.reduceMul, Nat.reduceSub, Nat.reduceLeDiff, Nat.reduceLT, reduceIte, reduceCtorEq, Int.reduceBNe, Int.reduceBEq, hx]; try simp)) (wk_of_eq ?_) (by (repeat (first | exact St.le_refl _ | (refine St.le_new ?_ (by assumption)) | (refine St.le_newT ?_ (by assumption))))))
    all_goals (simp only [resAV, rvV, List.map_cons, List.map_nil, ↓R1, R2, R3, R4, R5, Nat.reduceEqDiff, Nat.reduceAdd, Nat.reduceMul, Nat.reduceSub, Nat.reduceLeDiff, Nat.reduceLT, reduceIte, reduceCtorEq, Int.reduceBNe, Int.reduceBEq, hx])
  · have hb : (idE n == 0) = false := by simpa using he
    have hx : (idE n != 0) = true := by simpa using he
    have ht : idText l n = [] := by simp [idText, hb]
    rw [ht]
    (refine PuG_intro c39 b39 (Nat.le_of_ble_eq_true rfl) fun σ hσ => ?_; simp only [c39, ↓R1, R2, R3, R4, R5, Nat.reduceEqDiff, Nat.reduceAdd, Nat.reduceMul, Nat.reduceSub, Nat.reduceLeDiff, Nat.reduceLT, reduceIte, reduceCtorEq, Int.reduceBNe, Int.reduceBEq, hx])
    repeat' (first | (with_reducible rw [allocV_eq]) | (refine gdV_split (fun hc => ?_) (fun hc => ?_) <;> (try simp only [hc, ↓R1, R2, R3, R4, R5, Nat.reduceEqDiff, Nat.reduceAdd, Nat.reduceMul, Nat.reduceSub, Nat.reduceLeDiff, Nat.reduceLT, reduceIte, reduceCtorEq, Int.reduceBNe, Int.reduceBEq, hx])) | ((first | refine condV_split (fun hc => ?_) (fun hc => ?_) | (with_reducible intro β hβ; (try simp only [St.box_noneA, St.tip_noneA, St.tip_set, St.box_tip, St.box_lp, St.tip_lp] at hβ); (repeat (obtain ⟨⟨_, _⟩, hβ⟩ := hβ)); (try (have hbis := apart_is (by assumption) hβ; obtain ⟨_, _⟩ := hbis)))) <;> (try simp only [↓R1, R2, R3, R4, R5, Nat.reduceEqDiff, Nat.reduceAdd, Nat.reduceMul, Nat.reduceSub, Nat.reduceLeDiff, Nat.reduceLT, reduceIte, reduceCtorEq, Int.reduceBNe, Int.reduceBEq, hx])) | (with_reducible refine And.intro ?_ ?_; (focus (first | omega | (intros; (repeat' (with_reducible apply And.intro)) <;> first | omega | (simp only [List.length_append, List.length_cons, List.length_nil]; omega))))) | (with_reducible apply And.intro) | ((first | refine Pu.to (h0) (wkL_refl _) ?_ | refine callDV_pu (h0) (wkL_refl _) ?_); (try simp only [↓R1, R2, R3, R4, R5, Nat.reduceEqDiff, Nat.reduceAdd, Nat.reduceMul, Nat.reduceSub, Nat.reduceLeDiff, Nat.reduceLT, reduceIte, reduceCtorEq, Int.reduceBNe, Int.reduceBEq, hx])))
    all_goals (refine endP_pu (by simp) (by first | (simp [rvsS, rvS]; done) | (simp only [rvsS, rvS, ↓R1, R2, R3, R4, R5, Nat.reduceEqDiff, Nat.reduceAdd, Nat.reduceMul, Nat.reduceSub, Nat.reduceLeDiff, Nat.reduceLT, reduceIte, reduceCtorEq, Int.reduceBNe, Int.reduceBEq, hx]; try simp)) (wk_of_eq ?_) (by (repeat (first | exact St.le_refl _ | (refine St.le_new ?_ (by assumption)) | (refine St.le_newT ?_ (by assumption))))))
    all_goals (simp only [resAV, rvV, List.map_cons, List.map_nil, ↓R1, R2, R3, R4, R5, Nat.reduceEqDiff, Nat.reduceAdd, Nat.reduceMul, Nat.reduceSub, Nat.reduceLeDiff, Nat.reduceLT, reduceIte, reduceCtorEq, Int.reduceBNe, Int.reduceBEq, hx])
def toB (n : Int) : BitVec 64 := BitVec.ofNat 64 n.toNat
theorem toB_eq {n : Int} (h : 0 ≤ n ∧ n ≤ 18446744073709551615) : ((toB n).toNat : Int) = n := by
  unfold toB
  rw [BitVec.toNat_ofNat, Nat.mod_eq_of_lt (by omega)]; omega
/-- The text of a record. -/
def textR (x : LE) : List UInt8 := bif rightE x == 0 then decDigits x.rule.toNat ++ [32] ++ idText (toB x.el) x.no ++ [32, 45, 62, 32] ++ textL (toB x.new) ++ [32, 64] ++ decDigits x.tick.toNat else []
structure LW (x : LE) : Prop where
  el : 0 ≤ x.el ∧ x.el ≤ 18446744073709551615
  new : 0 ≤ x.new ∧ x.new ≤ 18446744073709551615
  tick : 0 ≤ x.tick ∧ x.tick ≤ 18446744073709551615
theorem rightE_ok {x : LE} (h : rightE x = 0) : (0 ≤ x.rule ∧ x.rule < 8) ∧ (1 ≤ x.no ∧ x.no ≤ 1099511627776) ∧ x.tick ≤ 1099511627776 ∧ x.old = x.el := by
  unfold rightE at h
  cases hq : (decide (x.rule < 0) || decide (8 ≤ x.rule) || decide (x.no < 1) || decide (1099511627776 < x.no) || decide (1099511627776 < x.tick)) with
  | true => rw [hq] at h; cases h
  | false =>
    rw [hq, cond_false] at h
    cases ho : (x.old == x.el) with
    | false => rw [ho] at h; cases h
    | true =>
      simp only [Bool.or_eq_false_iff, decide_eq_false_iff_not] at hq
      exact ⟨by omega, by omega, by omega, by simpa using ho⟩
set_option maxHeartbeats 2000000 in
theorem p13 (x : LE) (hx : LW x) : PuG Tryd.prog gl3 13 [.agg (cRec x)] (.tup [.str (textR x), .int .i64 (rightE x)]) := by
  have h := p17 x
  have hw : True := trivial
  by_cases hr : rightE x = 0
  · have hq : True := trivial
    obtain ⟨r1, r2, r3, r4⟩ := rightE_ok hr
    have h1 := p39 (toB x.el) x.no
    rw [toB_eq hx.el, show idE x.no = 0 by simp only [idE, Bool.cond_eq_ite]; grind] at h1
    obtain ⟨k, hk⟩ := Int.eq_ofNat_of_zero_le r1.1
    obtain ⟨u, hu⟩ := Int.eq_ofNat_of_zero_le hx.tick.1
    have h2 := itoas k (by omega)
    have h3 := PuG.up3 (p41 (toB x.new))
    rw [toB_eq hx.new] at h3
    have h4 := p42 u (by omega)
    have l1 := idText_len (toB x.el) x.no
    have l2 := textL_len (toB x.new)
    have l3 := dec_len20 k (by omega)
    have l4 := dec_len20 u (by omega)
    have hT : textR x = decDigits k ++ [32] ++ idText (toB x.el) x.no ++ [32, 45, 62, 32] ++ textL (toB x.new) ++ [32, 64] ++ decDigits u := by
      simp only [textR, hr, beq_self_eq_true, cond_true, hk, hu, Int.toNat_natCast]
    rw [hT, hr]
    rw [hr] at h
    simp only [cRec, hk, hu] at h ⊢
    (refine PuG_intro c13 b13 (Nat.le_of_ble_eq_true rfl) fun σ hσ => ?_; simp only [c13, ↓R1, R2, R3, R4, R5, Nat.reduceEqDiff, Nat.reduceAdd, Nat.reduceMul, Nat.reduceSub, Nat.reduceLeDiff, Nat.reduceLT, reduceIte, reduceCtorEq, Int.reduceBNe, Int.reduceBEq, hq, hw])
    repeat' (first | (with_reducible rw [allocV_eq]) | (refine gdV_split (fun hc => ?_) (fun hc => ?_) <;> (try simp only [hc, ↓R1, R2, R3, R4, R5, Nat.reduceEqDiff, Nat.reduceAdd, Nat.reduceMul, Nat.reduceSub, Nat.reduceLeDiff, Nat.reduceLT, reduceIte, reduceCtorEq, Int.reduceBNe, Int.reduceBEq, hq, hw])) | ((first | refine condV_split (fun hc => ?_) (fun hc => ?_) | (with_reducible intro β hβ; (try simp only [St.box_noneA, St.tip_noneA, St.tip_set, St.box_tip, St.box_lp, St.tip_lp] at hβ); (repeat (obtain ⟨⟨_, _⟩, hβ⟩ := hβ)); (try (have hbis := apart_is (by assumption) hβ; obtain ⟨_, _⟩ := hbis)))) <;> (try simp only [↓R1, R2, R3, R4, R5, Nat.reduceEqDiff, Nat.reduceAdd, Nat.reduceMul, Nat.reduceSub, Nat.reduceLeDiff, Nat.reduceLT, reduceIte, reduceCtorEq, Int.reduceBNe, Int.reduceBEq, hq, hw])) | (with_reducible refine And.intro ?_ ?_; (focus (first | omega | (intros; (repeat' (with_reducible apply And.intro)) <;> first | omega | (simp only [List.length_append, List.length_cons, List.length_nil]; omega))))) | (with_reducible apply And.intro) | ((first | refine Pu.to (h) (wkL_refl _) ?_ | refine callDV_pu (h) (wkL_refl _) ?_ | refine PuG.to (h1) hσ (wkL_refl _) ?_ | refine Pu.to (h2) (wkL_refl _) ?_ | refine callDV_pu (h2) (wkL_refl _) ?_ | refine callDV_puG (h3) hσ (wkL_refl _) ?_ | refine callDV_puG (h4) hσ (wkL_refl _) ?_); (try simp only [↓R1, R2, R3, R4, R5, Nat.reduceEqDiff, Nat.reduceAdd, Nat.reduceMul, Nat.reduceSub, Nat.reduceLeDiff, Nat.reduceLT, reduceIte, reduceCtorEq, Int.reduceBNe, Int.reduceBEq, hq, hw])))
    all_goals first | (exfalso; simp_all; done) | (with_reducible intro hno; exfalso; simp_all; done) | skip
    all_goals (refine endP_pu (by simp) (by first | (simp [rvsS, rvS]; done) | (simp only [rvsS, rvS, ↓R1, R2, R3, R4, R5, Nat.reduceEqDiff, Nat.reduceAdd, Nat.reduceMul, Nat.reduceSub, Nat.reduceLeDiff, Nat.reduceLT, reduceIte, reduceCtorEq, Int.reduceBNe, Int.reduceBEq, hq, hw]; try simp)) (wk_of_eq ?_) (by (repeat (first | exact St.le_refl _ | (refine St.le_new ?_ (by assumption)) | (refine St.le_newT ?_ (by assumption))))))
    all_goals (simp only [resAV, rvV, List.map_cons, List.map_nil, ↓R1, R2, R3, R4, R5, Nat.reduceEqDiff, Nat.reduceAdd, Nat.reduceMul, Nat.reduceSub, Nat.reduceLeDiff, Nat.reduceLT, reduceIte, reduceCtorEq, Int.reduceBNe, Int.reduceBEq, hq, hw])
  · have hq : (rightE x != 0) = true := by simpa using hr
    have hT : textR x = [] := by rw [textR, beq_eq_false_iff_ne.2 hr]; rfl
    rw [hT]
    simp only [cRec] at h ⊢
    (refine PuG_intro c13 b13 (Nat.le_of_ble_eq_true rfl) fun σ hσ => ?_; simp only [c13, ↓R1, R2, R3, R4, R5, Nat.reduceEqDiff, Nat.reduceAdd, Nat.reduceMul, Nat.reduceSub, Nat.reduceLeDiff, Nat.reduceLT, reduceIte, reduceCtorEq, Int.reduceBNe, Int.reduceBEq, hq, hw])
    repeat' (first | (with_reducible rw [allocV_eq]) | (refine gdV_split (fun hc => ?_) (fun hc => ?_) <;> (try simp only [hc, ↓R1, R2, R3, R4, R5, Nat.reduceEqDiff, Nat.reduceAdd, Nat.reduceMul, Nat.reduceSub, Nat.reduceLeDiff, Nat.reduceLT, reduceIte, reduceCtorEq, Int.reduceBNe, Int.reduceBEq, hq, hw])) | ((first | refine condV_split (fun hc => ?_) (fun hc => ?_) | (with_reducible intro β hβ; (try simp only [St.box_noneA, St.tip_noneA, St.tip_set, St.box_tip, St.box_lp, St.tip_lp] at hβ); (repeat (obtain ⟨⟨_, _⟩, hβ⟩ := hβ)); (try (have hbis := apart_is (by assumption) hβ; obtain ⟨_, _⟩ := hbis)))) <;> (try simp only [↓R1, R2, R3, R4, R5, Nat.reduceEqDiff, Nat.reduceAdd, Nat.reduceMul, Nat.reduceSub, Nat.reduceLeDiff, Nat.reduceLT, reduceIte, reduceCtorEq, Int.reduceBNe, Int.reduceBEq, hq, hw])) | (with_reducible refine And.intro ?_ ?_; (focus (first | omega | (intros; (repeat' (with_reducible apply And.intro)) <;> first | omega | (simp only [List.length_append, List.length_cons, List.length_nil]; omega))))) | (with_reducible apply And.intro) | ((first | refine Pu.to (h) (wkL_refl _) ?_ | refine callDV_pu (h) (wkL_refl _) ?_); (try simp only [↓R1, R2, R3, R4, R5, Nat.reduceEqDiff, Nat.reduceAdd, Nat.reduceMul, Nat.reduceSub, Nat.reduceLeDiff, Nat.reduceLT, reduceIte, reduceCtorEq, Int.reduceBNe, Int.reduceBEq, hq, hw])))
    all_goals first | (exfalso; simp_all; done) | (with_reducible intro hno; exfalso; simp_all; done) | skip
    all_goals (refine endP_pu (by simp) (by first | (simp [rvsS, rvS]; done) | (simp only [rvsS, rvS, ↓R1, R2, R3, R4, R5, Nat.reduceEqDiff, Nat.reduceAdd, Nat.reduceMul, Nat.reduceSub, Nat.reduceLeDiff, Nat.reduceLT, reduceIte, reduceCtorEq, Int.reduceBNe, Int.reduceBEq, hq, hw]; try simp)) (wk_of_eq ?_) (by (repeat (first | exact St.le_refl _ | (refine St.le_new ?_ (by assumption)) | (refine St.le_newT ?_ (by assumption))))))
    all_goals (simp only [resAV, rvV, List.map_cons, List.map_nil, ↓R1, R2, R3, R4, R5, Nat.reduceEqDiff, Nat.reduceAdd, Nat.reduceMul, Nat.reduceSub, Nat.reduceLeDiff, Nat.reduceLT, reduceIte, reduceCtorEq, Int.reduceBNe, Int.reduceBEq, hq, hw])
end Go.Proofs.YtbbkckogjdjjgaaDoor
namespace Go.Proofs.YtbbkckogjdjjgaaDoor
open Go.Abs Go.Lib
set_option linter.all false
set_option maxRecDepth 100000
def recK (x : LE) : Int × Int × Int × Int × Int × Int := (x.rule, x.el, x.no, x.old, x.new, x.tick)
theorem cRec_drop (l : List LE) (k : Nat) (h : k < l.length) : (l.flatMap cRec).drop (k * 6) = .int .i64 (eAt l k).rule :: .int .u64 (eAt l k).el :: .int .u64 (eAt l k).no :: .int .u64 (eAt l k).old :: .int .u64 (eAt l k).new :: .int .u64 (eAt l k).tick :: (l.flatMap cRec).drop ((k + 1) * 6) := by
  rw [flat_drop cRec_f, List.drop_eq_getElem_cons h, List.flatMap_cons, flat_drop cRec_f, eAt_lt h]; rfl
theorem take_ext {α β : Type} (f : α → β) {a b : List α} {k : Nat} (ha : k < a.length) (hb : k < b.length) (h : (a.take k).map f = (b.take k).map f) : (a.take (k + 1)).map f = (b.take (k + 1)).map f ↔ f a[k] = f b[k] := by
  rw [← List.take_append_getElem ha, ← List.take_append_getElem hb, List.map_append, List.map_append, h]
  simp
theorem map_ne {α β : Type} (f : α → β) {a b : List α} {k : Nat} (h : (a.take k).map f ≠ (b.take k).map f) : a.map f ≠ b.map f := fun e => h (by rw [List.map_take, List.map_take, e])
set_option maxHeartbeats 4000000 in
theorem p22 (a b : List LE) (hl : a.length ≤ 1000000) : Pu Tryd.prog 22 [sl cRec a, sl cRec b] (.bool (decide (a.map recK = b.map recK))) := by
  have hd : True := trivial
  have hd2 : True := trivial
  have hwi : True := trivial
  have hq : True := trivial
  by_cases hlen : a.length = b.length
  · have hne : ((a.length : Int) != (b.length : Int)) = false := by rw [hlen]; simp
    (refine Pu_intro c22 b22 (Nat.le_of_ble_eq_true rfl) fun σ => ?_; simp only [c22, ↓R1, R2, R3, R4, R5, Nat.reduceEqDiff, Nat.reduceAdd, Nat.reduceMul, Nat.reduceSub, Nat.reduceLeDiff, Nat.reduceLT, reduceIte, reduceCtorEq, Int.reduceBNe, Int.reduceBEq, hd, hd2, hwi, hq, hne])
    repeat' (first | (with_reducible rw [allocV_eq]) | (refine gdV_split (fun hc => ?_) (fun hc => ?_) <;> (try simp only [hc, ↓R1, R2, R3, R4, R5, Nat.reduceEqDiff, Nat.reduceAdd, Nat.reduceMul, Nat.reduceSub, Nat.reduceLeDiff, Nat.reduceLT, reduceIte, reduceCtorEq, Int.reduceBNe, Int.reduceBEq, hd, hd2, hwi, hq, hne])) | ((first | refine condV_split (fun hc => ?_) (fun hc => ?_) | (with_reducible intro β hβ; (try simp only [St.box_noneA, St.tip_noneA, St.tip_set, St.box_tip, St.box_lp, St.tip_lp] at hβ); (repeat (obtain ⟨⟨_, _⟩, hβ⟩ := hβ)); (try (have hbis := apart_is (by assumption) hβ; obtain ⟨_, _⟩ := hbis))) | ((first | (refine appD_tslK (.inr rfl) rfl ?_ ?_ ?_ ?_ ?_ ?_; (first | rfl | exact St.tip_same _ _ _ | (simp only [↓R1, R2, R3, R4, R5, Nat.reduceEqDiff, Nat.reduceAdd, Nat.reduceMul, Nat.reduceSub, Nat.reduceLeDiff, Nat.reduceLT, reduceIte, reduceCtorEq, Int.reduceBNe, Int.reduceBEq, hd, hd2, hwi, hq, hne])); (first | omega | (simp only [cLE_len, cRec_len, List.length_append, List.length_cons, List.length_nil, List.length_nil, List.length_cons]; omega) | (simp only [cLE_len, cRec_len, List.length_append, List.length_cons, List.length_nil, List.length_nil, List.length_cons])); (first | rfl | first | omega | (simp only [cLE_len, cRec_len, List.length_append, List.length_cons, List.length_nil, List.length_nil, List.length_cons]; omega) | (simp only [cLE_len, cRec_len, List.length_append, List.length_cons, List.length_nil, List.length_nil, List.length_cons]))) | (refine appV_tslK rfl ?_ ?_ ?_ ?_ ?_ ?_; (first | rfl | exact St.tip_same _ _ _ | (simp only [↓R1, R2, R3, R4, R5, Nat.reduceEqDiff, Nat.reduceAdd, Nat.reduceMul, Nat.reduceSub, Nat.reduceLeDiff, Nat.reduceLT, reduceIte, reduceCtorEq, Int.reduceBNe, Int.reduceBEq, hd, hd2, hwi, hq, hne])); (first | omega | (simp only [cLE_len, cRec_len, List.length_append, List.length_cons, List.length_nil, List.length_nil, List.length_cons]; omega) | (simp only [cLE_len, cRec_len, List.length_append, List.length_cons, List.length_nil, List.length_nil, List.length_cons])); (first | rfl | first | omega | (simp only [cLE_len, cRec_len, List.length_append, List.length_cons, List.length_nil, List.length_nil, List.length_cons]; omega) | (simp only [cLE_len, cRec_len, List.length_append, List.length_cons, List.length_nil, List.length_nil, List.length_cons]))) | (refine appV_own ?_ ?_ ?_ ?_; exact flat_len (by intro _; rfl) _) | (refine appD_own ?_ ?_ ?_ ?_ ?_; omega; exact flat_len (by intro _; rfl) _) | (refine appV_fresh rfl trivial rfl ?_ ?_ ?_ ?_ ?_; (first | rfl | first | omega | (simp only [cLE_len, cRec_len, List.length_append, List.length_cons, List.length_nil, List.length_nil, List.length_cons]; omega) | (simp only [cLE_len, cRec_len, List.length_append, List.length_cons, List.length_nil, List.length_nil, List.length_cons])); (first | rfl | first | omega | (simp only [cLE_len, cRec_len, List.length_append, List.length_cons, List.length_nil, List.length_nil, List.length_cons]; omega) | (simp only [cLE_len, cRec_len, List.length_append, List.length_cons, List.length_nil, List.length_nil, List.length_cons]))) | (refine appD_fresh rfl trivial rfl ?_ ?_ ?_ ?_ ?_ ?_; omega; (first | rfl | first | omega | (simp only [cLE_len, cRec_len, List.length_append, List.length_cons, List.length_nil, List.length_nil, List.length_cons]; omega) | (simp only [cLE_len, cRec_len, List.length_append, List.length_cons, List.length_nil, List.length_nil, List.length_cons])); (first | rfl | first | omega | (simp only [cLE_len, cRec_len, List.length_append, List.length_cons, List.length_nil, List.length_nil, List.length_cons]; omega) | (simp only [cLE_len, cRec_len, List.length_append, List.length_cons, List.length_nil, List.length_nil, List.length_cons])))); (unfold maxLen; omega); omega)) <;> (try simp only [↓R1, R2, R3, R4, R5, Nat.reduceEqDiff, Nat.reduceAdd, Nat.reduceMul, Nat.reduceSub, Nat.reduceLeDiff, Nat.reduceLT, reduceIte, reduceCtorEq, Int.reduceBNe, Int.reduceBEq, hd, hd2, hwi, hq, hne])) | (with_reducible refine And.intro ?_ ?_; (focus (first | omega | (intros; (repeat' (with_reducible apply And.intro)) <;> first | omega | (simp only [cLE_len, cRec_len, List.length_append, List.length_cons, List.length_nil]; omega))))) | (with_reducible apply And.intro))
    all_goals first | (exfalso; simp_all; done) | (with_reducible intro hno; exfalso; simp_all; done) | skip
    refine loopV_for a.length (fun k => [(0, sl cRec a), (1, sl cRec b), (5, .int .i64 k)]) (fun _ => σ) (fun k => (a.take k).map recK = (b.take k).map recK) (by simp [subF, slot, wk_refl]) (St.le_refl _) rfl (fun k hk hI => ?_)
    simp only [↓R1, R2, R3, R4, R5, Nat.reduceEqDiff, Nat.reduceAdd, Nat.reduceMul, Nat.reduceSub, Nat.reduceLeDiff, Nat.reduceLT, reduceIte, reduceCtorEq, Int.reduceBNe, Int.reduceBEq, hd, hd2, hwi, hq, hne]
    refine condV_split (fun hc => ?_) (fun hc => ?_)
    · have hlt : k < a.length := by simpa using hc
      have hlt2 : k < b.length := by omega
      have hd := cRec_drop a k hlt
      have hd2 := cRec_drop b k hlt2
      have hwi : IntKind.i64.wrap ((k : Int) + 1) = ((k + 1 : Nat) : Int) := by rw [wrap64 (by omega) (by omega)]; omega
      have hx := take_ext recK hlt hlt2 hI
      rw [← eAt_lt hlt, ← eAt_lt hlt2] at hx
      simp only [↓R1, R2, R3, R4, R5, Nat.reduceEqDiff, Nat.reduceAdd, Nat.reduceMul, Nat.reduceSub, Nat.reduceLeDiff, Nat.reduceLT, reduceIte, reduceCtorEq, Int.reduceBNe, Int.reduceBEq, hd, hd2, hwi, hq, hne]
      repeat' (first | (with_reducible rw [allocV_eq]) | (refine gdV_split (fun hc => ?_) (fun hc => ?_) <;> (try simp only [hc, ↓R1, R2, R3, R4, R5, Nat.reduceEqDiff, Nat.reduceAdd, Nat.reduceMul, Nat.reduceSub, Nat.reduceLeDiff, Nat.reduceLT, reduceIte, reduceCtorEq, Int.reduceBNe, Int.reduceBEq, hd, hd2, hwi, hq, hne])) | ((first | refine condV_split (fun hc => ?_) (fun hc => ?_) | (with_reducible intro β hβ; (try simp only [St.box_noneA, St.tip_noneA, St.tip_set, St.box_tip, St.box_lp, St.tip_lp] at hβ); (repeat (obtain ⟨⟨_, _⟩, hβ⟩ := hβ)); (try (have hbis := apart_is (by assumption) hβ; obtain ⟨_, _⟩ := hbis))) | ((first | (refine appD_tslK (.inr rfl) rfl ?_ ?_ ?_ ?_ ?_ ?_; (first | rfl | exact St.tip_same _ _ _ | (simp only [↓R1, R2, R3, R4, R5, Nat.reduceEqDiff, Nat.reduceAdd, Nat.reduceMul, Nat.reduceSub, Nat.reduceLeDiff, Nat.reduceLT, reduceIte, reduceCtorEq, Int.reduceBNe, Int.reduceBEq, hd, hd2, hwi, hq, hne])); (first | omega | (simp only [cLE_len, cRec_len, List.length_append, List.length_cons, List.length_nil, List.length_nil, List.length_cons]; omega) | (simp only [cLE_len, cRec_len, List.length_append, List.length_cons, List.length_nil, List.length_nil, List.length_cons])); (first | rfl | first | omega | (simp only [cLE_len, cRec_len, List.length_append, List.length_cons, List.length_nil, List.length_nil, List.length_cons]; omega) | (simp only [cLE_len, cRec_len, List.length_append, List.length_cons, List.length_nil, List.length_nil, List.length_cons]))) | (refine appV_tslK rfl ?_ ?_ ?_ ?_ ?_ ?_; (first | rfl | exact St.tip_same _ _ _ | (simp only [↓R1, R2, R3, R4, R5, Nat.reduceEqDiff, Nat.reduceAdd, Nat.reduceMul, Nat.reduceSub, Nat.reduceLeDiff, Nat.reduceLT, reduceIte, reduceCtorEq, Int.reduceBNe, Int.reduceBEq, hd, hd2, hwi, hq, hne])); (first | omega | (simp only [cLE_len, cRec_len, List.length_append, List.length_cons, List.length_nil, List.length_nil, List.length_cons]; omega) | (simp only [cLE_len, cRec_len, List.length_append, List.length_cons, List.length_nil, List.length_nil, List.length_cons])); (first | rfl | first | omega | (simp only [cLE_len, cRec_len, List.length_append, List.length_cons, List.length_nil, List.length_nil, List.length_cons]; omega) | (simp only [cLE_len, cRec_len, List.length_append, List.length_cons, List.length_nil, List.length_nil, List.length_cons]))) | (refine appV_own ?_ ?_ ?_ ?_; exact flat_len (by intro _; rfl) _) | (refine appD_own ?_ ?_ ?_ ?_ ?_; omega; exact flat_len (by intro _; rfl) _) | (refine appV_fresh rfl trivial rfl ?_ ?_ ?_ ?_ ?_; (first | rfl | first | omega | (simp only [cLE_len, cRec_len, List.length_append, List.length_cons, List.length_nil, List.length_nil, List.length_cons]; omega) | (simp only [cLE_len, cRec_len, List.length_append, List.length_cons, List.length_nil, List.length_nil, List.length_cons])); (first | rfl | first | omega | (simp only [cLE_len, cRec_len, List.length_append, List.length_cons, List.length_nil, List.length_nil, List.length_cons]; omega) | (simp only [cLE_len, cRec_len, List.length_append, List.length_cons, List.length_nil, List.length_nil, List.length_cons]))) | (refine appD_fresh rfl trivial rfl ?_ ?_ ?_ ?_ ?_ ?_; omega; (first | rfl | first | omega | (simp only [cLE_len, cRec_len, List.length_append, List.length_cons, List.length_nil, List.length_nil, List.length_cons]; omega) | (simp only [cLE_len, cRec_len, List.length_append, List.length_cons, List.length_nil, List.length_nil, List.length_cons])); (first | rfl | first | omega | (simp only [cLE_len, cRec_len, List.length_append, List.length_cons, List.length_nil, List.length_nil, List.length_cons]; omega) | (simp only [cLE_len, cRec_len, List.length_append, List.length_cons, List.length_nil, List.length_nil, List.length_cons])))); (unfold maxLen; omega); omega)) <;> (try simp only [↓R1, R2, R3, R4, R5, Nat.reduceEqDiff, Nat.reduceAdd, Nat.reduceMul, Nat.reduceSub, Nat.reduceLeDiff, Nat.reduceLT, reduceIte, reduceCtorEq, Int.reduceBNe, Int.reduceBEq, hd, hd2, hwi, hq, hne])) | (with_reducible refine And.intro ?_ ?_; (focus (first | omega | (intros; (repeat' (with_reducible apply And.intro)) <;> first | omega | (simp only [cLE_len, cRec_len, List.length_append, List.length_cons, List.length_nil]; omega))))) | (with_reducible apply And.intro))
      · have hk2 : recK (eAt a k) ≠ recK (eAt b k) := by
          intro h
          simp only [recK, Prod.mk.injEq] at h
          simp [h] at hc
        have e : decide (a.map recK = b.map recK) = false := by
          rw [decide_eq_false_iff_not]
          exact map_ne recK (k := k + 1) (fun h => hk2 (hx.1 h))
        rw [e]
        (refine endP_pu (by simp) (by first | (simp [rvsS, rvS]; done) | (simp only [rvsS, rvS, ↓R1, R2, R3, R4, R5, Nat.reduceEqDiff, Nat.reduceAdd, Nat.reduceMul, Nat.reduceSub, Nat.reduceLeDiff, Nat.reduceLT, reduceIte, reduceCtorEq, Int.reduceBNe, Int.reduceBEq, hd, hd2, hwi, hq, hne]; try simp)) (wk_of_eq ?_) (by (repeat (first | exact St.le_refl _ | (refine St.le_new ?_ (by assumption)) | (refine St.le_newT ?_ (by assumption))))))
        (simp only [resAV, rvV, List.map_cons, List.map_nil, ↓R1, R2, R3, R4, R5, Nat.reduceEqDiff, Nat.reduceAdd, Nat.reduceMul, Nat.reduceSub, Nat.reduceLeDiff, Nat.reduceLT, reduceIte, reduceCtorEq, Int.reduceBNe, Int.reduceBEq, hd, hd2, hwi, hq, hne])
      · refine hx.2 ?_
        simp only [recK, Prod.mk.injEq]
        simpa using hc
      · simp only [subF, slot, wk_refl, ↓R1, R2, R3, R4, R5, Nat.reduceEqDiff, Nat.reduceAdd, Nat.reduceMul, Nat.reduceSub, Nat.reduceLeDiff, Nat.reduceLT, reduceIte, reduceCtorEq, Int.reduceBNe, Int.reduceBEq, hd, hd2, hwi, hq, hne]
      · exact St.le_refl _
    · have : k = a.length := by simp at hc; omega
      subst this
      rw [List.take_length, hlen, List.take_length] at hI
      rw [hI, decide_eq_true rfl]
      simp only [↓R1, R2, R3, R4, R5, Nat.reduceEqDiff, Nat.reduceAdd, Nat.reduceMul, Nat.reduceSub, Nat.reduceLeDiff, Nat.reduceLT, reduceIte, reduceCtorEq, Int.reduceBNe, Int.reduceBEq, hd, hd2, hwi, hq, hne]
      repeat' (first | (with_reducible rw [allocV_eq]) | (refine gdV_split (fun hc => ?_) (fun hc => ?_) <;> (try simp only [hc, ↓R1, R2, R3, R4, R5, Nat.reduceEqDiff, Nat.reduceAdd, Nat.reduceMul, Nat.reduceSub, Nat.reduceLeDiff, Nat.reduceLT, reduceIte, reduceCtorEq, Int.reduceBNe, Int.reduceBEq, hd, hd2, hwi, hq, hne])) | ((first | refine condV_split (fun hc => ?_) (fun hc => ?_) | (with_reducible intro β hβ; (try simp only [St.box_noneA, St.tip_noneA, St.tip_set, St.box_tip, St.box_lp, St.tip_lp] at hβ); (repeat (obtain ⟨⟨_, _⟩, hβ⟩ := hβ)); (try (have hbis := apart_is (by assumption) hβ; obtain ⟨_, _⟩ := hbis))) | ((first | (refine appD_tslK (.inr rfl) rfl ?_ ?_ ?_ ?_ ?_ ?_; (first | rfl | exact St.tip_same _ _ _ | (simp only [↓R1, R2, R3, R4, R5, Nat.reduceEqDiff, Nat.reduceAdd, Nat.reduceMul, Nat.reduceSub, Nat.reduceLeDiff, Nat.reduceLT, reduceIte, reduceCtorEq, Int.reduceBNe, Int.reduceBEq, hd, hd2, hwi, hq, hne])); (first | omega | (simp only [cLE_len, cRec_len, List.length_append, List.length_cons, List.length_nil, List.length_nil, List.length_cons]; omega) | (simp only [cLE_len, cRec_len, List.length_append, List.length_cons, List.length_nil, List.length_nil, List.length_cons])); (first | rfl | first | omega | (simp only [cLE_len, cRec_len, List.length_append, List.length_cons, List.length_nil, List.length_nil, List.length_cons]; omega) | (simp only [cLE_len, cRec_len, List.length_append, List.length_cons, List.length_nil, List.length_nil, List.length_cons]))) | (refine appV_tslK rfl ?_ ?_ ?_ ?_ ?_ ?_; (first | rfl | exact St.tip_same _ _ _ | (simp only [↓R1, R2, R3, R4, R5, Nat.reduceEqDiff, Nat.reduceAdd, Nat.reduceMul, Nat.reduceSub, Nat.reduceLeDiff, Nat.reduceLT, reduceIte, reduceCtorEq, Int.reduceBNe, Int.reduceBEq, hd, hd2, hwi, hq, hne])); (first | omega | (simp only [cLE_len, cRec_len, List.length_append, List.length_cons, List.length_nil, List.length_nil, List.length_cons]; omega) | (simp only [cLE_len, cRec_len, List.length_append, List.length_cons, List.length_nil, List.length_nil, List.length_cons])); (first | rfl | first | omega | (simp only [cLE_len, cRec_len, List.length_append, List.length_cons, List.length_nil, List.length_nil, List.length_cons]; omega) | (simp only [cLE_len, cRec_len, List.length_append, List.length_cons, List.length_nil, List.length_nil, List.length_cons]))) | (refine appV_own ?_ ?_ ?_ ?_; exact flat_len (by intro _; rfl) _) | (refine appD_own ?_ ?_ ?_ ?_ ?_; omega; exact flat_len (by intro _; rfl) _) | (refine appV_fresh rfl trivial rfl ?_ ?_ ?_ ?_ ?_; (first | rfl | first | omega | (simp only [cLE_len, cRec_len, List.length_append, List.length_cons, List.length_nil, List.length_nil, List.length_cons]; omega) | (simp only [cLE_len, cRec_len, List.length_append, List.length_cons, List.length_nil, List.length_nil, List.length_cons])); (first | rfl | first | omega | (simp only [cLE_len, cRec_len, List.length_append, List.length_cons, List.length_nil, List.length_nil, List.length_cons]; omega) | (simp only [cLE_len, cRec_len, List.length_append, List.length_cons, List.length_nil, List.length_nil, List.length_cons]))) | (refine appD_fresh rfl trivial rfl ?_ ?_ ?_ ?_ ?_ ?_; omega; (first | rfl | first | omega | (simp only [cLE_len, cRec_len, List.length_append, List.length_cons, List.length_nil, List.length_nil, List.length_cons]; omega) | (simp only [cLE_len, cRec_len, List.length_append, List.length_cons, List.length_nil, List.length_nil, List.length_cons])); (first | rfl | first | omega | (simp only [cLE_len, cRec_len, List.length_append, List.length_cons, List.length_nil, List.length_nil, List.length_cons]; omega) | (simp only [cLE_len, cRec_len, List.length_append, List.length_cons, List.length_nil, List.length_nil, List.length_cons])))); (unfold maxLen; omega); omega)) <;> (try simp only [↓R1, R2, R3, R4, R5, Nat.reduceEqDiff, Nat.reduceAdd, Nat.reduceMul, Nat.reduceSub, Nat.reduceLeDiff, Nat.reduceLT, reduceIte, reduceCtorEq, Int.reduceBNe, Int.reduceBEq, hd, hd2, hwi, hq, hne])) | (with_reducible refine And.intro ?_ ?_; (focus (first | omega | (intros; (repeat' (with_reducible apply And.intro)) <;> first | omega | (simp only [cLE_len, cRec_len, List.length_append, List.length_cons, List.length_nil]; omega))))) | (with_reducible apply And.intro))
      (refine endP_pu (by simp) (by first | (simp [rvsS, rvS]; done) | (simp only [rvsS, rvS, ↓R1, R2, R3, R4, R5, Nat.reduceEqDiff, Nat.reduceAdd, Nat.reduceMul, Nat.reduceSub, Nat.reduceLeDiff, Nat.reduceLT, reduceIte, reduceCtorEq, Int.reduceBNe, Int.reduceBEq, hd, hd2, hwi, hq, hne]; try simp)) (wk_of_eq ?_) (by (repeat (first | exact St.le_refl _ | (refine St.le_new ?_ (by assumption)) | (refine St.le_newT ?_ (by assumption))))))
      (simp only [resAV, rvV, List.map_cons, List.map_nil, ↓R1, R2, R3, R4, R5, Nat.reduceEqDiff, Nat.reduceAdd, Nat.reduceMul, Nat.reduceSub, Nat.reduceLeDiff, Nat.reduceLT, reduceIte, reduceCtorEq, Int.reduceBNe, Int.reduceBEq, hd, hd2, hwi, hq, hne])
  · have hne : ((a.length : Int) != (b.length : Int)) = true := by rw [bne_iff_ne]; omega
    have e : decide (a.map recK = b.map recK) = false := by
      rw [decide_eq_false_iff_not]; intro h; have := congrArg List.length h; simp at this; exact hlen this
    rw [e]
    (refine Pu_intro c22 b22 (Nat.le_of_ble_eq_true rfl) fun σ => ?_; simp only [c22, ↓R1, R2, R3, R4, R5, Nat.reduceEqDiff, Nat.reduceAdd, Nat.reduceMul, Nat.reduceSub, Nat.reduceLeDiff, Nat.reduceLT, reduceIte, reduceCtorEq, Int.reduceBNe, Int.reduceBEq, hd, hd2, hwi, hq, hne])
    repeat' (first | (with_reducible rw [allocV_eq]) | (refine gdV_split (fun hc => ?_) (fun hc => ?_) <;> (try simp only [hc, ↓R1, R2, R3, R4, R5, Nat.reduceEqDiff, Nat.reduceAdd, Nat.reduceMul, Nat.reduceSub, Nat.reduceLeDiff, Nat.reduceLT, reduceIte, reduceCtorEq, Int.reduceBNe, Int.reduceBEq, hd, hd2, hwi, hq, hne])) | ((first | refine condV_split (fun hc => ?_) (fun hc => ?_) | (with_reducible intro β hβ; (try simp only [St.box_noneA, St.tip_noneA, St.tip_set, St.box_tip, St.box_lp, St.tip_lp] at hβ); (repeat (obtain ⟨⟨_, _⟩, hβ⟩ := hβ)); (try (have hbis := apart_is (by assumption) hβ; obtain ⟨_, _⟩ := hbis))) | ((first | (refine appD_tslK (.inr rfl) rfl ?_ ?_ ?_ ?_ ?_ ?_; (first | rfl | exact St.tip_same _ _ _ | (simp only [↓R1, R2, R3, R4, R5, Nat.reduceEqDiff, Nat.reduceAdd, Nat.reduceMul, Nat.reduceSub, Nat.reduceLeDiff, Nat.reduceLT, reduceIte, reduceCtorEq, Int.reduceBNe, Int.reduceBEq, hd, hd2, hwi, hq, hne])); (first | omega | (simp only [cLE_len, cRec_len, List.length_append, List.length_cons, List.length_nil, List.length_nil, List.length_cons]; omega) | (simp only [cLE_len, cRec_len, List.length_append, List.length_cons, List.length_nil, List.length_nil, List.length_cons])); (first | rfl | first | omega | (simp only [cLE_len, cRec_len, List.length_append, List.length_cons, List.length_nil, List.length_nil, List.length_cons]; omega) | (simp only [cLE_len, cRec_len, List.length_append, List.length_cons, List.length_nil, List.length_nil, List.length_cons]))) | (refine appV_tslK rfl ?_ ?_ ?_ ?_ ?_ ?_; (first | rfl | exact St.tip_same _ _ _ | (simp only [↓R1, R2, R3, R4, R5, Nat.reduceEqDiff, Nat.reduceAdd, Nat.reduceMul, Nat.reduceSub, Nat.reduceLeDiff, Nat.reduceLT, reduceIte, reduceCtorEq, Int.reduceBNe, Int.reduceBEq, hd, hd2, hwi, hq, hne])); (first | omega | (simp only [cLE_len, cRec_len, List.length_append, List.length_cons, List.length_nil, List.length_nil, List.length_cons]; omega) | (simp only [cLE_len, cRec_len, List.length_append, List.length_cons, List.length_nil, List.length_nil, List.length_cons])); (first | rfl | first | omega | (simp only [cLE_len, cRec_len, List.length_append, List.length_cons, List.length_nil, List.length_nil, List.length_cons]; omega) | (simp only [cLE_len, cRec_len, List.length_append, List.length_cons, List.length_nil, List.length_nil, List.length_cons]))) | (refine appV_own ?_ ?_ ?_ ?_; exact flat_len (by intro _; rfl) _) | (refine appD_own ?_ ?_ ?_ ?_ ?_; omega; exact flat_len (by intro _; rfl) _) | (refine appV_fresh rfl trivial rfl ?_ ?_ ?_ ?_ ?_; (first | rfl | first | omega | (simp only [cLE_len, cRec_len, List.length_append, List.length_cons, List.length_nil, List.length_nil, List.length_cons]; omega) | (simp only [cLE_len, cRec_len, List.length_append, List.length_cons, List.length_nil, List.length_nil, List.length_cons])); (first | rfl | first | omega | (simp only [cLE_len, cRec_len, List.length_append, List.length_cons, List.length_nil, List.length_nil, List.length_cons]; omega) | (simp only [cLE_len, cRec_len, List.length_append, List.length_cons, List.length_nil, List.length_nil, List.length_cons]))) | (refine appD_fresh rfl trivial rfl ?_ ?_ ?_ ?_ ?_ ?_; omega; (first | rfl | first | omega | (simp only [cLE_len, cRec_len, List.length_append, List.length_cons, List.length_nil, List.length_nil, List.length_cons]; omega) | (simp only [cLE_len, cRec_len, List.length_append, List.length_cons, List.length_nil, List.length_nil, List.length_cons])); (first | rfl | first | omega | (simp only [cLE_len, cRec_len, List.length_append, List.length_cons, List.length_nil, List.length_nil, List.length_cons]; omega) | (simp only [cLE_len, cRec_len, List.length_append, List.length_cons, List.length_nil, List.length_nil, List.length_cons])))); (unfold maxLen; omega); omega)) <;> (try simp only [↓R1, R2, R3, R4, R5, Nat.reduceEqDiff, Nat.reduceAdd, Nat.reduceMul, Nat.reduceSub, Nat.reduceLeDiff, Nat.reduceLT, reduceIte, reduceCtorEq, Int.reduceBNe, Int.reduceBEq, hd, hd2, hwi, hq, hne])) | (with_reducible refine And.intro ?_ ?_; (focus (first | omega | (intros; (repeat' (with_reducible apply And.intro)) <;> first | omega | (simp only [cLE_len, cRec_len, List.length_append, List.length_cons, List.length_nil]; omega))))) | (with_reducible apply And.intro))
    all_goals first | (exfalso; simp_all; done) | (with_reducible intro hno; exfalso; simp_all; done) | skip
    (refine endP_pu (by simp) (by first | (simp [rvsS, rvS]; done) | (simp only [rvsS, rvS, ↓R1, R2, R3, R4, R5, Nat.reduceEqDiff, Nat.reduceAdd, Nat.reduceMul, Nat.reduceSub, Nat.reduceLeDiff, Nat.reduceLT, reduceIte, reduceCtorEq, Int.reduceBNe, Int.reduceBEq, hd, hd2, hwi, hq, hne]; try simp)) (wk_of_eq ?_) (by (repeat (first | exact St.le_refl _ | (refine St.le_new ?_ (by assumption)) | (refine St.le_newT ?_ (by assumption))))))
    (simp only [resAV, rvV, List.map_cons, List.map_nil, ↓R1, R2, R3, R4, R5, Nat.reduceEqDiff, Nat.reduceAdd, Nat.reduceMul, Nat.reduceSub, Nat.reduceLeDiff, Nat.reduceLT, reduceIte, reduceCtorEq, Int.reduceBNe, Int.reduceBEq, hd, hd2, hwi, hq, hne])
end Go.Proofs.YtbbkckogjdjjgaaDoor
namespace Go.Proofs.YtbbkckogjdjjgaaDoor
open Go.Abs Go.Lib
set_option linter.all false
set_option maxRecDepth 100000
def x1 : LE := ⟨2, 14, 0, 6, 5, 6, 2, 7⟩
def x2 : LE := ⟨2, 14, 1, 6, 5, 6, 2, 8⟩
theorem p23 : Pu Tryd.prog 23 [] (.agg [.int .i64 0, .int .u64 6, .int .u64 5, .int .u64 6, .int .u64 2, .int .u64 7]) := by
  (refine Pu_intro c23 b23 (Nat.le_of_ble_eq_true rfl) fun σ => ?_; simp only [c23, ↓R1, R2, R3, R4, R5, Nat.reduceEqDiff, Nat.reduceAdd, Nat.reduceMul, Nat.reduceSub, Nat.reduceLeDiff, Nat.reduceLT, reduceIte, reduceCtorEq, Int.reduceBNe, Int.reduceBEq])
  repeat' (first | (with_reducible rw [allocV_eq]) | (refine gdV_split (fun hc => ?_) (fun hc => ?_) <;> (try simp only [hc, ↓R1, R2, R3, R4, R5, Nat.reduceEqDiff, Nat.reduceAdd, Nat.reduceMul, Nat.reduceSub, Nat.reduceLeDiff, Nat.reduceLT, reduceIte, reduceCtorEq, Int.reduceBNe, Int.reduceBEq])) | ((first | refine condV_split (fun hc => ?_) (fun hc => ?_) | (with_reducible intro β hβ; (try simp only [St.box_noneA, St.tip_noneA, St.tip_set, St.box_tip, St.box_lp, St.tip_lp] at hβ); (repeat (obtain ⟨⟨_, _⟩, hβ⟩ := hβ)); (try (have hbis := apart_is (by assumption) hβ; obtain ⟨_, _⟩ := hbis)))) <;> (try simp only [↓R1, R2, R3, R4, R5, Nat.reduceEqDiff, Nat.reduceAdd, Nat.reduceMul, Nat.reduceSub, Nat.reduceLeDiff, Nat.reduceLT, reduceIte, reduceCtorEq, Int.reduceBNe, Int.reduceBEq])) | (with_reducible refine And.intro ?_ ?_; (focus (first | omega | (intros; (repeat' (with_reducible apply And.intro)) <;> first | omega | (simp only [cLE_len, cRec_len, List.length_append, List.length_cons, List.length_nil]; omega))))) | (with_reducible apply And.intro))
  (refine endP_pu (by simp) (by first | (simp [rvsS, rvS]; done) | (simp only [rvsS, rvS, ↓R1, R2, R3, R4, R5, Nat.reduceEqDiff, Nat.reduceAdd, Nat.reduceMul, Nat.reduceSub, Nat.reduceLeDiff, Nat.reduceLT, reduceIte, reduceCtorEq, Int.reduceBNe, Int.reduceBEq]; try simp)) (wk_of_eq ?_) (by (repeat (first | exact St.le_refl _ | (refine St.le_new ?_ (by assumption)) | (refine St.le_newT ?_ (by assumption))))))
  (simp only [resAV, rvV, List.map_cons, List.map_nil, ↓R1, R2, R3, R4, R5, Nat.reduceEqDiff, Nat.reduceAdd, Nat.reduceMul, Nat.reduceSub, Nat.reduceLeDiff, Nat.reduceLT, reduceIte, reduceCtorEq, Int.reduceBNe, Int.reduceBEq])
theorem p24 : Pu Tryd.prog 24 [] (.agg [.int .i64 1, .int .u64 6, .int .u64 5, .int .u64 6, .int .u64 2, .int .u64 8]) := by
  have h := p23
  (refine Pu_intro c24 b24 (Nat.le_of_ble_eq_true rfl) fun σ => ?_; simp only [c24, ↓R1, R2, R3, R4, R5, Nat.reduceEqDiff, Nat.reduceAdd, Nat.reduceMul, Nat.reduceSub, Nat.reduceLeDiff, Nat.reduceLT, reduceIte, reduceCtorEq, Int.reduceBNe, Int.reduceBEq])
  repeat' (first | (with_reducible rw [allocV_eq]) | (refine gdV_split (fun hc => ?_) (fun hc => ?_) <;> (try simp only [hc, ↓R1, R2, R3, R4, R5, Nat.reduceEqDiff, Nat.reduceAdd, Nat.reduceMul, Nat.reduceSub, Nat.reduceLeDiff, Nat.reduceLT, reduceIte, reduceCtorEq, Int.reduceBNe, Int.reduceBEq])) | ((first | refine condV_split (fun hc => ?_) (fun hc => ?_) | (with_reducible intro β hβ; (try simp only [St.box_noneA, St.tip_noneA, St.tip_set, St.box_tip, St.box_lp, St.tip_lp] at hβ); (repeat (obtain ⟨⟨_, _⟩, hβ⟩ := hβ)); (try (have hbis := apart_is (by assumption) hβ; obtain ⟨_, _⟩ := hbis)))) <;> (try simp only [↓R1, R2, R3, R4, R5, Nat.reduceEqDiff, Nat.reduceAdd, Nat.reduceMul, Nat.reduceSub, Nat.reduceLeDiff, Nat.reduceLT, reduceIte, reduceCtorEq, Int.reduceBNe, Int.reduceBEq])) | (with_reducible refine And.intro ?_ ?_; (focus (first | omega | (intros; (repeat' (with_reducible apply And.intro)) <;> first | omega | (simp only [cLE_len, cRec_len, List.length_append, List.length_cons, List.length_nil]; omega))))) | (with_reducible apply And.intro) | ((first | refine Pu.to (h) (wkL_refl _) ?_ | refine callDV_pu (h) (wkL_refl _) ?_); (try simp only [↓R1, R2, R3, R4, R5, Nat.reduceEqDiff, Nat.reduceAdd, Nat.reduceMul, Nat.reduceSub, Nat.reduceLeDiff, Nat.reduceLT, reduceIte, reduceCtorEq, Int.reduceBNe, Int.reduceBEq])))
  (refine endP_pu (by simp) (by first | (simp [rvsS, rvS]; done) | (simp only [rvsS, rvS, ↓R1, R2, R3, R4, R5, Nat.reduceEqDiff, Nat.reduceAdd, Nat.reduceMul, Nat.reduceSub, Nat.reduceLeDiff, Nat.reduceLT, reduceIte, reduceCtorEq, Int.reduceBNe, Int.reduceBEq]; try simp)) (wk_of_eq ?_) (by (repeat (first | exact St.le_refl _ | (refine St.le_new ?_ (by assumption)) | (refine St.le_newT ?_ (by assumption))))))
  (simp only [resAV, rvV, List.map_cons, List.map_nil, ↓R1, R2, R3, R4, R5, Nat.reduceEqDiff, Nat.reduceAdd, Nat.reduceMul, Nat.reduceSub, Nat.reduceLeDiff, Nat.reduceLT, reduceIte, reduceCtorEq, Int.reduceBNe, Int.reduceBEq])
theorem one_app : appL [] x1 1 = [x1] ∧ appE [] x1 1 = 0 := ⟨by kernel_rfl, by kernel_rfl⟩
theorem two_app : appL [x1] x2 2 = [x1, x2] ∧ appE [x1] x2 2 = 0 := ⟨by kernel_rfl, by kernel_rfl⟩
theorem vis_two : visL [x1, x2] 15 = [x1, x2] ∧ chkE [x1, x2] = 0 := ⟨by kernel_rfl, by kernel_rfl⟩
theorem text_one : textR x1 = [48, 32, 123, 49, 44, 50, 125, 35, 53, 32, 45, 62, 32, 123, 49, 125, 32, 64, 55] ∧ rightE x1 = 0 := by
  have d0 : decDigits 0 = [48] := by rw [decDigits]; rfl
  have d5 : decDigits 5 = [53] := by rw [decDigits]; rfl
  have d7 : decDigits 7 = [55] := by rw [decDigits]; rfl
  have t6 : textL (toB 6) = [123, 49, 44, 50, 125] := by kernel_rfl
  have t2 : textL (toB 2) = [123, 49, 125] := by kernel_rfl
  refine ⟨?_, by kernel_rfl⟩
  show decDigits 0 ++ [32] ++ (textL (toB 6) ++ [35] ++ decDigits 5) ++ [32, 45, 62, 32] ++ textL (toB 2) ++ [32, 64] ++ decDigits 7 = _
  rw [d0, d5, d7, t6, t2]; rfl
theorem p25 : Pu Tryd.prog 25 [] (.agg [sl cLE [x1, x2]]) := by
  have h1 := p23
  have h2 := p24
  have a1 := p11 [] x1 1 (by decide)
  rw [one_app.1, one_app.2] at a1
  have a2 := p11 [x1] x2 2 (by decide)
  rw [two_app.1, two_app.2] at a2
  simp only [x1, x2, cLE, cRec, List.flatMap_cons, List.flatMap_nil, List.cons_append, List.nil_append, List.length_cons, List.length_nil, Nat.reduceAdd] at a1 a2 ⊢
  (refine Pu_intro c25 b25 (Nat.le_of_ble_eq_true rfl) fun σ => ?_; simp only [c25, ↓R1, R2, R3, R4, R5, Nat.reduceEqDiff, Nat.reduceAdd, Nat.reduceMul, Nat.reduceSub, Nat.reduceLeDiff, Nat.reduceLT, reduceIte, reduceCtorEq, Int.reduceBNe, Int.reduceBEq, cLE, cRec, x1, x2])
  repeat' (first | (with_reducible rw [allocV_eq]) | (refine gdV_split (fun hc => ?_) (fun hc => ?_) <;> (try simp only [hc, ↓R1, R2, R3, R4, R5, Nat.reduceEqDiff, Nat.reduceAdd, Nat.reduceMul, Nat.reduceSub, Nat.reduceLeDiff, Nat.reduceLT, reduceIte, reduceCtorEq, Int.reduceBNe, Int.reduceBEq, cLE, cRec, x1, x2])) | ((first | refine condV_split (fun hc => ?_) (fun hc => ?_) | (with_reducible intro β hβ; (try simp only [St.box_noneA, St.tip_noneA, St.tip_set, St.box_tip, St.box_lp, St.tip_lp] at hβ); (repeat (obtain ⟨⟨_, _⟩, hβ⟩ := hβ)); (try (have hbis := apart_is (by assumption) hβ; obtain ⟨_, _⟩ := hbis)))) <;> (try simp only [↓R1, R2, R3, R4, R5, Nat.reduceEqDiff, Nat.reduceAdd, Nat.reduceMul, Nat.reduceSub, Nat.reduceLeDiff, Nat.reduceLT, reduceIte, reduceCtorEq, Int.reduceBNe, Int.reduceBEq, cLE, cRec, x1, x2])) | (with_reducible refine And.intro ?_ ?_; (focus (first | omega | (intros; (repeat' (with_reducible apply And.intro)) <;> first | omega | (simp only [cLE_len, cRec_len, List.length_append, List.length_cons, List.length_nil]; omega))))) | (with_reducible apply And.intro) | ((first | refine Pu.to (h1) (wkL_refl _) ?_ | refine callDV_pu (h1) (wkL_refl _) ?_ | refine Pu.to (h2) (wkL_refl _) ?_ | refine callDV_pu (h2) (wkL_refl _) ?_ | refine Pu.to (a1) (wkL_refl _) ?_ | refine callDV_pu (a1) (wkL_refl _) ?_ | refine Pu.to (a2) (wkL_refl _) ?_ | refine callDV_pu (a2) (wkL_refl _) ?_); (try simp only [↓R1, R2, R3, R4, R5, Nat.reduceEqDiff, Nat.reduceAdd, Nat.reduceMul, Nat.reduceSub, Nat.reduceLeDiff, Nat.reduceLT, reduceIte, reduceCtorEq, Int.reduceBNe, Int.reduceBEq, cLE, cRec, x1, x2])) | (refine Pu.to (a1) ?_ ?_; (focus ((repeat' (first | exact wk_refl _ | exact wk_nils | exact wk_tsl _ _ _ | exact wk_full _ _ | exact wkL.nil | exact wkL_refl _ | refine wk_tup ?_ | refine wk_agg ?_ | refine wkL.cons ?_ ?_)); done)); (try simp only [↓R1, R2, R3, R4, R5, Nat.reduceEqDiff, Nat.reduceAdd, Nat.reduceMul, Nat.reduceSub, Nat.reduceLeDiff, Nat.reduceLT, reduceIte, reduceCtorEq, Int.reduceBNe, Int.reduceBEq, cLE, cRec, x1, x2])))
  all_goals first | (exfalso; simp_all; done) | (with_reducible intro hno; exfalso; simp_all; done) | skip
  all_goals first | exact .inr trivial | skip
  all_goals (refine endP_pu (by simp) (by first | (simp [rvsS, rvS]; done) | (simp only [rvsS, rvS, ↓R1, R2, R3, R4, R5, Nat.reduceEqDiff, Nat.reduceAdd, Nat.reduceMul, Nat.reduceSub, Nat.reduceLeDiff, Nat.reduceLT, reduceIte, reduceCtorEq, Int.reduceBNe, Int.reduceBEq, cLE, cRec, x1, x2]; try simp)) (wk_of_eq ?_) (by (repeat (first | exact St.le_refl _ | (refine St.le_new ?_ (by assumption)) | (refine St.le_newT ?_ (by assumption))))))
  all_goals (simp only [resAV, rvV, List.map_cons, List.map_nil, ↓R1, R2, R3, R4, R5, Nat.reduceEqDiff, Nat.reduceAdd, Nat.reduceMul, Nat.reduceSub, Nat.reduceLeDiff, Nat.reduceLT, reduceIte, reduceCtorEq, Int.reduceBNe, Int.reduceBEq, cLE, cRec, x1, x2])
theorem awake_pu : PuG Tryd.prog gl3 9 [] (.bool true) := by
  have h1 := p23
  have h2 := p24
  have h3 := p25
  have h4 := p13 x1 ⟨by decide, by decide, by decide⟩
  rw [text_one.1, text_one.2] at h4
  have h5 := p21 [x1, x2] 15 (by decide)
  rw [vis_two.1, vis_two.2] at h5
  have h6 := p22 [x1, x2] [x1, x2] (by decide)
  rw [decide_eq_true rfl] at h6
  simp only [x1, x2, cLE, cRec, List.flatMap_cons, List.flatMap_nil, List.cons_append, List.nil_append, List.length_cons, List.length_nil, Nat.reduceAdd] at h3 h4 h5 h6
  (refine PuG_intro c9 b9 (Nat.le_of_ble_eq_true rfl) fun σ hσ => ?_; simp only [c9, ↓R1, R2, R3, R4, R5, Nat.reduceEqDiff, Nat.reduceAdd, Nat.reduceMul, Nat.reduceSub, Nat.reduceLeDiff, Nat.reduceLT, reduceIte, reduceCtorEq, Int.reduceBNe, Int.reduceBEq, cLE, cRec, x1, x2])
  repeat' (first | (with_reducible rw [allocV_eq]) | (refine gdV_split (fun hc => ?_) (fun hc => ?_) <;> (try simp only [hc, ↓R1, R2, R3, R4, R5, Nat.reduceEqDiff, Nat.reduceAdd, Nat.reduceMul, Nat.reduceSub, Nat.reduceLeDiff, Nat.reduceLT, reduceIte, reduceCtorEq, Int.reduceBNe, Int.reduceBEq, cLE, cRec, x1, x2])) | ((first | refine condV_split (fun hc => ?_) (fun hc => ?_) | (with_reducible intro β hβ; (try simp only [St.box_noneA, St.tip_noneA, St.tip_set, St.box_tip, St.box_lp, St.tip_lp] at hβ); (repeat (obtain ⟨⟨_, _⟩, hβ⟩ := hβ)); (try (have hbis := apart_is (by assumption) hβ; obtain ⟨_, _⟩ := hbis)))) <;> (try simp only [↓R1, R2, R3, R4, R5, Nat.reduceEqDiff, Nat.reduceAdd, Nat.reduceMul, Nat.reduceSub, Nat.reduceLeDiff, Nat.reduceLT, reduceIte, reduceCtorEq, Int.reduceBNe, Int.reduceBEq, cLE, cRec, x1, x2])) | (with_reducible refine And.intro ?_ ?_; (focus (first | omega | (intros; (repeat' (with_reducible apply And.intro)) <;> first | omega | (simp only [cLE_len, cRec_len, List.length_append, List.length_cons, List.length_nil]; omega))))) | (with_reducible apply And.intro) | ((first | refine Pu.to (h1) (wkL_refl _) ?_ | refine callDV_pu (h1) (wkL_refl _) ?_ | refine Pu.to (h2) (wkL_refl _) ?_ | refine callDV_pu (h2) (wkL_refl _) ?_ | refine Pu.to (h3) (wkL_refl _) ?_ | refine callDV_pu (h3) (wkL_refl _) ?_ | refine PuG.to (h4) hσ (wkL_refl _) ?_ | refine Pu.to (h5) (wkL_refl _) ?_ | refine callDV_pu (h5) (wkL_refl _) ?_ | (refine callGV_pu (fun hgv => ⟨?_, (h1), wkL_refl _⟩) ?_; (first | trivial | (focus (simp only [↓R1, R2, R3, R4, R5, Nat.reduceEqDiff, Nat.reduceAdd, Nat.reduceMul, Nat.reduceSub, Nat.reduceLeDiff, Nat.reduceLT, reduceIte, reduceCtorEq, Int.reduceBNe, Int.reduceBEq, cLE, cRec, x1, x2]; done)))) | (refine callGV_pu (fun hgv => ⟨?_, (h2), wkL_refl _⟩) ?_; (first | trivial | (focus (simp only [↓R1, R2, R3, R4, R5, Nat.reduceEqDiff, Nat.reduceAdd, Nat.reduceMul, Nat.reduceSub, Nat.reduceLeDiff, Nat.reduceLT, reduceIte, reduceCtorEq, Int.reduceBNe, Int.reduceBEq, cLE, cRec, x1, x2]; done)))) | (refine callGV_pu (fun hgv => ⟨?_, (h6), wkL_refl _⟩) ?_; (first | trivial | (focus (simp only [↓R1, R2, R3, R4, R5, Nat.reduceEqDiff, Nat.reduceAdd, Nat.reduceMul, Nat.reduceSub, Nat.reduceLeDiff, Nat.reduceLT, reduceIte, reduceCtorEq, Int.reduceBNe, Int.reduceBEq, cLE, cRec, x1, x2]; done))))); (try simp only [↓R1, R2, R3, R4, R5, Nat.reduceEqDiff, Nat.reduceAdd, Nat.reduceMul, Nat.reduceSub, Nat.reduceLeDiff, Nat.reduceLT, reduceIte, reduceCtorEq, Int.reduceBNe, Int.reduceBEq, cLE, cRec, x1, x2])) | (refine Pu.to (h6) ?_ ?_; (focus ((repeat' (first | exact wk_refl _ | exact wk_nils | exact wk_tsl _ _ _ | exact wk_full _ _ | exact wkL.nil | exact wkL_refl _ | refine wk_tup ?_ | refine wk_agg ?_ | refine wkL.cons ?_ ?_)); done)); (try simp only [↓R1, R2, R3, R4, R5, Nat.reduceEqDiff, Nat.reduceAdd, Nat.reduceMul, Nat.reduceSub, Nat.reduceLeDiff, Nat.reduceLT, reduceIte, reduceCtorEq, Int.reduceBNe, Int.reduceBEq, cLE, cRec, x1, x2])))
  all_goals first | (exfalso; simp_all; done) | (with_reducible intro hno; exfalso; simp_all; done) | skip

  all_goals (refine endP_pu (by simp) (by first | (simp [rvsS, rvS]; done) | (simp only [rvsS, rvS, ↓R1, R2, R3, R4, R5, Nat.reduceEqDiff, Nat.reduceAdd, Nat.reduceMul, Nat.reduceSub, Nat.reduceLeDiff, Nat.reduceLT, reduceIte, reduceCtorEq, Int.reduceBNe, Int.reduceBEq, cLE, cRec, x1, x2]; try simp)) (wk_of_eq ?_) (by (repeat (first | exact St.le_refl _ | (refine St.le_new ?_ (by assumption)) | (refine St.le_newT ?_ (by assumption))))))
  all_goals (simp only [resAV, rvV, List.map_cons, List.map_nil, ↓R1, R2, R3, R4, R5, Nat.reduceEqDiff, Nat.reduceAdd, Nat.reduceMul, Nat.reduceSub, Nat.reduceLeDiff, Nat.reduceLT, reduceIte, reduceCtorEq, Int.reduceBNe, Int.reduceBEq, cLE, cRec, x1, x2])
end Go.Proofs.YtbbkckogjdjjgaaDoor
namespace Go.Proofs.YtbbkckogjdjjgaaDoor
open Go.Abs Go.Lib
set_option linter.all false
set_option maxRecDepth 100000
theorem mod_neg {n m : Int} (hm : 1 ≤ m) (hn : n < 0) : n % m = if (-n) % m = 0 then 0 else m - (-n) % m := by
  have h1 := Int.emod_nonneg (-n) (show m ≠ 0 by omega)
  have h2 := Int.emod_lt_of_pos (-n) (show 0 < m by omega)
  have h3 := Int.emod_add_mul_ediv (-n) m
  have e : n % m = (m - (-n) % m) % m := by
    have : n = (m - (-n) % m) + m * (-((-n) / m + 1)) := by rw [Int.mul_neg, Int.mul_add]; omega
    rw [this, Int.add_mul_emod_self_left]
    have e2 : -(m - (-n) % m + m * -((-n) / m + 1)) = -n := by rw [← this]
    rw [e2]
  rw [e]
  split
  · rename_i h; rw [h]; simp
  · exact Int.emod_eq_of_lt (by omega) (by omega)
theorem tmod_neg {n m : Int} (hn : n < 0) : Int.tmod n m = -((-n) % m) := by
  have h : Int.tmod (-n) m = (-n) % m := Int.tmod_eq_emod_of_nonneg (by omega)
  rw [← h, Int.neg_tmod, Int.neg_neg]
theorem p27 (n m : Int) (hn : I64 n) (hm : 1 ≤ m ∧ m ≤ 1099511627776) : Pu Tryd.prog 27 [.int .i64 n, .int .i64 m] (.int .i64 (n % m)) := by
  have h0 : decide (m < 1) = false := decide_eq_false (by omega)
  (refine Pu_intro c27 b27 (Nat.le_of_ble_eq_true rfl) fun σ => ?_; simp only [c27, ↓R1, R2, R3, R4, R5, Nat.reduceEqDiff, Nat.reduceAdd, Nat.reduceMul, Nat.reduceSub, Nat.reduceLeDiff, Nat.reduceLT, reduceIte, reduceCtorEq, Int.reduceBNe, Int.reduceBEq])
  simp only [h0, ↓R1, R2, R3, R4, R5, Nat.reduceEqDiff, Nat.reduceAdd, Nat.reduceMul, Nat.reduceSub, Nat.reduceLeDiff, Nat.reduceLT, reduceIte, reduceCtorEq, Int.reduceBNe, Int.reduceBEq]
  refine ⟨by omega, ?_⟩
  by_cases hneg : n < 0
  · have h1 := Int.emod_nonneg (-n) (show m ≠ 0 by omega)
    have h2 := Int.emod_lt_of_pos (-n) (show 0 < m by omega)
    rw [mod_neg hm.1 hneg, tmod_neg hneg]
    by_cases hz : (-n) % m = 0
    · rw [hz, if_pos rfl]
      simp only [show decide ((-0 : Int) < 0) = false from rfl, ↓R1, R2, R3, R4, R5, Nat.reduceEqDiff, Nat.reduceAdd, Nat.reduceMul, Nat.reduceSub, Nat.reduceLeDiff, Nat.reduceLT, reduceIte, reduceCtorEq, Int.reduceBNe, Int.reduceBEq]
      (refine endP_pu (by simp) (by first | (simp [rvsS, rvS]; done) | (simp only [rvsS, rvS, ↓R1, R2, R3, R4, R5, Nat.reduceEqDiff, Nat.reduceAdd, Nat.reduceMul, Nat.reduceSub, Nat.reduceLeDiff, Nat.reduceLT, reduceIte, reduceCtorEq, Int.reduceBNe, Int.reduceBEq]; try simp)) (wk_of_eq ?_) (by (repeat (first | exact St.le_refl _ | (refine St.le_new ?_ (by assumption)) | (refine St.le_newT ?_ (by assumption))))))
      (simp only [resAV, rvV, List.map_cons, List.map_nil, ↓R1, R2, R3, R4, R5, Nat.reduceEqDiff, Nat.reduceAdd, Nat.reduceMul, Nat.reduceSub, Nat.reduceLeDiff, Nat.reduceLT, reduceIte, reduceCtorEq, Int.reduceBNe, Int.reduceBEq])
      rfl
    · rw [if_neg hz]
      have hd : decide (-((-n) % m) < 0) = true := decide_eq_true (by omega)
      simp only [hd, ↓R1, R2, R3, R4, R5, Nat.reduceEqDiff, Nat.reduceAdd, Nat.reduceMul, Nat.reduceSub, Nat.reduceLeDiff, Nat.reduceLT, reduceIte, reduceCtorEq, Int.reduceBNe, Int.reduceBEq]
      (refine endP_pu (by simp) (by first | (simp [rvsS, rvS]; done) | (simp only [rvsS, rvS, ↓R1, R2, R3, R4, R5, Nat.reduceEqDiff, Nat.reduceAdd, Nat.reduceMul, Nat.reduceSub, Nat.reduceLeDiff, Nat.reduceLT, reduceIte, reduceCtorEq, Int.reduceBNe, Int.reduceBEq]; try simp)) (wk_of_eq ?_) (by (repeat (first | exact St.le_refl _ | (refine St.le_new ?_ (by assumption)) | (refine St.le_newT ?_ (by assumption))))))
      (simp only [resAV, rvV, List.map_cons, List.map_nil, ↓R1, R2, R3, R4, R5, Nat.reduceEqDiff, Nat.reduceAdd, Nat.reduceMul, Nat.reduceSub, Nat.reduceLeDiff, Nat.reduceLT, reduceIte, reduceCtorEq, Int.reduceBNe, Int.reduceBEq])
      have : IntKind.i64.wrap (-(-n % m) + m) = m - (-n) % m := by rw [wI]; split <;> omega
      rw [this]
  · have h1 := Int.emod_nonneg n (show m ≠ 0 by omega)
    rw [Int.tmod_eq_emod_of_nonneg (by omega)]
    have hd : decide (n % m < 0) = false := decide_eq_false (by omega)
    simp only [hd, ↓R1, R2, R3, R4, R5, Nat.reduceEqDiff, Nat.reduceAdd, Nat.reduceMul, Nat.reduceSub, Nat.reduceLeDiff, Nat.reduceLT, reduceIte, reduceCtorEq, Int.reduceBNe, Int.reduceBEq]
    (refine endP_pu (by simp) (by first | (simp [rvsS, rvS]; done) | (simp only [rvsS, rvS, ↓R1, R2, R3, R4, R5, Nat.reduceEqDiff, Nat.reduceAdd, Nat.reduceMul, Nat.reduceSub, Nat.reduceLeDiff, Nat.reduceLT, reduceIte, reduceCtorEq, Int.reduceBNe, Int.reduceBEq]; try simp)) (wk_of_eq ?_) (by (repeat (first | exact St.le_refl _ | (refine St.le_new ?_ (by assumption)) | (refine St.le_newT ?_ (by assumption))))))
    (simp only [resAV, rvV, List.map_cons, List.map_nil, ↓R1, R2, R3, R4, R5, Nat.reduceEqDiff, Nat.reduceAdd, Nat.reduceMul, Nat.reduceSub, Nat.reduceLeDiff, Nat.reduceLT, reduceIte, reduceCtorEq, Int.reduceBNe, Int.reduceBEq])
/-- A loop that counts up to n and appends to a list that a variable holds. -/
theorem loopV_forB {x : CC} {fr : Fr} {σ : St} {Q : Exit → Fr → St → Prop} {h : Hold (x, σ, Q)} (n t e s : Nat) {β : Nat} (hp : slot t fr = .ptr β 0) (hb : σ.box β = some [.nils]) (F : Nat → Nat → Fr) (S : Nat → Nat → St) (I : Nat → Prop) (h0 : I 0)
    (hF : ∀ τ, subF (F τ 0) fr) (hS : ∀ τ, σ.tip τ = none → St.le (S τ 0) ((σ.setTip τ (e, s, 0)).setBox β [.tsl τ 0 []]))
    (hr : ∀ τ, σ.tip τ = none → ∀ k, k ≤ n → I k → aC Tryd.prog x (F τ k) (S τ k) (loopK (fun fr' σ' => k < n ∧ I (k + 1) ∧ subF (F τ (k + 1)) fr' ∧ St.le (S τ (k + 1)) σ') Q)) : loopV Tryd.prog x fr σ Q h := by
  refine ⟨[(true, t, 0, e, s)], ?_⟩
  simp only [startP, hp, hb, Nat.add_zero, Nat.zero_add, List.getElem?_cons_zero, slv, fresh, true_and, List.set_cons_zero]
  intro τ hτ
  refine ⟨Nat, F τ, S τ, fun k => k ≤ n ∧ I k, fun k => n - k, 0, ⟨Nat.zero_le _, h0⟩, hF τ, hS τ hτ, fun k hk => ?_⟩
  refine aC_mono _ _ _ (hr τ hτ k hk.1 hk.2) (fun e fr' σ' hq => ?_)
  unfold loopK at hq
  cases e with
  | normal => simp only at hq ⊢; exact ⟨k + 1, ⟨hq.1, hq.2.1⟩, hq.2.2.1, hq.2.2.2, by omega⟩
  | _ => exact hq
def cInt2 (n : Int) : List AV := [.int .i64 n]
theorem cInt_len2 (l : List Int) : (l.flatMap cInt2).length = l.length * 1 := flat_len (f := cInt2) (fun _ => rfl) l
theorem cInt_drop2 (l : List Int) (k : Nat) (h : k < l.length) : (l.flatMap cInt2).drop (k * 1) = .int .i64 l[k] :: (l.flatMap cInt2).drop ((k + 1) * 1) := by
  rw [flat_drop (f := cInt2) (s := 1) (fun _ => rfl), List.drop_eq_getElem_cons h, List.flatMap_cons, flat_drop (f := cInt2) (s := 1) (fun _ => rfl)]; rfl
def ksOf (nums : List Int) : List Nat := (nums.take 30).map fun n => (n % 1073741824).toNat
def labOf (labels : Int) : Nat := (labels % 262144).toNat
def madeL (labels : Int) (nums : List Int) : List LE := madeF (labOf labels) 0 (ksOf nums)
theorem ksOf_len (nums : List Int) : (ksOf nums).length ≤ 30 := by simp only [ksOf, List.length_map, List.length_take]; omega
theorem lab_shr (L t : Nat) (hL : L < 262144) (h1 : 1 ≤ t) (h2 : t ≤ 6) : Int.tmod ((IntKind.u64.wrap (L : Int)).fdiv (2 ^ min (IntKind.u64.wrap (IntKind.i64.wrap (IntKind.i64.wrap (3 * (t : Int)) - 3))).toNat IntKind.u64.bits)) 8 = (labN L t : Int) := by
  have hw : IntKind.u64.wrap (L : Int) = (L : Int) := wrapU64 (by omega) (by omega)
  have e : min (IntKind.u64.wrap (IntKind.i64.wrap (IntKind.i64.wrap (3 * (t : Int)) - 3))).toNat IntKind.u64.bits = 3 * t - 3 := by
    have h6 : t = 1 ∨ t = 2 ∨ t = 3 ∨ t = 4 ∨ t = 5 ∨ t = 6 := by omega
    rcases h6 with rfl | rfl | rfl | rfl | rfl | rfl <;> decide
  rw [hw, e, labN]
  have hp : ((2 : Int) ^ (3 * t - 3)) = ((2 ^ (3 * t - 3) : Nat) : Int) := by simp
  rw [hp, Int.fdiv_eq_ediv_of_nonneg _ (Int.natCast_nonneg _), ← Int.natCast_ediv, Int.tmod_eq_emod_of_nonneg (Int.natCast_nonneg _)]
  generalize L / 2 ^ (3 * t - 3) = q
  omega
theorem old_and (m : Nat) (h : m < 8) : bits .and .u64 (m : Int) 3 = ((m % 4 : Nat) : Int) := by
  have : m = 0 ∨ m = 1 ∨ m = 2 ∨ m = 3 ∨ m = 4 ∨ m = 5 ∨ m = 6 ∨ m = 7 := by omega
  rcases this with rfl | rfl | rfl | rfl | rfl | rfl | rfl | rfl <;> decide
set_option maxHeartbeats 8000000 in
theorem p20 (labels : Int) (nums : List Int) (hlb : I64 labels) (hn : ∀ n ∈ nums, I64 n) : Pu Tryd.prog 20 [.int .i64 labels, sl cInt2 nums] (.agg [sl cLE (madeL labels nums)]) := by
  have hd : True := trivial
  have hc1 : True := trivial
  have hc2 : True := trivial
  have w1 : True := trivial
  have w2 : True := trivial
  have w3 : True := trivial
  have w4 : True := trivial
  have w5 : True := trivial
  have w6 : True := trivial
  have w7 : True := trivial
  have w8 : True := trivial
  have m2 := p27 labels 262144 hlb (by omega)
  obtain ⟨L, hL⟩ : ∃ L : Nat, labels % 262144 = (L : Int) := Int.eq_ofNat_of_zero_le (Int.emod_nonneg _ (show (262144 : Int) ≠ 0 by decide))
  have hL2 : L < 262144 := by have := Int.emod_lt_of_pos labels (show (0 : Int) < 262144 by decide); omega
  have hLo : labOf labels = L := by unfold labOf; rw [hL]; rfl
  rw [hL] at m2
  have hkl : (ksOf nums).length = min 30 nums.length := by simp only [ksOf, List.length_map, List.length_take]
  (refine Pu_intro c20 b20 (Nat.le_of_ble_eq_true rfl) fun σ => ?_; simp only [c20, ↓R1, R2, R3, R4, R5, Nat.reduceEqDiff, Nat.reduceAdd, Nat.reduceMul, Nat.reduceSub, Nat.reduceLeDiff, Nat.reduceLT, reduceIte, reduceCtorEq, Int.reduceBNe, Int.reduceBEq, hd, hc1, hc2, w1, w2, w3, w4, w5, w6, w7, w8])
  repeat' (first | (with_reducible rw [allocV_eq]) | (refine gdV_split (fun hc => ?_) (fun hc => ?_) <;> (try simp only [hc, ↓R1, R2, R3, R4, R5, Nat.reduceEqDiff, Nat.reduceAdd, Nat.reduceMul, Nat.reduceSub, Nat.reduceLeDiff, Nat.reduceLT, reduceIte, reduceCtorEq, Int.reduceBNe, Int.reduceBEq, hd, hc1, hc2, w1, w2, w3, w4, w5, w6, w7, w8])) | ((first | refine condV_split (fun hc => ?_) (fun hc => ?_) | (with_reducible intro β hβ; (try simp only [St.box_noneA, St.tip_noneA, St.tip_set, St.box_tip, St.box_lp, St.tip_lp] at hβ); (repeat (obtain ⟨⟨_, _⟩, hβ⟩ := hβ)); (try (have hbis := apart_is (by assumption) hβ; obtain ⟨_, _⟩ := hbis))) | ((first | (refine appD_tslK (.inr rfl) rfl ?_ ?_ ?_ ?_ ?_ ?_; (first | rfl | exact St.tip_same _ _ _ | (simp only [↓R1, R2, R3, R4, R5, Nat.reduceEqDiff, Nat.reduceAdd, Nat.reduceMul, Nat.reduceSub, Nat.reduceLeDiff, Nat.reduceLT, reduceIte, reduceCtorEq, Int.reduceBNe, Int.reduceBEq, hd, hc1, hc2, w1, w2, w3, w4, w5, w6, w7, w8])); (first | omega | (simp only [cLE_len, cRec_len, cInt_len2, List.length_append, List.length_cons, List.length_nil, List.length_nil, List.length_cons]; omega) | (simp only [cLE_len, cRec_len, cInt_len2, List.length_append, List.length_cons, List.length_nil, List.length_nil, List.length_cons])); (first | rfl | first | omega | (simp only [cLE_len, cRec_len, cInt_len2, List.length_append, List.length_cons, List.length_nil, List.length_nil, List.length_cons]; omega) | (simp only [cLE_len, cRec_len, cInt_len2, List.length_append, List.length_cons, List.length_nil, List.length_nil, List.length_cons]))) | (refine appV_tslK rfl ?_ ?_ ?_ ?_ ?_ ?_; (first | rfl | exact St.tip_same _ _ _ | (simp only [↓R1, R2, R3, R4, R5, Nat.reduceEqDiff, Nat.reduceAdd, Nat.reduceMul, Nat.reduceSub, Nat.reduceLeDiff, Nat.reduceLT, reduceIte, reduceCtorEq, Int.reduceBNe, Int.reduceBEq, hd, hc1, hc2, w1, w2, w3, w4, w5, w6, w7, w8])); (first | omega | (simp only [cLE_len, cRec_len, cInt_len2, List.length_append, List.length_cons, List.length_nil, List.length_nil, List.length_cons]; omega) | (simp only [cLE_len, cRec_len, cInt_len2, List.length_append, List.length_cons, List.length_nil, List.length_nil, List.length_cons])); (first | rfl | first | omega | (simp only [cLE_len, cRec_len, cInt_len2, List.length_append, List.length_cons, List.length_nil, List.length_nil, List.length_cons]; omega) | (simp only [cLE_len, cRec_len, cInt_len2, List.length_append, List.length_cons, List.length_nil, List.length_nil, List.length_cons]))) | (refine appV_own ?_ ?_ ?_ ?_; exact flat_len (by intro _; rfl) _) | (refine appD_own ?_ ?_ ?_ ?_ ?_; omega; exact flat_len (by intro _; rfl) _) | (refine appV_fresh rfl trivial rfl ?_ ?_ ?_ ?_ ?_; (first | rfl | first | omega | (simp only [cLE_len, cRec_len, cInt_len2, List.length_append, List.length_cons, List.length_nil, List.length_nil, List.length_cons]; omega) | (simp only [cLE_len, cRec_len, cInt_len2, List.length_append, List.length_cons, List.length_nil, List.length_nil, List.length_cons])); (first | rfl | first | omega | (simp only [cLE_len, cRec_len, cInt_len2, List.length_append, List.length_cons, List.length_nil, List.length_nil, List.length_cons]; omega) | (simp only [cLE_len, cRec_len, cInt_len2, List.length_append, List.length_cons, List.length_nil, List.length_nil, List.length_cons]))) | (refine appD_fresh rfl trivial rfl ?_ ?_ ?_ ?_ ?_ ?_; omega; (first | rfl | first | omega | (simp only [cLE_len, cRec_len, cInt_len2, List.length_append, List.length_cons, List.length_nil, List.length_nil, List.length_cons]; omega) | (simp only [cLE_len, cRec_len, cInt_len2, List.length_append, List.length_cons, List.length_nil, List.length_nil, List.length_cons])); (first | rfl | first | omega | (simp only [cLE_len, cRec_len, cInt_len2, List.length_append, List.length_cons, List.length_nil, List.length_nil, List.length_cons]; omega) | (simp only [cLE_len, cRec_len, cInt_len2, List.length_append, List.length_cons, List.length_nil, List.length_nil, List.length_cons])))); (unfold maxLen; omega); omega)) <;> (try simp only [↓R1, R2, R3, R4, R5, Nat.reduceEqDiff, Nat.reduceAdd, Nat.reduceMul, Nat.reduceSub, Nat.reduceLeDiff, Nat.reduceLT, reduceIte, reduceCtorEq, Int.reduceBNe, Int.reduceBEq, hd, hc1, hc2, w1, w2, w3, w4, w5, w6, w7, w8])) | (with_reducible refine And.intro ?_ ?_; (focus (first | omega | (intros; (repeat' (with_reducible apply And.intro)) <;> first | omega | (simp only [cLE_len, cRec_len, cInt_len2, List.length_append, List.length_cons, List.length_nil]; omega))))) | (with_reducible apply And.intro))
  rename_i β0 hβ0 _ _
  refine loopV_forB (ksOf nums).length 5 31 8 (β := β) ?_ ?_ (fun τ k => [(0, .int .i64 labels), (1, sl cInt2 nums), (4, .ptr β0 0), (5, .ptr β 0), (6, .int .u64 (sumT ((ksOf nums).take k) : Nat)), (7, .int .i64 k)]) (fun τ k => ((σ.setBox β0 [.nils]).setBox β [.tsl τ k ((madeF L 0 ((ksOf nums).take k)).flatMap cLE)]).setTip τ (31, 8, k)) (fun _ => True) trivial (fun τ => by simp [subF, slot, wk_refl, sumT]) (fun τ hτ => by simp only [↓R1, R2, R3, R4, R5, Nat.reduceEqDiff, Nat.reduceAdd, Nat.reduceMul, Nat.reduceSub, Nat.reduceLeDiff, Nat.reduceLT, reduceIte, reduceCtorEq, Int.reduceBNe, Int.reduceBEq, hd, hc1, hc2, w1, w2, w3, w4, w5, w6, w7, w8]; exact St.le_refl _) (fun τ hτ k hk _ => ?_)
  · rfl
  · simp only [↓R1, R2, R3, R4, R5, Nat.reduceEqDiff, Nat.reduceAdd, Nat.reduceMul, Nat.reduceSub, Nat.reduceLeDiff, Nat.reduceLT, reduceIte, reduceCtorEq, Int.reduceBNe, Int.reduceBEq, hd, hc1, hc2, w1, w2, w3, w4, w5, w6, w7, w8]
  have hs2 := sumT_le ((ksOf nums).take k)
  rw [List.length_take] at hs2
  simp only [↓R1, R2, R3, R4, R5, Nat.reduceEqDiff, Nat.reduceAdd, Nat.reduceMul, Nat.reduceSub, Nat.reduceLeDiff, Nat.reduceLT, reduceIte, reduceCtorEq, Int.reduceBNe, Int.reduceBEq, hd, hc1, hc2, w1, w2, w3, w4, w5, w6, w7, w8]
  by_cases hlt : k < (ksOf nums).length
  · have hlt2 : k < nums.length := by omega
    have hc1 : decide ((k : Int) < (nums.length : Int)) = true := by rw [decide_eq_true_eq]; omega
    have hc2 : decide ((k : Int) < 30) = true := by rw [decide_eq_true_eq]; omega
    have hd := cInt_drop2 nums k hlt2
    have m1 := p27 nums[k] 1073741824 (hn _ (List.getElem_mem hlt2)) (by omega)
    obtain ⟨K, hK⟩ : ∃ K : Nat, nums[k] % 1073741824 = (K : Int) := Int.eq_ofNat_of_zero_le (Int.emod_nonneg _ (show (1073741824 : Int) ≠ 0 by decide))
    have hK2 : K < 1073741824 := by have := Int.emod_lt_of_pos nums[k] (show (0 : Int) < 1073741824 by decide); omega
    rw [hK] at m1
    have g6 : (K : Int).tdiv 6 = ((K / 6 : Nat) : Int) := rfl
    have g18 : (K : Int).tdiv 18 = ((K / 18 : Nat) : Int) := rfl
    have g144 : (K : Int).tdiv 144 = ((K / 144 : Nat) : Int) := rfl
    have g1152 : (K : Int).tdiv 1152 = ((K / 1152 : Nat) : Int) := rfl
    have q : ∀ a b : Nat, ((a : Nat) : Int).tmod ((b : Nat) : Int) = ((a % b : Nat) : Int) := fun a b => rfl
    have v : ∀ a : Nat, a < 1073741824 → IntKind.i64.wrap (a : Int) = (a : Int) := fun a h => wrap64 (by omega) (by omega)
    have v2 : ∀ a : Nat, a < 1073741824 → IntKind.u64.wrap (a : Int) = (a : Int) := fun a h => wrapU64 (by omega) (by omega)
    have w1 : IntKind.i64.wrap (1 + (K : Int).tmod 6) = ((1 + K % 6 : Nat) : Int) := by
      rw [show (K : Int).tmod 6 = ((K % 6 : Nat) : Int) from rfl, show (1 : Int) + ((K % 6 : Nat) : Int) = ((1 + K % 6 : Nat) : Int) by omega, v _ (by omega)]
    have w3 : IntKind.u64.wrap ((IntKind.i64.wrap ((K : Int).tdiv 18)).tmod 8) = ((K / 18 % 8 : Nat) : Int) := by
      rw [g18, v _ (by omega), show ((K / 18 : Nat) : Int).tmod 8 = ((K / 18 % 8 : Nat) : Int) from rfl, v2 _ (by omega)]
    have w4 : (IntKind.i64.wrap ((K : Int).tdiv 144)).tmod 8 = ((K / 144 % 8 : Nat) : Int) := by
      rw [g144, v _ (by omega)]; rfl
    have w5 : IntKind.u64.wrap (IntKind.i64.wrap (1 + (IntKind.i64.wrap ((K : Int).tdiv 1152)).tmod 9)) = ((1 + K / 1152 % 9 : Nat) : Int) := by
      rw [g1152, v _ (by omega), show ((K / 1152 : Nat) : Int).tmod 9 = ((K / 1152 % 9 : Nat) : Int) from rfl, show (1 : Int) + ((K / 1152 % 9 : Nat) : Int) = ((1 + K / 1152 % 9 : Nat) : Int) by omega, v _ (by omega), v2 _ (by omega)]
    have w6 := old_and (K / 18 % 8) (by omega)
    have w2 : IntKind.u64.wrap (((sumT ((ksOf nums).take k) : Nat) : Int) + IntKind.u64.wrap ((IntKind.i64.wrap ((K : Int).tdiv 6)).tmod 3)) = ((sumT ((ksOf nums).take k) + K / 6 % 3 : Nat) : Int) := by
      rw [g6, v _ (by omega), show ((K / 6 : Nat) : Int).tmod 3 = ((K / 6 % 3 : Nat) : Int) from rfl, v2 _ (by omega), show ((sumT ((ksOf nums).take k) : Nat) : Int) + ((K / 6 % 3 : Nat) : Int) = ((sumT ((ksOf nums).take k) + K / 6 % 3 : Nat) : Int) by omega, v2 _ (by omega)]
    have w7 := lab_shr L (1 + K % 6) hL2 (by omega) (by omega)
    have w8 : IntKind.i64.wrap ((k : Int) + 1) = ((k + 1 : Nat) : Int) := by rw [wrap64 (by omega) (by omega)]; omega
    have hks : (ksOf nums).take (k + 1) = (ksOf nums).take k ++ [K] := by
      rw [← List.take_append_getElem hlt]
      congr 2
      simp only [ksOf, List.getElem_map, List.getElem_take, hK, Int.toNat_natCast]
    have hfl : (madeF L 0 ((ksOf nums).take k)).flatMap cLE ++ [.int .i64 ((1 + K % 6 : Nat) : Int), .int .u64 (labN L (1 + K % 6) : Nat), .int .i64 (K / 144 % 8 : Nat), .int .u64 (K / 18 % 8 : Nat), .int .u64 (1 + K / 1152 % 9 : Nat), .int .u64 (K / 18 % 8 : Nat), .int .u64 (K / 18 % 8 % 4 : Nat), .int .u64 (sumT ((ksOf nums).take k) + K / 6 % 3 : Nat)] = (madeF L 0 ((ksOf nums).take (k + 1))).flatMap cLE := by
      rw [hks, madeF_snoc, Nat.zero_add]
      exact flat_one (f := cLE) _ (mkE L K (sumT ((ksOf nums).take k) + K / 6 % 3))
    have hst : sumT ((ksOf nums).take (k + 1)) = sumT ((ksOf nums).take k) + K / 6 % 3 := by rw [hks, sumT_snoc]
    have hcl : ((madeF L 0 ((ksOf nums).take k)).flatMap cLE).length = k * 8 := by
      rw [cLE_len, madeF_len, List.length_take]; omega
    have hm : k + 1 ≤ maxLen := by unfold maxLen; omega
    have hu : ∀ n : Int, 0 ≤ IntKind.u64.wrap n := fun n => by rw [IntKind.wrap_u64]; omega
    simp only [↓R1, R2, R3, R4, R5, Nat.reduceEqDiff, Nat.reduceAdd, Nat.reduceMul, Nat.reduceSub, Nat.reduceLeDiff, Nat.reduceLT, reduceIte, reduceCtorEq, Int.reduceBNe, Int.reduceBEq, hd, hc1, hc2, w1, w2, w3, w4, w5, w6, w7, w8]
    repeat' (first | (with_reducible rw [allocV_eq]) | (refine gdV_split (fun hc => ?_) (fun hc => ?_) <;> (try simp only [hc, ↓R1, R2, R3, R4, R5, Nat.reduceEqDiff, Nat.reduceAdd, Nat.reduceMul, Nat.reduceSub, Nat.reduceLeDiff, Nat.reduceLT, reduceIte, reduceCtorEq, Int.reduceBNe, Int.reduceBEq, hd, hc1, hc2, w1, w2, w3, w4, w5, w6, w7, w8])) | ((first | refine condV_split (fun hc => ?_) (fun hc => ?_) | (with_reducible intro β hβ; (try simp only [St.box_noneA, St.tip_noneA, St.tip_set, St.box_tip, St.box_lp, St.tip_lp] at hβ); (repeat (obtain ⟨⟨_, _⟩, hβ⟩ := hβ)); (try (have hbis := apart_is (by assumption) hβ; obtain ⟨_, _⟩ := hbis))) | ((first | (refine appD_tslK (.inr rfl) rfl ?_ ?_ ?_ ?_ ?_ ?_; (first | rfl | exact St.tip_same _ _ _ | (simp only [↓R1, R2, R3, R4, R5, Nat.reduceEqDiff, Nat.reduceAdd, Nat.reduceMul, Nat.reduceSub, Nat.reduceLeDiff, Nat.reduceLT, reduceIte, reduceCtorEq, Int.reduceBNe, Int.reduceBEq, hd, hc1, hc2, w1, w2, w3, w4, w5, w6, w7, w8])); (first | omega | (simp only [cLE_len, cRec_len, cInt_len2, List.length_append, List.length_cons, List.length_nil, List.length_nil, List.length_cons]; omega) | (simp only [cLE_len, cRec_len, cInt_len2, List.length_append, List.length_cons, List.length_nil, List.length_nil, List.length_cons])); (first | rfl | first | omega | (simp only [cLE_len, cRec_len, cInt_len2, List.length_append, List.length_cons, List.length_nil, List.length_nil, List.length_cons]; omega) | (simp only [cLE_len, cRec_len, cInt_len2, List.length_append, List.length_cons, List.length_nil, List.length_nil, List.length_cons]))) | (refine appV_tslK rfl ?_ ?_ ?_ ?_ ?_ ?_; (first | rfl | exact St.tip_same _ _ _ | (simp only [↓R1, R2, R3, R4, R5, Nat.reduceEqDiff, Nat.reduceAdd, Nat.reduceMul, Nat.reduceSub, Nat.reduceLeDiff, Nat.reduceLT, reduceIte, reduceCtorEq, Int.reduceBNe, Int.reduceBEq, hd, hc1, hc2, w1, w2, w3, w4, w5, w6, w7, w8])); (first | omega | (simp only [cLE_len, cRec_len, cInt_len2, List.length_append, List.length_cons, List.length_nil, List.length_nil, List.length_cons]; omega) | (simp only [cLE_len, cRec_len, cInt_len2, List.length_append, List.length_cons, List.length_nil, List.length_nil, List.length_cons])); (first | rfl | first | omega | (simp only [cLE_len, cRec_len, cInt_len2, List.length_append, List.length_cons, List.length_nil, List.length_nil, List.length_cons]; omega) | (simp only [cLE_len, cRec_len, cInt_len2, List.length_append, List.length_cons, List.length_nil, List.length_nil, List.length_cons]))) | (refine appV_own ?_ ?_ ?_ ?_; exact flat_len (by intro _; rfl) _) | (refine appD_own ?_ ?_ ?_ ?_ ?_; omega; exact flat_len (by intro _; rfl) _) | (refine appV_fresh rfl trivial rfl ?_ ?_ ?_ ?_ ?_; (first | rfl | first | omega | (simp only [cLE_len, cRec_len, cInt_len2, List.length_append, List.length_cons, List.length_nil, List.length_nil, List.length_cons]; omega) | (simp only [cLE_len, cRec_len, cInt_len2, List.length_append, List.length_cons, List.length_nil, List.length_nil, List.length_cons])); (first | rfl | first | omega | (simp only [cLE_len, cRec_len, cInt_len2, List.length_append, List.length_cons, List.length_nil, List.length_nil, List.length_cons]; omega) | (simp only [cLE_len, cRec_len, cInt_len2, List.length_append, List.length_cons, List.length_nil, List.length_nil, List.length_cons]))) | (refine appD_fresh rfl trivial rfl ?_ ?_ ?_ ?_ ?_ ?_; omega; (first | rfl | first | omega | (simp only [cLE_len, cRec_len, cInt_len2, List.length_append, List.length_cons, List.length_nil, List.length_nil, List.length_cons]; omega) | (simp only [cLE_len, cRec_len, cInt_len2, List.length_append, List.length_cons, List.length_nil, List.length_nil, List.length_cons])); (first | rfl | first | omega | (simp only [cLE_len, cRec_len, cInt_len2, List.length_append, List.length_cons, List.length_nil, List.length_nil, List.length_cons]; omega) | (simp only [cLE_len, cRec_len, cInt_len2, List.length_append, List.length_cons, List.length_nil, List.length_nil, List.length_cons])))); (unfold maxLen; omega); omega)) <;> (try simp only [↓R1, R2, R3, R4, R5, Nat.reduceEqDiff, Nat.reduceAdd, Nat.reduceMul, Nat.reduceSub, Nat.reduceLeDiff, Nat.reduceLT, reduceIte, reduceCtorEq, Int.reduceBNe, Int.reduceBEq, hd, hc1, hc2, w1, w2, w3, w4, w5, w6, w7, w8])) | (with_reducible refine And.intro ?_ ?_; (focus (first | omega | (intros; (repeat' (with_reducible apply And.intro)) <;> first | omega | (simp only [cLE_len, cRec_len, cInt_len2, List.length_append, List.length_cons, List.length_nil]; omega))))) | (with_reducible apply And.intro) | ((first | refine Pu.to (m1) (wkL_refl _) ?_ | refine callDV_pu (m1) (wkL_refl _) ?_ | refine Pu.to (m2) (wkL_refl _) ?_ | refine callDV_pu (m2) (wkL_refl _) ?_); (try simp only [↓R1, R2, R3, R4, R5, Nat.reduceEqDiff, Nat.reduceAdd, Nat.reduceMul, Nat.reduceSub, Nat.reduceLeDiff, Nat.reduceLT, reduceIte, reduceCtorEq, Int.reduceBNe, Int.reduceBEq, hd, hc1, hc2, w1, w2, w3, w4, w5, w6, w7, w8])))
    all_goals first | exact hu _ | skip
    · simp only [subF, slot, wk_refl, hst, ↓R1, R2, R3, R4, R5, Nat.reduceEqDiff, Nat.reduceAdd, Nat.reduceMul, Nat.reduceSub, Nat.reduceLeDiff, Nat.reduceLT, reduceIte, reduceCtorEq, Int.reduceBNe, Int.reduceBEq, hd, hc1, hc2, w1, w2, w3, w4, w5, w6, w7, w8]
    · rw [hfl]
      refine St.le_setTc ?_
      exact St.le_new (St.le_refl _) (by simp only [St.box_noneA, St.tip_noneA, St.box_tip]; (repeat' apply And.intro) <;> assumption)
  · have hkn : k = (ksOf nums).length := by omega
    subst hkn
    have hcf : (decide (((ksOf nums).length : Int) < (nums.length : Int)) && decide (((ksOf nums).length : Int) < 30)) = false := by
      rw [Bool.and_eq_false_iff, decide_eq_false_iff_not, decide_eq_false_iff_not]; omega
    have hmm : madeL labels nums = madeF L 0 (ksOf nums) := by rw [madeL, hLo]
    have hml : (ksOf nums).length = (madeF L 0 (ksOf nums)).length := (madeF_len L _ 0).symm
    rw [hmm]
    simp only [hcf, List.take_length, ↓R1, R2, R3, R4, R5, Nat.reduceEqDiff, Nat.reduceAdd, Nat.reduceMul, Nat.reduceSub, Nat.reduceLeDiff, Nat.reduceLT, reduceIte, reduceCtorEq, Int.reduceBNe, Int.reduceBEq, hd, hc1, hc2, w1, w2, w3, w4, w5, w6, w7, w8]
    repeat' (first | (with_reducible rw [allocV_eq]) | (refine gdV_split (fun hc => ?_) (fun hc => ?_) <;> (try simp only [hc, ↓R1, R2, R3, R4, R5, Nat.reduceEqDiff, Nat.reduceAdd, Nat.reduceMul, Nat.reduceSub, Nat.reduceLeDiff, Nat.reduceLT, reduceIte, reduceCtorEq, Int.reduceBNe, Int.reduceBEq, hd, hc1, hc2, w1, w2, w3, w4, w5, w6, w7, w8])) | ((first | refine condV_split (fun hc => ?_) (fun hc => ?_) | (with_reducible intro β hβ; (try simp only [St.box_noneA, St.tip_noneA, St.tip_set, St.box_tip, St.box_lp, St.tip_lp] at hβ); (repeat (obtain ⟨⟨_, _⟩, hβ⟩ := hβ)); (try (have hbis := apart_is (by assumption) hβ; obtain ⟨_, _⟩ := hbis))) | ((first | (refine appD_tslK (.inr rfl) rfl ?_ ?_ ?_ ?_ ?_ ?_; (first | rfl | exact St.tip_same _ _ _ | (simp only [↓R1, R2, R3, R4, R5, Nat.reduceEqDiff, Nat.reduceAdd, Nat.reduceMul, Nat.reduceSub, Nat.reduceLeDiff, Nat.reduceLT, reduceIte, reduceCtorEq, Int.reduceBNe, Int.reduceBEq, hd, hc1, hc2, w1, w2, w3, w4, w5, w6, w7, w8])); (first | omega | (simp only [cLE_len, cRec_len, cInt_len2, List.length_append, List.length_cons, List.length_nil, List.length_nil, List.length_cons]; omega) | (simp only [cLE_len, cRec_len, cInt_len2, List.length_append, List.length_cons, List.length_nil, List.length_nil, List.length_cons])); (first | rfl | first | omega | (simp only [cLE_len, cRec_len, cInt_len2, List.length_append, List.length_cons, List.length_nil, List.length_nil, List.length_cons]; omega) | (simp only [cLE_len, cRec_len, cInt_len2, List.length_append, List.length_cons, List.length_nil, List.length_nil, List.length_cons]))) | (refine appV_tslK rfl ?_ ?_ ?_ ?_ ?_ ?_; (first | rfl | exact St.tip_same _ _ _ | (simp only [↓R1, R2, R3, R4, R5, Nat.reduceEqDiff, Nat.reduceAdd, Nat.reduceMul, Nat.reduceSub, Nat.reduceLeDiff, Nat.reduceLT, reduceIte, reduceCtorEq, Int.reduceBNe, Int.reduceBEq, hd, hc1, hc2, w1, w2, w3, w4, w5, w6, w7, w8])); (first | omega | (simp only [cLE_len, cRec_len, cInt_len2, List.length_append, List.length_cons, List.length_nil, List.length_nil, List.length_cons]; omega) | (simp only [cLE_len, cRec_len, cInt_len2, List.length_append, List.length_cons, List.length_nil, List.length_nil, List.length_cons])); (first | rfl | first | omega | (simp only [cLE_len, cRec_len, cInt_len2, List.length_append, List.length_cons, List.length_nil, List.length_nil, List.length_cons]; omega) | (simp only [cLE_len, cRec_len, cInt_len2, List.length_append, List.length_cons, List.length_nil, List.length_nil, List.length_cons]))) | (refine appV_own ?_ ?_ ?_ ?_; exact flat_len (by intro _; rfl) _) | (refine appD_own ?_ ?_ ?_ ?_ ?_; omega; exact flat_len (by intro _; rfl) _) | (refine appV_fresh rfl trivial rfl ?_ ?_ ?_ ?_ ?_; (first | rfl | first | omega | (simp only [cLE_len, cRec_len, cInt_len2, List.length_append, List.length_cons, List.length_nil, List.length_nil, List.length_cons]; omega) | (simp only [cLE_len, cRec_len, cInt_len2, List.length_append, List.length_cons, List.length_nil, List.length_nil, List.length_cons])); (first | rfl | first | omega | (simp only [cLE_len, cRec_len, cInt_len2, List.length_append, List.length_cons, List.length_nil, List.length_nil, List.length_cons]; omega) | (simp only [cLE_len, cRec_len, cInt_len2, List.length_append, List.length_cons, List.length_nil, List.length_nil, List.length_cons]))) | (refine appD_fresh rfl trivial rfl ?_ ?_ ?_ ?_ ?_ ?_; omega; (first | rfl | first | omega | (simp only [cLE_len, cRec_len, cInt_len2, List.length_append, List.length_cons, List.length_nil, List.length_nil, List.length_cons]; omega) | (simp only [cLE_len, cRec_len, cInt_len2, List.length_append, List.length_cons, List.length_nil, List.length_nil, List.length_cons])); (first | rfl | first | omega | (simp only [cLE_len, cRec_len, cInt_len2, List.length_append, List.length_cons, List.length_nil, List.length_nil, List.length_cons]; omega) | (simp only [cLE_len, cRec_len, cInt_len2, List.length_append, List.length_cons, List.length_nil, List.length_nil, List.length_cons])))); (unfold maxLen; omega); omega)) <;> (try simp only [↓R1, R2, R3, R4, R5, Nat.reduceEqDiff, Nat.reduceAdd, Nat.reduceMul, Nat.reduceSub, Nat.reduceLeDiff, Nat.reduceLT, reduceIte, reduceCtorEq, Int.reduceBNe, Int.reduceBEq, hd, hc1, hc2, w1, w2, w3, w4, w5, w6, w7, w8])) | (with_reducible refine And.intro ?_ ?_; (focus (first | omega | (intros; (repeat' (with_reducible apply And.intro)) <;> first | omega | (simp only [cLE_len, cRec_len, cInt_len2, List.length_append, List.length_cons, List.length_nil]; omega))))) | (with_reducible apply And.intro))
    (refine endP_pu (by simp) (by first | (simp [rvsS, rvS]; done) | (simp only [rvsS, rvS, ↓R1, R2, R3, R4, R5, Nat.reduceEqDiff, Nat.reduceAdd, Nat.reduceMul, Nat.reduceSub, Nat.reduceLeDiff, Nat.reduceLT, reduceIte, reduceCtorEq, Int.reduceBNe, Int.reduceBEq, hd, hc1, hc2, w1, w2, w3, w4, w5, w6, w7, w8]; try simp)) ?_ (by (repeat (first | exact St.le_refl _ | (refine St.le_new ?_ (by assumption)) | (refine St.le_newT ?_ (by assumption))))))
    simp only [resAV, rvV, List.map_cons, List.map_nil, ↓R1, R2, R3, R4, R5, Nat.reduceEqDiff, Nat.reduceAdd, Nat.reduceMul, Nat.reduceSub, Nat.reduceLeDiff, Nat.reduceLT, reduceIte, reduceCtorEq, Int.reduceBNe, Int.reduceBEq, hd, hc1, hc2, w1, w2, w3, w4, w5, w6, w7, w8]
    rw [hml]
    (repeat' (first | exact wk_refl _ | exact wk_nils | exact wk_tsl _ _ _ | exact wk_full _ _ | exact wkL.nil | exact wkL_refl _ | refine wk_tup ?_ | refine wk_agg ?_ | refine wkL.cons ?_ ?_))
end Go.Proofs.YtbbkckogjdjjgaaDoor
namespace Go.Proofs.YtbbkckogjdjjgaaDoor
open Go.Abs
set_option linter.all false
theorem has_int2 (l : List AV) (h : (TD.int .i64).Has l) : ∃ y, l = cInt2 y ∧ I64 y := by
  obtain ⟨a, rfl, h1⟩ := h
  exact ⟨a, by simp [cInt2], by simpa [I64, Lit.wf, IntKind.min, IntKind.max, IntKind.bits, IntKind.signed] using h1⟩
end Go.Proofs.YtbbkckogjdjjgaaDoor
namespace Go.Proofs.YtbbkckogjdjjgaaDoor
open Go.Abs Go.Lib
set_option linter.all false
theorem z_iff (a b : BitVec 64) : (a &&& ~~~b) = 0#64 ↔ ∀ i, i < 64 → a.getLsbD i = true → b.getLsbD i = true := by
  constructor
  · intro h i hi ha
    have := congrArg (fun v => v.getLsbD i) h
    simp [ha, hi] at this
    exact this
  · intro h
    apply BitVec.eq_of_getLsbD_eq
    intro i hi
    have := h i hi
    simp only [BitVec.getLsbD_and, BitVec.getLsbD_not, BitVec.getLsbD_zero, decide_eq_true hi, Bool.true_and]
    cases ha : a.getLsbD i with
    | false => rfl
    | true => rw [this ha]; rfl
theorem vis_bv {z : LE} {c : Int} (hz : 0 ≤ z.lab ∧ z.lab ≤ 18446744073709551615) (hc : 0 ≤ c ∧ c ≤ 18446744073709551615) : visB c z = ((toB z.lab &&& ~~~toB c) == 0#64) := by
  unfold visB
  rw [← toB_eq hz, ← toB_eq hc, bits_andNot64, toB_eq hz, toB_eq hc, Bool.eq_iff_iff, beq_iff_eq, beq_iff_eq]
  constructor
  · intro h; exact BitVec.eq_of_toNat_eq (by rw [BitVec.toNat_ofNat]; omega)
  · intro h; rw [h]; rfl
theorem and_rng {x y : Int} (hx : 0 ≤ x ∧ x ≤ 18446744073709551615) (hy : 0 ≤ y ∧ y ≤ 18446744073709551615) : (0 ≤ bits .and .u64 x y ∧ bits .and .u64 x y ≤ 18446744073709551615) ∧ toB (bits .and .u64 x y) = toB x &&& toB y := by
  rw [← toB_eq hx, ← toB_eq hy, bits_and64, toB_eq hx, toB_eq hy]
  have := (toB x &&& toB y).isLt
  refine ⟨by omega, BitVec.eq_of_toNat_eq ?_⟩
  unfold toB
  rw [BitVec.toNat_ofNat, Int.toNat_natCast]
  exact Nat.mod_eq_of_lt this
theorem or_rng {x y : Int} (hx : 0 ≤ x ∧ x ≤ 18446744073709551615) (hy : 0 ≤ y ∧ y ≤ 18446744073709551615) : (0 ≤ bits .or .u64 x y ∧ bits .or .u64 x y ≤ 18446744073709551615) ∧ toB (bits .or .u64 x y) = toB x ||| toB y := by
  rw [← toB_eq hx, ← toB_eq hy, bits_or64, toB_eq hx, toB_eq hy]
  have := (toB x ||| toB y).isLt
  refine ⟨by omega, BitVec.eq_of_toNat_eq ?_⟩
  unfold toB
  rw [BitVec.toNat_ofNat, Int.toNat_natCast]
  exact Nat.mod_eq_of_lt this
theorem vis_and {z : LE} {x y : Int} (hz : 0 ≤ z.lab ∧ z.lab ≤ 18446744073709551615) (hx : 0 ≤ x ∧ x ≤ 18446744073709551615) (hy : 0 ≤ y ∧ y ≤ 18446744073709551615) : visB (bits .and .u64 x y) z = (visB x z && visB y z) := by
  obtain ⟨r, e⟩ := and_rng hx hy
  rw [vis_bv hz r, vis_bv hz hx, vis_bv hz hy, e]
  generalize toB z.lab = a; generalize toB x = b; generalize toB y = c
  rw [Bool.eq_iff_iff, Bool.and_eq_true, beq_iff_eq, beq_iff_eq, beq_iff_eq, z_iff, z_iff, z_iff]
  simp only [BitVec.getLsbD_and, Bool.and_eq_true]
  exact ⟨fun h => ⟨fun i hi ha => (h i hi ha).1, fun i hi ha => (h i hi ha).2⟩, fun h i hi ha => ⟨h.1 i hi ha, h.2 i hi ha⟩⟩
theorem vis_or {z : LE} {x y : Int} (hz : 0 ≤ z.lab ∧ z.lab ≤ 18446744073709551615) (hx : 0 ≤ x ∧ x ≤ 18446744073709551615) (hy : 0 ≤ y ∧ y ≤ 18446744073709551615) (h : visB x z = true) : visB (bits .or .u64 x y) z = true := by
  obtain ⟨r, e⟩ := or_rng hx hy
  rw [vis_bv hz hx] at h
  rw [vis_bv hz r, e]
  generalize toB z.lab = a at *; generalize toB x = b at *; generalize toB y = c at *
  rw [beq_iff_eq, z_iff] at h ⊢
  intro i hi ha
  rw [BitVec.getLsbD_or, h i hi ha, Bool.true_or]
/-! ### What is met in order -/
def gAt (m a : List LE) : Nat → Nat
  | 0 => 0
  | k + 1 => bif decide (gAt m a k < a.length) && decide (recK (eAt m k) = recK (eAt a (gAt m a k))) then gAt m a k + 1 else gAt m a k
def gI (m a : List LE) (k : Nat) : Prop := gAt m a k ≤ a.length ∧ ((a.drop (gAt m a k)).map recK).Sublist ((m.drop k).map recK)
theorem gI_succ {m a : List LE} {k : Nat} (hk : k < m.length) (hg : gAt m a k < a.length) (h : gI m a k) : gI m a (k + 1) := by
  obtain ⟨h1, h2⟩ := h
  rw [List.drop_eq_getElem_cons hk, List.drop_eq_getElem_cons hg, List.map_cons, List.map_cons, ← eAt_lt hk, ← eAt_lt hg] at h2
  have e : gAt m a (k + 1) = bif decide (recK (eAt m k) = recK (eAt a (gAt m a k))) then gAt m a k + 1 else gAt m a k := by
    show (bif decide (gAt m a k < a.length) && decide (recK (eAt m k) = recK (eAt a (gAt m a k))) then gAt m a k + 1 else gAt m a k) = _
    rw [decide_eq_true hg, Bool.true_and]
  by_cases hq : recK (eAt m k) = recK (eAt a (gAt m a k))
  · rw [decide_eq_true hq, cond_true] at e
    rw [hq] at h2
    exact ⟨by omega, by rw [e]; exact List.cons_sublist_cons.1 h2⟩
  · rw [decide_eq_false hq, cond_false] at e
    refine ⟨by omega, ?_⟩
    rw [e, List.drop_eq_getElem_cons hg, List.map_cons, ← eAt_lt hg]
    generalize recK (eAt m k) = u at *
    generalize recK (eAt a (gAt m a k)) = v at *
    rcases List.sublist_cons_iff.1 h2 with h | ⟨r, h, _⟩
    · exact h
    · exact (hq (List.cons.inj h).1.symm).elim
theorem gI_end {m a : List LE} (h : gI m a m.length) : gAt m a m.length = a.length := by
  obtain ⟨h1, h2⟩ := h
  have := h2.length_le
  simp at this
  omega
theorem vis_sub {l : List LE} {x y : Int} (hl : ∀ z ∈ l, 0 ≤ z.lab ∧ z.lab ≤ 18446744073709551615) (hx : 0 ≤ x ∧ x ≤ 18446744073709551615) (hy : 0 ≤ y ∧ y ≤ 18446744073709551615) : (l.filter (visB x)).Sublist (l.filter (visB (bits .or .u64 x y))) := by
  have : l.filter (visB x) = (l.filter (visB (bits .or .u64 x y))).filter (visB x) := by
    rw [List.filter_filter]
    refine List.filter_congr (fun z hz => ?_)
    cases hv : visB x z with
    | true => rw [vis_or (hl z hz) hx hy hv]; rfl
    | false => rfl
  rw [this]
  exact List.filter_sublist
theorem labN_rng {L : Nat} : ∀ (ks : List Nat) (tk : Nat) (z : LE), z ∈ madeF L tk ks → 0 ≤ z.lab ∧ z.lab ≤ 18446744073709551615 := by
  intro ks tk z hz
  obtain ⟨k, t, rfl, _, _⟩ := madeF_mem L ks tk z hz
  simp only [mkE, labN]
  omega
end Go.Proofs.YtbbkckogjdjjgaaDoor
namespace Go.Proofs.YtbbkckogjdjjgaaDoor
open Go.Abs Go.Lib
set_option linter.all false
set_option maxRecDepth 100000
/-- A loop that counts up to n and appends to two lists that variables hold. -/
theorem loopV_forB2 {x : CC} {fr : Fr} {σ : St} {Q : Exit → Fr → St → Prop} {h : Hold (x, σ, Q)} (n t u e s : Nat) {β γ : Nat} (hp : slot t fr = .ptr β 0) (hq : slot u fr = .ptr γ 0) (hbg : γ ≠ β) (hb : σ.box β = some [.nils]) (hc : σ.box γ = some [.nils]) (F : Nat → Nat → Nat → Fr) (S : Nat → Nat → Nat → St) (I : Nat → Prop) (h0 : I 0)
    (hF : ∀ τ ρ, subF (F τ ρ 0) fr) (hS : ∀ τ ρ, σ.tip τ = none → σ.tip ρ = none → Apart ρ τ → Apart τ ρ → St.le (S τ ρ 0) ((((σ.setTip τ (e, s, 0)).setBox β [.tsl τ 0 []]).setTip ρ (e, s, 0)).setBox γ [.tsl ρ 0 []]))
    (hr : ∀ τ ρ, σ.tip τ = none → σ.tip ρ = none → Apart ρ τ → Apart τ ρ → ∀ k, k ≤ n → I k → aC Tryd.prog x (F τ ρ k) (S τ ρ k) (loopK (fun fr' σ' => k < n ∧ I (k + 1) ∧ subF (F τ ρ (k + 1)) fr' ∧ St.le (S τ ρ (k + 1)) σ') Q)) : loopV Tryd.prog x fr σ Q h := by
  refine ⟨[(true, t, 0, e, s), (true, u, 0, e, s)], ?_⟩
  have hc2 : ∀ τ : Nat, ((σ.setTip τ (e, s, 0)).setBox β [.tsl τ 0 []]).box γ = some [.nils] := fun τ => by
    rw [St.box_other _ _ hbg]; exact hc
  simp only [startP, hp, hq, hb, hc2, Nat.add_zero, Nat.zero_add, List.getElem?_cons_zero, slv, fresh, true_and, List.set_cons_zero]
  intro τ hτ ρ hρ
  have hne : ρ ≠ τ := by
    intro he
    subst he
    rw [St.tip_set, St.tip_same] at hρ
    cases hρ
  have hρ2 : σ.tip ρ = none := by rwa [St.tip_set, St.tip_other _ _ hne] at hρ
  refine ⟨Nat, F τ ρ, S τ ρ, fun k => k ≤ n ∧ I k, fun k => n - k, 0, ⟨Nat.zero_le _, h0⟩, hF τ ρ, hS τ ρ hτ hρ2 ⟨hne⟩ ⟨fun h => hne h.symm⟩, fun k hk => ?_⟩
  refine aC_mono _ _ _ (hr τ ρ hτ hρ2 ⟨hne⟩ ⟨fun h => hne h.symm⟩ k hk.1 hk.2) (fun e fr' σ' hq => ?_)
  unfold loopK at hq
  cases e with
  | normal => simp only at hq ⊢; exact ⟨k + 1, ⟨hq.1, hq.2.1⟩, hq.2.2.1, hq.2.2.2, by omega⟩
  | _ => exact hq
theorem filt_len (p : LE → Bool) (a : List LE) (k : Nat) : ((a.take k).filter p).length ≤ k := Nat.le_trans (List.length_filter_le _ _) (by simp; omega)
def fX (a : List LE) (x : Int) (k : Nat) : List LE := (a.take k).filter (visB x)
def fY (a : List LE) (x y : Int) (k : Nat) : List LE := (fX a x k).filter (visB y)
set_option maxHeartbeats 8000000 in
theorem law_AuditBlind (labels : Int) (nums : List Int) (x y : Int) (hlb : I64 labels) (hn : ∀ n ∈ nums, I64 n) (hx : 0 ≤ x ∧ x ≤ 18446744073709551615) (hy : 0 ≤ y ∧ y ≤ 18446744073709551615) : PuG Tryd.prog gl3 4 [.int .i64 labels, sl cInt2 nums, .int .u64 x, .int .u64 y] (.bool true) := by
  have hd : True := trivial
  have hp1 : True := trivial
  have hp2 : True := trivial
  have hwi : True := trivial
  have hd2 : True := trivial
  have hw2 : True := trivial
  have q1 : True := trivial
  have q2 : True := trivial
  have hq : True := trivial
  have h1 := p20 labels nums hlb hn
  have hks := ksOf_len nums
  have hmm : madeL labels nums = madeF (labOf labels) 0 (ksOf nums) := rfl
  have hga := made_good (labOf labels) (ksOf nums) hks
  have hal : (madeF (labOf labels) 0 (ksOf nums)).length ≤ 30 := by rw [madeF_len]; exact hks
  have hlr : ∀ z ∈ madeF (labOf labels) 0 (ksOf nums), 0 ≤ z.lab ∧ z.lab ≤ 18446744073709551615 := fun z hz => labN_rng (ksOf nums) 0 z hz
  rw [hmm] at h1
  generalize madeF (labOf labels) 0 (ksOf nums) = a at *
  obtain ⟨few, ef⟩ : ∃ f, a.filter (visB x) = f := ⟨_, rfl⟩
  obtain ⟨both, eb⟩ : ∃ f, few.filter (visB y) = f := ⟨_, rfl⟩
  obtain ⟨more, em⟩ : ∃ f, a.filter (visB (bits .or .u64 x y)) = f := ⟨_, rfl⟩
  have gf : Good few := hga.sub (by rw [← ef]; exact List.filter_sublist)
  have gb : Good both := gf.sub (by rw [← eb]; exact List.filter_sublist)
  have lf : few.length ≤ a.length := by rw [← ef]; exact List.length_filter_le _ _
  have lb : both.length ≤ few.length := by rw [← eb]; exact List.length_filter_le _ _
  have lm : more.length ≤ a.length := by rw [← em]; exact List.length_filter_le _ _
  have v1 := p21 a x (by omega)
  have v2 := p21 few x (by omega)
  have v3 := p21 a (bits .and .u64 x y) (by omega)
  have v4 := p21 both (bits .or .u64 x y) (by omega)
  have v5 := p21 a (bits .or .u64 x y) (by omega)
  have ev : ∀ {l : List LE} {c : Int}, Good l → visL l c = l.filter (visB c) := fun h => by simp only [visL, h.chk, beq_self_eq_true, cond_true]
  rw [ev hga, hga.chk] at v1 v3 v5
  rw [ev gf, gf.chk] at v2
  rw [ev gb, gb.chk] at v4
  have e2 : few.filter (visB x) = few := by
    rw [← ef, List.filter_filter]; simp only [Bool.and_self]
  have e3 : a.filter (visB (bits .and .u64 x y)) = both := by
    rw [← eb, ← ef, List.filter_filter]
    exact List.filter_congr (fun z hz => by rw [vis_and (hlr z hz) hx hy, Bool.and_comm])
  have e4 : both.filter (visB (bits .or .u64 x y)) = both := by
    rw [List.filter_eq_self]
    intro z hz
    rw [← eb, ← ef] at hz
    have hz2 := List.mem_filter.1 (List.mem_filter.1 hz).1
    exact vis_or (hlr z hz2.1) hx hy hz2.2
  rw [ef] at v1
  rw [e2] at v2
  rw [e3] at v3
  rw [e4] at v4
  rw [em] at v5
  have hsub := vis_sub hlr hx hy
  rw [ef, em] at hsub
  have s1 := p22 few few (by omega)
  have s2 := p22 both both (by omega)
  rw [decide_eq_true rfl] at s1 s2
  (refine PuG_intro c4 b4 (Nat.le_of_ble_eq_true rfl) fun σ hσ => ?_; simp only [c4, ↓R1, R2, R3, R4, R5, Nat.reduceEqDiff, Nat.reduceAdd, Nat.reduceMul, Nat.reduceSub, Nat.reduceLeDiff, Nat.reduceLT, reduceIte, reduceCtorEq, Int.reduceBNe, Int.reduceBEq, hd, hd2, hp1, hp2, hwi, hw2, q1, q2, hq])
  repeat' (first | (with_reducible rw [allocV_eq]) | (refine gdV_split (fun hc => ?_) (fun hc => ?_) <;> (try simp only [hc, ↓R1, R2, R3, R4, R5, Nat.reduceEqDiff, Nat.reduceAdd, Nat.reduceMul, Nat.reduceSub, Nat.reduceLeDiff, Nat.reduceLT, reduceIte, reduceCtorEq, Int.reduceBNe, Int.reduceBEq, hd, hd2, hp1, hp2, hwi, hw2, q1, q2, hq])) | ((first | refine condV_split (fun hc => ?_) (fun hc => ?_) | (with_reducible intro β hβ; (try simp only [St.box_noneA, St.tip_noneA, St.tip_set, St.box_tip, St.box_lp, St.tip_lp] at hβ); (repeat (obtain ⟨⟨_, _⟩, hβ⟩ := hβ)); (try (have hbis := apart_is (by assumption) hβ; obtain ⟨_, _⟩ := hbis))) | ((first | (refine appD_tslK (.inr rfl) rfl ?_ ?_ ?_ ?_ ?_ ?_; (first | rfl | exact St.tip_same _ _ _ | (simp only [↓R1, R2, R3, R4, R5, Nat.reduceEqDiff, Nat.reduceAdd, Nat.reduceMul, Nat.reduceSub, Nat.reduceLeDiff, Nat.reduceLT, reduceIte, reduceCtorEq, Int.reduceBNe, Int.reduceBEq, hd, hd2, hp1, hp2, hwi, hw2, q1, q2, hq])); (first | omega | (simp only [cLE_len, cRec_len, List.length_append, List.length_cons, List.length_nil, List.length_nil, List.length_cons]; omega) | (simp only [cLE_len, cRec_len, List.length_append, List.length_cons, List.length_nil, List.length_nil, List.length_cons])); (first | rfl | first | omega | (simp only [cLE_len, cRec_len, List.length_append, List.length_cons, List.length_nil, List.length_nil, List.length_cons]; omega) | (simp only [cLE_len, cRec_len, List.length_append, List.length_cons, List.length_nil, List.length_nil, List.length_cons]))) | (refine appV_tslK rfl ?_ ?_ ?_ ?_ ?_ ?_; (first | rfl | exact St.tip_same _ _ _ | (simp only [↓R1, R2, R3, R4, R5, Nat.reduceEqDiff, Nat.reduceAdd, Nat.reduceMul, Nat.reduceSub, Nat.reduceLeDiff, Nat.reduceLT, reduceIte, reduceCtorEq, Int.reduceBNe, Int.reduceBEq, hd, hd2, hp1, hp2, hwi, hw2, q1, q2, hq])); (first | omega | (simp only [cLE_len, cRec_len, List.length_append, List.length_cons, List.length_nil, List.length_nil, List.length_cons]; omega) | (simp only [cLE_len, cRec_len, List.length_append, List.length_cons, List.length_nil, List.length_nil, List.length_cons])); (first | rfl | first | omega | (simp only [cLE_len, cRec_len, List.length_append, List.length_cons, List.length_nil, List.length_nil, List.length_cons]; omega) | (simp only [cLE_len, cRec_len, List.length_append, List.length_cons, List.length_nil, List.length_nil, List.length_cons]))) | (refine appV_own ?_ ?_ ?_ ?_; exact flat_len (by intro _; rfl) _) | (refine appD_own ?_ ?_ ?_ ?_ ?_; omega; exact flat_len (by intro _; rfl) _) | (refine appV_fresh rfl trivial rfl ?_ ?_ ?_ ?_ ?_; (first | rfl | first | omega | (simp only [cLE_len, cRec_len, List.length_append, List.length_cons, List.length_nil, List.length_nil, List.length_cons]; omega) | (simp only [cLE_len, cRec_len, List.length_append, List.length_cons, List.length_nil, List.length_nil, List.length_cons])); (first | rfl | first | omega | (simp only [cLE_len, cRec_len, List.length_append, List.length_cons, List.length_nil, List.length_nil, List.length_cons]; omega) | (simp only [cLE_len, cRec_len, List.length_append, List.length_cons, List.length_nil, List.length_nil, List.length_cons]))) | (refine appD_fresh rfl trivial rfl ?_ ?_ ?_ ?_ ?_ ?_; omega; (first | rfl | first | omega | (simp only [cLE_len, cRec_len, List.length_append, List.length_cons, List.length_nil, List.length_nil, List.length_cons]; omega) | (simp only [cLE_len, cRec_len, List.length_append, List.length_cons, List.length_nil, List.length_nil, List.length_cons])); (first | rfl | first | omega | (simp only [cLE_len, cRec_len, List.length_append, List.length_cons, List.length_nil, List.length_nil, List.length_cons]; omega) | (simp only [cLE_len, cRec_len, List.length_append, List.length_cons, List.length_nil, List.length_nil, List.length_cons])))); (unfold maxLen; omega); omega)) <;> (try simp only [↓R1, R2, R3, R4, R5, Nat.reduceEqDiff, Nat.reduceAdd, Nat.reduceMul, Nat.reduceSub, Nat.reduceLeDiff, Nat.reduceLT, reduceIte, reduceCtorEq, Int.reduceBNe, Int.reduceBEq, hd, hd2, hp1, hp2, hwi, hw2, q1, q2, hq])) | (with_reducible refine And.intro ?_ ?_; (focus (first | omega | (intros; (repeat' (with_reducible apply And.intro)) <;> first | omega | (simp only [cLE_len, cRec_len, List.length_append, List.length_cons, List.length_nil]; omega))))) | (with_reducible apply And.intro) | ((first | refine Pu.to (h1) (wkL_refl _) ?_ | refine callDV_pu (h1) (wkL_refl _) ?_); (try simp only [↓R1, R2, R3, R4, R5, Nat.reduceEqDiff, Nat.reduceAdd, Nat.reduceMul, Nat.reduceSub, Nat.reduceLeDiff, Nat.reduceLT, reduceIte, reduceCtorEq, Int.reduceBNe, Int.reduceBEq, hd, hd2, hp1, hp2, hwi, hw2, q1, q2, hq])))
  rename_i β0 hβ0 β1 _ _ hβ1 _ _ _ _ _ _ _ _
  refine loopV_forB2 a.length 10 11 31 8 (β := β1) (γ := β) rfl rfl (show Apart β β1 by assumption).ne (by simp only [↓R1, R2, R3, R4, R5, Nat.reduceEqDiff, Nat.reduceAdd, Nat.reduceMul, Nat.reduceSub, Nat.reduceLeDiff, Nat.reduceLT, reduceIte, reduceCtorEq, Int.reduceBNe, Int.reduceBEq, hd, hd2, hp1, hp2, hwi, hw2, q1, q2, hq]) (by simp only [↓R1, R2, R3, R4, R5, Nat.reduceEqDiff, Nat.reduceAdd, Nat.reduceMul, Nat.reduceSub, Nat.reduceLeDiff, Nat.reduceLT, reduceIte, reduceCtorEq, Int.reduceBNe, Int.reduceBEq, hd, hd2, hp1, hp2, hwi, hw2, q1, q2, hq])
    (fun τ ρ k => [(2, .int .u64 x), (3, .int .u64 y), (9, .ptr β0 0), (10, .ptr β1 0), (11, .ptr β 0), (12, .int .i64 k)])
    (fun τ ρ k => ((((σ.setBox β0 [sl cLE a]).setBox β1 [.tsl τ (fX a x k).length ((fX a x k).flatMap cLE)]).setBox β [.tsl ρ (fY a x y k).length ((fY a x y k).flatMap cLE)]).setTip τ (31, 8, (fX a x k).length)).setTip ρ (31, 8, (fY a x y k).length))
    (fun _ => True) trivial (fun τ ρ => by simp [subF, slot, wk_refl]) (fun τ ρ hτ hρ _ _ => by simp only [fX, fY, List.take_zero, List.filter_nil, List.flatMap_nil, List.length_nil, ↓R1, R2, R3, R4, R5, Nat.reduceEqDiff, Nat.reduceAdd, Nat.reduceMul, Nat.reduceSub, Nat.reduceLeDiff, Nat.reduceLT, reduceIte, reduceCtorEq, Int.reduceBNe, Int.reduceBEq, hd, hd2, hp1, hp2, hwi, hw2, q1, q2, hq]; exact St.le_refl _) (fun τ ρ hτ hρ _ _ k hk _ => ?_)
  have l1 := filt_len (visB x) a k
  have l2 : (fY a x y k).length ≤ k := Nat.le_trans (List.length_filter_le _ _) l1
  rw [← fX] at l1
  simp only [↓R1, R2, R3, R4, R5, Nat.reduceEqDiff, Nat.reduceAdd, Nat.reduceMul, Nat.reduceSub, Nat.reduceLeDiff, Nat.reduceLT, reduceIte, reduceCtorEq, Int.reduceBNe, Int.reduceBEq, hd, hd2, hp1, hp2, hwi, hw2, q1, q2, hq]
  refine condV_split (fun hc => ?_) (fun hc => ?_)
  · have hlt : k < a.length := by simpa using hc
    have hd := cLE_drop a k hlt
    have hwi : IntKind.i64.wrap ((k : Int) + 1) = ((k + 1 : Nat) : Int) := by rw [wrap64 (by omega) (by omega)]; omega
    have hf := filter_succ (visB x) hlt
    have hm : (fX a x k).length + 1 ≤ maxLen := by unfold maxLen; omega
    have hm2 : (fY a x y k).length + 1 ≤ maxLen := by unfold maxLen; omega
    rw [← fX, ← fX] at hf
    cases hv1 : visB x (eAt a k) with
    | true =>
      have hp1 : (bits .andNot .u64 (eAt a k).lab x == 0) = true := hv1
      rw [hv1, cond_true] at hf
      have hfl1 := flat_one (f := cLE) (fX a x k) (eAt a k)
      cases hv2 : visB y (eAt a k) with
      | true =>
        have hp2 : (bits .andNot .u64 (eAt a k).lab y == 0) = true := hv2
        have hg : fY a x y (k + 1) = fY a x y k ++ [eAt a k] := by
          simp only [fY, hf, List.filter_append, List.filter_cons, hv2, List.filter_nil, if_true]
        have hfl2 := flat_one (f := cLE) (fY a x y k) (eAt a k)
        simp only [cLE] at hfl1 hfl2
        simp only [↓R1, R2, R3, R4, R5, Nat.reduceEqDiff, Nat.reduceAdd, Nat.reduceMul, Nat.reduceSub, Nat.reduceLeDiff, Nat.reduceLT, reduceIte, reduceCtorEq, Int.reduceBNe, Int.reduceBEq, hd, hd2, hp1, hp2, hwi, hw2, q1, q2, hq]
        repeat' (first | (with_reducible rw [allocV_eq]) | (refine gdV_split (fun hc => ?_) (fun hc => ?_) <;> (try simp only [hc, ↓R1, R2, R3, R4, R5, Nat.reduceEqDiff, Nat.reduceAdd, Nat.reduceMul, Nat.reduceSub, Nat.reduceLeDiff, Nat.reduceLT, reduceIte, reduceCtorEq, Int.reduceBNe, Int.reduceBEq, hd, hd2, hp1, hp2, hwi, hw2, q1, q2, hq])) | ((first | refine condV_split (fun hc => ?_) (fun hc => ?_) | (with_reducible intro β hβ; (try simp only [St.box_noneA, St.tip_noneA, St.tip_set, St.box_tip, St.box_lp, St.tip_lp] at hβ); (repeat (obtain ⟨⟨_, _⟩, hβ⟩ := hβ)); (try (have hbis := apart_is (by assumption) hβ; obtain ⟨_, _⟩ := hbis))) | ((first | (refine appD_tslK (.inr rfl) rfl ?_ ?_ ?_ ?_ ?_ ?_; (first | rfl | exact St.tip_same _ _ _ | (simp only [↓R1, R2, R3, R4, R5, Nat.reduceEqDiff, Nat.reduceAdd, Nat.reduceMul, Nat.reduceSub, Nat.reduceLeDiff, Nat.reduceLT, reduceIte, reduceCtorEq, Int.reduceBNe, Int.reduceBEq, hd, hd2, hp1, hp2, hwi, hw2, q1, q2, hq])); (first | omega | (simp only [cLE_len, cRec_len, List.length_append, List.length_cons, List.length_nil, List.length_nil, List.length_cons]; omega) | (simp only [cLE_len, cRec_len, List.length_append, List.length_cons, List.length_nil, List.length_nil, List.length_cons])); (first | rfl | first | omega | (simp only [cLE_len, cRec_len, List.length_append, List.length_cons, List.length_nil, List.length_nil, List.length_cons]; omega) | (simp only [cLE_len, cRec_len, List.length_append, List.length_cons, List.length_nil, List.length_nil, List.length_cons]))) | (refine appV_tslK rfl ?_ ?_ ?_ ?_ ?_ ?_; (first | rfl | exact St.tip_same _ _ _ | (simp only [↓R1, R2, R3, R4, R5, Nat.reduceEqDiff, Nat.reduceAdd, Nat.reduceMul, Nat.reduceSub, Nat.reduceLeDiff, Nat.reduceLT, reduceIte, reduceCtorEq, Int.reduceBNe, Int.reduceBEq, hd, hd2, hp1, hp2, hwi, hw2, q1, q2, hq])); (first | omega | (simp only [cLE_len, cRec_len, List.length_append, List.length_cons, List.length_nil, List.length_nil, List.length_cons]; omega) | (simp only [cLE_len, cRec_len, List.length_append, List.length_cons, List.length_nil, List.length_nil, List.length_cons])); (first | rfl | first | omega | (simp only [cLE_len, cRec_len, List.length_append, List.length_cons, List.length_nil, List.length_nil, List.length_cons]; omega) | (simp only [cLE_len, cRec_len, List.length_append, List.length_cons, List.length_nil, List.length_nil, List.length_cons]))) | (refine appV_own ?_ ?_ ?_ ?_; exact flat_len (by intro _; rfl) _) | (refine appD_own ?_ ?_ ?_ ?_ ?_; omega; exact flat_len (by intro _; rfl) _) | (refine appV_fresh rfl trivial rfl ?_ ?_ ?_ ?_ ?_; (first | rfl | first | omega | (simp only [cLE_len, cRec_len, List.length_append, List.length_cons, List.length_nil, List.length_nil, List.length_cons]; omega) | (simp only [cLE_len, cRec_len, List.length_append, List.length_cons, List.length_nil, List.length_nil, List.length_cons])); (first | rfl | first | omega | (simp only [cLE_len, cRec_len, List.length_append, List.length_cons, List.length_nil, List.length_nil, List.length_cons]; omega) | (simp only [cLE_len, cRec_len, List.length_append, List.length_cons, List.length_nil, List.length_nil, List.length_cons]))) | (refine appD_fresh rfl trivial rfl ?_ ?_ ?_ ?_ ?_ ?_; omega; (first | rfl | first | omega | (simp only [cLE_len, cRec_len, List.length_append, List.length_cons, List.length_nil, List.length_nil, List.length_cons]; omega) | (simp only [cLE_len, cRec_len, List.length_append, List.length_cons, List.length_nil, List.length_nil, List.length_cons])); (first | rfl | first | omega | (simp only [cLE_len, cRec_len, List.length_append, List.length_cons, List.length_nil, List.length_nil, List.length_cons]; omega) | (simp only [cLE_len, cRec_len, List.length_append, List.length_cons, List.length_nil, List.length_nil, List.length_cons])))); (unfold maxLen; omega); omega)) <;> (try simp only [↓R1, R2, R3, R4, R5, Nat.reduceEqDiff, Nat.reduceAdd, Nat.reduceMul, Nat.reduceSub, Nat.reduceLeDiff, Nat.reduceLT, reduceIte, reduceCtorEq, Int.reduceBNe, Int.reduceBEq, hd, hd2, hp1, hp2, hwi, hw2, q1, q2, hq])) | (with_reducible refine And.intro ?_ ?_; (focus (first | omega | (intros; (repeat' (with_reducible apply And.intro)) <;> first | omega | (simp only [cLE_len, cRec_len, List.length_append, List.length_cons, List.length_nil]; omega))))) | (with_reducible apply And.intro))
        · simp only [subF, slot, wk_refl, ↓R1, R2, R3, R4, R5, Nat.reduceEqDiff, Nat.reduceAdd, Nat.reduceMul, Nat.reduceSub, Nat.reduceLeDiff, Nat.reduceLT, reduceIte, reduceCtorEq, Int.reduceBNe, Int.reduceBEq, hd, hd2, hp1, hp2, hwi, hw2, q1, q2, hq]
        · rw [hf, hg, ← hfl1, ← hfl2]; simp only [List.length_append, List.length_cons, List.length_nil, Nat.zero_add]; exact St.le_refl _
      | false =>
        have hp2 : (bits .andNot .u64 (eAt a k).lab y == 0) = false := hv2
        have hg : fY a x y (k + 1) = fY a x y k := by
          simp only [fY, hf, List.filter_append, List.filter_cons, hv2, List.filter_nil, Bool.false_eq_true, if_false, List.append_nil]
        simp only [cLE] at hfl1
        simp only [↓R1, R2, R3, R4, R5, Nat.reduceEqDiff, Nat.reduceAdd, Nat.reduceMul, Nat.reduceSub, Nat.reduceLeDiff, Nat.reduceLT, reduceIte, reduceCtorEq, Int.reduceBNe, Int.reduceBEq, hd, hd2, hp1, hp2, hwi, hw2, q1, q2, hq]
        repeat' (first | (with_reducible rw [allocV_eq]) | (refine gdV_split (fun hc => ?_) (fun hc => ?_) <;> (try simp only [hc, ↓R1, R2, R3, R4, R5, Nat.reduceEqDiff, Nat.reduceAdd, Nat.reduceMul, Nat.reduceSub, Nat.reduceLeDiff, Nat.reduceLT, reduceIte, reduceCtorEq, Int.reduceBNe, Int.reduceBEq, hd, hd2, hp1, hp2, hwi, hw2, q1, q2, hq])) | ((first | refine condV_split (fun hc => ?_) (fun hc => ?_) | (with_reducible intro β hβ; (try simp only [St.box_noneA, St.tip_noneA, St.tip_set, St.box_tip, St.box_lp, St.tip_lp] at hβ); (repeat (obtain ⟨⟨_, _⟩, hβ⟩ := hβ)); (try (have hbis := apart_is (by assumption) hβ; obtain ⟨_, _⟩ := hbis))) | ((first | (refine appD_tslK (.inr rfl) rfl ?_ ?_ ?_ ?_ ?_ ?_; (first | rfl | exact St.tip_same _ _ _ | (simp only [↓R1, R2, R3, R4, R5, Nat.reduceEqDiff, Nat.reduceAdd, Nat.reduceMul, Nat.reduceSub, Nat.reduceLeDiff, Nat.reduceLT, reduceIte, reduceCtorEq, Int.reduceBNe, Int.reduceBEq, hd, hd2, hp1, hp2, hwi, hw2, q1, q2, hq])); (first | omega | (simp only [cLE_len, cRec_len, List.length_append, List.length_cons, List.length_nil, List.length_nil, List.length_cons]; omega) | (simp only [cLE_len, cRec_len, List.length_append, List.length_cons, List.length_nil, List.length_nil, List.length_cons])); (first | rfl | first | omega | (simp only [cLE_len, cRec_len, List.length_append, List.length_cons, List.length_nil, List.length_nil, List.length_cons]; omega) | (simp only [cLE_len, cRec_len, List.length_append, List.length_cons, List.length_nil, List.length_nil, List.length_cons]))) | (refine appV_tslK rfl ?_ ?_ ?_ ?_ ?_ ?_; (first | rfl | exact St.tip_same _ _ _ | (simp only [↓R1, R2, R3, R4, R5, Nat.reduceEqDiff, Nat.reduceAdd, Nat.reduceMul, Nat.reduceSub, Nat.reduceLeDiff, Nat.reduceLT, reduceIte, reduceCtorEq, Int.reduceBNe, Int.reduceBEq, hd, hd2, hp1, hp2, hwi, hw2, q1, q2, hq])); (first | omega | (simp only [cLE_len, cRec_len, List.length_append, List.length_cons, List.length_nil, List.length_nil, List.length_cons]; omega) | (simp only [cLE_len, cRec_len, List.length_append, List.length_cons, List.length_nil, List.length_nil, List.length_cons])); (first | rfl | first | omega | (simp only [cLE_len, cRec_len, List.length_append, List.length_cons, List.length_nil, List.length_nil, List.length_cons]; omega) | (simp only [cLE_len, cRec_len, List.length_append, List.length_cons, List.length_nil, List.length_nil, List.length_cons]))) | (refine appV_own ?_ ?_ ?_ ?_; exact flat_len (by intro _; rfl) _) | (refine appD_own ?_ ?_ ?_ ?_ ?_; omega; exact flat_len (by intro _; rfl) _) | (refine appV_fresh rfl trivial rfl ?_ ?_ ?_ ?_ ?_; (first | rfl | first | omega | (simp only [cLE_len, cRec_len, List.length_append, List.length_cons, List.length_nil, List.length_nil, List.length_cons]; omega) | (simp only [cLE_len, cRec_len, List.length_append, List.length_cons, List.length_nil, List.length_nil, List.length_cons])); (first | rfl | first | omega | (simp only [cLE_len, cRec_len, List.length_append, List.length_cons, List.length_nil, List.length_nil, List.length_cons]; omega) | (simp only [cLE_len, cRec_len, List.length_append, List.length_cons, List.length_nil, List.length_nil, List.length_cons]))) | (refine appD_fresh rfl trivial rfl ?_ ?_ ?_ ?_ ?_ ?_; omega; (first | rfl | first | omega | (simp only [cLE_len, cRec_len, List.length_append, List.length_cons, List.length_nil, List.length_nil, List.length_cons]; omega) | (simp only [cLE_len, cRec_len, List.length_append, List.length_cons, List.length_nil, List.length_nil, List.length_cons])); (first | rfl | first | omega | (simp only [cLE_len, cRec_len, List.length_append, List.length_cons, List.length_nil, List.length_nil, List.length_cons]; omega) | (simp only [cLE_len, cRec_len, List.length_append, List.length_cons, List.length_nil, List.length_nil, List.length_cons])))); (unfold maxLen; omega); omega)) <;> (try simp only [↓R1, R2, R3, R4, R5, Nat.reduceEqDiff, Nat.reduceAdd, Nat.reduceMul, Nat.reduceSub, Nat.reduceLeDiff, Nat.reduceLT, reduceIte, reduceCtorEq, Int.reduceBNe, Int.reduceBEq, hd, hd2, hp1, hp2, hwi, hw2, q1, q2, hq])) | (with_reducible refine And.intro ?_ ?_; (focus (first | omega | (intros; (repeat' (with_reducible apply And.intro)) <;> first | omega | (simp only [cLE_len, cRec_len, List.length_append, List.length_cons, List.length_nil]; omega))))) | (with_reducible apply And.intro))
        · simp only [subF, slot, wk_refl, ↓R1, R2, R3, R4, R5, Nat.reduceEqDiff, Nat.reduceAdd, Nat.reduceMul, Nat.reduceSub, Nat.reduceLeDiff, Nat.reduceLT, reduceIte, reduceCtorEq, Int.reduceBNe, Int.reduceBEq, hd, hd2, hp1, hp2, hwi, hw2, q1, q2, hq]
        · rw [hf, hg, ← hfl1]; simp only [List.length_append, List.length_cons, List.length_nil, Nat.zero_add]; exact St.le_refl _
    | false =>
      have hp1 : (bits .andNot .u64 (eAt a k).lab x == 0) = false := hv1
      rw [hv1, cond_false] at hf
      have hg : fY a x y (k + 1) = fY a x y k := by simp only [fY, hf]
      simp only [↓R1, R2, R3, R4, R5, Nat.reduceEqDiff, Nat.reduceAdd, Nat.reduceMul, Nat.reduceSub, Nat.reduceLeDiff, Nat.reduceLT, reduceIte, reduceCtorEq, Int.reduceBNe, Int.reduceBEq, hd, hd2, hp1, hp2, hwi, hw2, q1, q2, hq]
      repeat' (first | (with_reducible rw [allocV_eq]) | (refine gdV_split (fun hc => ?_) (fun hc => ?_) <;> (try simp only [hc, ↓R1, R2, R3, R4, R5, Nat.reduceEqDiff, Nat.reduceAdd, Nat.reduceMul, Nat.reduceSub, Nat.reduceLeDiff, Nat.reduceLT, reduceIte, reduceCtorEq, Int.reduceBNe, Int.reduceBEq, hd, hd2, hp1, hp2, hwi, hw2, q1, q2, hq])) | ((first | refine condV_split (fun hc => ?_) (fun hc => ?_) | (with_reducible intro β hβ; (try simp only [St.box_noneA, St.tip_noneA, St.tip_set, St.box_tip, St.box_lp, St.tip_lp] at hβ); (repeat (obtain ⟨⟨_, _⟩, hβ⟩ := hβ)); (try (have hbis := apart_is (by assumption) hβ; obtain ⟨_, _⟩ := hbis))) | ((first | (refine appD_tslK (.inr rfl) rfl ?_ ?_ ?_ ?_ ?_ ?_; (first | rfl | exact St.tip_same _ _ _ | (simp only [↓R1, R2, R3, R4, R5, Nat.reduceEqDiff, Nat.reduceAdd, Nat.reduceMul, Nat.reduceSub, Nat.reduceLeDiff, Nat.reduceLT, reduceIte, reduceCtorEq, Int.reduceBNe, Int.reduceBEq, hd, hd2, hp1, hp2, hwi, hw2, q1, q2, hq])); (first | omega | (simp only [cLE_len, cRec_len, List.length_append, List.length_cons, List.length_nil, List.length_nil, List.length_cons]; omega) | (simp only [cLE_len, cRec_len, List.length_append, List.length_cons, List.length_nil, List.length_nil, List.length_cons])); (first | rfl | first | omega | (simp only [cLE_len, cRec_len, List.length_append, List.length_cons, List.length_nil, List.length_nil, List.length_cons]; omega) | (simp only [cLE_len, cRec_len, List.length_append, List.length_cons, List.length_nil, List.length_nil, List.length_cons]))) | (refine appV_tslK rfl ?_ ?_ ?_ ?_ ?_ ?_; (first | rfl | exact St.tip_same _ _ _ | (simp only [↓R1, R2, R3, R4, R5, Nat.reduceEqDiff, Nat.reduceAdd, Nat.reduceMul, Nat.reduceSub, Nat.reduceLeDiff, Nat.reduceLT, reduceIte, reduceCtorEq, Int.reduceBNe, Int.reduceBEq, hd, hd2, hp1, hp2, hwi, hw2, q1, q2, hq])); (first | omega | (simp only [cLE_len, cRec_len, List.length_append, List.length_cons, List.length_nil, List.length_nil, List.length_cons]; omega) | (simp only [cLE_len, cRec_len, List.length_append, List.length_cons, List.length_nil, List.length_nil, List.length_cons])); (first | rfl | first | omega | (simp only [cLE_len, cRec_len, List.length_append, List.length_cons, List.length_nil, List.length_nil, List.length_cons]; omega) | (simp only [cLE_len, cRec_len, List.length_append, List.length_cons, List.length_nil, List.length_nil, List.length_cons]))) | (refine appV_own ?_ ?_ ?_ ?_; exact flat_len (by intro _; rfl) _) | (refine appD_own ?_ ?_ ?_ ?_ ?_; omega; exact flat_len (by intro _; rfl) _) | (refine appV_fresh rfl trivial rfl ?_ ?_ ?_ ?_ ?_; (first | rfl | first | omega | (simp only [cLE_len, cRec_len, List.length_append, List.length_cons, List.length_nil, List.length_nil, List.length_cons]; omega) | (simp only [cLE_len, cRec_len, List.length_append, List.length_cons, List.length_nil, List.length_nil, List.length_cons])); (first | rfl | first | omega | (simp only [cLE_len, cRec_len, List.length_append, List.length_cons, List.length_nil, List.length_nil, List.length_cons]; omega) | (simp only [cLE_len, cRec_len, List.length_append, List.length_cons, List.length_nil, List.length_nil, List.length_cons]))) | (refine appD_fresh rfl trivial rfl ?_ ?_ ?_ ?_ ?_ ?_; omega; (first | rfl | first | omega | (simp only [cLE_len, cRec_len, List.length_append, List.length_cons, List.length_nil, List.length_nil, List.length_cons]; omega) | (simp only [cLE_len, cRec_len, List.length_append, List.length_cons, List.length_nil, List.length_nil, List.length_cons])); (first | rfl | first | omega | (simp only [cLE_len, cRec_len, List.length_append, List.length_cons, List.length_nil, List.length_nil, List.length_cons]; omega) | (simp only [cLE_len, cRec_len, List.length_append, List.length_cons, List.length_nil, List.length_nil, List.length_cons])))); (unfold maxLen; omega); omega)) <;> (try simp only [↓R1, R2, R3, R4, R5, Nat.reduceEqDiff, Nat.reduceAdd, Nat.reduceMul, Nat.reduceSub, Nat.reduceLeDiff, Nat.reduceLT, reduceIte, reduceCtorEq, Int.reduceBNe, Int.reduceBEq, hd, hd2, hp1, hp2, hwi, hw2, q1, q2, hq])) | (with_reducible refine And.intro ?_ ?_; (focus (first | omega | (intros; (repeat' (with_reducible apply And.intro)) <;> first | omega | (simp only [cLE_len, cRec_len, List.length_append, List.length_cons, List.length_nil]; omega))))) | (with_reducible apply And.intro))
      · simp only [subF, slot, wk_refl, ↓R1, R2, R3, R4, R5, Nat.reduceEqDiff, Nat.reduceAdd, Nat.reduceMul, Nat.reduceSub, Nat.reduceLeDiff, Nat.reduceLT, reduceIte, reduceCtorEq, Int.reduceBNe, Int.reduceBEq, hd, hd2, hp1, hp2, hwi, hw2, q1, q2, hq]
      · rw [hf, hg]; exact St.le_refl _
  · have : k = a.length := by simp at hc; omega
    subst this
    have qa : fX a x a.length = few := by rw [fX, List.take_length, ef]
    have qb : fY a x y a.length = both := by rw [fY, qa, eb]
    rw [qa, qb]
    simp only [↓R1, R2, R3, R4, R5, Nat.reduceEqDiff, Nat.reduceAdd, Nat.reduceMul, Nat.reduceSub, Nat.reduceLeDiff, Nat.reduceLT, reduceIte, reduceCtorEq, Int.reduceBNe, Int.reduceBEq, hd, hd2, hp1, hp2, hwi, hw2, q1, q2, hq]
    repeat' (first | (with_reducible rw [allocV_eq]) | (refine gdV_split (fun hc => ?_) (fun hc => ?_) <;> (try simp only [hc, ↓R1, R2, R3, R4, R5, Nat.reduceEqDiff, Nat.reduceAdd, Nat.reduceMul, Nat.reduceSub, Nat.reduceLeDiff, Nat.reduceLT, reduceIte, reduceCtorEq, Int.reduceBNe, Int.reduceBEq, hd, hd2, hp1, hp2, hwi, hw2, q1, q2, hq])) | ((first | refine condV_split (fun hc => ?_) (fun hc => ?_) | (with_reducible intro β hβ; (try simp only [St.box_noneA, St.tip_noneA, St.tip_set, St.box_tip, St.box_lp, St.tip_lp] at hβ); (repeat (obtain ⟨⟨_, _⟩, hβ⟩ := hβ)); (try (have hbis := apart_is (by assumption) hβ; obtain ⟨_, _⟩ := hbis))) | ((first | (refine appD_tslK (.inr rfl) rfl ?_ ?_ ?_ ?_ ?_ ?_; (first | rfl | exact St.tip_same _ _ _ | (simp only [↓R1, R2, R3, R4, R5, Nat.reduceEqDiff, Nat.reduceAdd, Nat.reduceMul, Nat.reduceSub, Nat.reduceLeDiff, Nat.reduceLT, reduceIte, reduceCtorEq, Int.reduceBNe, Int.reduceBEq, hd, hd2, hp1, hp2, hwi, hw2, q1, q2, hq])); (first | omega | (simp only [cLE_len, cRec_len, List.length_append, List.length_cons, List.length_nil, List.length_nil, List.length_cons]; omega) | (simp only [cLE_len, cRec_len, List.length_append, List.length_cons, List.length_nil, List.length_nil, List.length_cons])); (first | rfl | first | omega | (simp only [cLE_len, cRec_len, List.length_append, List.length_cons, List.length_nil, List.length_nil, List.length_cons]; omega) | (simp only [cLE_len, cRec_len, List.length_append, List.length_cons, List.length_nil, List.length_nil, List.length_cons]))) | (refine appV_tslK rfl ?_ ?_ ?_ ?_ ?_ ?_; (first | rfl | exact St.tip_same _ _ _ | (simp only [↓R1, R2, R3, R4, R5, Nat.reduceEqDiff, Nat.reduceAdd, Nat.reduceMul, Nat.reduceSub, Nat.reduceLeDiff, Nat.reduceLT, reduceIte, reduceCtorEq, Int.reduceBNe, Int.reduceBEq, hd, hd2, hp1, hp2, hwi, hw2, q1, q2, hq])); (first | omega | (simp only [cLE_len, cRec_len, List.length_append, List.length_cons, List.length_nil, List.length_nil, List.length_cons]; omega) | (simp only [cLE_len, cRec_len, List.length_append, List.length_cons, List.length_nil, List.length_nil, List.length_cons])); (first | rfl | first | omega | (simp only [cLE_len, cRec_len, List.length_append, List.length_cons, List.length_nil, List.length_nil, List.length_cons]; omega) | (simp only [cLE_len, cRec_len, List.length_append, List.length_cons, List.length_nil, List.length_nil, List.length_cons]))) | (refine appV_own ?_ ?_ ?_ ?_; exact flat_len (by intro _; rfl) _) | (refine appD_own ?_ ?_ ?_ ?_ ?_; omega; exact flat_len (by intro _; rfl) _) | (refine appV_fresh rfl trivial rfl ?_ ?_ ?_ ?_ ?_; (first | rfl | first | omega | (simp only [cLE_len, cRec_len, List.length_append, List.length_cons, List.length_nil, List.length_nil, List.length_cons]; omega) | (simp only [cLE_len, cRec_len, List.length_append, List.length_cons, List.length_nil, List.length_nil, List.length_cons])); (first | rfl | first | omega | (simp only [cLE_len, cRec_len, List.length_append, List.length_cons, List.length_nil, List.length_nil, List.length_cons]; omega) | (simp only [cLE_len, cRec_len, List.length_append, List.length_cons, List.length_nil, List.length_nil, List.length_cons]))) | (refine appD_fresh rfl trivial rfl ?_ ?_ ?_ ?_ ?_ ?_; omega; (first | rfl | first | omega | (simp only [cLE_len, cRec_len, List.length_append, List.length_cons, List.length_nil, List.length_nil, List.length_cons]; omega) | (simp only [cLE_len, cRec_len, List.length_append, List.length_cons, List.length_nil, List.length_nil, List.length_cons])); (first | rfl | first | omega | (simp only [cLE_len, cRec_len, List.length_append, List.length_cons, List.length_nil, List.length_nil, List.length_cons]; omega) | (simp only [cLE_len, cRec_len, List.length_append, List.length_cons, List.length_nil, List.length_nil, List.length_cons])))); (unfold maxLen; omega); omega)) <;> (try simp only [↓R1, R2, R3, R4, R5, Nat.reduceEqDiff, Nat.reduceAdd, Nat.reduceMul, Nat.reduceSub, Nat.reduceLeDiff, Nat.reduceLT, reduceIte, reduceCtorEq, Int.reduceBNe, Int.reduceBEq, hd, hd2, hp1, hp2, hwi, hw2, q1, q2, hq])) | (with_reducible refine And.intro ?_ ?_; (focus (first | omega | (intros; (repeat' (with_reducible apply And.intro)) <;> first | omega | (simp only [cLE_len, cRec_len, List.length_append, List.length_cons, List.length_nil]; omega))))) | (with_reducible apply And.intro) | ((first | refine Pu.to (v1) (wkL_refl _) ?_ | refine callDV_pu (v1) (wkL_refl _) ?_ | refine Pu.to (v3) (wkL_refl _) ?_ | refine callDV_pu (v3) (wkL_refl _) ?_ | refine Pu.to (v5) (wkL_refl _) ?_ | refine callDV_pu (v5) (wkL_refl _) ?_ | refine Pu.to (s1) (wkL_refl _) ?_ | refine callDV_pu (s1) (wkL_refl _) ?_ | refine Pu.to (s2) (wkL_refl _) ?_ | refine callDV_pu (s2) (wkL_refl _) ?_ | (refine callGV_pu (fun hgv => ⟨?_, (s1), wkL_refl _⟩) ?_; (first | trivial | (focus (simp only [↓R1, R2, R3, R4, R5, Nat.reduceEqDiff, Nat.reduceAdd, Nat.reduceMul, Nat.reduceSub, Nat.reduceLeDiff, Nat.reduceLT, reduceIte, reduceCtorEq, Int.reduceBNe, Int.reduceBEq, hd, hd2, hp1, hp2, hwi, hw2, q1, q2, hq]; done)))) | (refine callGV_pu (fun hgv => ⟨?_, (s2), wkL_refl _⟩) ?_; (first | trivial | (focus (simp only [↓R1, R2, R3, R4, R5, Nat.reduceEqDiff, Nat.reduceAdd, Nat.reduceMul, Nat.reduceSub, Nat.reduceLeDiff, Nat.reduceLT, reduceIte, reduceCtorEq, Int.reduceBNe, Int.reduceBEq, hd, hd2, hp1, hp2, hwi, hw2, q1, q2, hq]; done))))); (try simp only [↓R1, R2, R3, R4, R5, Nat.reduceEqDiff, Nat.reduceAdd, Nat.reduceMul, Nat.reduceSub, Nat.reduceLeDiff, Nat.reduceLT, reduceIte, reduceCtorEq, Int.reduceBNe, Int.reduceBEq, hd, hd2, hp1, hp2, hwi, hw2, q1, q2, hq])) | (refine Pu.to (v2) ?_ ?_; (focus ((repeat' (first | exact wk_refl _ | exact wk_nils | exact wk_tsl _ _ _ | exact wk_full _ _ | exact wkL.nil | exact wkL_refl _ | refine wk_tup ?_ | refine wk_agg ?_ | refine wkL.cons ?_ ?_)); done)); (try simp only [↓R1, R2, R3, R4, R5, Nat.reduceEqDiff, Nat.reduceAdd, Nat.reduceMul, Nat.reduceSub, Nat.reduceLeDiff, Nat.reduceLT, reduceIte, reduceCtorEq, Int.reduceBNe, Int.reduceBEq, hd, hd2, hp1, hp2, hwi, hw2, q1, q2, hq])) | (refine Pu.to (v4) ?_ ?_; (focus ((repeat' (first | exact wk_refl _ | exact wk_nils | exact wk_tsl _ _ _ | exact wk_full _ _ | exact wkL.nil | exact wkL_refl _ | refine wk_tup ?_ | refine wk_agg ?_ | refine wkL.cons ?_ ?_)); done)); (try simp only [↓R1, R2, R3, R4, R5, Nat.reduceEqDiff, Nat.reduceAdd, Nat.reduceMul, Nat.reduceSub, Nat.reduceLeDiff, Nat.reduceLT, reduceIte, reduceCtorEq, Int.reduceBNe, Int.reduceBEq, hd, hd2, hp1, hp2, hwi, hw2, q1, q2, hq])))
    all_goals first | (exfalso; simp_all; done) | (with_reducible intro hno; exfalso; simp_all; done) | skip
    refine loopV_for more.length (fun k => [(13, sl cRec few), (21, sl cRec more), (23, .int .i64 (gAt more few k)), (24, .int .i64 k)]) (fun _ => _) (fun k => gI more few k) ?_ (St.le_refl _) ⟨Nat.zero_le _, hsub.map recK⟩ (fun k hk hI => ?_)
    · simp [subF, slot, wk_refl, gAt]
    have hI1 := hI.1
    simp only [↓R1, R2, R3, R4, R5, Nat.reduceEqDiff, Nat.reduceAdd, Nat.reduceMul, Nat.reduceSub, Nat.reduceLeDiff, Nat.reduceLT, reduceIte, reduceCtorEq, Int.reduceBNe, Int.reduceBEq, hd, hd2, hp1, hp2, hwi, hw2, q1, q2, hq]
    by_cases hkm : k < more.length
    · by_cases hkg : gAt more few k < few.length
      · have q1 : decide ((k : Int) < (more.length : Int)) = true := by rw [decide_eq_true_eq]; omega
        have q2 : decide (((gAt more few k : Nat) : Int) < (few.length : Int)) = true := by rw [decide_eq_true_eq]; omega
        have hd := cRec_drop more k hkm
        have hd2 := cRec_drop few (gAt more few k) hkg
        have hwi : IntKind.i64.wrap ((k : Int) + 1) = ((k + 1 : Nat) : Int) := by rw [wrap64 (by omega) (by omega)]; omega
        have hw2 : IntKind.i64.wrap (((gAt more few k : Nat) : Int) + 1) = ((gAt more few k + 1 : Nat) : Int) := by rw [wrap64 (by omega) (by omega)]; omega
        have hI2 := gI_succ hkm hkg hI
        have e : gAt more few (k + 1) = bif decide (recK (eAt more k) = recK (eAt few (gAt more few k))) then gAt more few k + 1 else gAt more few k := by
          show (bif decide (gAt more few k < few.length) && decide (recK (eAt more k) = recK (eAt few (gAt more few k))) then gAt more few k + 1 else gAt more few k) = _
          rw [decide_eq_true hkg, Bool.true_and]
        simp only [q1, q2, ↓R1, R2, R3, R4, R5, Nat.reduceEqDiff, Nat.reduceAdd, Nat.reduceMul, Nat.reduceSub, Nat.reduceLeDiff, Nat.reduceLT, reduceIte, reduceCtorEq, Int.reduceBNe, Int.reduceBEq, hd, hd2, hp1, hp2, hwi, hw2, q1, q2, hq]
        repeat' (first | (with_reducible rw [allocV_eq]) | (refine gdV_split (fun hc => ?_) (fun hc => ?_) <;> (try simp only [hc, ↓R1, R2, R3, R4, R5, Nat.reduceEqDiff, Nat.reduceAdd, Nat.reduceMul, Nat.reduceSub, Nat.reduceLeDiff, Nat.reduceLT, reduceIte, reduceCtorEq, Int.reduceBNe, Int.reduceBEq, hd, hd2, hp1, hp2, hwi, hw2, q1, q2, hq])) | ((first | refine condV_split (fun hc => ?_) (fun hc => ?_) | (with_reducible intro β hβ; (try simp only [St.box_noneA, St.tip_noneA, St.tip_set, St.box_tip, St.box_lp, St.tip_lp] at hβ); (repeat (obtain ⟨⟨_, _⟩, hβ⟩ := hβ)); (try (have hbis := apart_is (by assumption) hβ; obtain ⟨_, _⟩ := hbis))) | ((first | (refine appD_tslK (.inr rfl) rfl ?_ ?_ ?_ ?_ ?_ ?_; (first | rfl | exact St.tip_same _ _ _ | (simp only [↓R1, R2, R3, R4, R5, Nat.reduceEqDiff, Nat.reduceAdd, Nat.reduceMul, Nat.reduceSub, Nat.reduceLeDiff, Nat.reduceLT, reduceIte, reduceCtorEq, Int.reduceBNe, Int.reduceBEq, hd, hd2, hp1, hp2, hwi, hw2, q1, q2, hq])); (first | omega | (simp only [cLE_len, cRec_len, List.length_append, List.length_cons, List.length_nil, List.length_nil, List.length_cons]; omega) | (simp only [cLE_len, cRec_len, List.length_append, List.length_cons, List.length_nil, List.length_nil, List.length_cons])); (first | rfl | first | omega | (simp only [cLE_len, cRec_len, List.length_append, List.length_cons, List.length_nil, List.length_nil, List.length_cons]; omega) | (simp only [cLE_len, cRec_len, List.length_append, List.length_cons, List.length_nil, List.length_nil, List.length_cons]))) | (refine appV_tslK rfl ?_ ?_ ?_ ?_ ?_ ?_; (first | rfl | exact St.tip_same _ _ _ | (simp only [↓R1, R2, R3, R4, R5, Nat.reduceEqDiff, Nat.reduceAdd, Nat.reduceMul, Nat.reduceSub, Nat.reduceLeDiff, Nat.reduceLT, reduceIte, reduceCtorEq, Int.reduceBNe, Int.reduceBEq, hd, hd2, hp1, hp2, hwi, hw2, q1, q2, hq])); (first | omega | (simp only [cLE_len, cRec_len, List.length_append, List.length_cons, List.length_nil, List.length_nil, List.length_cons]; omega) | (simp only [cLE_len, cRec_len, List.length_append, List.length_cons, List.length_nil, List.length_nil, List.length_cons])); (first | rfl | first | omega | (simp only [cLE_len, cRec_len, List.length_append, List.length_cons, List.length_nil, List.length_nil, List.length_cons]; omega) | (simp only [cLE_len, cRec_len, List.length_append, List.length_cons, List.length_nil, List.length_nil, List.length_cons]))) | (refine appV_own ?_ ?_ ?_ ?_; exact flat_len (by intro _; rfl) _) | (refine appD_own ?_ ?_ ?_ ?_ ?_; omega; exact flat_len (by intro _; rfl) _) | (refine appV_fresh rfl trivial rfl ?_ ?_ ?_ ?_ ?_; (first | rfl | first | omega | (simp only [cLE_len, cRec_len, List.length_append, List.length_cons, List.length_nil, List.length_nil, List.length_cons]; omega) | (simp only [cLE_len, cRec_len, List.length_append, List.length_cons, List.length_nil, List.length_nil, List.length_cons])); (first | rfl | first | omega | (simp only [cLE_len, cRec_len, List.length_append, List.length_cons, List.length_nil, List.length_nil, List.length_cons]; omega) | (simp only [cLE_len, cRec_len, List.length_append, List.length_cons, List.length_nil, List.length_nil, List.length_cons]))) | (refine appD_fresh rfl trivial rfl ?_ ?_ ?_ ?_ ?_ ?_; omega; (first | rfl | first | omega | (simp only [cLE_len, cRec_len, List.length_append, List.length_cons, List.length_nil, List.length_nil, List.length_cons]; omega) | (simp only [cLE_len, cRec_len, List.length_append, List.length_cons, List.length_nil, List.length_nil, List.length_cons])); (first | rfl | first | omega | (simp only [cLE_len, cRec_len, List.length_append, List.length_cons, List.length_nil, List.length_nil, List.length_cons]; omega) | (simp only [cLE_len, cRec_len, List.length_append, List.length_cons, List.length_nil, List.length_nil, List.length_cons])))); (unfold maxLen; omega); omega)) <;> (try simp only [↓R1, R2, R3, R4, R5, Nat.reduceEqDiff, Nat.reduceAdd, Nat.reduceMul, Nat.reduceSub, Nat.reduceLeDiff, Nat.reduceLT, reduceIte, reduceCtorEq, Int.reduceBNe, Int.reduceBEq, hd, hd2, hp1, hp2, hwi, hw2, q1, q2, hq])) | (with_reducible refine And.intro ?_ ?_; (focus (first | omega | (intros; (repeat' (with_reducible apply And.intro)) <;> first | omega | (simp only [cLE_len, cRec_len, List.length_append, List.length_cons, List.length_nil]; omega))))) | (with_reducible apply And.intro))
        · have hr : recK (eAt more k) = recK (eAt few (gAt more few k)) := by
            simp only [recK, Prod.mk.injEq]
            simpa using hc
          rw [e, decide_eq_true hr, cond_true]
          simp only [subF, slot, wk_refl, ↓R1, R2, R3, R4, R5, Nat.reduceEqDiff, Nat.reduceAdd, Nat.reduceMul, Nat.reduceSub, Nat.reduceLeDiff, Nat.reduceLT, reduceIte, reduceCtorEq, Int.reduceBNe, Int.reduceBEq, hd, hd2, hp1, hp2, hwi, hw2, q1, q2, hq]
        · exact St.le_refl _
        · have hr : recK (eAt more k) ≠ recK (eAt few (gAt more few k)) := by
            intro h
            simp only [recK, Prod.mk.injEq] at h
            simp [h] at hc
          rw [e, decide_eq_false hr, cond_false]
          simp only [subF, slot, wk_refl, ↓R1, R2, R3, R4, R5, Nat.reduceEqDiff, Nat.reduceAdd, Nat.reduceMul, Nat.reduceSub, Nat.reduceLeDiff, Nat.reduceLT, reduceIte, reduceCtorEq, Int.reduceBNe, Int.reduceBEq, hd, hd2, hp1, hp2, hwi, hw2, q1, q2, hq]
        · exact St.le_refl _
      · have hke : gAt more few k = few.length := by omega
        have q1 : decide ((k : Int) < (more.length : Int)) = true := by rw [decide_eq_true_eq]; omega
        have q2 : decide (((gAt more few k : Nat) : Int) < (few.length : Int)) = false := by rw [decide_eq_false_iff_not]; omega
        have hq : (((gAt more few k : Nat) : Int) == (few.length : Int)) = true := by rw [beq_iff_eq]; omega
        simp only [q1, q2, ↓R1, R2, R3, R4, R5, Nat.reduceEqDiff, Nat.reduceAdd, Nat.reduceMul, Nat.reduceSub, Nat.reduceLeDiff, Nat.reduceLT, reduceIte, reduceCtorEq, Int.reduceBNe, Int.reduceBEq, hd, hd2, hp1, hp2, hwi, hw2, q1, q2, hq]
        repeat' (first | (with_reducible rw [allocV_eq]) | (refine gdV_split (fun hc => ?_) (fun hc => ?_) <;> (try simp only [hc, ↓R1, R2, R3, R4, R5, Nat.reduceEqDiff, Nat.reduceAdd, Nat.reduceMul, Nat.reduceSub, Nat.reduceLeDiff, Nat.reduceLT, reduceIte, reduceCtorEq, Int.reduceBNe, Int.reduceBEq, hd, hd2, hp1, hp2, hwi, hw2, q1, q2, hq])) | ((first | refine condV_split (fun hc => ?_) (fun hc => ?_) | (with_reducible intro β hβ; (try simp only [St.box_noneA, St.tip_noneA, St.tip_set, St.box_tip, St.box_lp, St.tip_lp] at hβ); (repeat (obtain ⟨⟨_, _⟩, hβ⟩ := hβ)); (try (have hbis := apart_is (by assumption) hβ; obtain ⟨_, _⟩ := hbis))) | ((first | (refine appD_tslK (.inr rfl) rfl ?_ ?_ ?_ ?_ ?_ ?_; (first | rfl | exact St.tip_same _ _ _ | (simp only [↓R1, R2, R3, R4, R5, Nat.reduceEqDiff, Nat.reduceAdd, Nat.reduceMul, Nat.reduceSub, Nat.reduceLeDiff, Nat.reduceLT, reduceIte, reduceCtorEq, Int.reduceBNe, Int.reduceBEq, hd, hd2, hp1, hp2, hwi, hw2, q1, q2, hq])); (first | omega | (simp only [cLE_len, cRec_len, List.length_append, List.length_cons, List.length_nil, List.length_nil, List.length_cons]; omega) | (simp only [cLE_len, cRec_len, List.length_append, List.length_cons, List.length_nil, List.length_nil, List.length_cons])); (first | rfl | first | omega | (simp only [cLE_len, cRec_len, List.length_append, List.length_cons, List.length_nil, List.length_nil, List.length_cons]; omega) | (simp only [cLE_len, cRec_len, List.length_append, List.length_cons, List.length_nil, List.length_nil, List.length_cons]))) | (refine appV_tslK rfl ?_ ?_ ?_ ?_ ?_ ?_; (first | rfl | exact St.tip_same _ _ _ | (simp only [↓R1, R2, R3, R4, R5, Nat.reduceEqDiff, Nat.reduceAdd, Nat.reduceMul, Nat.reduceSub, Nat.reduceLeDiff, Nat.reduceLT, reduceIte, reduceCtorEq, Int.reduceBNe, Int.reduceBEq, hd, hd2, hp1, hp2, hwi, hw2, q1, q2, hq])); (first | omega | (simp only [cLE_len, cRec_len, List.length_append, List.length_cons, List.length_nil, List.length_nil, List.length_cons]; omega) | (simp only [cLE_len, cRec_len, List.length_append, List.length_cons, List.length_nil, List.length_nil, List.length_cons])); (first | rfl | first | omega | (simp only [cLE_len, cRec_len, List.length_append, List.length_cons, List.length_nil, List.length_nil, List.length_cons]; omega) | (simp only [cLE_len, cRec_len, List.length_append, List.length_cons, List.length_nil, List.length_nil, List.length_cons]))) | (refine appV_own ?_ ?_ ?_ ?_; exact flat_len (by intro _; rfl) _) | (refine appD_own ?_ ?_ ?_ ?_ ?_; omega; exact flat_len (by intro _; rfl) _) | (refine appV_fresh rfl trivial rfl ?_ ?_ ?_ ?_ ?_; (first | rfl | first | omega | (simp only [cLE_len, cRec_len, List.length_append, List.length_cons, List.length_nil, List.length_nil, List.length_cons]; omega) | (simp only [cLE_len, cRec_len, List.length_append, List.length_cons, List.length_nil, List.length_nil, List.length_cons])); (first | rfl | first | omega | (simp only [cLE_len, cRec_len, List.length_append, List.length_cons, List.length_nil, List.length_nil, List.length_cons]; omega) | (simp only [cLE_len, cRec_len, List.length_append, List.length_cons, List.length_nil, List.length_nil, List.length_cons]))) | (refine appD_fresh rfl trivial rfl ?_ ?_ ?_ ?_ ?_ ?_; omega; (first | rfl | first | omega | (simp only [cLE_len, cRec_len, List.length_append, List.length_cons, List.length_nil, List.length_nil, List.length_cons]; omega) | (simp only [cLE_len, cRec_len, List.length_append, List.length_cons, List.length_nil, List.length_nil, List.length_cons])); (first | rfl | first | omega | (simp only [cLE_len, cRec_len, List.length_append, List.length_cons, List.length_nil, List.length_nil, List.length_cons]; omega) | (simp only [cLE_len, cRec_len, List.length_append, List.length_cons, List.length_nil, List.length_nil, List.length_cons])))); (unfold maxLen; omega); omega)) <;> (try simp only [↓R1, R2, R3, R4, R5, Nat.reduceEqDiff, Nat.reduceAdd, Nat.reduceMul, Nat.reduceSub, Nat.reduceLeDiff, Nat.reduceLT, reduceIte, reduceCtorEq, Int.reduceBNe, Int.reduceBEq, hd, hd2, hp1, hp2, hwi, hw2, q1, q2, hq])) | (with_reducible refine And.intro ?_ ?_; (focus (first | omega | (intros; (repeat' (with_reducible apply And.intro)) <;> first | omega | (simp only [cLE_len, cRec_len, List.length_append, List.length_cons, List.length_nil]; omega))))) | (with_reducible apply And.intro) | ((first | refine PuG.to (awake_pu) hσ (wkL_refl _) ?_ | (refine callGV_puG hσ (fun hgv => ⟨?_, (awake_pu), wkL_refl _⟩) ?_; (first | trivial | (focus (simp only [↓R1, R2, R3, R4, R5, Nat.reduceEqDiff, Nat.reduceAdd, Nat.reduceMul, Nat.reduceSub, Nat.reduceLeDiff, Nat.reduceLT, reduceIte, reduceCtorEq, Int.reduceBNe, Int.reduceBEq, hd, hd2, hp1, hp2, hwi, hw2, q1, q2, hq]; done))))); (try simp only [↓R1, R2, R3, R4, R5, Nat.reduceEqDiff, Nat.reduceAdd, Nat.reduceMul, Nat.reduceSub, Nat.reduceLeDiff, Nat.reduceLT, reduceIte, reduceCtorEq, Int.reduceBNe, Int.reduceBEq, hd, hd2, hp1, hp2, hwi, hw2, q1, q2, hq])))
        all_goals (refine endP_pu (by simp) (by first | (simp [rvsS, rvS]; done) | (simp only [rvsS, rvS, ↓R1, R2, R3, R4, R5, Nat.reduceEqDiff, Nat.reduceAdd, Nat.reduceMul, Nat.reduceSub, Nat.reduceLeDiff, Nat.reduceLT, reduceIte, reduceCtorEq, Int.reduceBNe, Int.reduceBEq, hd, hd2, hp1, hp2, hwi, hw2, q1, q2, hq]; try simp)) (wk_of_eq ?_) (by (repeat (first | exact St.le_refl _ | (refine St.le_new ?_ (by assumption)) | (refine St.le_newT ?_ (by assumption))))))
        all_goals (simp only [resAV, rvV, List.map_cons, List.map_nil, ↓R1, R2, R3, R4, R5, Nat.reduceEqDiff, Nat.reduceAdd, Nat.reduceMul, Nat.reduceSub, Nat.reduceLeDiff, Nat.reduceLT, reduceIte, reduceCtorEq, Int.reduceBNe, Int.reduceBEq, hd, hd2, hp1, hp2, hwi, hw2, q1, q2, hq])
    · have hke : gAt more few k = few.length := by
        have : k = more.length := by omega
        subst this
        exact gI_end hI
      have q1 : decide ((k : Int) < (more.length : Int)) = false := by rw [decide_eq_false_iff_not]; omega
      have hq : (((gAt more few k : Nat) : Int) == (few.length : Int)) = true := by rw [beq_iff_eq]; omega
      simp only [q1, ↓R1, R2, R3, R4, R5, Nat.reduceEqDiff, Nat.reduceAdd, Nat.reduceMul, Nat.reduceSub, Nat.reduceLeDiff, Nat.reduceLT, reduceIte, reduceCtorEq, Int.reduceBNe, Int.reduceBEq, hd, hd2, hp1, hp2, hwi, hw2, q1, q2, hq]
      repeat' (first | (with_reducible rw [allocV_eq]) | (refine gdV_split (fun hc => ?_) (fun hc => ?_) <;> (try simp only [hc, ↓R1, R2, R3, R4, R5, Nat.reduceEqDiff, Nat.reduceAdd, Nat.reduceMul, Nat.reduceSub, Nat.reduceLeDiff, Nat.reduceLT, reduceIte, reduceCtorEq, Int.reduceBNe, Int.reduceBEq, hd, hd2, hp1, hp2, hwi, hw2, q1, q2, hq])) | ((first | refine condV_split (fun hc => ?_) (fun hc => ?_) | (with_reducible intro β hβ; (try simp only [St.box_noneA, St.tip_noneA, St.tip_set, St.box_tip, St.box_lp, St.tip_lp] at hβ); (repeat (obtain ⟨⟨_, _⟩, hβ⟩ := hβ)); (try (have hbis := apart_is (by assumption) hβ; obtain ⟨_, _⟩ := hbis))) | ((first | (refine appD_tslK (.inr rfl) rfl ?_ ?_ ?_ ?_ ?_ ?_; (first | rfl | exact St.tip_same _ _ _ | (simp only [↓R1, R2, R3, R4, R5, Nat.reduceEqDiff, Nat.reduceAdd, Nat.reduceMul, Nat.reduceSub, Nat.reduceLeDiff, Nat.reduceLT, reduceIte, reduceCtorEq, Int.reduceBNe, Int.reduceBEq, hd, hd2, hp1, hp2, hwi, hw2, q1, q2, hq])); (first | omega | (simp only [cLE_len, cRec_len, List.length_append, List.length_cons, List.length_nil, List.length_nil, List.length_cons]; omega) | (simp only [cLE_len, cRec_len, List.length_append, List.length_cons, List.length_nil, List.length_nil, List.length_cons])); (first | rfl | first | omega | (simp only [cLE_len, cRec_len, List.length_append, List.length_cons, List.length_nil, List.length_nil, List.length_cons]; omega) | (simp only [cLE_len, cRec_len, List.length_append, List.length_cons, List.length_nil, List.length_nil, List.length_cons]))) | (refine appV_tslK rfl ?_ ?_ ?_ ?_ ?_ ?_; (first | rfl | exact St.tip_same _ _ _ | (simp only [↓R1, R2, R3, R4, R5, Nat.reduceEqDiff, Nat.reduceAdd, Nat.reduceMul, Nat.reduceSub, Nat.reduceLeDiff, Nat.reduceLT, reduceIte, reduceCtorEq, Int.reduceBNe, Int.reduceBEq, hd, hd2, hp1, hp2, hwi, hw2, q1, q2, hq])); (first | omega | (simp only [cLE_len, cRec_len, List.length_append, List.length_cons, List.length_nil, List.length_nil, List.length_cons]; omega) | (simp only [cLE_len, cRec_len, List.length_append, List.length_cons, List.length_nil, List.length_nil, List.length_cons])); (first | rfl | first | omega | (simp only [cLE_len, cRec_len, List.length_append, List.length_cons, List.length_nil, List.length_nil, List.length_cons]; omega) | (simp only [cLE_len, cRec_len, List.length_append, List.length_cons, List.length_nil, List.length_nil, List.length_cons]))) | (refine appV_own ?_ ?_ ?_ ?_; exact flat_len (by intro _; rfl) _) | (refine appD_own ?_ ?_ ?_ ?_ ?_; omega; exact flat_len (by intro _; rfl) _) | (refine appV_fresh rfl trivial rfl ?_ ?_ ?_ ?_ ?_; (first | rfl | first | omega | (simp only [cLE_len, cRec_len, List.length_append, List.length_cons, List.length_nil, List.length_nil, List.length_cons]; omega) | (simp only [cLE_len, cRec_len, List.length_append, List.length_cons, List.length_nil, List.length_nil, List.length_cons])); (first | rfl | first | omega | (simp only [cLE_len, cRec_len, List.length_append, List.length_cons, List.length_nil, List.length_nil, List.length_cons]; omega) | (simp only [cLE_len, cRec_len, List.length_append, List.length_cons, List.length_nil, List.length_nil, List.length_cons]))) | (refine appD_fresh rfl trivial rfl ?_ ?_ ?_ ?_ ?_ ?_; omega; (first | rfl | first | omega | (simp only [cLE_len, cRec_len, List.length_append, List.length_cons, List.length_nil, List.length_nil, List.length_cons]; omega) | (simp only [cLE_len, cRec_len, List.length_append, List.length_cons, List.length_nil, List.length_nil, List.length_cons])); (first | rfl | first | omega | (simp only [cLE_len, cRec_len, List.length_append, List.length_cons, List.length_nil, List.length_nil, List.length_cons]; omega) | (simp only [cLE_len, cRec_len, List.length_append, List.length_cons, List.length_nil, List.length_nil, List.length_cons])))); (unfold maxLen; omega); omega)) <;> (try simp only [↓R1, R2, R3, R4, R5, Nat.reduceEqDiff, Nat.reduceAdd, Nat.reduceMul, Nat.reduceSub, Nat.reduceLeDiff, Nat.reduceLT, reduceIte, reduceCtorEq, Int.reduceBNe, Int.reduceBEq, hd, hd2, hp1, hp2, hwi, hw2, q1, q2, hq])) | (with_reducible refine And.intro ?_ ?_; (focus (first | omega | (intros; (repeat' (with_reducible apply And.intro)) <;> first | omega | (simp only [cLE_len, cRec_len, List.length_append, List.length_cons, List.length_nil]; omega))))) | (with_reducible apply And.intro) | ((first | refine PuG.to (awake_pu) hσ (wkL_refl _) ?_ | (refine callGV_puG hσ (fun hgv => ⟨?_, (awake_pu), wkL_refl _⟩) ?_; (first | trivial | (focus (simp only [↓R1, R2, R3, R4, R5, Nat.reduceEqDiff, Nat.reduceAdd, Nat.reduceMul, Nat.reduceSub, Nat.reduceLeDiff, Nat.reduceLT, reduceIte, reduceCtorEq, Int.reduceBNe, Int.reduceBEq, hd, hd2, hp1, hp2, hwi, hw2, q1, q2, hq]; done))))); (try simp only [↓R1, R2, R3, R4, R5, Nat.reduceEqDiff, Nat.reduceAdd, Nat.reduceMul, Nat.reduceSub, Nat.reduceLeDiff, Nat.reduceLT, reduceIte, reduceCtorEq, Int.reduceBNe, Int.reduceBEq, hd, hd2, hp1, hp2, hwi, hw2, q1, q2, hq])))
      all_goals (refine endP_pu (by simp) (by first | (simp [rvsS, rvS]; done) | (simp only [rvsS, rvS, ↓R1, R2, R3, R4, R5, Nat.reduceEqDiff, Nat.reduceAdd, Nat.reduceMul, Nat.reduceSub, Nat.reduceLeDiff, Nat.reduceLT, reduceIte, reduceCtorEq, Int.reduceBNe, Int.reduceBEq, hd, hd2, hp1, hp2, hwi, hw2, q1, q2, hq]; try simp)) (wk_of_eq ?_) (by (repeat (first | exact St.le_refl _ | (refine St.le_new ?_ (by assumption)) | (refine St.le_newT ?_ (by assumption))))))
      all_goals (simp only [resAV, rvV, List.map_cons, List.map_nil, ↓R1, R2, R3, R4, R5, Nat.reduceEqDiff, Nat.reduceAdd, Nat.reduceMul, Nat.reduceSub, Nat.reduceLeDiff, Nat.reduceLT, reduceIte, reduceCtorEq, Int.reduceBNe, Int.reduceBEq, hd, hd2, hp1, hp2, hwi, hw2, q1, q2, hq])
end Go.Proofs.YtbbkckogjdjjgaaDoor
