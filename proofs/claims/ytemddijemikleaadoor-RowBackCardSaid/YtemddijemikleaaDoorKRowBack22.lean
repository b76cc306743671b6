/- Part 22 of the proof of RowBack: an abstract semantics that is proved sound for the model, contracts of functions in it, and plain facts (RD3 RD4 RW5 RW6 RW7 RW8 RW9 RX6 RC1 RN1). No condition. -/
import Derived.Test.YtemddijemikleaaDoorKRowBack21
set_option linter.all false
namespace Go.Proofs.YtemddijemikleaaDoor
open Go.Abs
set_option linter.all false
set_option maxRecDepth 100000
def I64 (n : Int) : Prop := -9223372036854775808 ≤ n ∧ n ≤ 9223372036854775807
theorem wI (n : Int) : IntKind.i64.wrap n = if 9223372036854775808 ≤ n % 18446744073709551616 then n % 18446744073709551616 - 18446744073709551616 else n % 18446744073709551616 := by
  simp [IntKind.wrap, IntKind.bits, IntKind.signed]
def cI (n : Int) : List AV := [.int .i64 n]
theorem cI_len (l : List Int) : (l.flatMap cI).length = l.length * 1 := flat_len (f := cI) (fun _ => rfl) l
theorem cI_get (l : List Int) {k : Nat} (h : k < l.length) : ((l.flatMap cI).drop (k * 1)).take 1 = cI l[k] := flat_get (f := cI) (s := 1) (fun _ => rfl) l k h
theorem p51 (ns : List Int) (i : Nat) : Pu Tryd.prog 51 [.sl false ns.length (ns.flatMap cI), .int .i64 (i : Nat)] (.int .i64 (ns[i]?.getD 0)) := by
  have q1 : decide ((i : Int) < 0) = false := by rw [decide_eq_false_iff_not]; omega
  have hd : True := trivial
  have hcl := cI_len ns
  by_cases h : i < ns.length
  · have q2 : decide ((ns.length : Int) ≤ (i : Int)) = false := by rw [decide_eq_false_iff_not]; omega
    have hd := cI_get ns h
    simp only [cI] at hd
    rw [List.getElem?_eq_getElem h, Option.getD_some]
    (refine Pu_intro c51 b51 (Nat.le_of_ble_eq_true rfl) fun σ => ?_; simp only [c51, ↓R1, RR, seval, q1, q2, hd])
    repeat' (first | (with_reducible rw [allocV_eq]) | (with_reducible refine And.intro ?_ ?_; focus (intros; (repeat' (with_reducible apply And.intro)) <;> first | omega | (simp only [RZ, cI_len]; omega))) | (with_reducible apply And.intro) | ((first | (refine gdV_split (fun hc => ?_) (fun hc => ?_) <;> (try simp only [hc, ↓R1, RR, seval, q1, q2, hd])) | refine condV_split (fun hc => ?_) (fun hc => ?_) | (with_reducible intro β hβ; (try simp only [RB] at hβ); (repeat (obtain ⟨⟨_, _⟩, hβ⟩ := hβ)); (try (have hbis := apart_is (by assumption) hβ; obtain ⟨_, _⟩ := hbis))) | ((first | refine appD_tslK (.inr rfl) rfl ?_ ?_ ?_ ?_ ?_ ?_ | refine appV_tslK rfl ?_ ?_ ?_ ?_ ?_ ?_); (first | rfl | exact St.tip_same _ _ _ | simp only [↓R1, RR, seval, q1, q2, hd]); (iterate 2 (first | omega | (simp only [RZ, cI_len]; first | done | omega) | rfl)); (unfold maxLen; omega); omega)) <;> (try simp only [↓R1, RR, seval, q1, q2, hd])))
    (refine endP_pu (by simp) (by first | (simp [rvsS, rvS]; done) | (simp only [rvsS, rvS, ↓R1, RR, seval, q1, q2, hd]; try simp)) (wk_of_eq ?_) (by (repeat (first | exact St.le_refl _ | (refine St.le_new ?_ (by assumption)) | (refine St.le_newT ?_ (by assumption))))))
    (simp only [resAV, rvV, List.map_cons, List.map_nil, ↓R1, RR, seval, q1, q2, hd])
  · have q2 : decide ((ns.length : Int) ≤ (i : Int)) = true := by rw [decide_eq_true_eq]; omega
    rw [List.getElem?_eq_none (by omega), Option.getD_none]
    (refine Pu_intro c51 b51 (Nat.le_of_ble_eq_true rfl) fun σ => ?_; simp only [c51, ↓R1, RR, seval, q1, q2, hd])
    repeat' (first | (with_reducible rw [allocV_eq]) | (with_reducible refine And.intro ?_ ?_; focus (intros; (repeat' (with_reducible apply And.intro)) <;> first | omega | (simp only [RZ, cI_len]; omega))) | (with_reducible apply And.intro) | ((first | (refine gdV_split (fun hc => ?_) (fun hc => ?_) <;> (try simp only [hc, ↓R1, RR, seval, q1, q2, hd])) | refine condV_split (fun hc => ?_) (fun hc => ?_) | (with_reducible intro β hβ; (try simp only [RB] at hβ); (repeat (obtain ⟨⟨_, _⟩, hβ⟩ := hβ)); (try (have hbis := apart_is (by assumption) hβ; obtain ⟨_, _⟩ := hbis))) | ((first | refine appD_tslK (.inr rfl) rfl ?_ ?_ ?_ ?_ ?_ ?_ | refine appV_tslK rfl ?_ ?_ ?_ ?_ ?_ ?_); (first | rfl | exact St.tip_same _ _ _ | simp only [↓R1, RR, seval, q1, q2, hd]); (iterate 2 (first | omega | (simp only [RZ, cI_len]; first | done | omega) | rfl)); (unfold maxLen; omega); omega)) <;> (try simp only [↓R1, RR, seval, q1, q2, hd])))
    (refine endP_pu (by simp) (by first | (simp [rvsS, rvS]; done) | (simp only [rvsS, rvS, ↓R1, RR, seval, q1, q2, hd]; try simp)) (wk_of_eq ?_) (by (repeat (first | exact St.le_refl _ | (refine St.le_new ?_ (by assumption)) | (refine St.le_newT ?_ (by assumption))))))
    (simp only [resAV, rvV, List.map_cons, List.map_nil, ↓R1, RR, seval, q1, q2, hd])
theorem mod_neg {n m : Int} (hm : 1 ≤ m) (hn : n < 0) : n % m = if (-n) % m = 0 then 0 else m - (-n) % m := by
  have h1 := Int.emod_nonneg (-n) (show m ≠ 0 by omega)
  have h2 := Int.emod_lt_of_pos (-n) (show 0 < m by omega)
  have h3 := Int.emod_add_mul_ediv (-n) m
  have e : n % m = (m - (-n) % m) % m := by
    have : n = (m - (-n) % m) + m * (-((-n) / m + 1)) := by rw [Int.mul_neg, Int.mul_add]; omega
    rw [this, Int.add_mul_emod_self_left]
    have e2 : -(m - (-n) % m + m * -((-n) / m + 1)) = -n := by rw [← this]
    rw [e2]
  rw [e]
  split
  · rename_i h; rw [h]; simp
  · exact Int.emod_eq_of_lt (by omega) (by omega)
theorem tmod_neg {n m : Int} (hn : n < 0) : Int.tmod n m = -((-n) % m) := by
  have h : Int.tmod (-n) m = (-n) % m := Int.tmod_eq_emod_of_nonneg (by omega)
  rw [← h, Int.neg_tmod, Int.neg_neg]
theorem p50 (n m : Int) (hn : I64 n) (hm : 1 ≤ m ∧ m ≤ 1099511627776) : Pu Tryd.prog 50 [.int .i64 n, .int .i64 m] (.int .i64 (n % m)) := by
  have h0 : decide (m < 1) = false := decide_eq_false (by omega)
  refine Pu_intro c50 b50 (Nat.le_of_ble_eq_true rfl) fun σ => ?_
  simp only [c50, h0, ↓R1, RR, seval]
  refine ⟨by omega, ?_⟩
  by_cases hneg : n < 0
  · have h1 := Int.emod_nonneg (-n) (show m ≠ 0 by omega)
    have h2 := Int.emod_lt_of_pos (-n) (show 0 < m by omega)
    rw [mod_neg hm.1 hneg, tmod_neg hneg]
    by_cases hz : (-n) % m = 0
    · rw [hz, if_pos rfl]
      simp only [show decide ((-0 : Int) < 0) = false from rfl, decide_false, ↓R1, RR, seval]
      (refine endP_pu (by simp) (by first | (simp [rvsS, rvS]; done) | (simp only [rvsS, rvS, ↓R1, RR, seval]; try simp)) (wk_of_eq ?_) (by (repeat (first | exact St.le_refl _ | (refine St.le_new ?_ (by assumption)) | (refine St.le_newT ?_ (by assumption))))))
      (simp only [resAV, rvV, List.map_cons, List.map_nil, ↓R1, RR, seval])
      rfl
    · rw [if_neg hz]
      have hd : decide (-((-n) % m) < 0) = true := decide_eq_true (by omega)
      simp only [hd, ↓R1, RR, seval]
      (refine endP_pu (by simp) (by first | (simp [rvsS, rvS]; done) | (simp only [rvsS, rvS, ↓R1, RR, seval]; try simp)) (wk_of_eq ?_) (by (repeat (first | exact St.le_refl _ | (refine St.le_new ?_ (by assumption)) | (refine St.le_newT ?_ (by assumption))))))
      (simp only [resAV, rvV, List.map_cons, List.map_nil, ↓R1, RR, seval])
      have : IntKind.i64.wrap (-(-n % m) + m) = m - (-n) % m := by rw [wI]; split <;> omega
      rw [this]
  · have h1 := Int.emod_nonneg n (show m ≠ 0 by omega)
    rw [Int.tmod_eq_emod_of_nonneg (by omega)]
    have hd : decide (n % m < 0) = false := decide_eq_false (by omega)
    simp only [hd, ↓R1, RR, seval]
    (refine endP_pu (by simp) (by first | (simp [rvsS, rvS]; done) | (simp only [rvsS, rvS, ↓R1, RR, seval]; try simp)) (wk_of_eq ?_) (by (repeat (first | exact St.le_refl _ | (refine St.le_new ?_ (by assumption)) | (refine St.le_newT ?_ (by assumption))))))
    (simp only [resAV, rvV, List.map_cons, List.map_nil, ↓R1, RR, seval])
end Go.Proofs.YtemddijemikleaaDoor
namespace Go.Proofs.YtemddijemikleaaDoor
open Go.Abs
set_option linter.all false
set_option maxRecDepth 100000
def mdV (Z : List (Nat × List (List UInt8))) (β : Nat) : AV := match Z with
  | [] => .nils
  | _ :: _ => .row β 43 2 Z.length
def mdS (σ : St) (Z : List (Nat × List (List UInt8))) (β j : Nat) : St := match Z.getLast? with
  | none => σ
  | some p => (σ.setBox β (Z.flatMap cT ++ List.replicate j .junk)).setTip p.1 (31, 3, p.2.length)
theorem mdS_nil (σ : St) (β j : Nat) : mdS σ [] β j = σ := rfl
theorem mdS_last (σ : St) (Z : List (Nat × List (List UInt8))) (p : Nat × List (List UInt8)) (β j : Nat) : mdS σ (Z ++ [p]) β j = (σ.setBox β ((Z ++ [p]).flatMap cT ++ List.replicate j .junk)).setTip p.1 (31, 3, p.2.length) := by
  unfold mdS; simp
theorem mdV_last (Z : List (Nat × List (List UInt8))) (p : Nat × List (List UInt8)) (β : Nat) : mdV (Z ++ [p]) β = .row β 43 2 (Z.length + 1) := by
  cases Z <;> simp [mdV]
theorem none_of_le' {σ σ' : St} {γ : Nat} (h : St.le σ σ') (hn : σ'.box γ = none) : σ.box γ = none := by
  cases h2 : σ.box γ with
  | none => rfl
  | some c => rw [h.1 γ c h2] at hn; cases hn
theorem le_bt {σ σ' : St} {γ τ : Nat} {c : List AV} {x : Nat × Nat × Nat} (h : St.le σ σ') : St.le ((σ.setBox γ c).setTip τ x) ((σ'.setBox γ c).setTip τ x) := by
  refine ⟨fun δ d hd => ?_, fun υ y hy => ?_, h.2.2⟩
  · simp only [St.setBox, St.setTip, upd] at hd ⊢
    split
    · rename_i e; rw [if_pos e] at hd; exact hd
    · rename_i e; rw [if_neg e] at hd; exact h.1 δ d hd
  · simp only [St.setBox, St.setTip, upd] at hy ⊢
    split
    · rename_i e; rw [if_pos e] at hy; exact hy
    · rename_i e; rw [if_neg e] at hy; exact h.2.1 υ y hy
theorem le_row {σ : St} {b5 β γ τ τp : Nat} {X Y Z : List AV} {x y : Nat × Nat × Nat} (h5 : σ.box b5 = none) (hβ : σ.box β = none) (hp : σ.tip τp = none) :
    St.le ((σ.setBox γ Z).setTip τ x) ((((((σ.setBox b5 X).setBox β Y).setTip τp y).setTip τ x).dropBox b5).setBox γ Z) := by
  refine ⟨fun δ d hd => ?_, fun υ z hz => ?_, fun _ _ h => h, fun _ _ h => h, fun _ _ h => h⟩
  · simp only [St.setBox, St.setTip, St.dropBox, upd] at hd ⊢
    split
    · rename_i e; rw [if_pos e] at hd; exact hd
    · rename_i e
      rw [if_neg e] at hd
      have h1 : δ ≠ b5 := by rintro rfl; rw [h5] at hd; cases hd
      have h2 : δ ≠ β := by rintro rfl; rw [hβ] at hd; cases hd
      rw [if_neg h1, if_neg h2, if_neg h1]; exact hd
  · simp only [St.setBox, St.setTip, St.dropBox, upd] at hz ⊢
    split
    · rename_i e; rw [if_pos e] at hz; exact hz
    · rename_i e
      rw [if_neg e] at hz
      have h1 : υ ≠ τp := by rintro rfl; rw [hp] at hz; cases hz
      rw [if_neg h1]; exact hz
theorem le_row0 {σ : St} {b5 β τ τp : Nat} {X Y : List AV} {x y : Nat × Nat × Nat} (h5 : σ.box b5 = none) (hβ : σ.box β = none) :
    ∀ δ, ((((((σ.setBox b5 X).setBox β Y).setTip τp y).setTip τ x).dropBox b5).box δ = none) → σ.box δ = none := by
  intro δ hd
  cases h : σ.box δ with
  | none => rfl
  | some c =>
    have h1 : δ ≠ b5 := by rintro rfl; rw [h5] at h; cases h
    have h2 : δ ≠ β := by rintro rfl; rw [hβ] at h; cases h
    simp only [St.setBox, St.setTip, St.dropBox, upd] at hd
    rw [if_neg h1, if_neg h2, if_neg h1, h] at hd
    cases hd
theorem tip_two {σ : St} {b5 β t τ : Nat} {X Y : List AV} {x y : Nat × Nat × Nat} (hτ : ((σ.setBox b5 X).setTip t x).tip τ = none) : ((((σ.setBox b5 X).setBox β Y).setTip t x).setTip τ y).tip t = some x := by
  simp only [St.setBox, St.setTip, upd] at hτ ⊢
  split at hτ
  · cases hτ
  · rename_i e
    rw [if_neg (fun h => e h.symm)]; simp
theorem le_end {σ : St} {b5 t : Nat} {X : List AV} {x : Nat × Nat × Nat} (h5 : σ.box b5 = none) (ht : σ.tip t = none) : St.le σ (((σ.setBox b5 X).setTip t x).dropBox b5) := by
  refine ⟨fun δ d hd => ?_, fun υ z hz => ?_, fun _ _ h => h, fun _ _ h => h, fun _ _ h => h⟩
  · have h1 : δ ≠ b5 := by rintro rfl; rw [h5] at hd; cases hd
    simp only [St.setBox, St.setTip, St.dropBox, upd]
    rw [if_neg h1, if_neg h1]; exact hd
  · have h1 : υ ≠ t := by rintro rfl; rw [ht] at hz; cases hz
    simp only [St.setBox, St.setTip, St.dropBox, upd]
    rw [if_neg h1]; exact hz
theorem set_at (A : List AV) (a b c : AV) (r : List AV) : List.take (A.length + 1) (A ++ (a :: b :: r)) ++ [c] ++ List.drop (A.length + 1 + 1) (A ++ (a :: b :: r)) = A ++ (a :: c :: r) := by
  induction A with
  | nil => rfl
  | cons x A ih => exact congrArg (x :: ·) ih
theorem set_last (Z' : List (Nat × List (List UInt8))) (p : Nat × List (List UInt8)) (q : Nat × List (List UInt8)) (j : Nat) :
    List.take (Z'.length * 2 + 1) ((Z' ++ [p]).flatMap cT ++ List.replicate j AV.junk) ++ [.tsl q.1 q.2.length ((q.2.map mkW).flatMap cWI)] ++ List.drop (Z'.length * 2 + 1 + 1) ((Z' ++ [p]).flatMap cT ++ List.replicate j AV.junk) = (Z' ++ [q]).flatMap cT ++ List.replicate j .junk := by
  have e := cT_len Z'
  have h := set_at (Z'.flatMap cT) (.int .i64 0) (.tsl p.1 p.2.length ((p.2.map mkW).flatMap cWI)) (.tsl q.1 q.2.length ((q.2.map mkW).flatMap cWI)) (List.replicate j .junk)
  rw [List.append_assoc] at h
  simp only [List.flatMap_append, List.append_assoc]
  rw [← e]
  exact h
theorem le_row3 {σ : St} {b5 β t τ : Nat} {X X' Y : List AV} {x y z : Nat × Nat × Nat} (hβ : σ.box β = none) (hβ5 : β ≠ b5) (hτ : ((σ.setBox b5 X).setTip t x).tip τ = none) :
    St.le ((σ.setBox b5 X').setTip t z) (((((σ.setBox b5 X').setBox β Y).setTip t x).setTip τ y).setTip t z) := by
  simp only [St.setBox, St.setTip, upd] at hτ
  split at hτ
  · cases hτ
  refine ⟨fun δ d hd => ?_, fun υ w hw => ?_, fun _ _ h => h, fun _ _ h => h, fun _ _ h => h⟩
  · simp only [St.setBox, St.setTip, upd] at hd ⊢
    split
    · rename_i e
      subst e
      rw [if_neg hβ5, hβ] at hd; cases hd
    · exact hd
  · simp only [St.setBox, St.setTip, upd] at hw ⊢
    split
    · rename_i e; rw [if_pos e] at hw; exact hw
    · rename_i e
      rw [if_neg e] at hw
      have h1 : υ ≠ τ := by rintro rfl; rw [hτ] at hw; cases hw
      rw [if_neg h1]; exact hw
theorem get_last (Z' : List (Nat × List (List UInt8))) (p : Nat × List (List UInt8)) (j : Nat) :
    ((Z' ++ [p]).flatMap cT ++ List.replicate j AV.junk)[Z'.length * 2 + 1]?.getD .junk = .tsl p.1 p.2.length ((p.2.map mkW).flatMap cWI) := by
  have e := cT_len Z'
  rw [List.flatMap_append, List.append_assoc, List.getElem?_append_right (by omega), show Z'.length * 2 + 1 - (Z'.flatMap cT).length = 1 by omega]
  rfl
set_option maxHeartbeats 8000000 in
theorem p32 (ts : List (List UInt8)) (ns : List Int) (hr : ∀ x ∈ ns, I64 x) :
    Pu Tryd.prog 32 [.sl false ts.length (ts.map AV.str), .sl false ns.length (ns.flatMap cI)] (.sl false (mdK ts ns (min ts.length 10)).length (((mdK ts ns (min ts.length 10)).map mkR).flatMap cRI)) := by
  have q0 : True := trivial
  have q1 : True := trivial
  have q2 : True := trivial
  have q3 : True := trivial
  have q4 : True := trivial
  have hw : True := trivial
  have hw2 : True := trivial
  have hw3 : True := trivial
  have hd : True := trivial
  have hd2 : True := trivial
  have hd3 : True := trivial
  obtain ⟨n, hn⟩ : ∃ n, min ts.length 10 = n := ⟨_, rfl⟩
  rw [hn]
  have hcv := cI_len ns
  refine Pu_intro dc32 db32 (Nat.le_of_ble_eq_true rfl) fun σ => ?_
  simp only [dc32, ↓R1, RR, seval, RQ, q0, q1, q2, q3, q4, hw, hw2, hw3, hd, hd2, hd3]
  repeat' (first | (with_reducible rw [allocV_eq]) | (with_reducible refine And.intro ?_ ?_; focus (intros; (repeat' (with_reducible apply And.intro)) <;> first | omega | (simp only [RZ, cT_len, cI_len, cWI_len, List.length_replicate]; omega))) | (with_reducible apply And.intro) | ((first | (refine gdV_split (fun hc => ?_) (fun hc => ?_) <;> (try simp only [hc, ↓R1, RR, seval, RQ, q0, q1, q2, q3, q4, hw, hw2, hw3, hd, hd2, hd3])) | refine condV_split (fun hc => ?_) (fun hc => ?_) | (with_reducible intro β hβ; (try simp only [RB] at hβ); (repeat (obtain ⟨⟨_, _⟩, hβ⟩ := hβ)); (try (have hbis := apart_is (by assumption) hβ; obtain ⟨_, _⟩ := hbis))) | ((first | refine appD_tslK (.inr rfl) rfl ?_ ?_ ?_ ?_ ?_ ?_ | refine appV_tslK rfl ?_ ?_ ?_ ?_ ?_ ?_); (first | rfl | exact St.tip_same _ _ _ | simp only [↓R1, RR, seval, RQ, q0, q1, q2, q3, q4, hw, hw2, hw3, hd, hd2, hd3]); (iterate 2 (first | omega | (simp only [RZ, cT_len, cI_len, cWI_len, List.length_replicate]; first | done | omega) | rfl)); (unfold maxLen; omega); omega)) <;> (try simp only [↓R1, RR, seval, RQ, q0, q1, q2, q3, q4, hw, hw2, hw3, hd, hd2, hd3])))
  refine loopV_st (α := Nat × List (Nat × List (List UInt8)) × Nat × Nat) (fun a => [(0, .sl false ts.length (ts.map AV.str)), (1, .sl false ns.length (ns.flatMap cI)), (5, mdV a.2.1 a.2.2.1), (6, .int .i64 (a.1 : Nat))]) (fun a => mdS σ a.2.1 a.2.2.1 a.2.2.2)
    (fun a => a.1 ≤ n ∧ a.2.1.map (·.2) = mdK ts ns a.1 ∧ (a.2.1 ≠ [] → σ.box a.2.2.1 = none) ∧ ∀ p ∈ a.2.1, σ.tip p.1 = none) (fun a => n - a.1) (0, [], 0, 0) (by simp [subF, slot, wk_refl, mdV]) (St.le_refl _) ⟨by simp, rfl, by simp, by simp⟩ (fun a ha => ?_)
  obtain ⟨k, Z, b5, j⟩ := a
  obtain ⟨h1, h2, h3, h4⟩ := ha
  simp only at h1 h2 h3 h4 ⊢
  by_cases hlt : k < n
  · have q0 : decide ((k : Int) < (ts.length : Int)) = true := by rw [decide_eq_true_eq]; omega
    have q1 : decide ((k : Int) < 10) = true := by rw [decide_eq_true_eq]; omega
    have hk : k < ts.length := by omega
    have hd := strs_get ts hk
    have hw : IntKind.i64.wrap ((k : Int) + 1) = ((k + 1 : Nat) : Int) := by rw [wrap64 (by omega) (by omega)]; omega
    have hT : mdT ts k = ts[k].take 40 := by unfold mdT; rw [List.getElem?_eq_getElem hk, Option.getD_some]
    obtain ⟨s, hs⟩ : ∃ s, ts[k] = s := ⟨_, rfl⟩
    rw [hs] at hd hT
    have hA := p51 ns k
    have hI : I64 (ns[k]?.getD 0) := by
      by_cases h : k < ns.length
      · rw [List.getElem?_eq_getElem h, Option.getD_some]; exact hr _ (List.getElem_mem h)
      · rw [List.getElem?_eq_none (by omega), Option.getD_none]; unfold I64; omega
    have hM := p50 (ns[k]?.getD 0) 8 hI (by omega)
    obtain ⟨u, hu⟩ : ∃ u, s.take 40 = u := ⟨_, rfl⟩
    have hul : u.length ≤ 40 := by rw [← hu, List.length_take]; omega
    have hw2 : List.take (if (40 : Int) < (s.length : Int) then (40 : Int) else (s.length : Int)).toNat s = u := by
      rw [← hu]
      split
      · rfl
      · rw [Int.toNat_natCast, List.take_length, List.take_of_length_le (by omega)]
    rw [hu] at hT
    have hmk := make_tip [u] (by simp) (by intro t ht; simp at ht; subst ht; omega)
    obtain ⟨W1, hW1⟩ : ∃ W1, ([u].map mkW).flatMap cWI = W1 := ⟨_, rfl⟩
    have hW1l : W1.length = 3 := by rw [← hW1]; rfl
    rw [hW1] at hmk
    simp only [List.map_cons, List.map_nil, List.length_cons, List.length_nil, Nat.zero_add] at hmk
    obtain ⟨b, hb⟩ : ∃ b, decide ((ns[k]?.getD 0) % 8 < 4) = b := ⟨_, rfl⟩
    have hF : mdF ns k = b := hb
    have hK1 : mdK ts ns (k + 1) = mdStep (mdK ts ns k) b u := by show mdStep _ (mdF ns k) (mdT ts k) = _; rw [hF, hT]
    have q2 := hb
    rcases List.eq_nil_or_concat Z with rfl | ⟨Z', p, rfl⟩
    · rw [mdS_nil, show mdV [] b5 = .nils from rfl]
      have hZ : ([] : List (List (List UInt8))) = mdK ts ns k := h2
      rw [← hZ, mdStep_new _ _ _ (.inr rfl)] at hK1
      cases b
      all_goals
        simp only [q0, ↓R1, RR, seval, RQ, q0, q1, q2, q3, q4, hw, hw2, hw3, hd, hd2, hd3]
        repeat' (first | (with_reducible rw [allocV_eq]) | (with_reducible refine And.intro ?_ ?_; focus (intros; (repeat' (with_reducible apply And.intro)) <;> first | omega | (simp only [RZ, cT_len, cI_len, cWI_len, List.length_replicate]; omega))) | (with_reducible apply And.intro) | ((first | (refine gdV_split (fun hc => ?_) (fun hc => ?_) <;> (try simp only [hc, ↓R1, RR, seval, RQ, q0, q1, q2, q3, q4, hw, hw2, hw3, hd, hd2, hd3])) | refine condV_split (fun hc => ?_) (fun hc => ?_) | (with_reducible intro β hβ; (try simp only [RB] at hβ); (repeat (obtain ⟨⟨_, _⟩, hβ⟩ := hβ)); (try (have hbis := apart_is (by assumption) hβ; obtain ⟨_, _⟩ := hbis))) | ((first | refine appD_tslK (.inr rfl) rfl ?_ ?_ ?_ ?_ ?_ ?_ | refine appV_tslK rfl ?_ ?_ ?_ ?_ ?_ ?_); (first | rfl | exact St.tip_same _ _ _ | simp only [↓R1, RR, seval, RQ, q0, q1, q2, q3, q4, hw, hw2, hw3, hd, hd2, hd3]); (iterate 2 (first | omega | (simp only [RZ, cT_len, cI_len, cWI_len, List.length_replicate]; first | done | omega) | rfl)); (unfold maxLen; omega); omega) | (refine TpR.to hmk (.cons (wk_full _ _) .nil) (fun τ hτ => ?_)) | refine Pt (hA) ?_ | refine Ct (hA) ?_ | refine Pt (hM) ?_ | refine Ct (hM) ?_ | (refine appRV_nils rfl (by decide) rfl (by unfold maxLen; omega) (by omega) (fun γ j2 hγ => ?_))) <;> (try simp only [↓R1, RR, seval, RQ, q0, q1, q2, q3, q4, hw, hw2, hw3, hd, hd2, hd3])))
        have hle : St.le σ (σ.setBox β [.int .i64 0, .tsl τ 1 W1]) := St.le_new (St.le_refl _) hβ
        have hg : σ.box γ = none := none_of_le' hle (by first | exact hγ | (simpa [St.setBox, St.setTip, upd] using hγ))
        refine ⟨(k + 1, [(τ, [u])], γ, j2), ⟨by simp only; omega, by simp only [List.map_cons, List.map_nil]; rw [hK1]; rfl, fun _ => hg, ?_⟩, by simp [subF, slot, wk_refl, mdV], ?_, by simp only; omega⟩
        · intro p hp
          simp only [List.mem_singleton] at hp
          subst hp
          exact hτ
        · have e1 : mdS σ [(τ, [u])] γ j2 = (σ.setBox γ (.int .i64 0 :: .tsl τ 1 W1 :: List.replicate j2 .junk)).setTip τ (31, 3, 1) := by
            have := mdS_last σ [] (τ, [u]) γ j2
            rw [List.nil_append] at this
            rw [this]
            simp only [List.flatMap_cons, List.flatMap_nil, cT, hW1, List.length_cons, List.length_nil, List.append_nil, List.cons_append, List.nil_append, Nat.zero_add]
          show St.le (mdS σ [(τ, [u])] γ j2) _
          rw [e1]
          exact le_bt hle
    · rw [List.concat_eq_append] at h2 h3 h4 ⊢
      have hb5 := h3 (by simp)
      have hp := h4 p (by simp)
      have hZl : Z'.length + 1 ≤ 10 := by
        have h5 := (mdK_ok ts ns k).1
        have h6 := congrArg List.length h2
        simp only [List.length_map, List.length_append, List.length_cons, List.length_nil] at h6
        omega
      rw [mdS_last, mdV_last]
      obtain ⟨X, hX⟩ : ∃ X, (Z' ++ [p]).flatMap cT ++ List.replicate j .junk = X := ⟨_, rfl⟩
      rw [hX]
      cases b with
      | true =>
        simp only [q0, ↓R1, RR, seval, RQ, q0, q1, q2, q3, q4, hw, hw2, hw3, hd, hd2, hd3]
        repeat' (first | (with_reducible rw [allocV_eq]) | (with_reducible refine And.intro ?_ ?_; focus (intros; (repeat' (with_reducible apply And.intro)) <;> first | omega | (simp only [RZ, cT_len, cI_len, cWI_len, List.length_replicate]; omega))) | (with_reducible apply And.intro) | ((first | (refine gdV_split (fun hc => ?_) (fun hc => ?_) <;> (try simp only [hc, ↓R1, RR, seval, RQ, q0, q1, q2, q3, q4, hw, hw2, hw3, hd, hd2, hd3])) | refine condV_split (fun hc => ?_) (fun hc => ?_) | (with_reducible intro β hβ; (try simp only [RB] at hβ); (repeat (obtain ⟨⟨_, _⟩, hβ⟩ := hβ)); (try (have hbis := apart_is (by assumption) hβ; obtain ⟨_, _⟩ := hbis))) | ((first | refine appD_tslK (.inr rfl) rfl ?_ ?_ ?_ ?_ ?_ ?_ | refine appV_tslK rfl ?_ ?_ ?_ ?_ ?_ ?_); (first | rfl | exact St.tip_same _ _ _ | simp only [↓R1, RR, seval, RQ, q0, q1, q2, q3, q4, hw, hw2, hw3, hd, hd2, hd3]); (iterate 2 (first | omega | (simp only [RZ, cT_len, cI_len, cWI_len, List.length_replicate]; first | done | omega) | rfl)); (unfold maxLen; omega); omega) | (refine TpR.to hmk (.cons (wk_full _ _) .nil) (fun τ hτ => ?_)) | refine Pt (hA) ?_ | refine Ct (hA) ?_ | refine Pt (hM) ?_ | refine Ct (hM) ?_ | (refine appRV_row rfl (by simp only [↓R1, RR, seval, RQ, q0, q1, q2, q3, q4, hw, hw2, hw3, hd, hd2, hd3]; rfl) (by decide) ?_ rfl (by unfold maxLen; omega) (by omega) (fun γ j2 hγ => ?_))) <;> (try simp only [↓R1, RR, seval, RQ, q0, q1, q2, q3, q4, hw, hw2, hw3, hd, hd2, hd3])))
        · rw [← hX, List.length_append, cT_len, List.length_append]; simp only [List.length_cons, List.length_nil, List.length_replicate]; omega
        have hτ2 : σ.tip τ = none ∧ τ ≠ p.1 := by
          simp only [St.setBox, St.setTip, upd] at hτ
          split at hτ
          · cases hτ
          · rename_i e; exact ⟨hτ, e⟩
        have hg := le_row0 hb5 hβ γ (by first | exact hγ | (simpa [St.setBox, St.setTip, St.dropBox, upd] using hγ))
        have hXt : List.take ((Z'.length + 1) * 2) X = (Z' ++ [p]).flatMap cT := by
          rw [← hX]
          have : (Z'.length + 1) * 2 = ((Z' ++ [p]).flatMap cT).length := by rw [cT_len]; simp
          rw [this, List.take_left]
        refine ⟨(k + 1, Z' ++ [p] ++ [(τ, [u])], γ, j2), ⟨by simp only; omega, ?_, fun _ => hg, ?_⟩, by have e := mdV_last (Z' ++ [p]) (τ, [u]) γ; rw [List.length_append] at e; simp only [e]; simp [subF, slot, wk_refl], ?_, by simp only; omega⟩
        · show ((Z' ++ [p]) ++ [(τ, [u])]).map (·.2) = _
          rw [hK1, mdStep_new _ _ _ (.inl rfl), List.map_append, h2]; rfl
        · intro q hq
          rcases List.mem_append.1 hq with hq | hq
          · exact h4 q hq
          · simp only [List.mem_singleton] at hq
            subst hq
            exact hτ2.1
        · have e1 : mdS σ (Z' ++ [p] ++ [(τ, [u])]) γ j2 = (σ.setBox γ (List.take ((Z'.length + 1) * 2) X ++ [.int .i64 0, .tsl τ 1 W1] ++ List.replicate j2 .junk)).setTip τ (31, 3, 1) := by
            rw [mdS_last, hXt]
            simp only [List.flatMap_append, List.flatMap_cons, List.flatMap_nil, cT, hW1, List.length_cons, List.length_nil, List.append_nil, List.cons_append, List.nil_append, Nat.zero_add]
          show St.le (mdS σ (Z' ++ [p] ++ [(τ, [u])]) γ j2) _
          rw [e1]
          exact le_row hb5 hβ hp
      | false =>
        have q3 : (((Z'.length + 1 : Nat) : Int) == 0) = false := by rw [beq_eq_false_iff_ne]; omega
        have hw3 : IntKind.i64.wrap (((Z'.length + 1 : Nat) : Int) - 1) = ((Z'.length : Nat) : Int) := by rw [wrap64 (by omega) (by omega)]; omega
        have hXl : X.length = (Z'.length + 1) * 2 + j := by rw [← hX, List.length_append, cT_len, List.length_append]; simp
        have hd2 : X[Z'.length * 2 + 1]?.getD .junk = .tsl p.1 p.2.length ((p.2.map mkW).flatMap cWI) := by rw [← hX]; exact get_last Z' p j
        have hpl : ((p.2.map mkW).flatMap cWI).length = p.2.length * 3 := by rw [cWI_len, List.length_map]
        have hp10 : p.2.length ≤ 10 := by
          have h5 := ((mdK_ok ts ns k).2 p.2 (by rw [← h2]; simp)).2.1
          omega
        simp only [q0, ↓R1, RR, seval, RQ, q0, q1, q2, q3, q4, hw, hw2, hw3, hd, hd2, hd3]
        repeat' (first | (with_reducible rw [allocV_eq]) | (with_reducible refine And.intro ?_ ?_; focus (intros; (repeat' (with_reducible apply And.intro)) <;> first | omega | (simp only [RZ, cT_len, cI_len, cWI_len, List.length_replicate]; omega))) | (with_reducible apply And.intro) | ((first | (refine gdV_split (fun hc => ?_) (fun hc => ?_) <;> (try simp only [hc, ↓R1, RR, seval, RQ, q0, q1, q2, q3, q4, hw, hw2, hw3, hd, hd2, hd3])) | refine condV_split (fun hc => ?_) (fun hc => ?_) | (with_reducible intro β hβ; (try simp only [RB] at hβ); (repeat (obtain ⟨⟨_, _⟩, hβ⟩ := hβ)); (try (have hbis := apart_is (by assumption) hβ; obtain ⟨_, _⟩ := hbis))) | ((first | refine appD_tslK (.inr rfl) rfl ?_ ?_ ?_ ?_ ?_ ?_ | refine appV_tslK rfl ?_ ?_ ?_ ?_ ?_ ?_); (first | rfl | exact St.tip_same _ _ _ | simp only [↓R1, RR, seval, RQ, q0, q1, q2, q3, q4, hw, hw2, hw3, hd, hd2, hd3]); (iterate 2 (first | omega | (simp only [RZ, cT_len, cI_len, cWI_len, List.length_replicate]; first | done | omega) | rfl)); (unfold maxLen; omega); omega) | (refine TpR.to hmk (.cons (wk_full _ _) .nil) (fun τ hτ => ?_)) | refine Pt (hA) ?_ | refine Ct (hA) ?_ | refine Pt (hM) ?_ | refine Ct (hM) ?_ | (refine appD_tslK (.inr rfl) rfl (tip_two hτ) hpl (by rw [hW1l]) (by unfold maxLen; omega) (by omega) ?_)) <;> (try simp only [↓R1, RR, seval, RQ, q0, q1, q2, q3, q4, hw, hw2, hw3, hd, hd2, hd3])))
        have hX2 := set_last Z' p (p.1, p.2 ++ [u]) j
        have hc2 : (((p.2 ++ [u]).map mkW).flatMap cWI) = (p.2.map mkW).flatMap cWI ++ W1 := by rw [← hW1]; simp
        rw [hX, hc2, List.length_append, List.length_cons, List.length_nil] at hX2
        simp only [Nat.zero_add] at hX2
        rw [hX2]
        have hne : β ≠ b5 := Apart.ne
        have hlen : (Z' ++ [(p.1, p.2 ++ [u])]).length = Z'.length + 1 := by simp
        refine ⟨(k + 1, Z' ++ [(p.1, p.2 ++ [u])], b5, j), ⟨by simp only; omega, ?_, fun _ => hb5, ?_⟩, by simp only [mdV_last]; simp [subF, slot, wk_refl], ?_, by simp only; omega⟩
        · show (Z' ++ [(p.1, p.2 ++ [u])]).map (·.2) = _
          rw [hK1, ← h2, List.map_append, List.map_append]
          exact (mdStep_last (Z'.map (·.2)) p.2 u).symm
        · intro q hq
          rcases List.mem_append.1 hq with hq | hq
          · exact h4 q (List.mem_append_left _ hq)
          · simp only [List.mem_singleton] at hq
            subst hq
            exact hp
        · show St.le (mdS σ (Z' ++ [(p.1, p.2 ++ [u])]) b5 j) _
          rw [mdS_last]
          simp only [List.length_append, List.length_cons, List.length_nil, Nat.zero_add]
          exact le_row3 hβ hne hτ
  · have hke : k = n := by omega
    subst hke
    rcases (by omega : ts.length ≤ k ∨ (k < ts.length ∧ 10 ≤ k)) with hc | hc
    · have q0 : decide ((k : Int) < (ts.length : Int)) = false := by rw [decide_eq_false_iff_not]; omega
      rcases List.eq_nil_or_concat Z with rfl | ⟨Z', p, rfl⟩
      · rw [mdS_nil, show mdV [] b5 = .nils from rfl]
        have hZ : ([] : List (List (List UInt8))) = mdK ts ns k := h2
        rw [← hZ]
        simp only [q0, ↓R1, RR, seval, RQ, q0, q1, q2, q3, q4, hw, hw2, hw3, hd, hd2, hd3]
        repeat' (first | (with_reducible rw [allocV_eq]) | (with_reducible refine And.intro ?_ ?_; focus (intros; (repeat' (with_reducible apply And.intro)) <;> first | omega | (simp only [RZ, cT_len, cI_len, cWI_len, List.length_replicate]; omega))) | (with_reducible apply And.intro) | ((first | (refine gdV_split (fun hc => ?_) (fun hc => ?_) <;> (try simp only [hc, ↓R1, RR, seval, RQ, q0, q1, q2, q3, q4, hw, hw2, hw3, hd, hd2, hd3])) | refine condV_split (fun hc => ?_) (fun hc => ?_) | (with_reducible intro β hβ; (try simp only [RB] at hβ); (repeat (obtain ⟨⟨_, _⟩, hβ⟩ := hβ)); (try (have hbis := apart_is (by assumption) hβ; obtain ⟨_, _⟩ := hbis))) | ((first | refine appD_tslK (.inr rfl) rfl ?_ ?_ ?_ ?_ ?_ ?_ | refine appV_tslK rfl ?_ ?_ ?_ ?_ ?_ ?_); (first | rfl | exact St.tip_same _ _ _ | simp only [↓R1, RR, seval, RQ, q0, q1, q2, q3, q4, hw, hw2, hw3, hd, hd2, hd3]); (iterate 2 (first | omega | (simp only [RZ, cT_len, cI_len, cWI_len, List.length_replicate]; first | done | omega) | rfl)); (unfold maxLen; omega); omega)) <;> (try simp only [↓R1, RR, seval, RQ, q0, q1, q2, q3, q4, hw, hw2, hw3, hd, hd2, hd3])))
        rw [aC_frz, show frzS 5 2 _ _ = none from rfl, frzV_none]
        simp only [↓R1, RR, seval, RQ, q0, q1, q2, q3, q4, hw, hw2, hw3, hd, hd2, hd3]
        repeat' (first | (with_reducible rw [allocV_eq]) | (with_reducible refine And.intro ?_ ?_; focus (intros; (repeat' (with_reducible apply And.intro)) <;> first | omega | (simp only [RZ, cT_len, cI_len, cWI_len, List.length_replicate]; omega))) | (with_reducible apply And.intro) | ((first | (refine gdV_split (fun hc => ?_) (fun hc => ?_) <;> (try simp only [hc, ↓R1, RR, seval, RQ, q0, q1, q2, q3, q4, hw, hw2, hw3, hd, hd2, hd3])) | refine condV_split (fun hc => ?_) (fun hc => ?_) | (with_reducible intro β hβ; (try simp only [RB] at hβ); (repeat (obtain ⟨⟨_, _⟩, hβ⟩ := hβ)); (try (have hbis := apart_is (by assumption) hβ; obtain ⟨_, _⟩ := hbis))) | ((first | refine appD_tslK (.inr rfl) rfl ?_ ?_ ?_ ?_ ?_ ?_ | refine appV_tslK rfl ?_ ?_ ?_ ?_ ?_ ?_); (first | rfl | exact St.tip_same _ _ _ | simp only [↓R1, RR, seval, RQ, q0, q1, q2, q3, q4, hw, hw2, hw3, hd, hd2, hd3]); (iterate 2 (first | omega | (simp only [RZ, cT_len, cI_len, cWI_len, List.length_replicate]; first | done | omega) | rfl)); (unfold maxLen; omega); omega)) <;> (try simp only [↓R1, RR, seval, RQ, q0, q1, q2, q3, q4, hw, hw2, hw3, hd, hd2, hd3])))
        (refine endP_pu (by simp) (by first | (simp [rvsS, rvS]; done) | (simp only [rvsS, rvS, ↓R1, RR, seval, RQ, q0, q1, q2, q3, q4, hw, hw2, hw3, hd, hd2, hd3]; try simp)) ?_ (by (repeat (first | exact St.le_refl _ | (refine St.le_new ?_ (by assumption)) | (refine St.le_newT ?_ (by assumption))))))
        simp only [resAV, rvV, List.map_cons, List.map_nil, ↓R1, RR, seval, RQ, q0, q1, q2, q3, q4, hw, hw2, hw3, hd, hd2, hd3]
        (repeat' (first | exact wk_refl _ | exact wk_nils | exact wk_tsl _ _ _ | exact wk_full _ _ | exact wkL.nil | exact wkL_refl _ | refine wk_tup ?_ | refine wk_agg ?_ | refine wkL.cons ?_ ?_))
      · rw [List.concat_eq_append] at h2 h3 h4 ⊢
        have hb5 := h3 (by simp)
        have hp := h4 p (by simp)
        have hcT := cT_len (Z' ++ [p])
        rw [List.length_append, List.length_cons, List.length_nil] at hcT
        rw [mdS_last, mdV_last]
        simp only [q0, ↓R1, RR, seval, RQ, q0, q1, q2, q3, q4, hw, hw2, hw3, hd, hd2, hd3]
        repeat' (first | (with_reducible rw [allocV_eq]) | (with_reducible refine And.intro ?_ ?_; focus (intros; (repeat' (with_reducible apply And.intro)) <;> first | omega | (simp only [RZ, cT_len, cI_len, cWI_len, List.length_replicate]; omega))) | (with_reducible apply And.intro) | ((first | (refine gdV_split (fun hc => ?_) (fun hc => ?_) <;> (try simp only [hc, ↓R1, RR, seval, RQ, q0, q1, q2, q3, q4, hw, hw2, hw3, hd, hd2, hd3])) | refine condV_split (fun hc => ?_) (fun hc => ?_) | (with_reducible intro β hβ; (try simp only [RB] at hβ); (repeat (obtain ⟨⟨_, _⟩, hβ⟩ := hβ)); (try (have hbis := apart_is (by assumption) hβ; obtain ⟨_, _⟩ := hbis))) | ((first | refine appD_tslK (.inr rfl) rfl ?_ ?_ ?_ ?_ ?_ ?_ | refine appV_tslK rfl ?_ ?_ ?_ ?_ ?_ ?_); (first | rfl | exact St.tip_same _ _ _ | simp only [↓R1, RR, seval, RQ, q0, q1, q2, q3, q4, hw, hw2, hw3, hd, hd2, hd3]); (iterate 2 (first | omega | (simp only [RZ, cT_len, cI_len, cWI_len, List.length_replicate]; first | done | omega) | rfl)); (unfold maxLen; omega); omega)) <;> (try simp only [↓R1, RR, seval, RQ, q0, q1, q2, q3, q4, hw, hw2, hw3, hd, hd2, hd3])))
        rw [aC_frz, frzS_row (n := Z'.length + 1) (cs := (Z' ++ [p]).flatMap cT ++ List.replicate j .junk) rfl (by simp [St.setBox, St.setTip, upd]) (by rw [List.length_append, hcT]; omega), frzV_some]
        simp only [↓R1, RR, seval, RQ, q0, q1, q2, q3, q4, hw, hw2, hw3, hd, hd2, hd3]
        repeat' (first | (with_reducible rw [allocV_eq]) | (with_reducible refine And.intro ?_ ?_; focus (intros; (repeat' (with_reducible apply And.intro)) <;> first | omega | (simp only [RZ, cT_len, cI_len, cWI_len, List.length_replicate]; omega))) | (with_reducible apply And.intro) | ((first | (refine gdV_split (fun hc => ?_) (fun hc => ?_) <;> (try simp only [hc, ↓R1, RR, seval, RQ, q0, q1, q2, q3, q4, hw, hw2, hw3, hd, hd2, hd3])) | refine condV_split (fun hc => ?_) (fun hc => ?_) | (with_reducible intro β hβ; (try simp only [RB] at hβ); (repeat (obtain ⟨⟨_, _⟩, hβ⟩ := hβ)); (try (have hbis := apart_is (by assumption) hβ; obtain ⟨_, _⟩ := hbis))) | ((first | refine appD_tslK (.inr rfl) rfl ?_ ?_ ?_ ?_ ?_ ?_ | refine appV_tslK rfl ?_ ?_ ?_ ?_ ?_ ?_); (first | rfl | exact St.tip_same _ _ _ | simp only [↓R1, RR, seval, RQ, q0, q1, q2, q3, q4, hw, hw2, hw3, hd, hd2, hd3]); (iterate 2 (first | omega | (simp only [RZ, cT_len, cI_len, cWI_len, List.length_replicate]; first | done | omega) | rfl)); (unfold maxLen; omega); omega)) <;> (try simp only [↓R1, RR, seval, RQ, q0, q1, q2, q3, q4, hw, hw2, hw3, hd, hd2, hd3])))
        refine endP_pu (by simp) (by first | (simp [rvsS, rvS]; done) | (simp only [rvsS, rvS, ↓R1, RR, seval, RQ, q0, q1, q2, q3, q4, hw, hw2, hw3, hd, hd2, hd3]; try simp)) ?_ (le_end hb5 hp)
        simp only [resAV, rvV, List.map_cons, List.map_nil, ↓R1, RR, seval, RQ, q0, q1, q2, q3, q4, hw, hw2, hw3, hd, hd2, hd3]
        rw [← h2, List.length_map, List.length_append, show (Z'.length + 1) * 2 = ((Z' ++ [p]).flatMap cT).length from hcT.symm, List.take_left]
        exact wk_sl (cT_wk (Z' ++ [p]))
    · have q0 : decide ((k : Int) < (ts.length : Int)) = true := by rw [decide_eq_true_eq]; omega
      have q1 : decide ((k : Int) < 10) = false := by rw [decide_eq_false_iff_not]; omega
      rcases List.eq_nil_or_concat Z with rfl | ⟨Z', p, rfl⟩
      · rw [mdS_nil, show mdV [] b5 = .nils from rfl]
        have hZ : ([] : List (List (List UInt8))) = mdK ts ns k := h2
        rw [← hZ]
        simp only [q0, ↓R1, RR, seval, RQ, q0, q1, q2, q3, q4, hw, hw2, hw3, hd, hd2, hd3]
        repeat' (first | (with_reducible rw [allocV_eq]) | (with_reducible refine And.intro ?_ ?_; focus (intros; (repeat' (with_reducible apply And.intro)) <;> first | omega | (simp only [RZ, cT_len, cI_len, cWI_len, List.length_replicate]; omega))) | (with_reducible apply And.intro) | ((first | (refine gdV_split (fun hc => ?_) (fun hc => ?_) <;> (try simp only [hc, ↓R1, RR, seval, RQ, q0, q1, q2, q3, q4, hw, hw2, hw3, hd, hd2, hd3])) | refine condV_split (fun hc => ?_) (fun hc => ?_) | (with_reducible intro β hβ; (try simp only [RB] at hβ); (repeat (obtain ⟨⟨_, _⟩, hβ⟩ := hβ)); (try (have hbis := apart_is (by assumption) hβ; obtain ⟨_, _⟩ := hbis))) | ((first | refine appD_tslK (.inr rfl) rfl ?_ ?_ ?_ ?_ ?_ ?_ | refine appV_tslK rfl ?_ ?_ ?_ ?_ ?_ ?_); (first | rfl | exact St.tip_same _ _ _ | simp only [↓R1, RR, seval, RQ, q0, q1, q2, q3, q4, hw, hw2, hw3, hd, hd2, hd3]); (iterate 2 (first | omega | (simp only [RZ, cT_len, cI_len, cWI_len, List.length_replicate]; first | done | omega) | rfl)); (unfold maxLen; omega); omega)) <;> (try simp only [↓R1, RR, seval, RQ, q0, q1, q2, q3, q4, hw, hw2, hw3, hd, hd2, hd3])))
        rw [aC_frz, show frzS 5 2 _ _ = none from rfl, frzV_none]
        simp only [↓R1, RR, seval, RQ, q0, q1, q2, q3, q4, hw, hw2, hw3, hd, hd2, hd3]
        repeat' (first | (with_reducible rw [allocV_eq]) | (with_reducible refine And.intro ?_ ?_; focus (intros; (repeat' (with_reducible apply And.intro)) <;> first | omega | (simp only [RZ, cT_len, cI_len, cWI_len, List.length_replicate]; omega))) | (with_reducible apply And.intro) | ((first | (refine gdV_split (fun hc => ?_) (fun hc => ?_) <;> (try simp only [hc, ↓R1, RR, seval, RQ, q0, q1, q2, q3, q4, hw, hw2, hw3, hd, hd2, hd3])) | refine condV_split (fun hc => ?_) (fun hc => ?_) | (with_reducible intro β hβ; (try simp only [RB] at hβ); (repeat (obtain ⟨⟨_, _⟩, hβ⟩ := hβ)); (try (have hbis := apart_is (by assumption) hβ; obtain ⟨_, _⟩ := hbis))) | ((first | refine appD_tslK (.inr rfl) rfl ?_ ?_ ?_ ?_ ?_ ?_ | refine appV_tslK rfl ?_ ?_ ?_ ?_ ?_ ?_); (first | rfl | exact St.tip_same _ _ _ | simp only [↓R1, RR, seval, RQ, q0, q1, q2, q3, q4, hw, hw2, hw3, hd, hd2, hd3]); (iterate 2 (first | omega | (simp only [RZ, cT_len, cI_len, cWI_len, List.length_replicate]; first | done | omega) | rfl)); (unfold maxLen; omega); omega)) <;> (try simp only [↓R1, RR, seval, RQ, q0, q1, q2, q3, q4, hw, hw2, hw3, hd, hd2, hd3])))
        (refine endP_pu (by simp) (by first | (simp [rvsS, rvS]; done) | (simp only [rvsS, rvS, ↓R1, RR, seval, RQ, q0, q1, q2, q3, q4, hw, hw2, hw3, hd, hd2, hd3]; try simp)) ?_ (by (repeat (first | exact St.le_refl _ | (refine St.le_new ?_ (by assumption)) | (refine St.le_newT ?_ (by assumption))))))
        simp only [resAV, rvV, List.map_cons, List.map_nil, ↓R1, RR, seval, RQ, q0, q1, q2, q3, q4, hw, hw2, hw3, hd, hd2, hd3]
        (repeat' (first | exact wk_refl _ | exact wk_nils | exact wk_tsl _ _ _ | exact wk_full _ _ | exact wkL.nil | exact wkL_refl _ | refine wk_tup ?_ | refine wk_agg ?_ | refine wkL.cons ?_ ?_))
      · rw [List.concat_eq_append] at h2 h3 h4 ⊢
        have hb5 := h3 (by simp)
        have hp := h4 p (by simp)
        have hcT := cT_len (Z' ++ [p])
        rw [List.length_append, List.length_cons, List.length_nil] at hcT
        rw [mdS_last, mdV_last]
        simp only [q0, ↓R1, RR, seval, RQ, q0, q1, q2, q3, q4, hw, hw2, hw3, hd, hd2, hd3]
        repeat' (first | (with_reducible rw [allocV_eq]) | (with_reducible refine And.intro ?_ ?_; focus (intros; (repeat' (with_reducible apply And.intro)) <;> first | omega | (simp only [RZ, cT_len, cI_len, cWI_len, List.length_replicate]; omega))) | (with_reducible apply And.intro) | ((first | (refine gdV_split (fun hc => ?_) (fun hc => ?_) <;> (try simp only [hc, ↓R1, RR, seval, RQ, q0, q1, q2, q3, q4, hw, hw2, hw3, hd, hd2, hd3])) | refine condV_split (fun hc => ?_) (fun hc => ?_) | (with_reducible intro β hβ; (try simp only [RB] at hβ); (repeat (obtain ⟨⟨_, _⟩, hβ⟩ := hβ)); (try (have hbis := apart_is (by assumption) hβ; obtain ⟨_, _⟩ := hbis))) | ((first | refine appD_tslK (.inr rfl) rfl ?_ ?_ ?_ ?_ ?_ ?_ | refine appV_tslK rfl ?_ ?_ ?_ ?_ ?_ ?_); (first | rfl | exact St.tip_same _ _ _ | simp only [↓R1, RR, seval, RQ, q0, q1, q2, q3, q4, hw, hw2, hw3, hd, hd2, hd3]); (iterate 2 (first | omega | (simp only [RZ, cT_len, cI_len, cWI_len, List.length_replicate]; first | done | omega) | rfl)); (unfold maxLen; omega); omega)) <;> (try simp only [↓R1, RR, seval, RQ, q0, q1, q2, q3, q4, hw, hw2, hw3, hd, hd2, hd3])))
        rw [aC_frz, frzS_row (n := Z'.length + 1) (cs := (Z' ++ [p]).flatMap cT ++ List.replicate j .junk) rfl (by simp [St.setBox, St.setTip, upd]) (by rw [List.length_append, hcT]; omega), frzV_some]
        simp only [↓R1, RR, seval, RQ, q0, q1, q2, q3, q4, hw, hw2, hw3, hd, hd2, hd3]
        repeat' (first | (with_reducible rw [allocV_eq]) | (with_reducible refine And.intro ?_ ?_; focus (intros; (repeat' (with_reducible apply And.intro)) <;> first | omega | (simp only [RZ, cT_len, cI_len, cWI_len, List.length_replicate]; omega))) | (with_reducible apply And.intro) | ((first | (refine gdV_split (fun hc => ?_) (fun hc => ?_) <;> (try simp only [hc, ↓R1, RR, seval, RQ, q0, q1, q2, q3, q4, hw, hw2, hw3, hd, hd2, hd3])) | refine condV_split (fun hc => ?_) (fun hc => ?_) | (with_reducible intro β hβ; (try simp only [RB] at hβ); (repeat (obtain ⟨⟨_, _⟩, hβ⟩ := hβ)); (try (have hbis := apart_is (by assumption) hβ; obtain ⟨_, _⟩ := hbis))) | ((first | refine appD_tslK (.inr rfl) rfl ?_ ?_ ?_ ?_ ?_ ?_ | refine appV_tslK rfl ?_ ?_ ?_ ?_ ?_ ?_); (first | rfl | exact St.tip_same _ _ _ | simp only [↓R1, RR, seval, RQ, q0, q1, q2, q3, q4, hw, hw2, hw3, hd, hd2, hd3]); (iterate 2 (first | omega | (simp only [RZ, cT_len, cI_len, cWI_len, List.length_replicate]; first | done | omega) | rfl)); (unfold maxLen; omega); omega)) <;> (try simp only [↓R1, RR, seval, RQ, q0, q1, q2, q3, q4, hw, hw2, hw3, hd, hd2, hd3])))
        refine endP_pu (by simp) (by first | (simp [rvsS, rvS]; done) | (simp only [rvsS, rvS, ↓R1, RR, seval, RQ, q0, q1, q2, q3, q4, hw, hw2, hw3, hd, hd2, hd3]; try simp)) ?_ (le_end hb5 hp)
        simp only [resAV, rvV, List.map_cons, List.map_nil, ↓R1, RR, seval, RQ, q0, q1, q2, q3, q4, hw, hw2, hw3, hd, hd2, hd3]
        rw [← h2, List.length_map, List.length_append, show (Z'.length + 1) * 2 = ((Z' ++ [p]).flatMap cT).length from hcT.symm, List.take_left]
        exact wk_sl (cT_wk (Z' ++ [p]))
end Go.Proofs.YtemddijemikleaaDoor
namespace Go.Proofs.YtemddijemikleaaDoor
open Go.Abs
set_option linter.all false
set_option maxRecDepth 100000
def cWd (w : Wd) : List AV := [.bool w.q, .str w.t, .int .i64 (w.a : Nat)]
theorem cWd_len (l : List Wd) : (l.flatMap cWd).length = l.length * 3 := flat_len (f := cWd) (fun _ => rfl) l
def lV (τ : Nat) : List Wd → AV
  | [] => .nils
  | p => .tsl τ p.length (p.flatMap cWd)
def lT (σ : St) (τ : Nat) : List Wd → St
  | [] => σ
  | p => σ.setTip τ (31, 3, p.length)
theorem lT_box (σ : St) (τ : Nat) (p : List Wd) : (lT σ τ p).box = σ.box := by cases p <;> rfl
theorem lT_set (σ : St) (τ : Nat) (p : List Wd) (u : Nat) (c : List AV) : (lT σ τ p).setBox u c = lT (σ.setBox u c) τ p := by cases p <;> rfl
theorem lV_app {P : Program} {Y : St} {K : AV → St → Prop} {τ : Nat} {pre : List Wd} {w : Wd} {h : Hold (lT Y τ pre, K)} (hl : pre.length ≤ 1000000) (hY : pre ≠ [] → Y.tip τ = none)
    (hK : ∀ τ', Y.tip τ' = none → K (lV τ' (pre ++ [w])) (lT Y τ' (pre ++ [w]))) : appV true 31 3 32 (lV τ pre) (.sl true 1 (cWd w)) (lT Y τ pre) K h := by
  cases pre with
  | nil =>
    refine appV_tip (n := 0) (cs := []) rfl trivial rfl rfl rfl ?_ ?_ (fun τ' hτ' => ?_)
    · unfold maxLen; decide
    · decide
    · exact hK τ' hτ'
  | cons x p =>
    have h1 := cWd_len (x :: p)
    simp only [List.length_cons] at hl h1
    refine appV_tslK rfl ?_ ?_ rfl ?_ ?_ ?_
    · simp [lT, St.setTip, upd]
    · simpa using h1
    · unfold maxLen; simp; omega
    · simp; omega
    · have := hK τ (hY (by simp))
      have e1 : (x :: p).flatMap cWd ++ cWd w = ((x :: p) ++ [w]).flatMap cWd := by simp
      have e2 : lT (lT Y τ (x :: p)) τ ((x :: p) ++ [w]) = lT Y τ ((x :: p) ++ [w]) := St.setTip_setTip _ _ _ _
      have e3 : (x :: p).length + 1 = ((x :: p) ++ [w]).length := by simp
      rw [e1, e3]
      rw [← e2] at this
      exact this
theorem lT_le {s s' : St} (h : St.le s s') (τ : Nat) (p : List Wd) : St.le (lT s τ p) (lT s' τ p) := by
  cases p with
  | nil => exact h
  | cons x p => exact St.le_setTc h
def WordsR (σ : St) (o : Except Nat (List Wd)) (r : AV) (s : St) : Prop :=
  match o with
  | .error b => r = .tup [.nils, .int .i64 (b : Nat), .bool false] ∧ s = σ
  | .ok ws => ∃ τ, (ws ≠ [] → σ.tip τ = none) ∧ r = .tup [lV τ ws, .int .i64 0, .bool true] ∧ s = lT σ τ ws
set_option maxHeartbeats 4000000 in
theorem a_words (σ : St) (l : List UInt8) (hl : l.length ≤ 1000000) : AC Tryd.prog 48 [.str l] σ (WordsR σ (wordsS l)) := by
  have hc1 : True := trivial
  have q1 : True := trivial
  have q2 : True := trivial
  have q3 : True := trivial
  have hw : True := trivial
  (refine AC_intro c48 b48 (Nat.le_of_ble_eq_true rfl) ?_; simp only [c48, ↓R1, RR, Nat.reduceEqDiff, Nat.reduceAdd, Nat.reduceMul, Nat.reduceSub, Nat.reduceLeDiff, Nat.reduceLT, reduceIte, reduceCtorEq, Int.reduceBNe, Int.reduceBEq, u8_35, hc1, q1, q2, q3, hw])
  repeat' (first | (with_reducible rw [allocV_eq]) | (with_reducible refine And.intro ?_ ?_; focus (intros; (repeat' (with_reducible apply And.intro)) <;> first | omega | (simp only [RZ, cWd_len]; omega))) | (with_reducible apply And.intro) | ((first | (refine gdV_split (fun hc => ?_) (fun hc => ?_) <;> (try simp only [hc, ↓R1, RR, Nat.reduceEqDiff, Nat.reduceAdd, Nat.reduceMul, Nat.reduceSub, Nat.reduceLeDiff, Nat.reduceLT, reduceIte, reduceCtorEq, Int.reduceBNe, Int.reduceBEq, u8_35, hc1, q1, q2, q3, hw])) | refine condV_split (fun hc => ?_) (fun hc => ?_) | (with_reducible intro β hβ; (try simp only [RB] at hβ); (repeat (obtain ⟨⟨_, _⟩, hβ⟩ := hβ)); (try (have hbis := apart_is (by assumption) hβ; obtain ⟨_, _⟩ := hbis)))) <;> (try simp only [↓R1, RR, Nat.reduceEqDiff, Nat.reduceAdd, Nat.reduceMul, Nat.reduceSub, Nat.reduceLeDiff, Nat.reduceLT, reduceIte, reduceCtorEq, Int.reduceBNe, Int.reduceBEq, u8_35, hc1, q1, q2, q3, hw])))
  refine (AC.wk (a_skip (k := 0) (l := l) (by simp only [↓R1, RR, Nat.reduceEqDiff, Nat.reduceAdd, Nat.reduceMul, Nat.reduceSub, Nat.reduceLeDiff, Nat.reduceLT, reduceIte, reduceCtorEq, Int.reduceBNe, Int.reduceBEq, u8_35, hc1, q1, q2, q3, hw]; rfl) (Nat.zero_le _) hl) (wkL_refl _)).mono ?_
  rintro _ _ ⟨rfl, rfl⟩
  rw [List.drop_zero]
  simp only [↓R1, RR, Nat.reduceEqDiff, Nat.reduceAdd, Nat.reduceMul, Nat.reduceSub, Nat.reduceLeDiff, Nat.reduceLT, reduceIte, reduceCtorEq, Int.reduceBNe, Int.reduceBEq, u8_35, hc1, q1, q2, q3, hw]
  revert hβ
  revert β
  intro u hu
  have hz : posOf l (l.dropWhile isBlank) ≤ l.length := by simp [posOf]
  have hz2 : l.drop (posOf l (l.dropWhile isBlank)) = l.dropWhile isBlank := (drop_pos (List.dropWhile_suffix _)).1
  refine loopV_st (α := Nat × Nat × List Wd) (fun z => [(2, lV z.2.1 z.2.2), (5, .ptr u 0)]) (fun z => lT (σ.setBox u [.str l, .int .i64 (z.1 : Nat)]) z.2.1 z.2.2)
    (fun z => z.1 ≤ l.length ∧ (z.2.2 ≠ [] → σ.tip z.2.1 = none) ∧ z.2.2.length ≤ z.1 ∧ (l.drop z.1).dropWhile isBlank = l.drop z.1 ∧ wordsS l = preE z.2.2 (wordsR (l.drop z.1) z.1)) (fun z => l.length - z.1) (posOf l (l.dropWhile isBlank), 0, [])
    (by simp [subF, slot, wk_refl, lV]) (by simp only [↓R1, RR, Nat.reduceEqDiff, Nat.reduceAdd, Nat.reduceMul, Nat.reduceSub, Nat.reduceLeDiff, Nat.reduceLT, reduceIte, reduceCtorEq, Int.reduceBNe, Int.reduceBEq, u8_35, hc1, q1, q2, q3, hw]; exact St.le_refl _) ⟨hz, (fun h => absurd rfl h), Nat.zero_le _, (by rw [hz2, dropWhile_idem]), (by rw [preE_nil, hz2, wordsS, wordsR_skip, Nat.zero_add]; rfl)⟩ ?_
  rintro ⟨i, τ, pre⟩ ⟨hi, hτ, hlen, hdw, hI⟩
  simp only at hi hτ hlen hdw hI
  have hbS : ∀ (i : Nat) τ pre, (lT (σ.setBox u [.str l, .int .i64 i]) τ pre).box u = some [.str l, .int .i64 i] := fun i τ pre => by rw [lT_box]; simp only [↓R1, RR, Nat.reduceEqDiff, Nat.reduceAdd, Nat.reduceMul, Nat.reduceSub, Nat.reduceLeDiff, Nat.reduceLT, reduceIte, reduceCtorEq, Int.reduceBNe, Int.reduceBEq, u8_35, hc1, q1, q2, q3, hw]
  have hset : ∀ (i j : Nat) τ pre, (lT (σ.setBox u [.str l, .int .i64 i]) τ pre).setBox u [.str l, .int .i64 j] = lT (σ.setBox u [.str l, .int .i64 j]) τ pre := fun i j τ pre => by rw [lT_set]; simp only [↓R1, RR, Nat.reduceEqDiff, Nat.reduceAdd, Nat.reduceMul, Nat.reduceSub, Nat.reduceLeDiff, Nat.reduceLT, reduceIte, reduceCtorEq, Int.reduceBNe, Int.reduceBEq, u8_35, hc1, q1, q2, q3, hw]
  have fin : ∀ (i : Nat), wordsS l = .ok pre → WordsR σ (wordsS l) (.tup [lV τ pre, .int .i64 0, .bool true]) (lT σ τ pre) := fun i h => by rw [h]; exact ⟨τ, hτ, rfl, rfl⟩
  have hle : ∀ (i : Nat), St.le (lT σ τ pre) (lT (σ.setBox u [.str l, .int .i64 i]) τ pre) := fun i => by
    rw [← lT_set]; exact St.le_setBox (St.le_refl _) (by rw [lT_box]; exact hu)
  have hle0 : ∀ (i : Nat), St.le σ (lT (σ.setBox u [.str l, .int .i64 i]) τ pre) := fun i => by
    have h1 : St.le σ (σ.setBox u [.str l, .int .i64 i]) := St.le_setBox (St.le_refl _) hu
    cases pre with
    | nil => exact h1
    | cons x p => exact St.le_setTip h1 (hτ (by simp))
  simp only [↓R1, RR, Nat.reduceEqDiff, Nat.reduceAdd, Nat.reduceMul, Nat.reduceSub, Nat.reduceLeDiff, Nat.reduceLT, reduceIte, reduceCtorEq, Int.reduceBNe, Int.reduceBEq, u8_35, hc1, q1, q2, q3, hw]
  have a1 := a_left (hbS i τ pre)
  have q3 := hbS i τ pre
  rcases drop_cases l i hi with ⟨hd, he⟩ | ⟨c, r, hd, hlt⟩
  · have hc1 : decide ((i : Int) < (l.length : Int)) = false := by simp; omega
    have hok : wordsS l = .ok pre := by rw [hI, hd, wordsR_eq]; simp [preE]
    repeat' (first | (with_reducible rw [allocV_eq]) | (with_reducible refine And.intro ?_ ?_; focus (intros; (repeat' (with_reducible apply And.intro)) <;> first | omega | (simp only [RZ, cWd_len]; omega))) | (with_reducible apply And.intro) | ((first | (refine gdV_split (fun hc => ?_) (fun hc => ?_) <;> (try simp only [hc, ↓R1, RR, Nat.reduceEqDiff, Nat.reduceAdd, Nat.reduceMul, Nat.reduceSub, Nat.reduceLeDiff, Nat.reduceLT, reduceIte, reduceCtorEq, Int.reduceBNe, Int.reduceBEq, u8_35, hc1, q1, q2, q3, hw])) | refine condV_split (fun hc => ?_) (fun hc => ?_) | (with_reducible intro β hβ; (try simp only [RB] at hβ); (repeat (obtain ⟨⟨_, _⟩, hβ⟩ := hβ)); (try (have hbis := apart_is (by assumption) hβ; obtain ⟨_, _⟩ := hbis))) | (refine AC.mono (AC.wk (a1) (wkL_refl _)) ?_; (rintro _ _ ⟨rfl, rfl⟩))) <;> (try simp only [↓R1, RR, Nat.reduceEqDiff, Nat.reduceAdd, Nat.reduceMul, Nat.reduceSub, Nat.reduceLeDiff, Nat.reduceLT, reduceIte, reduceCtorEq, Int.reduceBNe, Int.reduceBEq, u8_35, hc1, q1, q2, q3, hw])))
    exact endP_intro (by simp) (by first | (simp [rvsS, rvS]; done) | (simp only [rvsS, rvS, ↓R1, RR, Nat.reduceEqDiff, Nat.reduceAdd, Nat.reduceMul, Nat.reduceSub, Nat.reduceLeDiff, Nat.reduceLT, reduceIte, reduceCtorEq, Int.reduceBNe, Int.reduceBEq, u8_35, hc1, q1, q2, q3, hw]; try simp)) (wk_of_eq (by (simp only [resAV, rvV, List.map_cons, List.map_nil, ↓R1, RR, Nat.reduceEqDiff, Nat.reduceAdd, Nat.reduceMul, Nat.reduceSub, Nat.reduceLeDiff, Nat.reduceLT, reduceIte, reduceCtorEq, Int.reduceBNe, Int.reduceBEq, u8_35, hc1, q1, q2, q3, hw]))) (hle i) (fin i hok)
  · have hc1 : decide ((i : Int) < (l.length : Int)) = true := by simpa using hlt
    have a2 := a_peek (hbS i τ pre) hd
    rw [wordsR_eq, hdw, hd] at hI
    simp only at hI
    by_cases h35 : c = 35
    · have q1 : ((c.toNat : Int) != 35) = false := by rw [bne, u8_35]; simpa using h35
      have hok : wordsS l = .ok pre := by rw [hI, if_pos h35]; simp [preE]
      repeat' (first | (with_reducible rw [allocV_eq]) | (with_reducible refine And.intro ?_ ?_; focus (intros; (repeat' (with_reducible apply And.intro)) <;> first | omega | (simp only [RZ, cWd_len]; omega))) | (with_reducible apply And.intro) | ((first | (refine gdV_split (fun hc => ?_) (fun hc => ?_) <;> (try simp only [hc, ↓R1, RR, Nat.reduceEqDiff, Nat.reduceAdd, Nat.reduceMul, Nat.reduceSub, Nat.reduceLeDiff, Nat.reduceLT, reduceIte, reduceCtorEq, Int.reduceBNe, Int.reduceBEq, u8_35, hc1, q1, q2, q3, hw])) | refine condV_split (fun hc => ?_) (fun hc => ?_) | (with_reducible intro β hβ; (try simp only [RB] at hβ); (repeat (obtain ⟨⟨_, _⟩, hβ⟩ := hβ)); (try (have hbis := apart_is (by assumption) hβ; obtain ⟨_, _⟩ := hbis))) | (refine AC.mono (AC.wk (a1) (wkL_refl _)) ?_; (rintro _ _ ⟨rfl, rfl⟩)) | (refine AC.mono (AC.wk (a2) (wkL_refl _)) ?_; (rintro _ _ ⟨rfl, rfl⟩))) <;> (try simp only [↓R1, RR, Nat.reduceEqDiff, Nat.reduceAdd, Nat.reduceMul, Nat.reduceSub, Nat.reduceLeDiff, Nat.reduceLT, reduceIte, reduceCtorEq, Int.reduceBNe, Int.reduceBEq, u8_35, hc1, q1, q2, q3, hw])))
      exact endP_intro (by simp) (by first | (simp [rvsS, rvS]; done) | (simp only [rvsS, rvS, ↓R1, RR, Nat.reduceEqDiff, Nat.reduceAdd, Nat.reduceMul, Nat.reduceSub, Nat.reduceLeDiff, Nat.reduceLT, reduceIte, reduceCtorEq, Int.reduceBNe, Int.reduceBEq, u8_35, hc1, q1, q2, q3, hw]; try simp)) (wk_of_eq (by (simp only [resAV, rvV, List.map_cons, List.map_nil, ↓R1, RR, Nat.reduceEqDiff, Nat.reduceAdd, Nat.reduceMul, Nat.reduceSub, Nat.reduceLeDiff, Nat.reduceLT, reduceIte, reduceCtorEq, Int.reduceBNe, Int.reduceBEq, u8_35, hc1, q1, q2, q3, hw]))) (hle i) (fin i hok)
    · have q1 : ((c.toNat : Int) != 35) = true := by rw [bne, u8_35]; simpa using h35
      rw [if_neg h35] at hI
      have hlr : (l.drop i).length - (c :: r).length = 0 := by rw [hd]; omega
      have a3 := a_word (hbS i τ pre) hd hl
      cases hw0 : wordS (c :: r) with
      | none =>
        rw [hw0] at a3 hI
        repeat' (first | (with_reducible rw [allocV_eq]) | (with_reducible refine And.intro ?_ ?_; focus (intros; (repeat' (with_reducible apply And.intro)) <;> first | omega | (simp only [RZ, cWd_len]; omega))) | (with_reducible apply And.intro) | ((first | (refine gdV_split (fun hc => ?_) (fun hc => ?_) <;> (try simp only [hc, ↓R1, RR, Nat.reduceEqDiff, Nat.reduceAdd, Nat.reduceMul, Nat.reduceSub, Nat.reduceLeDiff, Nat.reduceLT, reduceIte, reduceCtorEq, Int.reduceBNe, Int.reduceBEq, u8_35, hc1, q1, q2, q3, hw])) | refine condV_split (fun hc => ?_) (fun hc => ?_) | (with_reducible intro β hβ; (try simp only [RB] at hβ); (repeat (obtain ⟨⟨_, _⟩, hβ⟩ := hβ)); (try (have hbis := apart_is (by assumption) hβ; obtain ⟨_, _⟩ := hbis))) | (refine AC.mono (AC.wk (a1) (wkL_refl _)) ?_; (rintro _ _ ⟨rfl, rfl⟩)) | (refine AC.mono (AC.wk (a2) (wkL_refl _)) ?_; (rintro _ _ ⟨rfl, rfl⟩))) <;> (try simp only [↓R1, RR, Nat.reduceEqDiff, Nat.reduceAdd, Nat.reduceMul, Nat.reduceSub, Nat.reduceLeDiff, Nat.reduceLT, reduceIte, reduceCtorEq, Int.reduceBNe, Int.reduceBEq, u8_35, hc1, q1, q2, q3, hw])))
        refine (AC.wk a3 (wkL_refl _)).mono ?_
        rintro _ _ ⟨p, j, rfl, rfl⟩
        rw [hset]
        simp only [wdV, ↓R1, RR, Nat.reduceEqDiff, Nat.reduceAdd, Nat.reduceMul, Nat.reduceSub, Nat.reduceLeDiff, Nat.reduceLT, reduceIte, reduceCtorEq, Int.reduceBNe, Int.reduceBEq, u8_35, hc1, q1, q2, q3, hw]
        repeat' (first | (with_reducible rw [allocV_eq]) | (with_reducible refine And.intro ?_ ?_; focus (intros; (repeat' (with_reducible apply And.intro)) <;> first | omega | (simp only [RZ, cWd_len]; omega))) | (with_reducible apply And.intro) | ((first | (refine gdV_split (fun hc => ?_) (fun hc => ?_) <;> (try simp only [hc, ↓R1, RR, Nat.reduceEqDiff, Nat.reduceAdd, Nat.reduceMul, Nat.reduceSub, Nat.reduceLeDiff, Nat.reduceLT, reduceIte, reduceCtorEq, Int.reduceBNe, Int.reduceBEq, u8_35, hc1, q1, q2, q3, hw])) | refine condV_split (fun hc => ?_) (fun hc => ?_) | (with_reducible intro β hβ; (try simp only [RB] at hβ); (repeat (obtain ⟨⟨_, _⟩, hβ⟩ := hβ)); (try (have hbis := apart_is (by assumption) hβ; obtain ⟨_, _⟩ := hbis)))) <;> (try simp only [↓R1, RR, Nat.reduceEqDiff, Nat.reduceAdd, Nat.reduceMul, Nat.reduceSub, Nat.reduceLeDiff, Nat.reduceLT, reduceIte, reduceCtorEq, Int.reduceBNe, Int.reduceBEq, u8_35, hc1, q1, q2, q3, hw])))
        rw [lT_box, St.box_noneA] at hβ
        obtain ⟨⟨_, _⟩, hβ⟩ := hβ
        refine endP_intro (r := .tup [.nils, .int .i64 (i : Nat), .bool false]) (by simp) (by first | (simp [rvsS, rvS]; done) | (simp only [rvsS, rvS, ↓R1, RR, Nat.reduceEqDiff, Nat.reduceAdd, Nat.reduceMul, Nat.reduceSub, Nat.reduceLeDiff, Nat.reduceLT, reduceIte, reduceCtorEq, Int.reduceBNe, Int.reduceBEq, u8_35, hc1, q1, q2, q3, hw]; try simp)) (wk_of_eq (by (simp only [resAV, rvV, List.map_cons, List.map_nil, ↓R1, RR, Nat.reduceEqDiff, Nat.reduceAdd, Nat.reduceMul, Nat.reduceSub, Nat.reduceLeDiff, Nat.reduceLT, reduceIte, reduceCtorEq, Int.reduceBNe, Int.reduceBEq, u8_35, hc1, q1, q2, q3, hw]))) (St.le_new (hle0 j) (by assumption)) ?_
        rw [hI]
        simp only [preE, WordsR, Nat.sub_self, Nat.add_zero, true_and]
      | some q =>
        obtain ⟨q, t, m⟩ := q
        rw [hw0] at a3 hI
        obtain ⟨hdm, hml⟩ := drop_pos ((wordS_suf hw0).trans (by rw [← hd]; exact drop_suf l i))
        have hmlen := wordS_len hw0
        have hpm : posOf l m = l.length - m.length := rfl
        have hcl : (c :: r).length = l.length - i := by rw [← hd]; simp
        repeat' (first | (with_reducible rw [allocV_eq]) | (with_reducible refine And.intro ?_ ?_; focus (intros; (repeat' (with_reducible apply And.intro)) <;> first | omega | (simp only [RZ, cWd_len]; omega))) | (with_reducible apply And.intro) | ((first | (refine gdV_split (fun hc => ?_) (fun hc => ?_) <;> (try simp only [hc, ↓R1, RR, Nat.reduceEqDiff, Nat.reduceAdd, Nat.reduceMul, Nat.reduceSub, Nat.reduceLeDiff, Nat.reduceLT, reduceIte, reduceCtorEq, Int.reduceBNe, Int.reduceBEq, u8_35, hc1, q1, q2, q3, hw])) | refine condV_split (fun hc => ?_) (fun hc => ?_) | (with_reducible intro β hβ; (try simp only [RB] at hβ); (repeat (obtain ⟨⟨_, _⟩, hβ⟩ := hβ)); (try (have hbis := apart_is (by assumption) hβ; obtain ⟨_, _⟩ := hbis))) | (refine AC.mono (AC.wk (a1) (wkL_refl _)) ?_; (rintro _ _ ⟨rfl, rfl⟩)) | (refine AC.mono (AC.wk (a2) (wkL_refl _)) ?_; (rintro _ _ ⟨rfl, rfl⟩))) <;> (try simp only [↓R1, RR, Nat.reduceEqDiff, Nat.reduceAdd, Nat.reduceMul, Nat.reduceSub, Nat.reduceLeDiff, Nat.reduceLT, reduceIte, reduceCtorEq, Int.reduceBNe, Int.reduceBEq, u8_35, hc1, q1, q2, q3, hw])))
        refine (AC.wk a3 (wkL_refl _)).mono ?_
        rintro _ _ ⟨rfl, rfl⟩
        rw [hset]
        simp only [wdV, ↓R1, RR, Nat.reduceEqDiff, Nat.reduceAdd, Nat.reduceMul, Nat.reduceSub, Nat.reduceLeDiff, Nat.reduceLT, reduceIte, reduceCtorEq, Int.reduceBNe, Int.reduceBEq, u8_35, hc1, q1, q2, q3, hw]
        repeat' (first | (with_reducible rw [allocV_eq]) | (with_reducible refine And.intro ?_ ?_; focus (intros; (repeat' (with_reducible apply And.intro)) <;> first | omega | (simp only [RZ, cWd_len]; omega))) | (with_reducible apply And.intro) | ((first | (refine gdV_split (fun hc => ?_) (fun hc => ?_) <;> (try simp only [hc, ↓R1, RR, Nat.reduceEqDiff, Nat.reduceAdd, Nat.reduceMul, Nat.reduceSub, Nat.reduceLeDiff, Nat.reduceLT, reduceIte, reduceCtorEq, Int.reduceBNe, Int.reduceBEq, u8_35, hc1, q1, q2, q3, hw])) | refine condV_split (fun hc => ?_) (fun hc => ?_) | (with_reducible intro β hβ; (try simp only [RB] at hβ); (repeat (obtain ⟨⟨_, _⟩, hβ⟩ := hβ)); (try (have hbis := apart_is (by assumption) hβ; obtain ⟨_, _⟩ := hbis)))) <;> (try simp only [↓R1, RR, Nat.reduceEqDiff, Nat.reduceAdd, Nat.reduceMul, Nat.reduceSub, Nat.reduceLeDiff, Nat.reduceLT, reduceIte, reduceCtorEq, Int.reduceBNe, Int.reduceBEq, u8_35, hc1, q1, q2, q3, hw])))
        rw [lT_box, St.box_noneA] at hβ
        obtain ⟨⟨_, _⟩, hβ⟩ := hβ
        rw [lT_set, lT_set]
        refine lV_app (P := Tryd.prog) (w := ⟨q, t, i⟩) (by omega) hτ (fun τ' hτ' => ?_)
        simp only [↓R1, RR, Nat.reduceEqDiff, Nat.reduceAdd, Nat.reduceMul, Nat.reduceSub, Nat.reduceLeDiff, Nat.reduceLT, reduceIte, reduceCtorEq, Int.reduceBNe, Int.reduceBEq, u8_35, hc1, q1, q2, q3, hw]
        have hbu : ∀ p, (lT (((σ.setBox u [.str l, .int .i64 (posOf l m : Nat)]).setBox β [.bool false, .str [], .int .i64 0]).setBox β [.bool q, .str t, .int .i64 (i : Nat)]) τ' p).box u = some [.str l, .int .i64 (posOf l m : Nat)] := fun p => by
          rw [lT_box]; simp only [↓R1, RR, Nat.reduceEqDiff, Nat.reduceAdd, Nat.reduceMul, Nat.reduceSub, Nat.reduceLeDiff, Nat.reduceLT, reduceIte, reduceCtorEq, Int.reduceBNe, Int.reduceBEq, u8_35, hc1, q1, q2, q3, hw]
        refine (AC.wk (a_skip (hbu _) hml hl) (wkL_refl _)).mono ?_
        rintro _ _ ⟨rfl, rfl⟩
        rw [hdm, lT_set]
        simp only [↓R1, RR, Nat.reduceEqDiff, Nat.reduceAdd, Nat.reduceMul, Nat.reduceSub, Nat.reduceLeDiff, Nat.reduceLT, reduceIte, reduceCtorEq, Int.reduceBNe, Int.reduceBEq, u8_35, hc1, q1, q2, q3, hw]
        have hsuf : m.dropWhile isBlank <:+ l := (List.dropWhile_suffix _).trans ((wordS_suf hw0).trans (by rw [← hd]; exact drop_suf l i))
        obtain ⟨hd4, hl4⟩ := drop_pos hsuf
        have hp4 : posOf l (m.dropWhile isBlank) = l.length - (m.dropWhile isBlank).length := rfl
        have hl5 := dropWhile_len isBlank m
        refine ⟨(posOf l (m.dropWhile isBlank), τ', pre ++ [⟨q, t, i⟩]), ⟨hl4, fun _ => hτ', ?_, ?_, ?_⟩, by simp [subF, slot, wk_refl], lT_le (St.le_setBox (St.le_refl _) (by rw [St.box_noneA]; exact ⟨⟨by assumption, by assumption⟩, hβ⟩)) _ _, ?_⟩
        · simp only [List.length_append, List.length_cons, List.length_nil]; omega
        · rw [hd4, dropWhile_idem]
        · rw [hI, hd4]
          simp only
          rw [preE_cons, preE_pre, wordsR_skip m]
          rw [show i + ((c :: r).length - m.length) + (m.length - (m.dropWhile isBlank).length) = posOf l (m.dropWhile isBlank) by omega]
          simp only [Nat.sub_self, Nat.add_zero]
        · simp only; omega
end Go.Proofs.YtemddijemikleaaDoor
namespace Go.Proofs.YtemddijemikleaaDoor
open Go.Abs
set_option linter.all false
set_option maxRecDepth 100000
theorem p67 (s : List UInt8) (c : UInt8) : Pu Tryd.prog 67 [.str s, .str [c]] (.int .i64 (Lib.indexByte s c)) := by
  intro σ
  refine AC.of_calls (Go.Proofs.enters_of Tryd.func67 (by kernel_rfl) rfl) ?_
  intro g w vs hI hv
  obtain ⟨v1, vs, rfl, r1, hv⟩ := hv.cons_inv
  obtain ⟨v2, vs, rfl, r2, hv⟩ := hv.cons_inv
  rw [hv.nil_inv, r1.str_inv, r2.str_inv]
  refine (Tryd.strings_Index_one ⟨s.toArray⟩ c w).mono ?_
  rintro e w' ⟨rfl, rfl⟩
  exact ⟨_, rfl, Go.RowKit.Below.refl _ _, fun g' _ => .int _ _⟩
theorem a_split (σ : St) (l : List UInt8) : AC Tryd.prog 46 [.str l, .str [10]] σ (fun r s => ∃ β0 β1 β2, σ.box β0 = none ∧ σ.box β1 = none ∧ σ.box β2 = none ∧ (Apart β1 β0 ∧ Apart β0 β1) ∧ (Apart β2 β0 ∧ Apart β0 β2) ∧ (Apart β2 β1 ∧ Apart β1 β2) ∧
    r = .fn 65 [.ptr β1 0, .ptr β0 0, .ptr β2 0] ∧ s = ((σ.setBox β0 [.str l]).setBox β1 [.str [10]]).setBox β2 [.int .i64 1]) := by
  have h : ∀ σ : St, AC Tryd.prog 56 [.str l, .str [10], .int .i64 1] σ (fun r s => ∃ β0 β1 β2, σ.box β0 = none ∧ σ.box β1 = none ∧ σ.box β2 = none ∧ (Apart β1 β0 ∧ Apart β0 β1) ∧ (Apart β2 β0 ∧ Apart β0 β2) ∧ (Apart β2 β1 ∧ Apart β1 β2) ∧
      r = .fn 65 [.ptr β1 0, .ptr β0 0, .ptr β2 0] ∧ s = ((σ.setBox β0 [.str l]).setBox β1 [.str [10]]).setBox β2 [.int .i64 1]) := fun σ => by
    (refine AC_intro c56 b56 (Nat.le_of_ble_eq_true rfl) ?_; simp only [c56, ↓R1, RR, seval])
    intro β0 h0 β1 h1 β2 h2
    simp only [St.box_noneA] at h1 h2
    refine endP_id (by simp) (by simp [rvsS, rvS]) ?_
    exact ⟨β0, β1, β2, h0, h1.2, h2.2.2, h1.1, h2.2.1, h2.1, rfl, rfl⟩
  (refine AC_intro c46 b46 (Nat.le_of_ble_eq_true rfl) ?_; simp only [c46, ↓R1, RR, seval])
  refine (AC.wk (h σ) (wkL_refl _)).mono ?_
  rintro _ _ ⟨β0, β1, β2, h0, h1, h2, h3, h4, h5, rfl, rfl⟩
  simp only [↓R1, RR, seval]
  refine endP_id (by simp) (by simp [rvsS, rvS]) ?_
  exact ⟨β0, β1, β2, h0, h1, h2, h3, h4, h5, rfl, rfl⟩
theorem cut_none {l : List UInt8} (h : afterOf l = []) : cut l = (l, none) := by simp only [cut, h]
theorem cut_some {l r : List UInt8} {c : UInt8} (h : afterOf l = c :: r) : cut l = (lineOf l ++ [10], some r) ∧ l.take ((lineOf l).length + 1) = lineOf l ++ [10] ∧ l.drop ((lineOf l).length + 1) = r ∧ (lineOf l).length + 1 ≤ l.length := by
  have h1 := line_after l
  rw [h] at h1
  have hc := after_head h
  subst hc
  have h2 : l = (lineOf l ++ [10]) ++ r := by rw [List.append_assoc]; exact h1.symm
  have hn : (lineOf l ++ [10]).length = (lineOf l).length + 1 := by simp
  refine ⟨by simp only [cut, h], ?_, ?_, ?_⟩
  · exact (congrArg (List.take _) h2).trans (List.take_left' hn)
  · exact (congrArg (List.drop _) h2).trans (List.drop_left' hn)
  · have := congrArg List.length h2
    rw [List.length_append, hn] at this; omega
-- A loop over the lines of a text: 'T g rest' is the state when 'rest' is still to come.
set_option maxHeartbeats 2000000 in
theorem RF_lines {γ : Type} {prs : List Nat} {asg body : CC} {fr : Fr} {Q : Exit → Fr → St → Prop} {β0 β1 β2 : Nat} (T : γ → List UInt8 → St) (I : γ → List UInt8 → Prop) (J : γ → Prop) (hps : prs.length = 1) (g0 : γ) (l0 : List UInt8) (h0 : I g0 l0)
    (hb0 : ∀ g r, (T g r).box β0 = some [.str r]) (hb1 : ∀ g r, (T g r).box β1 = some [.str [10]]) (hb2 : ∀ g r, (T g r).box β2 = some [.int .i64 1])
    (hs : ∀ g r r', (T g r).setBox β0 [.str r'] = T g r') (hl : ∀ g r L, (T g r).lp L = (T g0 l0).lp L) (hlen : ∀ g r, I g r → r.length ≤ 1000000)
    (hround : ∀ L r g rest, (T g0 l0).lp L = none → I g rest → aC Tryd.prog asg (putL prs [.str (cut rest).1] fr) ((T g rest).setLp L (r, fr)) (fun e fr1 σ2 => e = .normal ∧ σ2.lp L = some (r, fr) ∧ aC Tryd.prog body fr1 (σ2.setLp L (busy r, fr)) (fun e _ σ3 => σ3.lp L = some (busy r, fr) ∧ match e with
        | .normal => ∃ g', St.le ((T g' rest).setLp L (r, fr)) (σ3.setLp L (r, fr)) ∧ (match (cut rest).2 with | none => J g' | some r' => I g' r')
        | .ret => Q .ret fr ((σ3.setLp L (left r .ret, fr)).dropLp L)
        | _ => False)))
    (hend : ∀ g r, J g → Q .normal fr (T g r)) : RF Tryd.prog 65 [.ptr β1 0, .ptr β0 0, .ptr β2 0] prs asg body fr (T g0 l0) Q := by
  refine ⟨by kernel_rfl, fun L r hL hr1 hr2 hY => ?_⟩
  have hY' : ∀ g rest, I g rest → YC Tryd.prog L [.str (cut rest).1] ((T g rest).setLp L (r, fr)) (fun v s' => (v = .bool true ∧ ∃ g', (match (cut rest).2 with | none => J g' | some r' => I g' r') ∧ s' = (T g' rest).setLp L (r, fr)) ∨ (v = .bool false ∧ s'.lp L = some (left r .ret, fr) ∧ Q .ret fr (s'.dropLp L))) := fun g rest hI => by
    refine YC.weaken (hY [.str (cut rest).1] ((T g rest).setLp L (r, fr)) (fun v s => (v = .bool true ∧ ∃ g', St.le ((T g' rest).setLp L (r, fr)) s ∧ (match (cut rest).2 with | none => J g' | some r' => I g' r')) ∨ (v = .bool false ∧ s.lp L = some (left r .ret, fr) ∧ Q .ret fr (s.dropLp L))) (by simpa using hps.symm) (St.lp_same _ _ _) ?_) ?_
    · refine aC_mono _ _ _ (hround L r g rest hL hI) (fun e fr1 σ2 h => ?_)
      obtain ⟨h1, h2, h3⟩ := h
      refine ⟨h1, h2, aC_mono _ _ _ h3 (fun e2 fr2 σ3 h4 => ?_)⟩
      obtain ⟨h5, h6⟩ := h4
      refine ⟨h5, ?_⟩
      cases e2 with
      | normal => obtain ⟨g', k1, k2⟩ := h6; exact .inl ⟨rfl, g', k1, k2⟩
      | ret => exact .inr ⟨rfl, St.lp_same _ _ _, h6⟩
      | _ => exact h6.elim
    · rintro v s (⟨rfl, g', k1, k2⟩ | ⟨rfl, k1, k2⟩)
      · exact ⟨_, _, wk_refl _, k1, .inl ⟨rfl, g', k2, rfl⟩⟩
      · exact ⟨_, _, wk_refl _, St.le_refl _, .inr ⟨rfl, k1, k2⟩⟩
  have hb0' : ∀ g rest, ((T g rest).setLp L (r, fr)).box β0 = some [.str rest] := fun g rest => hb0 g rest
  have hb1' : ∀ g rest, ((T g rest).setLp L (r, fr)).box β1 = some [.str [10]] := fun g rest => hb1 g rest
  have hb2' : ∀ g rest, ((T g rest).setLp L (r, fr)).box β2 = some [.int .i64 1] := fun g rest => hb2 g rest
  have hs' : ∀ g rest r', ((T g rest).setLp L (r, fr)).setBox β0 [.str r'] = (T g r').setLp L (r, fr) := fun g rest r' => by rw [← St.setBox_setLp, hs]
  have q1 : (((1 : Nat) : Int) == 0) = false := rfl
  have q2 : True := trivial
  have q3 : True := trivial
  have q4 : True := trivial
  have q5 : True := trivial
  have q6 : True := trivial
  refine AC_intro c65 b65 (Nat.le_of_ble_eq_true rfl) ?_
  simp only [c65, hb0, hb1, hb2, List.length_cons, List.length_nil, Nat.zero_add, ↓R1, RR, seval, hb0', hb1', hb2', q1, q2, q3, q4, q5, q6]
  refine loopV_st (α := γ × List UInt8) (fun _ => [(0, .yld L), (1, .ptr β1 0), (2, .ptr β0 0), (3, .ptr β2 0)]) (fun z => (T z.1 z.2).setLp L (r, fr)) (fun z => I z.1 z.2) (fun z => z.2.length) (g0, l0) (by simp [subF, slot, wk_refl]) (St.le_refl _) h0 ?_
  rintro ⟨g, rest⟩ hI
  simp only at hI
  have hn := hlen g rest hI
  have hy := hY' g rest hI
  have hix := p67 rest 10
  simp only [hb0', hb1', hb2', ↓R1, RR, seval, hb0', hb1', hb2', q1, q2, q3, q4, q5, q6]
  rw [index_line] at hix
  cases ha : afterOf rest with
  | nil =>
    rw [ha] at hix
    rw [cut_none ha] at hy
    simp only at hix
    have q2 : decide ((-1 : Int) < 0) = true := rfl
    repeat' (first | (with_reducible rw [allocV_eq]) | (with_reducible refine And.intro ?_ ?_; focus (intros; (repeat' (with_reducible apply And.intro)) <;> first | omega | (simp only [RZ]; omega))) | (with_reducible apply And.intro) | ((first | (refine gdV_split (fun hc => ?_) (fun hc => ?_) <;> (try simp only [hc, ↓R1, RR, seval, hb0', hb1', hb2', q1, q2, q3, q4, q5, q6])) | refine condV_split (fun hc => ?_) (fun hc => ?_) | (with_reducible intro β hβ; (try simp only [RB] at hβ); (repeat (obtain ⟨⟨_, _⟩, hβ⟩ := hβ)); (try (have hbis := apart_is (by assumption) hβ; obtain ⟨_, _⟩ := hbis))) | ((first | (refine appD_tslK (.inr rfl) rfl ?_ ?_ ?_ ?_ ?_ ?_; (first | rfl | exact St.tip_same _ _ _ | (simp only [↓R1, RR, seval, hb0', hb1', hb2', q1, q2, q3, q4, q5, q6])); (first | omega | (simp only [RZ, List.length_nil, List.length_cons]; omega) | (simp only [RZ, List.length_nil, List.length_cons])); (first | rfl | first | omega | (simp only [RZ, List.length_nil, List.length_cons]; omega) | (simp only [RZ, List.length_nil, List.length_cons]))) | (refine appV_tslK rfl ?_ ?_ ?_ ?_ ?_ ?_; (first | rfl | exact St.tip_same _ _ _ | (simp only [↓R1, RR, seval, hb0', hb1', hb2', q1, q2, q3, q4, q5, q6])); (first | omega | (simp only [RZ, List.length_nil, List.length_cons]; omega) | (simp only [RZ, List.length_nil, List.length_cons])); (first | rfl | first | omega | (simp only [RZ, List.length_nil, List.length_cons]; omega) | (simp only [RZ, List.length_nil, List.length_cons]))) | (refine appV_own ?_ ?_ ?_ ?_; exact flat_len (by intro _; rfl) _) | (refine appD_own ?_ ?_ ?_ ?_ ?_; omega; exact flat_len (by intro _; rfl) _) | (refine appV_fresh rfl trivial rfl ?_ ?_ ?_ ?_ ?_; (first | rfl | first | omega | (simp only [RZ, List.length_nil, List.length_cons]; omega) | (simp only [RZ, List.length_nil, List.length_cons])); (first | rfl | first | omega | (simp only [RZ, List.length_nil, List.length_cons]; omega) | (simp only [RZ, List.length_nil, List.length_cons]))) | (refine appD_fresh rfl trivial rfl ?_ ?_ ?_ ?_ ?_ ?_; omega; (first | rfl | first | omega | (simp only [RZ, List.length_nil, List.length_cons]; omega) | (simp only [RZ, List.length_nil, List.length_cons])); (first | rfl | first | omega | (simp only [RZ, List.length_nil, List.length_cons]; omega) | (simp only [RZ, List.length_nil, List.length_cons])))); (unfold maxLen; omega); omega) | refine Pt (hix) ?_ | refine Ct (hix) ?_) <;> (try simp only [↓R1, RR, seval, hb0', hb1', hb2', q1, q2, q3, q4, q5, q6])))
    refine YC.mono hy ?_
    rintro v s' (⟨rfl, g', hJ, rfl⟩ | ⟨rfl, h1, h2⟩)
    · simp only [↓R1, RR, seval, hb0', hb1', hb2', q1, q2, q3, q4, q5, q6]
      refine endP_id (by simp) (by simp [rvsS]) (.inl ⟨St.lp_same _ _ _, ?_⟩)
      rw [St.drop_set (by rw [hl, hL])]
      exact hend g' rest hJ
    · simp only [↓R1, RR, seval, hb0', hb1', hb2', q1, q2, q3, q4, q5, q6]
      exact endP_id (by simp) (by simp [rvsS]) (.inr (.inl ⟨h1, h2⟩))
  | cons c r' =>
    rw [ha] at hix
    simp only at hix
    obtain ⟨k1, k2, k3, k4⟩ := cut_some ha
    rw [k1] at hy
    have q2 : decide (((lineOf rest).length : Int) < 0) = false := by simp
    have q3 : IntKind.i64.wrap (((lineOf rest).length : Int) + 1) = (((lineOf rest).length + 1 : Nat) : Int) := by rw [wrap64 (by omega) (by omega)]; omega
    have q6 : IntKind.i64.wrap (((lineOf rest).length : Int) + ((1 : Nat) : Int)) = (((lineOf rest).length + 1 : Nat) : Int) := q3
    have q4 := k2
    have q5 := List.take_of_length_le (l := rest.drop ((lineOf rest).length + 1)) (i := rest.length - ((lineOf rest).length + 1)) (by simp)
    repeat' (first | (with_reducible rw [allocV_eq]) | (with_reducible refine And.intro ?_ ?_; focus (intros; (repeat' (with_reducible apply And.intro)) <;> first | omega | (simp only [RZ]; omega))) | (with_reducible apply And.intro) | ((first | (refine gdV_split (fun hc => ?_) (fun hc => ?_) <;> (try simp only [hc, ↓R1, RR, seval, hb0', hb1', hb2', q1, q2, q3, q4, q5, q6])) | refine condV_split (fun hc => ?_) (fun hc => ?_) | (with_reducible intro β hβ; (try simp only [RB] at hβ); (repeat (obtain ⟨⟨_, _⟩, hβ⟩ := hβ)); (try (have hbis := apart_is (by assumption) hβ; obtain ⟨_, _⟩ := hbis))) | ((first | (refine appD_tslK (.inr rfl) rfl ?_ ?_ ?_ ?_ ?_ ?_; (first | rfl | exact St.tip_same _ _ _ | (simp only [↓R1, RR, seval, hb0', hb1', hb2', q1, q2, q3, q4, q5, q6])); (first | omega | (simp only [RZ, List.length_nil, List.length_cons]; omega) | (simp only [RZ, List.length_nil, List.length_cons])); (first | rfl | first | omega | (simp only [RZ, List.length_nil, List.length_cons]; omega) | (simp only [RZ, List.length_nil, List.length_cons]))) | (refine appV_tslK rfl ?_ ?_ ?_ ?_ ?_ ?_; (first | rfl | exact St.tip_same _ _ _ | (simp only [↓R1, RR, seval, hb0', hb1', hb2', q1, q2, q3, q4, q5, q6])); (first | omega | (simp only [RZ, List.length_nil, List.length_cons]; omega) | (simp only [RZ, List.length_nil, List.length_cons])); (first | rfl | first | omega | (simp only [RZ, List.length_nil, List.length_cons]; omega) | (simp only [RZ, List.length_nil, List.length_cons]))) | (refine appV_own ?_ ?_ ?_ ?_; exact flat_len (by intro _; rfl) _) | (refine appD_own ?_ ?_ ?_ ?_ ?_; omega; exact flat_len (by intro _; rfl) _) | (refine appV_fresh rfl trivial rfl ?_ ?_ ?_ ?_ ?_; (first | rfl | first | omega | (simp only [RZ, List.length_nil, List.length_cons]; omega) | (simp only [RZ, List.length_nil, List.length_cons])); (first | rfl | first | omega | (simp only [RZ, List.length_nil, List.length_cons]; omega) | (simp only [RZ, List.length_nil, List.length_cons]))) | (refine appD_fresh rfl trivial rfl ?_ ?_ ?_ ?_ ?_ ?_; omega; (first | rfl | first | omega | (simp only [RZ, List.length_nil, List.length_cons]; omega) | (simp only [RZ, List.length_nil, List.length_cons])); (first | rfl | first | omega | (simp only [RZ, List.length_nil, List.length_cons]; omega) | (simp only [RZ, List.length_nil, List.length_cons])))); (unfold maxLen; omega); omega) | refine Pt (hix) ?_ | refine Ct (hix) ?_) <;> (try simp only [↓R1, RR, seval, hb0', hb1', hb2', q1, q2, q3, q4, q5, q6])))
    all_goals first | omega | skip
    refine YC.mono hy ?_
    rintro v s' (⟨rfl, g', hJ, rfl⟩ | ⟨rfl, h1, h2⟩)
    · simp only [hb0', hb1', hb2', ↓R1, RR, seval, hb0', hb1', hb2', q1, q2, q3, q4, q5, q6]
      repeat' (first | (with_reducible rw [allocV_eq]) | (with_reducible refine And.intro ?_ ?_; focus (intros; (repeat' (with_reducible apply And.intro)) <;> first | omega | (simp only [RZ]; omega))) | (with_reducible apply And.intro) | ((first | (refine gdV_split (fun hc => ?_) (fun hc => ?_) <;> (try simp only [hc, ↓R1, RR, seval, hb0', hb1', hb2', q1, q2, q3, q4, q5, q6])) | refine condV_split (fun hc => ?_) (fun hc => ?_) | (with_reducible intro β hβ; (try simp only [RB] at hβ); (repeat (obtain ⟨⟨_, _⟩, hβ⟩ := hβ)); (try (have hbis := apart_is (by assumption) hβ; obtain ⟨_, _⟩ := hbis))) | ((first | (refine appD_tslK (.inr rfl) rfl ?_ ?_ ?_ ?_ ?_ ?_; (first | rfl | exact St.tip_same _ _ _ | (simp only [↓R1, RR, seval, hb0', hb1', hb2', q1, q2, q3, q4, q5, q6])); (first | omega | (simp only [RZ, List.length_nil, List.length_cons]; omega) | (simp only [RZ, List.length_nil, List.length_cons])); (first | rfl | first | omega | (simp only [RZ, List.length_nil, List.length_cons]; omega) | (simp only [RZ, List.length_nil, List.length_cons]))) | (refine appV_tslK rfl ?_ ?_ ?_ ?_ ?_ ?_; (first | rfl | exact St.tip_same _ _ _ | (simp only [↓R1, RR, seval, hb0', hb1', hb2', q1, q2, q3, q4, q5, q6])); (first | omega | (simp only [RZ, List.length_nil, List.length_cons]; omega) | (simp only [RZ, List.length_nil, List.length_cons])); (first | rfl | first | omega | (simp only [RZ, List.length_nil, List.length_cons]; omega) | (simp only [RZ, List.length_nil, List.length_cons]))) | (refine appV_own ?_ ?_ ?_ ?_; exact flat_len (by intro _; rfl) _) | (refine appD_own ?_ ?_ ?_ ?_ ?_; omega; exact flat_len (by intro _; rfl) _) | (refine appV_fresh rfl trivial rfl ?_ ?_ ?_ ?_ ?_; (first | rfl | first | omega | (simp only [RZ, List.length_nil, List.length_cons]; omega) | (simp only [RZ, List.length_nil, List.length_cons])); (first | rfl | first | omega | (simp only [RZ, List.length_nil, List.length_cons]; omega) | (simp only [RZ, List.length_nil, List.length_cons]))) | (refine appD_fresh rfl trivial rfl ?_ ?_ ?_ ?_ ?_ ?_; omega; (first | rfl | first | omega | (simp only [RZ, List.length_nil, List.length_cons]; omega) | (simp only [RZ, List.length_nil, List.length_cons])); (first | rfl | first | omega | (simp only [RZ, List.length_nil, List.length_cons]; omega) | (simp only [RZ, List.length_nil, List.length_cons])))); (unfold maxLen; omega); omega)) <;> (try simp only [↓R1, RR, seval, hb0', hb1', hb2', q1, q2, q3, q4, q5, q6])))
      all_goals first | omega | skip
      rw [hs', k3]
      refine ⟨(g', r'), hJ, by simp [subF, slot, wk_refl], St.le_refl _, ?_⟩
      have := congrArg List.length k3
      simp only [List.length_drop] at this
      simp only; omega
    · simp only [↓R1, RR, seval, hb0', hb1', hb2', q1, q2, q3, q4, q5, q6]
      exact endP_id (by simp) (by simp [rvsS]) (.inr (.inl ⟨h1, h2⟩))
end Go.Proofs.YtemddijemikleaaDoor
namespace Go.Proofs.YtemddijemikleaaDoor
open Go.Abs
set_option linter.all false
set_option maxRecDepth 100000
def trim1 (l : List UInt8) : List UInt8 := if 1 ≤ l.length ∧ l.drop (l.length - 1) = [10] then l.take (l.length - 1) else l
theorem p68 (l : List UInt8) (hl : l.length ≤ 1000000) : Pu Tryd.prog 68 [.str l, .str [10]] (.bool (decide (1 ≤ l.length ∧ l.drop (l.length - 1) = [10]))) := by
  have q1 : True := trivial
  have q2 : True := trivial
  have hw : True := trivial
  by_cases h : 1 ≤ l.length
  · have q1 : decide ((((1 : Nat) : Int)) ≤ (l.length : Int)) = true := by simp; omega
    have hw : IntKind.i64.wrap ((l.length : Int) - ((1 : Nat) : Int)) = ((l.length - 1 : Nat) : Int) := by rw [wrap64 (by omega) (by omega)]; omega
    (refine Pu_intro c68 b68 (Nat.le_of_ble_eq_true rfl) fun σ => ?_; simp only [c68, ↓R1, RR, Nat.reduceEqDiff, Nat.reduceAdd, Nat.reduceMul, Nat.reduceSub, Nat.reduceLeDiff, Nat.reduceLT, reduceIte, reduceCtorEq, Int.reduceBNe, Int.reduceBEq, hw, q1, q2])
    repeat' (first | (with_reducible rw [allocV_eq]) | (with_reducible refine And.intro ?_ ?_; focus (intros; (repeat' (with_reducible apply And.intro)) <;> first | omega | (simp only [RZ, cWd_len]; omega))) | (with_reducible apply And.intro) | ((first | (refine gdV_split (fun hc => ?_) (fun hc => ?_) <;> (try simp only [hc, ↓R1, RR, Nat.reduceEqDiff, Nat.reduceAdd, Nat.reduceMul, Nat.reduceSub, Nat.reduceLeDiff, Nat.reduceLT, reduceIte, reduceCtorEq, Int.reduceBNe, Int.reduceBEq, hw, q1, q2])) | refine condV_split (fun hc => ?_) (fun hc => ?_) | (with_reducible intro β hβ; (try simp only [RB] at hβ); (repeat (obtain ⟨⟨_, _⟩, hβ⟩ := hβ)); (try (have hbis := apart_is (by assumption) hβ; obtain ⟨_, _⟩ := hbis)))) <;> (try simp only [↓R1, RR, Nat.reduceEqDiff, Nat.reduceAdd, Nat.reduceMul, Nat.reduceSub, Nat.reduceLeDiff, Nat.reduceLT, reduceIte, reduceCtorEq, Int.reduceBNe, Int.reduceBEq, hw, q1, q2])))
    all_goals first | omega | skip
    (refine endP_pu (by simp) (by first | (simp [rvsS, rvS]; done) | (simp only [rvsS, rvS, ↓R1, RR, Nat.reduceEqDiff, Nat.reduceAdd, Nat.reduceMul, Nat.reduceSub, Nat.reduceLeDiff, Nat.reduceLT, reduceIte, reduceCtorEq, Int.reduceBNe, Int.reduceBEq, hw, q1, q2]; try simp)) (wk_of_eq ?_) (by (repeat (first | exact St.le_refl _ | (refine St.le_new ?_ (by assumption)) | (refine St.le_newT ?_ (by assumption))))))
    (simp only [resAV, rvV, List.map_cons, List.map_nil, ↓R1, RR, Nat.reduceEqDiff, Nat.reduceAdd, Nat.reduceMul, Nat.reduceSub, Nat.reduceLeDiff, Nat.reduceLT, reduceIte, reduceCtorEq, Int.reduceBNe, Int.reduceBEq, hw, q1, q2])
    have e : (l.drop (l.length - 1)).take (l.length - (l.length - 1)) = l.drop (l.length - 1) := List.take_of_length_le (by simp)
    rw [e]
    by_cases h2 : l.drop (l.length - 1) = [10] <;> simp [h, h2]
  · have q1 : decide ((((1 : Nat) : Int)) ≤ (l.length : Int)) = false := by simp; omega
    (refine Pu_intro c68 b68 (Nat.le_of_ble_eq_true rfl) fun σ => ?_; simp only [c68, ↓R1, RR, Nat.reduceEqDiff, Nat.reduceAdd, Nat.reduceMul, Nat.reduceSub, Nat.reduceLeDiff, Nat.reduceLT, reduceIte, reduceCtorEq, Int.reduceBNe, Int.reduceBEq, hw, q1, q2])
    repeat' (first | (with_reducible rw [allocV_eq]) | (with_reducible refine And.intro ?_ ?_; focus (intros; (repeat' (with_reducible apply And.intro)) <;> first | omega | (simp only [RZ, cWd_len]; omega))) | (with_reducible apply And.intro) | ((first | (refine gdV_split (fun hc => ?_) (fun hc => ?_) <;> (try simp only [hc, ↓R1, RR, Nat.reduceEqDiff, Nat.reduceAdd, Nat.reduceMul, Nat.reduceSub, Nat.reduceLeDiff, Nat.reduceLT, reduceIte, reduceCtorEq, Int.reduceBNe, Int.reduceBEq, hw, q1, q2])) | refine condV_split (fun hc => ?_) (fun hc => ?_) | (with_reducible intro β hβ; (try simp only [RB] at hβ); (repeat (obtain ⟨⟨_, _⟩, hβ⟩ := hβ)); (try (have hbis := apart_is (by assumption) hβ; obtain ⟨_, _⟩ := hbis)))) <;> (try simp only [↓R1, RR, Nat.reduceEqDiff, Nat.reduceAdd, Nat.reduceMul, Nat.reduceSub, Nat.reduceLeDiff, Nat.reduceLT, reduceIte, reduceCtorEq, Int.reduceBNe, Int.reduceBEq, hw, q1, q2])))
    (refine endP_pu (by simp) (by first | (simp [rvsS, rvS]; done) | (simp only [rvsS, rvS, ↓R1, RR, Nat.reduceEqDiff, Nat.reduceAdd, Nat.reduceMul, Nat.reduceSub, Nat.reduceLeDiff, Nat.reduceLT, reduceIte, reduceCtorEq, Int.reduceBNe, Int.reduceBEq, hw, q1, q2]; try simp)) (wk_of_eq ?_) (by (repeat (first | exact St.le_refl _ | (refine St.le_new ?_ (by assumption)) | (refine St.le_newT ?_ (by assumption))))))
    (simp only [resAV, rvV, List.map_cons, List.map_nil, ↓R1, RR, Nat.reduceEqDiff, Nat.reduceAdd, Nat.reduceMul, Nat.reduceSub, Nat.reduceLeDiff, Nat.reduceLT, reduceIte, reduceCtorEq, Int.reduceBNe, Int.reduceBEq, hw, q1, q2])
    simp [h]
theorem p57 (l : List UInt8) (hl : l.length ≤ 1000000) : Pu Tryd.prog 57 [.str l, .str [10]] (.str (trim1 l)) := by
  have q1 : True := trivial
  have q2 : True := trivial
  have hw : True := trivial
  have hp := p68 l hl
  by_cases h : 1 ≤ l.length ∧ l.drop (l.length - 1) = [10]
  · have hw : IntKind.i64.wrap ((l.length : Int) - ((1 : Nat) : Int)) = ((l.length - 1 : Nat) : Int) := by rw [wrap64 (by omega) (by omega)]; omega
    rw [decide_eq_true h] at hp
    (refine Pu_intro c57 b57 (Nat.le_of_ble_eq_true rfl) fun σ => ?_; simp only [c57, ↓R1, RR, Nat.reduceEqDiff, Nat.reduceAdd, Nat.reduceMul, Nat.reduceSub, Nat.reduceLeDiff, Nat.reduceLT, reduceIte, reduceCtorEq, Int.reduceBNe, Int.reduceBEq, hw, q1, q2])
    repeat' (first | (with_reducible rw [allocV_eq]) | (with_reducible refine And.intro ?_ ?_; focus (intros; (repeat' (with_reducible apply And.intro)) <;> first | omega | (simp only [RZ, cWd_len]; omega))) | (with_reducible apply And.intro) | ((first | (refine gdV_split (fun hc => ?_) (fun hc => ?_) <;> (try simp only [hc, ↓R1, RR, Nat.reduceEqDiff, Nat.reduceAdd, Nat.reduceMul, Nat.reduceSub, Nat.reduceLeDiff, Nat.reduceLT, reduceIte, reduceCtorEq, Int.reduceBNe, Int.reduceBEq, hw, q1, q2])) | refine condV_split (fun hc => ?_) (fun hc => ?_) | (with_reducible intro β hβ; (try simp only [RB] at hβ); (repeat (obtain ⟨⟨_, _⟩, hβ⟩ := hβ)); (try (have hbis := apart_is (by assumption) hβ; obtain ⟨_, _⟩ := hbis))) | refine Pt (hp) ?_ | refine Ct (hp) ?_) <;> (try simp only [↓R1, RR, Nat.reduceEqDiff, Nat.reduceAdd, Nat.reduceMul, Nat.reduceSub, Nat.reduceLeDiff, Nat.reduceLT, reduceIte, reduceCtorEq, Int.reduceBNe, Int.reduceBEq, hw, q1, q2])))
    repeat' (first | (with_reducible rw [allocV_eq]) | (with_reducible refine And.intro ?_ ?_; focus (intros; (repeat' (with_reducible apply And.intro)) <;> first | omega | (simp only [RZ, cWd_len]; omega))) | (with_reducible apply And.intro) | ((first | (refine gdV_split (fun hc => ?_) (fun hc => ?_) <;> (try simp only [hc, ↓R1, RR, Nat.reduceEqDiff, Nat.reduceAdd, Nat.reduceMul, Nat.reduceSub, Nat.reduceLeDiff, Nat.reduceLT, reduceIte, reduceCtorEq, Int.reduceBNe, Int.reduceBEq, hw, q1, q2])) | refine condV_split (fun hc => ?_) (fun hc => ?_) | (with_reducible intro β hβ; (try simp only [RB] at hβ); (repeat (obtain ⟨⟨_, _⟩, hβ⟩ := hβ)); (try (have hbis := apart_is (by assumption) hβ; obtain ⟨_, _⟩ := hbis)))) <;> (try simp only [↓R1, RR, Nat.reduceEqDiff, Nat.reduceAdd, Nat.reduceMul, Nat.reduceSub, Nat.reduceLeDiff, Nat.reduceLT, reduceIte, reduceCtorEq, Int.reduceBNe, Int.reduceBEq, hw, q1, q2])))
    all_goals first | omega | skip
    (refine endP_pu (by simp) (by first | (simp [rvsS, rvS]; done) | (simp only [rvsS, rvS, ↓R1, RR, Nat.reduceEqDiff, Nat.reduceAdd, Nat.reduceMul, Nat.reduceSub, Nat.reduceLeDiff, Nat.reduceLT, reduceIte, reduceCtorEq, Int.reduceBNe, Int.reduceBEq, hw, q1, q2]; try simp)) (wk_of_eq ?_) (by (repeat (first | exact St.le_refl _ | (refine St.le_new ?_ (by assumption)) | (refine St.le_newT ?_ (by assumption))))))
    (simp only [resAV, rvV, List.map_cons, List.map_nil, ↓R1, RR, Nat.reduceEqDiff, Nat.reduceAdd, Nat.reduceMul, Nat.reduceSub, Nat.reduceLeDiff, Nat.reduceLT, reduceIte, reduceCtorEq, Int.reduceBNe, Int.reduceBEq, hw, q1, q2])
    simp [trim1, h]
  · rw [decide_eq_false h] at hp
    (refine Pu_intro c57 b57 (Nat.le_of_ble_eq_true rfl) fun σ => ?_; simp only [c57, ↓R1, RR, Nat.reduceEqDiff, Nat.reduceAdd, Nat.reduceMul, Nat.reduceSub, Nat.reduceLeDiff, Nat.reduceLT, reduceIte, reduceCtorEq, Int.reduceBNe, Int.reduceBEq, hw, q1, q2])
    repeat' (first | (with_reducible rw [allocV_eq]) | (with_reducible refine And.intro ?_ ?_; focus (intros; (repeat' (with_reducible apply And.intro)) <;> first | omega | (simp only [RZ, cWd_len]; omega))) | (with_reducible apply And.intro) | ((first | (refine gdV_split (fun hc => ?_) (fun hc => ?_) <;> (try simp only [hc, ↓R1, RR, Nat.reduceEqDiff, Nat.reduceAdd, Nat.reduceMul, Nat.reduceSub, Nat.reduceLeDiff, Nat.reduceLT, reduceIte, reduceCtorEq, Int.reduceBNe, Int.reduceBEq, hw, q1, q2])) | refine condV_split (fun hc => ?_) (fun hc => ?_) | (with_reducible intro β hβ; (try simp only [RB] at hβ); (repeat (obtain ⟨⟨_, _⟩, hβ⟩ := hβ)); (try (have hbis := apart_is (by assumption) hβ; obtain ⟨_, _⟩ := hbis))) | refine Pt (hp) ?_ | refine Ct (hp) ?_) <;> (try simp only [↓R1, RR, Nat.reduceEqDiff, Nat.reduceAdd, Nat.reduceMul, Nat.reduceSub, Nat.reduceLeDiff, Nat.reduceLT, reduceIte, reduceCtorEq, Int.reduceBNe, Int.reduceBEq, hw, q1, q2])))
    (refine endP_pu (by simp) (by first | (simp [rvsS, rvS]; done) | (simp only [rvsS, rvS, ↓R1, RR, Nat.reduceEqDiff, Nat.reduceAdd, Nat.reduceMul, Nat.reduceSub, Nat.reduceLeDiff, Nat.reduceLT, reduceIte, reduceCtorEq, Int.reduceBNe, Int.reduceBEq, hw, q1, q2]; try simp)) (wk_of_eq ?_) (by (repeat (first | exact St.le_refl _ | (refine St.le_new ?_ (by assumption)) | (refine St.le_newT ?_ (by assumption))))))
    (simp only [resAV, rvV, List.map_cons, List.map_nil, ↓R1, RR, Nat.reduceEqDiff, Nat.reduceAdd, Nat.reduceMul, Nat.reduceSub, Nat.reduceLeDiff, Nat.reduceLT, reduceIte, reduceCtorEq, Int.reduceBNe, Int.reduceBEq, hw, q1, q2])
    simp [trim1, h]
theorem p47 (l : List UInt8) (hl : l.length ≤ 1000000) : Pu Tryd.prog 47 [.str l, .str [10]] (.str (trim1 l)) := by
  have q1 : True := trivial
  have q2 : True := trivial
  have hw : True := trivial
  (refine Pu_intro c47 b47 (Nat.le_of_ble_eq_true rfl) fun σ => ?_; simp only [c47, ↓R1, RR, Nat.reduceEqDiff, Nat.reduceAdd, Nat.reduceMul, Nat.reduceSub, Nat.reduceLeDiff, Nat.reduceLT, reduceIte, reduceCtorEq, Int.reduceBNe, Int.reduceBEq, hw, q1, q2])
  repeat' (first | (with_reducible rw [allocV_eq]) | (with_reducible refine And.intro ?_ ?_; focus (intros; (repeat' (with_reducible apply And.intro)) <;> first | omega | (simp only [RZ, cWd_len]; omega))) | (with_reducible apply And.intro) | ((first | (refine gdV_split (fun hc => ?_) (fun hc => ?_) <;> (try simp only [hc, ↓R1, RR, Nat.reduceEqDiff, Nat.reduceAdd, Nat.reduceMul, Nat.reduceSub, Nat.reduceLeDiff, Nat.reduceLT, reduceIte, reduceCtorEq, Int.reduceBNe, Int.reduceBEq, hw, q1, q2])) | refine condV_split (fun hc => ?_) (fun hc => ?_) | (with_reducible intro β hβ; (try simp only [RB] at hβ); (repeat (obtain ⟨⟨_, _⟩, hβ⟩ := hβ)); (try (have hbis := apart_is (by assumption) hβ; obtain ⟨_, _⟩ := hbis))) | refine Pt (p57 l hl) ?_ | refine Ct (p57 l hl) ?_) <;> (try simp only [↓R1, RR, Nat.reduceEqDiff, Nat.reduceAdd, Nat.reduceMul, Nat.reduceSub, Nat.reduceLeDiff, Nat.reduceLT, reduceIte, reduceCtorEq, Int.reduceBNe, Int.reduceBEq, hw, q1, q2])))
  (refine endP_pu (by simp) (by first | (simp [rvsS, rvS]; done) | (simp only [rvsS, rvS, ↓R1, RR, Nat.reduceEqDiff, Nat.reduceAdd, Nat.reduceMul, Nat.reduceSub, Nat.reduceLeDiff, Nat.reduceLT, reduceIte, reduceCtorEq, Int.reduceBNe, Int.reduceBEq, hw, q1, q2]; try simp)) (wk_of_eq ?_) (by (repeat (first | exact St.le_refl _ | (refine St.le_new ?_ (by assumption)) | (refine St.le_newT ?_ (by assumption))))))
  (simp only [resAV, rvV, List.map_cons, List.map_nil, ↓R1, RR, Nat.reduceEqDiff, Nat.reduceAdd, Nat.reduceMul, Nat.reduceSub, Nat.reduceLeDiff, Nat.reduceLT, reduceIte, reduceCtorEq, Int.reduceBNe, Int.reduceBEq, hw, q1, q2])
theorem trim_line (x : List UInt8) : trim1 (x ++ [10]) = x := by
  have h1 : (x ++ [10] : List UInt8).length - 1 = x.length := by simp
  unfold trim1
  rw [h1, List.drop_left, if_pos ⟨by simp, rfl⟩, List.take_left]
theorem trim_last {l : List UInt8} (h : afterOf l = []) : trim1 l = l := by
  unfold trim1
  rw [if_neg]
  rintro ⟨h1, h2⟩
  have hl := line_after l
  rw [h, List.append_nil] at hl
  have hm : (10 : UInt8) ∈ lineOf l := by
    rw [hl]
    exact List.mem_of_mem_drop (i := l.length - 1) (by rw [h2]; simp)
  have : ∀ m : List UInt8, (10 : UInt8) ∈ lineOf m → False := by
    intro m
    induction m with
    | nil => intro h; simp [lineOf] at h
    | cons c m ih =>
      intro h
      simp only [lineOf, List.takeWhile_cons] at h
      split at h
      · rename_i hc
        rcases List.mem_cons.1 h with e | h
        · subst e; simp at hc
        · exact ih h
      · simp at h
  exact this l hm
end Go.Proofs.YtemddijemikleaaDoor
namespace Go.Proofs.YtemddijemikleaaDoor
open Go.Abs
set_option linter.all false
set_option maxRecDepth 100000
def cRw (r : Rw) : List AV := [.int .i64 (r.a : Nat), .sl false r.ws.length (r.ws.flatMap cWd)]
theorem cRw_len (l : List Rw) : (l.flatMap cRw).length = l.length * 2 := flat_len (f := cRw) (fun _ => rfl) l
def faultV (e a : Nat) : AV := .agg [.int .i64 (e : Nat), .int .i64 (a : Nat)]
def rowsV : Except (Nat × Nat) (List Rw) → AV
  | .error (e, a) => .tup [.sl false 0 [], faultV e a]
  | .ok rs => .tup [.sl false rs.length (rs.flatMap cRw), faultV 0 0]
theorem bx_comm (σ : St) {β γ : Nat} [h : Apart γ β] (a b : List AV) : (σ.setBox β a).setBox γ b = (σ.setBox γ b).setBox β a := by
  simp only [St.setBox, St.mk.injEq, and_true]
  funext j
  simp only [upd]
  by_cases h1 : j = γ
  · subst h1; rw [if_pos rfl, if_neg h.ne, if_pos rfl]
  · rw [if_neg h1, if_neg h1]
theorem set_over4 (σ : St) {β γ δ ε ζ : Nat} [Apart β γ] [Apart β δ] [Apart β ε] [Apart β ζ] (a b d e f c : List AV) : (((((σ.setBox β a).setBox γ b).setBox δ d).setBox ε e).setBox ζ f).setBox β c = ((((σ.setBox β c).setBox γ b).setBox δ d).setBox ε e).setBox ζ f := by
  rw [bx_comm _ (β := ζ) (γ := β), bx_comm _ (β := ε) (γ := β), bx_comm _ (β := δ) (γ := β), bx_comm _ (β := γ) (γ := β), St.set_set]
structure RG where
  a : Nat
  rs : List Rw
def TR (σ : St) (b2 b3 b4 b5 β0 β1 β2 τ : Nat) (g : RG) (rest : List UInt8) : St :=
  (((((((((σ.setBox b2 [AV.nils]).setBox b3 [AV.int IntKind.i64 0, AV.int IntKind.i64 0]).setBox b4 [AV.nils]).setBox b5 [AV.int IntKind.i64 (g.a : Nat)]).setBox β0 [AV.str rest]).setBox β1 [AV.str [10]]).setBox β2 [AV.int IntKind.i64 1]).setBox b4 [AV.tsl τ g.rs.length (g.rs.flatMap cRw)]).setTip τ (43, 2, g.rs.length))
theorem lineRow_err {x : List UInt8} {a b : Nat} (h : ¬ 1000 < x.length) (hw : wordsS x = .error b) : lineRow x a = .error (3, a + b) := by
  simp only [lineRow, if_neg h, hw]
theorem lineRow_nil {x : List UInt8} {a : Nat} (h : ¬ 1000 < x.length) (hw : wordsS x = .ok []) : lineRow x a = .ok [] := by
  simp only [lineRow, if_neg h, hw]
theorem lineRow_cons {x : List UInt8} {a : Nat} {ws : List Wd} (h : ¬ 1000 < x.length) (hw : wordsS x = .ok ws) (hn : ws ≠ []) : lineRow x a = .ok [⟨a, ws.map (shiftW a)⟩] := by
  cases ws with
  | nil => exact (hn rfl).elim
  | cons w ws => simp only [lineRow, if_neg h, hw]
theorem words_owned (σ : St) {x : List UInt8} {ws : List Wd} (hl : x.length ≤ 1000000) (hw : wordsS x = .ok ws) (hn : ws ≠ []) :
    AC Tryd.prog 48 [.str x] σ (fun r s => ∃ β k, σ.box β = none ∧ r = .tup (.psl β 0 ws.length :: [.int .i64 0, .bool true]) ∧ s = σ.setBox β (ws.flatMap cWd ++ List.replicate k .junk)) := by
  refine AC.owned (e := 31) (es := 3) (enters_of Tryd.func48 (by kernel_rfl) rfl) (by simp [gnd]) (by simp [gnd]) ?_ (by simpa using hn) ?_
  · intro a ha
    simp only [List.mem_flatMap, cWd] at ha
    obtain ⟨w, _, hw⟩ := ha
    simp at hw
    rcases hw with rfl | rfl | rfl <;> rfl
  · have h := a_words (s0 fun _ => none) x hl
    rw [hw] at h
    refine h.mono ?_
    rintro r s ⟨τ, _, rfl, rfl⟩
    cases ws with
    | nil => exact (hn rfl).elim
    | cons w ws => exact ⟨τ, rfl, rfl⟩
end Go.Proofs.YtemddijemikleaaDoor
namespace Go.Proofs.YtemddijemikleaaDoor
open Go.Abs
set_option linter.all false
set_option maxRecDepth 100000
theorem le_lpdrop1 {s s' : St} {L : Nat} {x : Loop × Fr} (h : St.le s s') (hn : s.lp L = none) : St.le s ((s'.setLp L x).dropLp L) := by
  refine ⟨h.1, h.2.1, h.2.2.1, fun l r hr => ?_, h.2.2.2.2⟩
  have hne : l ≠ L := by rintro rfl; rw [hn] at hr; cases hr
  simp only [St.dropLp, St.setLp, upd, if_neg hne]
  exact h.2.2.2.1 _ _ hr
theorem lines_head (l : List UInt8) : lines l = lineOf l :: (match (cut l).2 with | none => [] | some r' => lines r') := by
  rw [lines_eq]
  cases ha : afterOf l with
  | nil =>
    have h1 := line_after l
    rw [ha, List.append_nil] at h1
    rw [cut_none ha, h1]
  | cons c r => rw [(cut_some ha).1]
theorem drop_new {σ : St} {γ : Nat} {c : List AV} (h : σ.box γ = none) : (σ.setBox γ c).dropBox γ = σ := by
  simp only [St.dropBox, St.setBox]
  have : (fun j => if j = γ then none else upd σ.box γ c j) = σ.box := by
    funext j
    simp only [upd]
    split
    · rename_i e; subst e; exact h.symm
    · rfl
  rw [this]
def shG (a : Nat) (ws : List Wd) (k : Nat) (j : List AV) : List AV := ((ws.take k).map (shiftW a) ++ ws.drop k).flatMap cWd ++ j
theorem shG_zero (a : Nat) (ws : List Wd) (j : List AV) : shG a ws 0 j = ws.flatMap cWd ++ j := by simp [shG]
theorem shG_all (a : Nat) (ws : List Wd) (j : List AV) : (shG a ws ws.length j).take (ws.length * 3) = (ws.map (shiftW a)).flatMap cWd := by
  have h := cWd_len (ws.map (shiftW a))
  simp only [shG, List.take_length, List.drop_length, List.append_nil]
  rw [List.take_append_of_le_length (by rw [h]; simp)]
  rw [List.take_of_length_le (by rw [h]; simp)]
theorem shG_len (a : Nat) (ws : List Wd) (k : Nat) (hk : k ≤ ws.length) (j : List AV) : (shG a ws k j).length = ws.length * 3 + j.length := by
  simp only [shG, List.length_append, cWd_len, List.length_map, List.length_take, List.length_drop]
  omega
theorem shG_at (a : Nat) (ws : List Wd) {k : Nat} (hk : k < ws.length) (j : List AV) :
    (shG a ws k j)[k * 3 + 2]? = some (.int .i64 (ws[k].a : Nat)) ∧ (shG a ws k j).take (k * 3 + 2) ++ [AV.int .i64 ((ws[k].a + a : Nat) : Int)] ++ (shG a ws k j).drop (k * 3 + 2 + 1) = shG a ws (k + 1) j := by
  obtain ⟨p, hp⟩ : ∃ p, ((ws.take k).map (shiftW a)).flatMap cWd = p := ⟨_, rfl⟩
  have hpl : p.length = k * 3 := by rw [← hp, cWd_len]; simp; omega
  obtain ⟨s, hs⟩ : ∃ s, (ws.drop (k + 1)).flatMap cWd ++ j = s := ⟨_, rfl⟩
  have e1 : shG a ws k j = (p ++ [AV.bool ws[k].q, AV.str ws[k].t]) ++ (AV.int .i64 (ws[k].a : Nat) :: s) := by
    rw [shG, List.drop_eq_getElem_cons hk, List.flatMap_append, hp, List.flatMap_cons, ← hs]
    simp [cWd]
  have e2 : shG a ws (k + 1) j = (p ++ [AV.bool ws[k].q, AV.str ws[k].t]) ++ (AV.int .i64 ((ws[k].a + a : Nat) : Int) :: s) := by
    rw [shG, ← List.take_append_getElem hk, List.map_append, List.flatMap_append, List.flatMap_append, hp, ← hs]
    simp [cWd, shiftW]
  have hl : (p ++ [AV.bool ws[k].q, AV.str ws[k].t]).length = k * 3 + 2 := by simp [hpl]
  rw [e1, e2]
  refine ⟨?_, ?_⟩
  · rw [List.getElem?_append_right (by omega), hl, Nat.sub_self]; rfl
  · rw [List.take_left' hl, List.drop_append, List.drop_of_length_le (by omega), hl]
    simp
set_option maxHeartbeats 4000000 in
theorem p25 (l : List UInt8) (hl : l.length ≤ 1000000) : Pu Tryd.prog 25 [.str l] (rowsV (rowsS l)) := by
  have q1 : True := trivial
  have q2 : True := trivial
  have q3 : True := trivial
  have q4 : True := trivial
  have q5 : True := trivial
  have hw : True := trivial
  have t2 : True := trivial
  have t3 : True := trivial
  have t4 : True := trivial
  have t5 : True := trivial
  have ttip : True := trivial
  have s5 : True := trivial
  have tl : True := trivial
  by_cases hlong : 20000 < l.length
  · have q1 : decide ((20000 : Int) < (l.length : Int)) = true := by rw [decide_eq_true_eq]; omega
    have e : rowsS l = .error (4, 20000) := by simp only [rowsS, if_pos hlong]
    rw [e]
    (refine Pu_intro c25 b25 (Nat.le_of_ble_eq_true rfl) fun σ => ?_; simp only [c25, ↓R1, RR, Nat.reduceEqDiff, Nat.reduceAdd, Nat.reduceMul, Nat.reduceSub, Nat.reduceLeDiff, Nat.reduceLT, reduceIte, reduceCtorEq, Int.reduceBNe, Int.reduceBEq, aC_frz, frzS, frzV_none, frzV_some, q1, q2, q3, q4, q5, hw, t2, t3, t4, t5, ttip, s5, tl])
    repeat' (first | (with_reducible rw [allocV_eq]) | (with_reducible refine And.intro ?_ ?_; focus (intros; (repeat' (with_reducible apply And.intro)) <;> first | omega | (simp only [RZ, cWd_len, cRw_len]; omega))) | (with_reducible apply And.intro) | ((first | (refine gdV_split (fun hc => ?_) (fun hc => ?_) <;> (try simp only [hc, ↓R1, RR, Nat.reduceEqDiff, Nat.reduceAdd, Nat.reduceMul, Nat.reduceSub, Nat.reduceLeDiff, Nat.reduceLT, reduceIte, reduceCtorEq, Int.reduceBNe, Int.reduceBEq, aC_frz, frzS, frzV_none, frzV_some, q1, q2, q3, q4, q5, hw, t2, t3, t4, t5, ttip, s5, tl])) | refine condV_split (fun hc => ?_) (fun hc => ?_) | (with_reducible intro β hβ; (try simp only [RB] at hβ); (repeat (obtain ⟨⟨_, _⟩, hβ⟩ := hβ)); (try (have hbis := apart_is (by assumption) hβ; obtain ⟨_, _⟩ := hbis)))) <;> (try simp only [↓R1, RR, Nat.reduceEqDiff, Nat.reduceAdd, Nat.reduceMul, Nat.reduceSub, Nat.reduceLeDiff, Nat.reduceLT, reduceIte, reduceCtorEq, Int.reduceBNe, Int.reduceBEq, aC_frz, frzS, frzV_none, frzV_some, q1, q2, q3, q4, q5, hw, t2, t3, t4, t5, ttip, s5, tl])))
    (refine endP_pu (by simp) (by first | (simp [rvsS, rvS]; done) | (simp only [rvsS, rvS, ↓R1, RR, Nat.reduceEqDiff, Nat.reduceAdd, Nat.reduceMul, Nat.reduceSub, Nat.reduceLeDiff, Nat.reduceLT, reduceIte, reduceCtorEq, Int.reduceBNe, Int.reduceBEq, aC_frz, frzS, frzV_none, frzV_some, q1, q2, q3, q4, q5, hw, t2, t3, t4, t5, ttip, s5, tl]; try simp)) ?_ (by (repeat (first | exact St.le_refl _ | (refine St.le_new ?_ (by assumption)) | (refine St.le_newT ?_ (by assumption))))))
    simp only [resAV, rvV, List.map_cons, List.map_nil, ↓R1, RR, Nat.reduceEqDiff, Nat.reduceAdd, Nat.reduceMul, Nat.reduceSub, Nat.reduceLeDiff, Nat.reduceLT, reduceIte, reduceCtorEq, Int.reduceBNe, Int.reduceBEq, aC_frz, frzS, frzV_none, frzV_some, q1, q2, q3, q4, q5, hw, t2, t3, t4, t5, ttip, s5, tl]
    simp only [rowsV, faultV]
    (repeat' (first | exact wk_refl _ | exact wk_nils | exact wk_tsl _ _ _ | exact wk_full _ _ | exact wkL.nil | exact wkL_refl _ | refine wk_tup ?_ | refine wk_agg ?_ | refine wkL.cons ?_ ?_))
  · have q1 : decide ((20000 : Int) < (l.length : Int)) = false := by rw [decide_eq_false_iff_not]; omega
    have e : rowsS l = rowsL (lines l) 0 := by simp only [rowsS, if_neg hlong]
    rw [e]
    (refine Pu_intro c25 b25 (Nat.le_of_ble_eq_true rfl) fun σ => ?_; simp only [c25, ↓R1, RR, Nat.reduceEqDiff, Nat.reduceAdd, Nat.reduceMul, Nat.reduceSub, Nat.reduceLeDiff, Nat.reduceLT, reduceIte, reduceCtorEq, Int.reduceBNe, Int.reduceBEq, aC_frz, frzS, frzV_none, frzV_some, q1, q2, q3, q4, q5, hw, t2, t3, t4, t5, ttip, s5, tl])
    rw [allocV_eq]; intro b2 h2; simp only [↓R1, RR, Nat.reduceEqDiff, Nat.reduceAdd, Nat.reduceMul, Nat.reduceSub, Nat.reduceLeDiff, Nat.reduceLT, reduceIte, reduceCtorEq, Int.reduceBNe, Int.reduceBEq, aC_frz, frzS, frzV_none, frzV_some, q1, q2, q3, q4, q5, hw, t2, t3, t4, t5, ttip, s5, tl]
    rw [allocV_eq]; intro b3 h3; rw [St.box_noneA] at h3; obtain ⟨⟨_, _⟩, h3⟩ := h3; simp only [↓R1, RR, Nat.reduceEqDiff, Nat.reduceAdd, Nat.reduceMul, Nat.reduceSub, Nat.reduceLeDiff, Nat.reduceLT, reduceIte, reduceCtorEq, Int.reduceBNe, Int.reduceBEq, aC_frz, frzS, frzV_none, frzV_some, q1, q2, q3, q4, q5, hw, t2, t3, t4, t5, ttip, s5, tl]
    rw [allocV_eq]; intro b4 h4; simp only [St.box_noneA] at h4; obtain ⟨⟨_, _⟩, ⟨_, _⟩, h4⟩ := h4; simp only [↓R1, RR, Nat.reduceEqDiff, Nat.reduceAdd, Nat.reduceMul, Nat.reduceSub, Nat.reduceLeDiff, Nat.reduceLT, reduceIte, reduceCtorEq, Int.reduceBNe, Int.reduceBEq, aC_frz, frzS, frzV_none, frzV_some, q1, q2, q3, q4, q5, hw, t2, t3, t4, t5, ttip, s5, tl]
    rw [allocV_eq]; intro b5 h5; simp only [St.box_noneA] at h5; obtain ⟨⟨_, _⟩, ⟨_, _⟩, ⟨_, _⟩, h5⟩ := h5; simp only [↓R1, RR, Nat.reduceEqDiff, Nat.reduceAdd, Nat.reduceMul, Nat.reduceSub, Nat.reduceLeDiff, Nat.reduceLT, reduceIte, reduceCtorEq, Int.reduceBNe, Int.reduceBEq, aC_frz, frzS, frzV_none, frzV_some, q1, q2, q3, q4, q5, hw, t2, t3, t4, t5, ttip, s5, tl]
    refine (AC.wk (a_split _ l) (wkL_refl _)).mono ?_
    rintro _ _ ⟨β0, β1, β2, k0, k1, k2, ⟨_, _⟩, ⟨_, _⟩, ⟨_, _⟩, rfl, rfl⟩
    simp only [St.box_noneA] at k0 k1 k2
    obtain ⟨⟨_, _⟩, ⟨_, _⟩, ⟨_, _⟩, ⟨_, _⟩, ⟨_, _⟩, k0⟩ := k0
    obtain ⟨⟨_, _⟩, ⟨_, _⟩, ⟨_, _⟩, ⟨_, _⟩, ⟨_, _⟩, k1⟩ := k1
    obtain ⟨⟨_, _⟩, ⟨_, _⟩, ⟨_, _⟩, ⟨_, _⟩, ⟨_, _⟩, k2⟩ := k2
    simp only [↓R1, RR, Nat.reduceEqDiff, Nat.reduceAdd, Nat.reduceMul, Nat.reduceSub, Nat.reduceLeDiff, Nat.reduceLT, reduceIte, reduceCtorEq, Int.reduceBNe, Int.reduceBEq, aC_frz, frzS, frzV_none, frzV_some, q1, q2, q3, q4, q5, hw, t2, t3, t4, t5, ttip, s5, tl]
    refine rfunV_start [(true, 4, 0, 43, 2)] ?_
    simp only [startP, List.set_cons_zero, ↓R1, RR, Nat.reduceEqDiff, Nat.reduceAdd, Nat.reduceMul, Nat.reduceSub, Nat.reduceLeDiff, Nat.reduceLT, reduceIte, reduceCtorEq, Int.reduceBNe, Int.reduceBEq, aC_frz, frzS, frzV_none, frzV_some, q1, q2, q3, q4, q5, hw, t2, t3, t4, t5, ttip, s5, tl]
    intro τ hτ
    refine ⟨_, _, rfl, ?_⟩
    obtain ⟨T, hT⟩ : ∃ T, T = TR σ b2 b3 b4 b5 β0 β1 β2 τ := ⟨_, rfl⟩
    have t0 : ∀ g r, (T g r).box β0 = some [.str r] := fun g r => by subst hT; simp only [TR, ↓R1, RR, Nat.reduceEqDiff, Nat.reduceAdd, Nat.reduceMul, Nat.reduceSub, Nat.reduceLeDiff, Nat.reduceLT, reduceIte, reduceCtorEq, Int.reduceBNe, Int.reduceBEq, aC_frz, frzS, frzV_none, frzV_some, q1, q2, q3, q4, q5, hw, t2, t3, t4, t5, ttip, s5, tl]
    have t1 : ∀ g r, (T g r).box β1 = some [.str [10]] := fun g r => by subst hT; simp only [TR, ↓R1, RR, Nat.reduceEqDiff, Nat.reduceAdd, Nat.reduceMul, Nat.reduceSub, Nat.reduceLeDiff, Nat.reduceLT, reduceIte, reduceCtorEq, Int.reduceBNe, Int.reduceBEq, aC_frz, frzS, frzV_none, frzV_some, q1, q2, q3, q4, q5, hw, t2, t3, t4, t5, ttip, s5, tl]
    have t22 : ∀ g r, (T g r).box β2 = some [.int .i64 1] := fun g r => by subst hT; simp only [TR, ↓R1, RR, Nat.reduceEqDiff, Nat.reduceAdd, Nat.reduceMul, Nat.reduceSub, Nat.reduceLeDiff, Nat.reduceLT, reduceIte, reduceCtorEq, Int.reduceBNe, Int.reduceBEq, aC_frz, frzS, frzV_none, frzV_some, q1, q2, q3, q4, q5, hw, t2, t3, t4, t5, ttip, s5, tl]
    have t2 : ∀ g r, (T g r).box b2 = some [.nils] := fun g r => by subst hT; simp only [TR, ↓R1, RR, Nat.reduceEqDiff, Nat.reduceAdd, Nat.reduceMul, Nat.reduceSub, Nat.reduceLeDiff, Nat.reduceLT, reduceIte, reduceCtorEq, Int.reduceBNe, Int.reduceBEq, aC_frz, frzS, frzV_none, frzV_some, q1, q2, q3, q4, q5, hw, t2, t3, t4, t5, ttip, s5, tl]
    have t3 : ∀ g r, (T g r).box b3 = some [.int .i64 0, .int .i64 0] := fun g r => by subst hT; simp only [TR, ↓R1, RR, Nat.reduceEqDiff, Nat.reduceAdd, Nat.reduceMul, Nat.reduceSub, Nat.reduceLeDiff, Nat.reduceLT, reduceIte, reduceCtorEq, Int.reduceBNe, Int.reduceBEq, aC_frz, frzS, frzV_none, frzV_some, q1, q2, q3, q4, q5, hw, t2, t3, t4, t5, ttip, s5, tl]
    have t4 : ∀ g r, (T g r).box b4 = some [.tsl τ g.rs.length (g.rs.flatMap cRw)] := fun g r => by subst hT; simp only [TR, ↓R1, RR, Nat.reduceEqDiff, Nat.reduceAdd, Nat.reduceMul, Nat.reduceSub, Nat.reduceLeDiff, Nat.reduceLT, reduceIte, reduceCtorEq, Int.reduceBNe, Int.reduceBEq, aC_frz, frzS, frzV_none, frzV_some, q1, q2, q3, q4, q5, hw, t2, t3, t4, t5, ttip, s5, tl]
    have t5 : ∀ g r, (T g r).box b5 = some [.int .i64 (g.a : Nat)] := fun g r => by subst hT; simp only [TR, ↓R1, RR, Nat.reduceEqDiff, Nat.reduceAdd, Nat.reduceMul, Nat.reduceSub, Nat.reduceLeDiff, Nat.reduceLT, reduceIte, reduceCtorEq, Int.reduceBNe, Int.reduceBEq, aC_frz, frzS, frzV_none, frzV_some, q1, q2, q3, q4, q5, hw, t2, t3, t4, t5, ttip, s5, tl]
    have ttip : ∀ g r, (T g r).tip τ = some (43, 2, g.rs.length) := fun g r => by subst hT; simp only [TR, ↓R1, RR, Nat.reduceEqDiff, Nat.reduceAdd, Nat.reduceMul, Nat.reduceSub, Nat.reduceLeDiff, Nat.reduceLT, reduceIte, reduceCtorEq, Int.reduceBNe, Int.reduceBEq, aC_frz, frzS, frzV_none, frzV_some, q1, q2, q3, q4, q5, hw, t2, t3, t4, t5, ttip, s5, tl]
    have s0 : ∀ g r r', (T g r).setBox β0 [.str r'] = T g r' := fun g r r' => by subst hT; simp only [TR, ↓R1, RR, Nat.reduceEqDiff, Nat.reduceAdd, Nat.reduceMul, Nat.reduceSub, Nat.reduceLeDiff, Nat.reduceLT, reduceIte, reduceCtorEq, Int.reduceBNe, Int.reduceBEq, aC_frz, frzS, frzV_none, frzV_some, q1, q2, q3, q4, q5, hw, t2, t3, t4, t5, ttip, s5, tl]
    have s5 : ∀ (g : RG) r (a' : Nat) L x, ((T g r).setLp L x).setBox b5 [.int .i64 a'] = (T ⟨a', g.rs⟩ r).setLp L x := fun g r a' L x => by
      subst hT; rw [← St.setBox_setLp]; simp only [TR, set_over4, ↓R1, RR, Nat.reduceEqDiff, Nat.reduceAdd, Nat.reduceMul, Nat.reduceSub, Nat.reduceLeDiff, Nat.reduceLT, reduceIte, reduceCtorEq, Int.reduceBNe, Int.reduceBEq, aC_frz, frzS, frzV_none, frzV_some, q1, q2, q3, q4, q5, hw, t2, t3, t4, t5, ttip, s5, tl]
    have s4 : ∀ (g : RG) r rs' L x, (((T g r).setLp L x).setBox b4 [.tsl τ rs'.length (rs'.flatMap cRw)]).setTip τ (43, 2, rs'.length) = (T ⟨g.a, rs'⟩ r).setLp L x := fun g r rs' L x => by
      subst hT; rw [← St.setBox_setLp, ← St.setTip_setLp]; simp only [TR, ↓R1, RR, Nat.reduceEqDiff, Nat.reduceAdd, Nat.reduceMul, Nat.reduceSub, Nat.reduceLeDiff, Nat.reduceLT, reduceIte, reduceCtorEq, Int.reduceBNe, Int.reduceBEq, aC_frz, frzS, frzV_none, frzV_some, q1, q2, q3, q4, q5, hw, t2, t3, t4, t5, ttip, s5, tl]
    have tl : ∀ g r, (T g r).lp = σ.lp := fun g r => by subst hT; rfl
    have tle : ∀ g r, St.le σ (T g r) := fun g r => by
      subst hT
      refine St.le_setTip (St.le_setBox (St.le_setBox (St.le_setBox (St.le_setBox (St.le_setBox (St.le_setBox (St.le_setBox (St.le_setBox (St.le_refl σ) h2) h3) h4) h5) k0) k1) k2) h4) hτ
    have hst : ((((((((((σ.setBox b2 [AV.nils]).setBox b3 [AV.int IntKind.i64 0, AV.int IntKind.i64 0]).setBox b4 [AV.nils]).setBox b5 [AV.int IntKind.i64 0]).setBox β0 [AV.str l]).setBox β1 [AV.str [10]]).setBox β2 [AV.int IntKind.i64 1]).setBox b4 [AV.tsl τ 0 []]).setTip τ (43, 2, 0))) = T ⟨0, []⟩ l := by
      subst hT; rfl
    rw [hst]
    clear hst
    refine RF_lines T (fun g rest => rest.length ≤ l.length ∧ g.a = l.length - rest.length ∧ g.rs.length ≤ g.a ∧ rowsL (lines l) 0 = bindR (.ok g.rs) (rowsL (lines rest) g.a)) (fun g => rowsL (lines l) 0 = .ok g.rs ∧ g.rs.length ≤ l.length + 1) rfl _ _ ⟨Nat.le_refl _, by simp, Nat.zero_le _, by rw [bindR_nil]⟩ t0 t1 t22 s0 (fun g r L => by rw [tl, tl]) (fun g r h => Nat.le_trans h.1 hl) ?_ ?_
    · rintro L r g rest hL ⟨i1, i2, i3, i4⟩
      have hL0 : σ.lp L = none := by rw [tl] at hL; exact hL
      have hcut : (trim1 (cut rest).1 = lineOf rest) ∧ (cut rest).1.length ≤ rest.length ∧ (lineOf rest).length ≤ (cut rest).1.length := by
        cases ha : afterOf rest with
        | nil =>
          have h1 := line_after rest
          rw [ha, List.append_nil] at h1
          rw [cut_none ha, h1]
          exact ⟨trim_last ha, Nat.le_refl _, Nat.le_refl _⟩
        | cons c r' =>
          obtain ⟨k1, k2, k3, k4⟩ := cut_some ha
          rw [k1]
          exact ⟨trim_line _, by simpa using k4, by simp⟩
      obtain ⟨hc1, hc2, hc3⟩ := hcut
      have hw : IntKind.i64.wrap ((g.a : Int) + ((cut rest).1.length : Int)) = ((g.a + (cut rest).1.length : Nat) : Int) := by rw [wrap64 (by omega) (by omega)]; omega
      have ht := p47 (cut rest).1 (by omega)
      rw [hc1] at ht
      have fin : ∀ nw : List Rw, lineRow (lineOf rest) g.a = .ok nw → nw.length ≤ 1 → match (cut rest).2 with
          | none => rowsL (lines l) 0 = .ok (g.rs ++ nw) ∧ (g.rs ++ nw).length ≤ l.length + 1
          | some r' => r'.length ≤ l.length ∧ g.a + (cut rest).1.length = l.length - r'.length ∧ (g.rs ++ nw).length ≤ g.a + (cut rest).1.length ∧ rowsL (lines l) 0 = bindR (.ok (g.rs ++ nw)) (rowsL (lines r') (g.a + (cut rest).1.length)) := by
        intro nw h1 h2
        rw [lines_head rest] at i4
        simp only [rowsL, h1] at i4
        rw [← bindR_assoc] at i4
        have hb : bindR (.ok g.rs) (.ok nw) = .ok (g.rs ++ nw) := rfl
        rw [hb] at i4
        have hn : (g.rs ++ nw).length ≤ g.a + 1 := by simp; omega
        cases ha : afterOf rest with
        | nil =>
          rw [cut_none ha] at i4 ⊢
          simp only [rowsL, bindR_ok_nil] at i4 ⊢
          exact ⟨i4, by omega⟩
        | cons c r' =>
          obtain ⟨k1, k2, k3, k4⟩ := cut_some ha
          rw [k1] at i4 ⊢
          have hr' : r'.length = rest.length - ((lineOf rest).length + 1) := by rw [← k3]; simp
          simp only [List.length_append, List.length_cons, List.length_nil] at i4 hn ⊢
          refine ⟨by omega, by omega, by omega, ?_⟩
          rw [i4]
          congr 2
      simp only [putL, ↓R1, RR, Nat.reduceEqDiff, Nat.reduceAdd, Nat.reduceMul, Nat.reduceSub, Nat.reduceLeDiff, Nat.reduceLT, reduceIte, reduceCtorEq, Int.reduceBNe, Int.reduceBEq, aC_frz, frzS, frzV_none, frzV_some, q1, q2, q3, q4, q5, hw, t2, t3, t4, t5, ttip, s5, tl]
      by_cases h1000 : 1000 < (lineOf rest).length
      · have q2 : decide ((1000 : Int) < ((lineOf rest).length : Int)) = true := by rw [decide_eq_true_eq]; omega
        have hrr : rowsL (lines l) 0 = .error (4, g.a) := by rw [i4, lines_head]; simp only [rowsL, lineRow, if_pos h1000, bindR]
        repeat' (first | (with_reducible rw [allocV_eq]) | (with_reducible refine And.intro ?_ ?_; focus (intros; (repeat' (with_reducible apply And.intro)) <;> first | omega | (simp only [RZ, cWd_len, cRw_len]; omega))) | (with_reducible apply And.intro) | ((first | (refine gdV_split (fun hc => ?_) (fun hc => ?_) <;> (try simp only [hc, ↓R1, RR, Nat.reduceEqDiff, Nat.reduceAdd, Nat.reduceMul, Nat.reduceSub, Nat.reduceLeDiff, Nat.reduceLT, reduceIte, reduceCtorEq, Int.reduceBNe, Int.reduceBEq, aC_frz, frzS, frzV_none, frzV_some, q1, q2, q3, q4, q5, hw, t2, t3, t4, t5, ttip, s5, tl])) | refine condV_split (fun hc => ?_) (fun hc => ?_) | (with_reducible intro β hβ; (try simp only [RB] at hβ); (repeat (obtain ⟨⟨_, _⟩, hβ⟩ := hβ)); (try (have hbis := apart_is (by assumption) hβ; obtain ⟨_, _⟩ := hbis))) | refine Pt (ht) ?_ | refine Ct (ht) ?_) <;> (try simp only [↓R1, RR, Nat.reduceEqDiff, Nat.reduceAdd, Nat.reduceMul, Nat.reduceSub, Nat.reduceLeDiff, Nat.reduceLT, reduceIte, reduceCtorEq, Int.reduceBNe, Int.reduceBEq, aC_frz, frzS, frzV_none, frzV_some, q1, q2, q3, q4, q5, hw, t2, t3, t4, t5, ttip, s5, tl])))
        rw [hrr]
        refine endP_pu (by simp) (by first | (simp [rvsS, rvS]; done) | (simp only [rvsS, rvS, ↓R1, RR, Nat.reduceEqDiff, Nat.reduceAdd, Nat.reduceMul, Nat.reduceSub, Nat.reduceLeDiff, Nat.reduceLT, reduceIte, reduceCtorEq, Int.reduceBNe, Int.reduceBEq, aC_frz, frzS, frzV_none, frzV_some, q1, q2, q3, q4, q5, hw, t2, t3, t4, t5, ttip, s5, tl]; try simp)) ?_ (St.le_setBox (St.le_setBox (le_lpdrop1 (tle _ _) hL0) h2) h3)
        simp only [resAV, rvV, List.map_cons, List.map_nil, ↓R1, RR, Nat.reduceEqDiff, Nat.reduceAdd, Nat.reduceMul, Nat.reduceSub, Nat.reduceLeDiff, Nat.reduceLT, reduceIte, reduceCtorEq, Int.reduceBNe, Int.reduceBEq, aC_frz, frzS, frzV_none, frzV_some, q1, q2, q3, q4, q5, hw, t2, t3, t4, t5, ttip, s5, tl]
        simp only [rowsV, faultV]
        (repeat' (first | exact wk_refl _ | exact wk_nils | exact wk_tsl _ _ _ | exact wk_full _ _ | exact wkL.nil | exact wkL_refl _ | refine wk_tup ?_ | refine wk_agg ?_ | refine wkL.cons ?_ ?_))
      · have q2 : decide ((1000 : Int) < ((lineOf rest).length : Int)) = false := by rw [decide_eq_false_iff_not]; omega
        have hll : (lineOf rest).length ≤ 1000000 := by omega
        cases hws : wordsS (lineOf rest) with
        | error b =>
          have hrr : rowsL (lines l) 0 = .error (3, g.a + b) := by rw [i4, lines_head]; simp only [rowsL, lineRow_err h1000 hws, bindR]
          have ha : ∀ s, AC Tryd.prog 48 [.str (lineOf rest)] s (fun r s' => r = .tup [.nils, .int .i64 (b : Nat), .bool false] ∧ s' = s) := fun s => by
            have := a_words s (lineOf rest) hll
            rwa [hws] at this
          have hb : b ≤ 1000000 := by have := words_err hws; omega
          have q3 : IntKind.i64.wrap ((g.a : Int) + (b : Int)) = ((g.a + b : Nat) : Int) := by rw [wrap64 (by omega) (by omega)]; omega
          repeat' (first | (with_reducible rw [allocV_eq]) | (with_reducible refine And.intro ?_ ?_; focus (intros; (repeat' (with_reducible apply And.intro)) <;> first | omega | (simp only [RZ, cWd_len, cRw_len]; omega))) | (with_reducible apply And.intro) | ((first | (refine gdV_split (fun hc => ?_) (fun hc => ?_) <;> (try simp only [hc, ↓R1, RR, Nat.reduceEqDiff, Nat.reduceAdd, Nat.reduceMul, Nat.reduceSub, Nat.reduceLeDiff, Nat.reduceLT, reduceIte, reduceCtorEq, Int.reduceBNe, Int.reduceBEq, aC_frz, frzS, frzV_none, frzV_some, q1, q2, q3, q4, q5, hw, t2, t3, t4, t5, ttip, s5, tl])) | refine condV_split (fun hc => ?_) (fun hc => ?_) | (with_reducible intro β hβ; (try simp only [RB] at hβ); (repeat (obtain ⟨⟨_, _⟩, hβ⟩ := hβ)); (try (have hbis := apart_is (by assumption) hβ; obtain ⟨_, _⟩ := hbis))) | refine Pt (ht) ?_ | refine Ct (ht) ?_ | (refine AC.mono (AC.wk (ha _) (wkL_refl _)) ?_; (rintro _ _ ⟨rfl, rfl⟩))) <;> (try simp only [↓R1, RR, Nat.reduceEqDiff, Nat.reduceAdd, Nat.reduceMul, Nat.reduceSub, Nat.reduceLeDiff, Nat.reduceLT, reduceIte, reduceCtorEq, Int.reduceBNe, Int.reduceBEq, aC_frz, frzS, frzV_none, frzV_some, q1, q2, q3, q4, q5, hw, t2, t3, t4, t5, ttip, s5, tl])))
          rw [hrr]
          refine endP_pu (by simp) (by first | (simp [rvsS, rvS]; done) | (simp only [rvsS, rvS, ↓R1, RR, Nat.reduceEqDiff, Nat.reduceAdd, Nat.reduceMul, Nat.reduceSub, Nat.reduceLeDiff, Nat.reduceLT, reduceIte, reduceCtorEq, Int.reduceBNe, Int.reduceBEq, aC_frz, frzS, frzV_none, frzV_some, q1, q2, q3, q4, q5, hw, t2, t3, t4, t5, ttip, s5, tl]; try simp)) ?_ (St.le_setBox (St.le_setBox (le_lpdrop1 (tle _ _) hL0) h2) h3)
          simp only [resAV, rvV, List.map_cons, List.map_nil, ↓R1, RR, Nat.reduceEqDiff, Nat.reduceAdd, Nat.reduceMul, Nat.reduceSub, Nat.reduceLeDiff, Nat.reduceLT, reduceIte, reduceCtorEq, Int.reduceBNe, Int.reduceBEq, aC_frz, frzS, frzV_none, frzV_some, q1, q2, q3, q4, q5, hw, t2, t3, t4, t5, ttip, s5, tl]
          simp only [rowsV, faultV]
          (repeat' (first | exact wk_refl _ | exact wk_nils | exact wk_tsl _ _ _ | exact wk_full _ _ | exact wkL.nil | exact wkL_refl _ | refine wk_tup ?_ | refine wk_agg ?_ | refine wkL.cons ?_ ?_))
        | ok ws =>
          by_cases hne : ws = []
          · subst hne
            have hrr := lineRow_nil (a := g.a) h1000 hws
            have ha : ∀ s, AC Tryd.prog 48 [.str (lineOf rest)] s (fun r s' => r = .tup [.nils, .int .i64 0, .bool true] ∧ s' = s) := fun s => by
              have := a_words s (lineOf rest) hll
              rw [hws] at this
              refine this.mono ?_
              rintro r s' ⟨τ', _, rfl, rfl⟩
              exact ⟨rfl, rfl⟩
            have q3 : decide (((0 : Int)) < ((0 : Nat) : Int)) = false := rfl
            repeat' (first | (with_reducible rw [allocV_eq]) | (with_reducible refine And.intro ?_ ?_; focus (intros; (repeat' (with_reducible apply And.intro)) <;> first | omega | (simp only [RZ, cWd_len, cRw_len]; omega))) | (with_reducible apply And.intro) | ((first | (refine gdV_split (fun hc => ?_) (fun hc => ?_) <;> (try simp only [hc, ↓R1, RR, Nat.reduceEqDiff, Nat.reduceAdd, Nat.reduceMul, Nat.reduceSub, Nat.reduceLeDiff, Nat.reduceLT, reduceIte, reduceCtorEq, Int.reduceBNe, Int.reduceBEq, aC_frz, frzS, frzV_none, frzV_some, q1, q2, q3, q4, q5, hw, t2, t3, t4, t5, ttip, s5, tl])) | refine condV_split (fun hc => ?_) (fun hc => ?_) | (with_reducible intro β hβ; (try simp only [RB] at hβ); (repeat (obtain ⟨⟨_, _⟩, hβ⟩ := hβ)); (try (have hbis := apart_is (by assumption) hβ; obtain ⟨_, _⟩ := hbis))) | refine Pt (ht) ?_ | refine Ct (ht) ?_ | (refine AC.mono (AC.wk (ha _) (wkL_refl _)) ?_; (rintro _ _ ⟨rfl, rfl⟩))) <;> (try simp only [↓R1, RR, Nat.reduceEqDiff, Nat.reduceAdd, Nat.reduceMul, Nat.reduceSub, Nat.reduceLeDiff, Nat.reduceLT, reduceIte, reduceCtorEq, Int.reduceBNe, Int.reduceBEq, aC_frz, frzS, frzV_none, frzV_some, q1, q2, q3, q4, q5, hw, t2, t3, t4, t5, ttip, s5, tl])))
            refine loopV_st (α := Unit) (fun _ => [(4, .ptr b4 0), (7, .int .i64 (g.a : Nat)), (8, .nils), (44, .int .i64 ((0 : Nat) : Int)), (45, .int .i64 0)]) (fun _ => _) (fun _ => True) (fun _ => 0) () (by simp [subF, slot, wk_refl]) (St.le_refl _) trivial ?_
            rintro _ _
            simp only [↓R1, RR, Nat.reduceEqDiff, Nat.reduceAdd, Nat.reduceMul, Nat.reduceSub, Nat.reduceLeDiff, Nat.reduceLT, reduceIte, reduceCtorEq, Int.reduceBNe, Int.reduceBEq, aC_frz, frzS, frzV_none, frzV_some, q1, q2, q3, q4, q5, hw, t2, t3, t4, t5, ttip, s5, tl]
            repeat' (first | (with_reducible rw [allocV_eq]) | (with_reducible refine And.intro ?_ ?_; focus (intros; (repeat' (with_reducible apply And.intro)) <;> first | omega | (simp only [RZ, cWd_len, cRw_len]; omega))) | (with_reducible apply And.intro) | ((first | (refine gdV_split (fun hc => ?_) (fun hc => ?_) <;> (try simp only [hc, ↓R1, RR, Nat.reduceEqDiff, Nat.reduceAdd, Nat.reduceMul, Nat.reduceSub, Nat.reduceLeDiff, Nat.reduceLT, reduceIte, reduceCtorEq, Int.reduceBNe, Int.reduceBEq, aC_frz, frzS, frzV_none, frzV_some, q1, q2, q3, q4, q5, hw, t2, t3, t4, t5, ttip, s5, tl])) | refine condV_split (fun hc => ?_) (fun hc => ?_) | (with_reducible intro β hβ; (try simp only [RB] at hβ); (repeat (obtain ⟨⟨_, _⟩, hβ⟩ := hβ)); (try (have hbis := apart_is (by assumption) hβ; obtain ⟨_, _⟩ := hbis)))) <;> (try simp only [↓R1, RR, Nat.reduceEqDiff, Nat.reduceAdd, Nat.reduceMul, Nat.reduceSub, Nat.reduceLeDiff, Nat.reduceLT, reduceIte, reduceCtorEq, Int.reduceBNe, Int.reduceBEq, aC_frz, frzS, frzV_none, frzV_some, q1, q2, q3, q4, q5, hw, t2, t3, t4, t5, ttip, s5, tl])))
            refine ⟨⟨g.a + (cut rest).1.length, g.rs⟩, St.le_refl _, ?_⟩
            have hfin := fin [] hrr (by simp)
            simp only [List.append_nil] at hfin
            exact hfin
          · have hrr := lineRow_cons (a := g.a) h1000 hws hne
            obtain ⟨hwl, hwa⟩ := words_len hws
            repeat' (first | (with_reducible rw [allocV_eq]) | (with_reducible refine And.intro ?_ ?_; focus (intros; (repeat' (with_reducible apply And.intro)) <;> first | omega | (simp only [RZ, cWd_len, cRw_len]; omega))) | (with_reducible apply And.intro) | ((first | (refine gdV_split (fun hc => ?_) (fun hc => ?_) <;> (try simp only [hc, ↓R1, RR, Nat.reduceEqDiff, Nat.reduceAdd, Nat.reduceMul, Nat.reduceSub, Nat.reduceLeDiff, Nat.reduceLT, reduceIte, reduceCtorEq, Int.reduceBNe, Int.reduceBEq, aC_frz, frzS, frzV_none, frzV_some, q1, q2, q3, q4, q5, hw, t2, t3, t4, t5, ttip, s5, tl])) | refine condV_split (fun hc => ?_) (fun hc => ?_) | (with_reducible intro β hβ; (try simp only [RB] at hβ); (repeat (obtain ⟨⟨_, _⟩, hβ⟩ := hβ)); (try (have hbis := apart_is (by assumption) hβ; obtain ⟨_, _⟩ := hbis))) | refine Pt (ht) ?_ | refine Ct (ht) ?_) <;> (try simp only [↓R1, RR, Nat.reduceEqDiff, Nat.reduceAdd, Nat.reduceMul, Nat.reduceSub, Nat.reduceLeDiff, Nat.reduceLT, reduceIte, reduceCtorEq, Int.reduceBNe, Int.reduceBEq, aC_frz, frzS, frzV_none, frzV_some, q1, q2, q3, q4, q5, hw, t2, t3, t4, t5, ttip, s5, tl])))
            refine (AC.wk (words_owned _ hll hws hne) (wkL_refl _)).mono ?_
            rintro _ _ ⟨γ, k, hγ, rfl, rfl⟩
            simp only [St.box_noneA, St.box_lp] at hγ
            obtain ⟨⟨_, _⟩, hγ⟩ := hγ
            obtain ⟨_, _⟩ := apart_is (σ := T g rest) (β := b4) (γ := γ) ⟨t4 g rest⟩ hγ
            simp only [↓R1, RR, Nat.reduceEqDiff, Nat.reduceAdd, Nat.reduceMul, Nat.reduceSub, Nat.reduceLeDiff, Nat.reduceLT, reduceIte, reduceCtorEq, Int.reduceBNe, Int.reduceBEq, aC_frz, frzS, frzV_none, frzV_some, q1, q2, q3, q4, q5, hw, t2, t3, t4, t5, ttip, s5, tl]
            refine loopV_for ws.length (fun i => [(4, .ptr b4 0), (7, .int .i64 (g.a : Nat)), (8, .psl γ 0 ws.length), (44, .int .i64 (ws.length : Nat)), (45, .int .i64 (i : Nat))]) (fun i => ((T ⟨g.a + (cut rest).1.length, g.rs⟩ rest).setLp L (busy r, _)).setBox γ (shG g.a ws i (List.replicate k .junk))) (fun _ => True) (by simp [subF, slot, wk_refl]) (by rw [shG_zero]; exact St.le_refl _) trivial (fun i hi _ => ?_)
            have hsl := shG_len g.a ws i hi (List.replicate k .junk)
            simp only [↓R1, RR, Nat.reduceEqDiff, Nat.reduceAdd, Nat.reduceMul, Nat.reduceSub, Nat.reduceLeDiff, Nat.reduceLT, reduceIte, reduceCtorEq, Int.reduceBNe, Int.reduceBEq, aC_frz, frzS, frzV_none, frzV_some, q1, q2, q3, q4, q5, hw, t2, t3, t4, t5, ttip, s5, tl]
            by_cases hin : i < ws.length
            · have q3 : decide ((i : Int) < (ws.length : Int)) = true := by rw [decide_eq_true_eq]; omega
              obtain ⟨g1, g2⟩ := shG_at g.a ws hin (List.replicate k .junk)
              have hwk := hwa ws[i] (List.getElem_mem hin)
              have q4 := g1
              have hw2 : IntKind.i64.wrap ((ws[i].a : Int) + (g.a : Int)) = ((ws[i].a + g.a : Nat) : Int) := by rw [wrap64 (by omega) (by omega)]; omega
              have q5 := hw2
              simp only [q3, ↓R1, RR, Nat.reduceEqDiff, Nat.reduceAdd, Nat.reduceMul, Nat.reduceSub, Nat.reduceLeDiff, Nat.reduceLT, reduceIte, reduceCtorEq, Int.reduceBNe, Int.reduceBEq, aC_frz, frzS, frzV_none, frzV_some, q1, q2, q3, q4, q5, hw, t2, t3, t4, t5, ttip, s5, tl]
              repeat' (first | (with_reducible rw [allocV_eq]) | (with_reducible refine And.intro ?_ ?_; focus (intros; (repeat' (with_reducible apply And.intro)) <;> first | omega | (simp only [RZ, cWd_len, cRw_len]; omega))) | (with_reducible apply And.intro) | ((first | (refine gdV_split (fun hc => ?_) (fun hc => ?_) <;> (try simp only [hc, ↓R1, RR, Nat.reduceEqDiff, Nat.reduceAdd, Nat.reduceMul, Nat.reduceSub, Nat.reduceLeDiff, Nat.reduceLT, reduceIte, reduceCtorEq, Int.reduceBNe, Int.reduceBEq, aC_frz, frzS, frzV_none, frzV_some, q1, q2, q3, q4, q5, hw, t2, t3, t4, t5, ttip, s5, tl])) | refine condV_split (fun hc => ?_) (fun hc => ?_) | (with_reducible intro β hβ; (try simp only [RB] at hβ); (repeat (obtain ⟨⟨_, _⟩, hβ⟩ := hβ)); (try (have hbis := apart_is (by assumption) hβ; obtain ⟨_, _⟩ := hbis)))) <;> (try simp only [↓R1, RR, Nat.reduceEqDiff, Nat.reduceAdd, Nat.reduceMul, Nat.reduceSub, Nat.reduceLeDiff, Nat.reduceLT, reduceIte, reduceCtorEq, Int.reduceBNe, Int.reduceBEq, aC_frz, frzS, frzV_none, frzV_some, q1, q2, q3, q4, q5, hw, t2, t3, t4, t5, ttip, s5, tl])))
              · (simp only [subF, slot, wk_refl, ↓R1, RR, Nat.reduceEqDiff, Nat.reduceAdd, Nat.reduceMul, Nat.reduceSub, Nat.reduceLeDiff, Nat.reduceLT, reduceIte, reduceCtorEq, Int.reduceBNe, Int.reduceBEq, aC_frz, frzS, frzV_none, frzV_some, q1, q2, q3, q4, q5, hw, t2, t3, t4, t5, ttip, s5, tl]; (repeat' (with_reducible apply And.intro)) <;> first | exact wk_k (by have := maxLen_lt; omega) | exact wk_tsl _ _ _ | exact wk_full _ _ | exact wk_of_eq (congrArg (AV.tsl _ _) (flat_step (by assumption))))
              · rw [g2]; exact St.le_refl _
            · have q3 : decide ((i : Int) < (ws.length : Int)) = false := by rw [decide_eq_false_iff_not]; omega
              have hie : i = ws.length := by omega
              subst hie
              have q4 : (ws.length * 3).ble (shG g.a ws ws.length (List.replicate k AV.junk)).length = true := Nat.ble_eq_true_of_le (by rw [hsl]; omega)
              have hwp : 0 < ws.length := List.length_pos_iff.2 hne
              simp only [q3, ↓R1, RR, Nat.reduceEqDiff, Nat.reduceAdd, Nat.reduceMul, Nat.reduceSub, Nat.reduceLeDiff, Nat.reduceLT, reduceIte, reduceCtorEq, Int.reduceBNe, Int.reduceBEq, aC_frz, frzS, frzV_none, frzV_some, q1, q2, q3, q4, q5, hw, t2, t3, t4, t5, ttip, s5, tl]
              have hγ2 : (T ⟨g.a + (cut rest).1.length, g.rs⟩ rest).box γ = none := by
                have h : (((T g rest).setLp L (r, [])).setBox b5 [.int .i64 ((g.a + (cut rest).1.length : Nat) : Int)]).box γ = none := by
                  rw [St.box_noneA]; exact ⟨⟨by assumption, by assumption⟩, hγ⟩
                rw [s5] at h
                exact h
              rw [shG_all, drop_new (σ := (T ⟨g.a + (cut rest).1.length, g.rs⟩ rest).setLp L _) hγ2]
              have q3 : decide ((0 : Int) < (ws.length : Int)) = true := by rw [decide_eq_true_eq]; omega
              simp only [q3, ↓R1, RR, Nat.reduceEqDiff, Nat.reduceAdd, Nat.reduceMul, Nat.reduceSub, Nat.reduceLeDiff, Nat.reduceLT, reduceIte, reduceCtorEq, Int.reduceBNe, Int.reduceBEq, aC_frz, frzS, frzV_none, frzV_some, q1, q2, q3, q4, q5, hw, t2, t3, t4, t5, ttip, s5, tl]
              repeat' (first | (with_reducible rw [allocV_eq]) | (with_reducible refine And.intro ?_ ?_; focus (intros; (repeat' (with_reducible apply And.intro)) <;> first | omega | (simp only [RZ, cWd_len, cRw_len]; omega))) | (with_reducible apply And.intro) | ((first | (refine gdV_split (fun hc => ?_) (fun hc => ?_) <;> (try simp only [hc, ↓R1, RR, Nat.reduceEqDiff, Nat.reduceAdd, Nat.reduceMul, Nat.reduceSub, Nat.reduceLeDiff, Nat.reduceLT, reduceIte, reduceCtorEq, Int.reduceBNe, Int.reduceBEq, aC_frz, frzS, frzV_none, frzV_some, q1, q2, q3, q4, q5, hw, t2, t3, t4, t5, ttip, s5, tl])) | refine condV_split (fun hc => ?_) (fun hc => ?_) | (with_reducible intro β hβ; (try simp only [RB] at hβ); (repeat (obtain ⟨⟨_, _⟩, hβ⟩ := hβ)); (try (have hbis := apart_is (by assumption) hβ; obtain ⟨_, _⟩ := hbis))) | ((first | (refine appD_tslK (.inr rfl) rfl ?_ ?_ ?_ ?_ ?_ ?_; (first | rfl | exact St.tip_same _ _ _ | (simp only [↓R1, RR, Nat.reduceEqDiff, Nat.reduceAdd, Nat.reduceMul, Nat.reduceSub, Nat.reduceLeDiff, Nat.reduceLT, reduceIte, reduceCtorEq, Int.reduceBNe, Int.reduceBEq, aC_frz, frzS, frzV_none, frzV_some, q1, q2, q3, q4, q5, hw, t2, t3, t4, t5, ttip, s5, tl])); (first | omega | (simp only [RZ, cWd_len, cRw_len, List.length_nil, List.length_cons]; omega) | (simp only [RZ, cWd_len, cRw_len, List.length_nil, List.length_cons])); (first | rfl | first | omega | (simp only [RZ, cWd_len, cRw_len, List.length_nil, List.length_cons]; omega) | (simp only [RZ, cWd_len, cRw_len, List.length_nil, List.length_cons]))) | (refine appV_tslK rfl ?_ ?_ ?_ ?_ ?_ ?_; (first | rfl | exact St.tip_same _ _ _ | (simp only [↓R1, RR, Nat.reduceEqDiff, Nat.reduceAdd, Nat.reduceMul, Nat.reduceSub, Nat.reduceLeDiff, Nat.reduceLT, reduceIte, reduceCtorEq, Int.reduceBNe, Int.reduceBEq, aC_frz, frzS, frzV_none, frzV_some, q1, q2, q3, q4, q5, hw, t2, t3, t4, t5, ttip, s5, tl])); (first | omega | (simp only [RZ, cWd_len, cRw_len, List.length_nil, List.length_cons]; omega) | (simp only [RZ, cWd_len, cRw_len, List.length_nil, List.length_cons])); (first | rfl | first | omega | (simp only [RZ, cWd_len, cRw_len, List.length_nil, List.length_cons]; omega) | (simp only [RZ, cWd_len, cRw_len, List.length_nil, List.length_cons]))) | (refine appV_own ?_ ?_ ?_ ?_; exact flat_len (by intro _; rfl) _) | (refine appD_own ?_ ?_ ?_ ?_ ?_; omega; exact flat_len (by intro _; rfl) _) | (refine appV_fresh rfl trivial rfl ?_ ?_ ?_ ?_ ?_; (first | rfl | first | omega | (simp only [RZ, cWd_len, cRw_len, List.length_nil, List.length_cons]; omega) | (simp only [RZ, cWd_len, cRw_len, List.length_nil, List.length_cons])); (first | rfl | first | omega | (simp only [RZ, cWd_len, cRw_len, List.length_nil, List.length_cons]; omega) | (simp only [RZ, cWd_len, cRw_len, List.length_nil, List.length_cons]))) | (refine appD_fresh rfl trivial rfl ?_ ?_ ?_ ?_ ?_ ?_; omega; (first | rfl | first | omega | (simp only [RZ, cWd_len, cRw_len, List.length_nil, List.length_cons]; omega) | (simp only [RZ, cWd_len, cRw_len, List.length_nil, List.length_cons])); (first | rfl | first | omega | (simp only [RZ, cWd_len, cRw_len, List.length_nil, List.length_cons]; omega) | (simp only [RZ, cWd_len, cRw_len, List.length_nil, List.length_cons])))); (unfold maxLen; omega); omega)) <;> (try simp only [↓R1, RR, Nat.reduceEqDiff, Nat.reduceAdd, Nat.reduceMul, Nat.reduceSub, Nat.reduceLeDiff, Nat.reduceLT, reduceIte, reduceCtorEq, Int.reduceBNe, Int.reduceBEq, aC_frz, frzS, frzV_none, frzV_some, q1, q2, q3, q4, q5, hw, t2, t3, t4, t5, ttip, s5, tl])))
              have e1 : ([AV.tsl τ (g.rs.length + 1) (g.rs.flatMap cRw ++ [AV.int .i64 (g.a : Nat), AV.sl false ws.length ((ws.map (shiftW g.a)).flatMap cWd)])] : List AV) = [AV.tsl τ (g.rs ++ [(⟨g.a, ws.map (shiftW g.a)⟩ : Rw)]).length ((g.rs ++ [(⟨g.a, ws.map (shiftW g.a)⟩ : Rw)]).flatMap cRw)] := by
                simp [cRw]
              have e2 : g.rs.length + 1 = (g.rs ++ [(⟨g.a, ws.map (shiftW g.a)⟩ : Rw)]).length := by simp
              rw [e1, e2, s4]
              exact ⟨⟨g.a + (cut rest).1.length, g.rs ++ [⟨g.a, ws.map (shiftW g.a)⟩]⟩, St.le_refl _, fin _ hrr (by simp)⟩
    · rintro g r ⟨j1, j2⟩
      rw [j1]
      simp only [↓R1, RR, Nat.reduceEqDiff, Nat.reduceAdd, Nat.reduceMul, Nat.reduceSub, Nat.reduceLeDiff, Nat.reduceLT, reduceIte, reduceCtorEq, Int.reduceBNe, Int.reduceBEq, aC_frz, frzS, frzV_none, frzV_some, q1, q2, q3, q4, q5, hw, t2, t3, t4, t5, ttip, s5, tl]
      have hl2 : St.le σ (((T g r).setBox b2 [AV.tsl τ g.rs.length (g.rs.flatMap cRw)]).setBox b3 [AV.int IntKind.i64 0, AV.int IntKind.i64 0]) := St.le_setBox (St.le_setBox (tle g r) h2) h3
      refine endP_pu (by simp) (by first | (simp [rvsS, rvS]; done) | (simp only [rvsS, rvS, ↓R1, RR, Nat.reduceEqDiff, Nat.reduceAdd, Nat.reduceMul, Nat.reduceSub, Nat.reduceLeDiff, Nat.reduceLT, reduceIte, reduceCtorEq, Int.reduceBNe, Int.reduceBEq, aC_frz, frzS, frzV_none, frzV_some, q1, q2, q3, q4, q5, hw, t2, t3, t4, t5, ttip, s5, tl]; try simp)) ?_ hl2
      simp only [resAV, rvV, List.map_cons, List.map_nil, ↓R1, RR, Nat.reduceEqDiff, Nat.reduceAdd, Nat.reduceMul, Nat.reduceSub, Nat.reduceLeDiff, Nat.reduceLT, reduceIte, reduceCtorEq, Int.reduceBNe, Int.reduceBEq, aC_frz, frzS, frzV_none, frzV_some, q1, q2, q3, q4, q5, hw, t2, t3, t4, t5, ttip, s5, tl]
      simp only [rowsV, faultV]
      (repeat' (first | exact wk_refl _ | exact wk_nils | exact wk_tsl _ _ _ | exact wk_full _ _ | exact wkL.nil | exact wkL_refl _ | refine wk_tup ?_ | refine wk_agg ?_ | refine wkL.cons ?_ ?_))
end Go.Proofs.YtemddijemikleaaDoor
namespace Go.Proofs.YtemddijemikleaaDoor
open Go.Abs
set_option linter.all false
set_option maxRecDepth 100000
theorem p27 (q : Bool) (t : List UInt8) (a : Int) : Pu Tryd.prog 27 [.bool q, .str t, .int .i64 a] (.agg [.bool q, .str t, .int .i64 a]) := by
  (refine Pu_intro c27 b27 (Nat.le_of_ble_eq_true rfl) fun σ => ?_; simp only [c27, ↓R1, RR, Nat.reduceEqDiff, Nat.reduceAdd, Nat.reduceMul, Nat.reduceSub, Nat.reduceLeDiff, Nat.reduceLT, reduceIte, reduceCtorEq, Int.reduceBNe, Int.reduceBEq])
  repeat' (first | (with_reducible rw [allocV_eq]) | (with_reducible refine And.intro ?_ ?_; focus (intros; (repeat' (with_reducible apply And.intro)) <;> first | omega | (simp only [RZ]; omega))) | (with_reducible apply And.intro) | ((first | (refine gdV_split (fun hc => ?_) (fun hc => ?_) <;> (try simp only [hc, ↓R1, RR, Nat.reduceEqDiff, Nat.reduceAdd, Nat.reduceMul, Nat.reduceSub, Nat.reduceLeDiff, Nat.reduceLT, reduceIte, reduceCtorEq, Int.reduceBNe, Int.reduceBEq])) | refine condV_split (fun hc => ?_) (fun hc => ?_) | (with_reducible intro β hβ; (try simp only [RB] at hβ); (repeat (obtain ⟨⟨_, _⟩, hβ⟩ := hβ)); (try (have hbis := apart_is (by assumption) hβ; obtain ⟨_, _⟩ := hbis)))) <;> (try simp only [↓R1, RR, Nat.reduceEqDiff, Nat.reduceAdd, Nat.reduceMul, Nat.reduceSub, Nat.reduceLeDiff, Nat.reduceLT, reduceIte, reduceCtorEq, Int.reduceBNe, Int.reduceBEq])))
  (refine endP_pu (by simp) (by first | (simp [rvsS, rvS]; done) | (simp only [rvsS, rvS, ↓R1, RR, Nat.reduceEqDiff, Nat.reduceAdd, Nat.reduceMul, Nat.reduceSub, Nat.reduceLeDiff, Nat.reduceLT, reduceIte, reduceCtorEq, Int.reduceBNe, Int.reduceBEq]; try simp)) (wk_of_eq ?_) (by (repeat (first | exact St.le_refl _ | (refine St.le_new ?_ (by assumption)) | (refine St.le_newT ?_ (by assumption))))))
  (simp only [resAV, rvV, List.map_cons, List.map_nil, ↓R1, RR, Nat.reduceEqDiff, Nat.reduceAdd, Nat.reduceMul, Nat.reduceSub, Nat.reduceLeDiff, Nat.reduceLT, reduceIte, reduceCtorEq, Int.reduceBNe, Int.reduceBEq])
theorem toRI_flat (rs : List Rw) : rs.flatMap cRw = (rs.map toRI).flatMap cRI := by
  induction rs with
  | nil => rfl
  | cons r rs ih =>
    simp only [List.flatMap_cons, List.map_cons, ih]
    congr 1
    simp only [cRw, cRI, toRI, List.length_map]
    congr 3
    induction r.ws with
    | nil => rfl
    | cons w ws ih2 => simp only [List.flatMap_cons, List.map_cons, ih2]; rfl
def exT : List UInt8 := [97, 32, 34, 98, 32, 99, 34, 32, 35, 32, 110, 111, 10, 32, 32, 120, 10]
def exR : List Rw := [⟨0, [⟨false, [97], 0⟩, ⟨true, [98, 32, 99], 2⟩]⟩, ⟨13, [⟨false, [120], 15⟩]⟩]
theorem ex_rows : rowsS exT = .ok exR := by kernel_rfl
theorem ex_text : textS [mkR [[97], [98, 32, 99]], mkR [[55]]] = .ok [97, 32, 34, 98, 32, 99, 34, 10, 55, 10] := by kernel_rfl
theorem light_of {l : List RI} (h : decide (l.length ≤ 1000) && (l.all fun r => decide (r.ws.length ≤ 1000) && r.ws.all fun w => decide (w.t.length ≤ 20000)) = true) : LightR l := by
  simp only [Bool.and_eq_true, List.all_eq_true, decide_eq_true_eq] at h
  exact ⟨h.1, fun r hr => ⟨(h.2 r hr).1, (h.2 r hr).2⟩⟩
theorem awake_pu : Pu Tryd.prog 10 [] (.bool true) := by
  have q1 : (((0 : Nat) : Int) == 0) = true := rfl
  have q2 : True := trivial
  have q3 : True := trivial
  have h1 := p25 exT (by decide)
  rw [ex_rows] at h1
  simp only [rowsV, faultV, toRI_flat] at h1
  have h2 := p14 (exR.map toRI) (light_of (by decide))
  have h3 := p23 [[97], [98, 32, 99]] (by decide) (by decide)
  have h4 := p23 [[55]] (by decide) (by decide)
  have h5 := p12 [mkR [[97], [98, 32, 99]], mkR [[55]]] (light_of (by decide))
  rw [ex_text] at h5
  simp only [textV, List.flatMap_cons, List.flatMap_nil, List.append_nil, cRI, mkR, List.map_cons, List.map_nil, List.cons_append, List.nil_append, List.length_cons, List.length_nil, Nat.zero_add] at h5
  simp only [cRI, mkR, List.map_cons, List.map_nil, List.flatMap_cons, List.flatMap_nil, List.append_nil, List.length_cons, List.length_nil, Nat.zero_add] at h3 h4 h5
  have hwk : wk (.sl true 2 [AV.int IntKind.i64 0, AV.sl true 2 [AV.bool false, AV.str [97], AV.int IntKind.i64 0, AV.bool true, AV.str [98, 32, 99], AV.int IntKind.i64 2], AV.int IntKind.i64 13, AV.sl true 1 [AV.bool false, AV.str [120], AV.int IntKind.i64 15]]) (.sl false (exR.map toRI).length ((exR.map toRI).flatMap cRI)) :=
    wk_trans (wk_full _ _) (wk_sl (.cons (wk_refl _) (.cons (wk_full _ _) (.cons (wk_refl _) (.cons (wk_full _ _) .nil)))))
  (refine Pu_intro c10 b10 (Nat.le_of_ble_eq_true rfl) fun σ => ?_; simp only [c10, ↓R1, RR, Nat.reduceEqDiff, Nat.reduceAdd, Nat.reduceMul, Nat.reduceSub, Nat.reduceLeDiff, Nat.reduceLT, reduceIte, reduceCtorEq, Int.reduceBNe, Int.reduceBEq, q1, q2, q3, beq_self_eq_true])
  repeat' (first | (with_reducible rw [allocV_eq]) | (with_reducible refine And.intro ?_ ?_; focus (intros; (repeat' (with_reducible apply And.intro)) <;> first | omega | (simp only [RZ]; omega))) | (with_reducible apply And.intro) | ((first | (refine gdV_split (fun hc => ?_) (fun hc => ?_) <;> (try simp only [hc, ↓R1, RR, Nat.reduceEqDiff, Nat.reduceAdd, Nat.reduceMul, Nat.reduceSub, Nat.reduceLeDiff, Nat.reduceLT, reduceIte, reduceCtorEq, Int.reduceBNe, Int.reduceBEq, q1, q2, q3, beq_self_eq_true])) | refine condV_split (fun hc => ?_) (fun hc => ?_) | (with_reducible intro β hβ; (try simp only [RB] at hβ); (repeat (obtain ⟨⟨_, _⟩, hβ⟩ := hβ)); (try (have hbis := apart_is (by assumption) hβ; obtain ⟨_, _⟩ := hbis))) | refine Pt (h1) ?_ | refine Ct (h1) ?_ | refine Pt (p27 _ _ _) ?_ | refine Ct (p27 _ _ _) ?_ | (refine Pu.to h2 (.cons (wk_refl _) (.cons hwk .nil)) ?_) | (refine Pu.to (h3) ?_ ?_; (focus ((repeat' (first | exact wk_refl _ | exact wk_nils | exact wk_tsl _ _ _ | exact wk_full _ _ | exact wkL.nil | exact wkL_refl _ | refine wk_tup ?_ | refine wk_agg ?_ | refine wkL.cons ?_ ?_)); done))) | (refine Pu.to (h4) ?_ ?_; (focus ((repeat' (first | exact wk_refl _ | exact wk_nils | exact wk_tsl _ _ _ | exact wk_full _ _ | exact wkL.nil | exact wkL_refl _ | refine wk_tup ?_ | refine wk_agg ?_ | refine wkL.cons ?_ ?_)); done))) | (refine Pu.to (h5) ?_ ?_; (focus ((repeat' (first | exact wk_refl _ | exact wk_nils | exact wk_tsl _ _ _ | exact wk_full _ _ | exact wkL.nil | exact wkL_refl _ | refine wk_tup ?_ | refine wk_agg ?_ | refine wkL.cons ?_ ?_)); done)))) <;> (try simp only [↓R1, RR, Nat.reduceEqDiff, Nat.reduceAdd, Nat.reduceMul, Nat.reduceSub, Nat.reduceLeDiff, Nat.reduceLT, reduceIte, reduceCtorEq, Int.reduceBNe, Int.reduceBEq, q1, q2, q3, beq_self_eq_true])))
  (refine endP_pu (by simp) (by first | (simp [rvsS, rvS]; done) | (simp only [rvsS, rvS, ↓R1, RR, Nat.reduceEqDiff, Nat.reduceAdd, Nat.reduceMul, Nat.reduceSub, Nat.reduceLeDiff, Nat.reduceLT, reduceIte, reduceCtorEq, Int.reduceBNe, Int.reduceBEq, q1, q2, q3, beq_self_eq_true]; try simp)) (wk_of_eq ?_) (by (repeat (first | exact St.le_refl _ | (refine St.le_new ?_ (by assumption)) | (refine St.le_newT ?_ (by assumption))))))
  (simp only [resAV, rvV, List.map_cons, List.map_nil, ↓R1, RR, Nat.reduceEqDiff, Nat.reduceAdd, Nat.reduceMul, Nat.reduceSub, Nat.reduceLeDiff, Nat.reduceLT, reduceIte, reduceCtorEq, Int.reduceBNe, Int.reduceBEq, q1, q2, q3, beq_self_eq_true])
  all_goals rfl
end Go.Proofs.YtemddijemikleaaDoor
namespace Go.Proofs.YtemddijemikleaaDoor
open Go.Abs
set_option linter.all false
set_option maxRecDepth 100000
set_option maxHeartbeats 4000000 in
theorem p33 (l m : List RI) (hl : LightR l) (hm : LightR m) (h : l.map bodyI = m.map bodyI) : Pu Tryd.prog 33 [.sl false l.length (l.flatMap cRI), .sl false m.length (m.flatMap cRI)] (.bool true) := by
  have q1 : True := trivial
  have q2 : True := trivial
  have q3 : True := trivial
  have q4 : True := trivial
  have q5 : True := trivial
  have q6 : True := trivial
  have hw : True := trivial
  have hw2 : True := trivial
  have hd : True := trivial
  have hd2 : True := trivial
  have hd3 : True := trivial
  have hd4 : True := trivial
  have f0 : True := trivial
  have f1 : True := trivial
  have f2 : True := trivial
  have f3 : True := trivial
  have f4 : True := trivial
  have f5 : True := trivial
  have f6 : True := trivial
  have f7 : True := trivial
  obtain ⟨hl1, hl2⟩ := hl
  obtain ⟨hm1, hm2⟩ := hm
  have hlen : m.length = l.length := by have := congrArg List.length h; simpa using this.symm
  rw [hlen]
  have hcl := cRI_len l
  have hcm := cRI_len m
  (refine Pu_intro c33 b33 (Nat.le_of_ble_eq_true rfl) fun σ => ?_; simp only [c33, ↓R1, RR, seval, q1, q2, q3, q4, q5, q6, hw, hw2, hd, hd2, hd3, hd4, bne_self_eq_false, f0, f1, f2, f3, f4, f5, f6, f7, beq_self_eq_true])
  repeat' (first | (with_reducible rw [allocV_eq]) | (with_reducible refine And.intro ?_ ?_; focus (intros; (repeat' (with_reducible apply And.intro)) <;> first | omega | (simp only [RZ]; omega))) | (with_reducible apply And.intro) | ((first | (refine gdV_split (fun hc => ?_) (fun hc => ?_) <;> (try simp only [hc, ↓R1, RR, seval, q1, q2, q3, q4, q5, q6, hw, hw2, hd, hd2, hd3, hd4, bne_self_eq_false, f0, f1, f2, f3, f4, f5, f6, f7, beq_self_eq_true])) | refine condV_split (fun hc => ?_) (fun hc => ?_) | (with_reducible intro β hβ; (try simp only [RB] at hβ); (repeat (obtain ⟨⟨_, _⟩, hβ⟩ := hβ)); (try (have hbis := apart_is (by assumption) hβ; obtain ⟨_, _⟩ := hbis)))) <;> (try simp only [↓R1, RR, seval, q1, q2, q3, q4, q5, q6, hw, hw2, hd, hd2, hd3, hd4, bne_self_eq_false, f0, f1, f2, f3, f4, f5, f6, f7, beq_self_eq_true])))
  refine loopV_for l.length (fun k => [(0, .sl false l.length (l.flatMap cRI)), (1, .sl false l.length (m.flatMap cRI)), (5, .int .i64 (k : Nat))]) (fun _ => σ) (fun _ => True) (by simp [subF, slot, wk_refl]) (St.le_refl _) trivial (fun k hk _ => ?_)
  by_cases hlt : k < l.length
  · have q1 : decide ((k : Int) < (l.length : Int)) = true := by rw [decide_eq_true_eq]; omega
    have hlm : k < m.length := by omega
    have hd := cRI_get l hlt
    have hd2 := cRI_get m hlm
    have hw : IntKind.i64.wrap ((k : Int) + 1) = ((k + 1 : Nat) : Int) := by rw [wrap64 (by omega) (by omega)]; omega
    obtain ⟨hln, hlt2⟩ := hl2 l[k] (List.getElem_mem hlt)
    have hb : bodyI l[k] = bodyI m[k] := by
      have e1 : (l.map bodyI)[k]'(by simpa using hlt) = bodyI l[k] := by simp
      have e2 : (m.map bodyI)[k]'(by simpa using hlm) = bodyI m[k] := by simp
      rw [← e1, ← e2]; simp only [h]
    simp only [cRI] at hd hd2
    obtain ⟨ws, hws⟩ : ∃ ws, l[k].ws = ws := ⟨_, rfl⟩
    obtain ⟨vs, hvs⟩ : ∃ vs, m[k].ws = vs := ⟨_, rfl⟩
    simp only [bodyI] at hb
    rw [hws] at hln hlt2 hd hb
    rw [hvs] at hd2 hb
    have hvl : vs.length = ws.length := by have := congrArg List.length hb; simpa using this.symm
    rw [hvl] at hd2
    have hwl := cWI_len ws
    have hvl2 := cWI_len vs
    simp only [q1, ↓R1, RR, seval, q1, q2, q3, q4, q5, q6, hw, hw2, hd, hd2, hd3, hd4, bne_self_eq_false, f0, f1, f2, f3, f4, f5, f6, f7, beq_self_eq_true]
    repeat' (first | (with_reducible rw [allocV_eq]) | (with_reducible refine And.intro ?_ ?_; focus (intros; (repeat' (with_reducible apply And.intro)) <;> first | omega | (simp only [RZ]; omega))) | (with_reducible apply And.intro) | ((first | (refine gdV_split (fun hc => ?_) (fun hc => ?_) <;> (try simp only [hc, ↓R1, RR, seval, q1, q2, q3, q4, q5, q6, hw, hw2, hd, hd2, hd3, hd4, bne_self_eq_false, f0, f1, f2, f3, f4, f5, f6, f7, beq_self_eq_true])) | refine condV_split (fun hc => ?_) (fun hc => ?_) | (with_reducible intro β hβ; (try simp only [RB] at hβ); (repeat (obtain ⟨⟨_, _⟩, hβ⟩ := hβ)); (try (have hbis := apart_is (by assumption) hβ; obtain ⟨_, _⟩ := hbis)))) <;> (try simp only [↓R1, RR, seval, q1, q2, q3, q4, q5, q6, hw, hw2, hd, hd2, hd3, hd4, bne_self_eq_false, f0, f1, f2, f3, f4, f5, f6, f7, beq_self_eq_true])))
    all_goals first | (rw [hcl]; omega) | (rw [hcm]; omega) | skip
    refine loopV_for ws.length (fun i => [(0, .sl false l.length (l.flatMap cRI)), (1, .sl false l.length (m.flatMap cRI)), (5, .int .i64 (k : Nat)), (6, .int .i64 (i : Nat))]) (fun _ => σ) (fun _ => True) (by simp [subF, slot, wk_refl]) (St.le_refl _) trivial (fun i hi _ => ?_)
    by_cases hin : i < ws.length
    · have q2 : decide ((i : Int) < (ws.length : Int)) = true := by rw [decide_eq_true_eq]; omega
      have hd3 := cWI_get ws hin
      have hd4 := cWI_get vs (k := i) (by omega)
      have hw2 : IntKind.i64.wrap ((i : Int) + 1) = ((i + 1 : Nat) : Int) := by rw [wrap64 (by omega) (by omega)]; omega
      simp only [cWI] at hd3 hd4
      simp only [q2, ↓R1, RR, seval, q1, q2, q3, q4, q5, q6, hw, hw2, hd, hd2, hd3, hd4, bne_self_eq_false, f0, f1, f2, f3, f4, f5, f6, f7, beq_self_eq_true]
      repeat' (first | (with_reducible rw [allocV_eq]) | (with_reducible refine And.intro ?_ ?_; focus (intros; (repeat' (with_reducible apply And.intro)) <;> first | omega | (simp only [RZ]; omega))) | (with_reducible apply And.intro) | ((first | (refine gdV_split (fun hc => ?_) (fun hc => ?_) <;> (try simp only [hc, ↓R1, RR, seval, q1, q2, q3, q4, q5, q6, hw, hw2, hd, hd2, hd3, hd4, bne_self_eq_false, f0, f1, f2, f3, f4, f5, f6, f7, beq_self_eq_true])) | refine condV_split (fun hc => ?_) (fun hc => ?_) | (with_reducible intro β hβ; (try simp only [RB] at hβ); (repeat (obtain ⟨⟨_, _⟩, hβ⟩ := hβ)); (try (have hbis := apart_is (by assumption) hβ; obtain ⟨_, _⟩ := hbis)))) <;> (try simp only [↓R1, RR, seval, q1, q2, q3, q4, q5, q6, hw, hw2, hd, hd2, hd3, hd4, bne_self_eq_false, f0, f1, f2, f3, f4, f5, f6, f7, beq_self_eq_true])))
      all_goals first | (rw [hcl]; omega) | (rw [hcm]; omega) | skip
      have hqt : (ws[i].q, ws[i].t) = (vs[i].q, vs[i].t) := by
        have e1 : (ws.map fun w => (w.q, w.t))[i]'(by simpa using hin) = (ws[i].q, ws[i].t) := by simp
        have e2 : (vs.map fun w => (w.q, w.t))[i]'(by simp; omega) = (vs[i].q, vs[i].t) := by simp
        rw [← e1, ← e2]; simp only [hb]
      have hq1 : vs[i].q = ws[i].q := (Prod.mk.inj hqt).1.symm
      have ht1 : vs[i].t = ws[i].t := (Prod.mk.inj hqt).2.symm
      rw [hq1, ht1] at hd4
      refine same_inv hlt (by rw [hcl]; omega) (by rw [hcm]; omega) hin (by rw [hwl]; omega) (by rw [hvl2]; omega) hd hd2 hd3 hd4 (fun fr σ' b7 b8 f0 f1 f2 f3 f4 f5 f6 f7 hle => ?_)
      simp only [↓R1, RR, seval, q1, q2, q3, q4, q5, q6, hw, hw2, hd, hd2, hd3, hd4, bne_self_eq_false, f0, f1, f2, f3, f4, f5, f6, f7, beq_self_eq_true]
      repeat' (first | (with_reducible rw [allocV_eq]) | (with_reducible refine And.intro ?_ ?_; focus (intros; (repeat' (with_reducible apply And.intro)) <;> first | omega | (simp only [RZ]; omega))) | (with_reducible apply And.intro) | ((first | (refine gdV_split (fun hc => ?_) (fun hc => ?_) <;> (try simp only [hc, ↓R1, RR, seval, q1, q2, q3, q4, q5, q6, hw, hw2, hd, hd2, hd3, hd4, bne_self_eq_false, f0, f1, f2, f3, f4, f5, f6, f7, beq_self_eq_true])) | refine condV_split (fun hc => ?_) (fun hc => ?_) | (with_reducible intro β hβ; (try simp only [RB] at hβ); (repeat (obtain ⟨⟨_, _⟩, hβ⟩ := hβ)); (try (have hbis := apart_is (by assumption) hβ; obtain ⟨_, _⟩ := hbis)))) <;> (try simp only [↓R1, RR, seval, q1, q2, q3, q4, q5, q6, hw, hw2, hd, hd2, hd3, hd4, bne_self_eq_false, f0, f1, f2, f3, f4, f5, f6, f7, beq_self_eq_true])))
      · simp [subF, slot, wk_refl]
      · exact hle
    · have hie : i = ws.length := by omega
      subst hie
      have q2 : decide ((ws.length : Int) < (ws.length : Int)) = false := by simp
      simp only [q2, ↓R1, RR, seval, q1, q2, q3, q4, q5, q6, hw, hw2, hd, hd2, hd3, hd4, bne_self_eq_false, f0, f1, f2, f3, f4, f5, f6, f7, beq_self_eq_true]
      repeat' (first | (with_reducible rw [allocV_eq]) | (with_reducible refine And.intro ?_ ?_; focus (intros; (repeat' (with_reducible apply And.intro)) <;> first | omega | (simp only [RZ]; omega))) | (with_reducible apply And.intro) | ((first | (refine gdV_split (fun hc => ?_) (fun hc => ?_) <;> (try simp only [hc, ↓R1, RR, seval, q1, q2, q3, q4, q5, q6, hw, hw2, hd, hd2, hd3, hd4, bne_self_eq_false, f0, f1, f2, f3, f4, f5, f6, f7, beq_self_eq_true])) | refine condV_split (fun hc => ?_) (fun hc => ?_) | (with_reducible intro β hβ; (try simp only [RB] at hβ); (repeat (obtain ⟨⟨_, _⟩, hβ⟩ := hβ)); (try (have hbis := apart_is (by assumption) hβ; obtain ⟨_, _⟩ := hbis)))) <;> (try simp only [↓R1, RR, seval, q1, q2, q3, q4, q5, q6, hw, hw2, hd, hd2, hd3, hd4, bne_self_eq_false, f0, f1, f2, f3, f4, f5, f6, f7, beq_self_eq_true])))
      all_goals first | (rw [hcl]; omega) | skip
      · simp [subF, slot, wk_refl]
      · exact St.le_refl _
  · have hke : k = l.length := by omega
    subst hke
    have q1 : decide ((l.length : Int) < (l.length : Int)) = false := by simp
    simp only [q1, ↓R1, RR, seval, q1, q2, q3, q4, q5, q6, hw, hw2, hd, hd2, hd3, hd4, bne_self_eq_false, f0, f1, f2, f3, f4, f5, f6, f7, beq_self_eq_true]
    repeat' (first | (with_reducible rw [allocV_eq]) | (with_reducible refine And.intro ?_ ?_; focus (intros; (repeat' (with_reducible apply And.intro)) <;> first | omega | (simp only [RZ]; omega))) | (with_reducible apply And.intro) | ((first | (refine gdV_split (fun hc => ?_) (fun hc => ?_) <;> (try simp only [hc, ↓R1, RR, seval, q1, q2, q3, q4, q5, q6, hw, hw2, hd, hd2, hd3, hd4, bne_self_eq_false, f0, f1, f2, f3, f4, f5, f6, f7, beq_self_eq_true])) | refine condV_split (fun hc => ?_) (fun hc => ?_) | (with_reducible intro β hβ; (try simp only [RB] at hβ); (repeat (obtain ⟨⟨_, _⟩, hβ⟩ := hβ)); (try (have hbis := apart_is (by assumption) hβ; obtain ⟨_, _⟩ := hbis)))) <;> (try simp only [↓R1, RR, seval, q1, q2, q3, q4, q5, q6, hw, hw2, hd, hd2, hd3, hd4, bne_self_eq_false, f0, f1, f2, f3, f4, f5, f6, f7, beq_self_eq_true])))
    (refine endP_pu (by simp) (by first | (simp [rvsS, rvS]; done) | (simp only [rvsS, rvS, ↓R1, RR, seval, q1, q2, q3, q4, q5, q6, hw, hw2, hd, hd2, hd3, hd4, bne_self_eq_false, f0, f1, f2, f3, f4, f5, f6, f7, beq_self_eq_true]; try simp)) (wk_of_eq ?_) (by (repeat (first | exact St.le_refl _ | (refine St.le_new ?_ (by assumption)) | (refine St.le_newT ?_ (by assumption))))))
    (simp only [resAV, rvV, List.map_cons, List.map_nil, ↓R1, RR, seval, q1, q2, q3, q4, q5, q6, hw, hw2, hd, hd2, hd3, hd4, bne_self_eq_false, f0, f1, f2, f3, f4, f5, f6, f7, beq_self_eq_true])
end Go.Proofs.YtemddijemikleaaDoor
namespace Go.Proofs.YtemddijemikleaaDoor
open Go.Abs
set_option linter.all false
set_option maxRecDepth 100000
def isDig (b : UInt8) : Bool := !(decide ((b.toNat : Int) < 48) || decide ((57 : Int) < b.toNat))
def valN (l : List UInt8) : Nat := l.foldl (fun v b => 10 * v + (b.toNat - 48)) 0
def digOk (l : List UInt8) : Bool := decide (l.length ≤ 20) && (match l with | [] => false | c :: r => !(c == 48 && !r.isEmpty)) && l.all isDig
def natV (l : List UInt8) : AV := bif digOk l then .tup [.int .u64 ((valN l % 18446744073709551616 : Nat) : Int), .bool (decide (18446744073709551616 ≤ valN l)), .bool true] else .tup [.int .u64 0, .bool false, .bool false]
theorem valN_take (l : List UInt8) {k : Nat} (h : k < l.length) : valN (l.take (k + 1)) = 10 * valN (l.take k) + (l[k].toNat - 48) := by
  rw [← List.take_append_getElem h, valN, List.foldl_append]; rfl
theorem wrapu (n : Nat) : IntKind.u64.wrap (n : Int) = ((n % 18446744073709551616 : Nat) : Int) := by
  rw [IntKind.wrap_u64]; omega
theorem isDig_iff {b : UInt8} : isDig b = true ↔ 48 ≤ b.toNat ∧ b.toNat ≤ 57 := by
  simp only [isDig, Bool.not_eq_true', Bool.or_eq_false_iff, decide_eq_false_iff_not]; omega
def firstOk : List UInt8 → Bool
  | [] => false
  | c :: r => !(c == 48 && !r.isEmpty)
theorem digOk_eq (l : List UInt8) : digOk l = (decide (l.length ≤ 20) && firstOk l && l.all isDig) := by
  cases l <;> rfl
theorem shl3 (n : Nat) : IntKind.u64.wrap ((n : Int) * 2 ^ min (Int.toNat 3) IntKind.u64.bits) = ((8 * n % 18446744073709551616 : Nat) : Int) := by
  rw [show ((n : Int) * 2 ^ min (Int.toNat 3) IntKind.u64.bits) = ((8 * n : Nat) : Int) by rw [show (2 : Int) ^ min (Int.toNat 3) IntKind.u64.bits = 8 from rfl]; omega, wrapu]
theorem shl1 (n : Nat) : IntKind.u64.wrap ((n : Int) * 2 ^ min (Int.toNat 1) IntKind.u64.bits) = ((2 * n % 18446744073709551616 : Nat) : Int) := by
  rw [show ((n : Int) * 2 ^ min (Int.toNat 1) IntKind.u64.bits) = ((2 * n : Nat) : Int) by rw [show (2 : Int) ^ min (Int.toNat 1) IntKind.u64.bits = 2 from rfl]; omega, wrapu]
theorem add_mod (n : Nat) : IntKind.u64.wrap (((8 * n % 18446744073709551616 : Nat) : Int) + ((2 * n % 18446744073709551616 : Nat) : Int)) = ((10 * n % 18446744073709551616 : Nat) : Int) := by
  rw [show (((8 * n % 18446744073709551616 : Nat) : Int) + ((2 * n % 18446744073709551616 : Nat) : Int)) = ((8 * n % 18446744073709551616 + 2 * n % 18446744073709551616 : Nat) : Int) by omega, wrapu]
  congr 1; omega
theorem next_mod (V d : Nat) : IntKind.u64.wrap (((10 * (V % 18446744073709551616) % 18446744073709551616 : Nat) : Int) + (d : Int)) = (((10 * V + d) % 18446744073709551616 : Nat) : Int) := by
  rw [show (((10 * (V % 18446744073709551616) % 18446744073709551616 : Nat) : Int) + (d : Int)) = ((10 * (V % 18446744073709551616) % 18446744073709551616 + d : Nat) : Int) by omega, wrapu]
  congr 1; omega
theorem great_next (V d : Nat) (hd : d ≤ 9) : ((decide (18446744073709551616 ≤ V) || decide ((1844674407370955161 : Int) < ((V % 18446744073709551616 : Nat) : Int))) || decide ((((10 * V + d) % 18446744073709551616 : Nat) : Int) < ((10 * (V % 18446744073709551616) % 18446744073709551616 : Nat) : Int))) = decide (18446744073709551616 ≤ 10 * V + d) := by
  rw [Bool.eq_iff_iff]
  simp only [Bool.or_eq_true, decide_eq_true_eq]
  by_cases hV : 18446744073709551616 ≤ V
  · simp only [hV, true_or, true_iff]; omega
  · rw [Nat.mod_eq_of_lt (show V < 18446744073709551616 by omega)]
    by_cases hb : 1844674407370955161 < V
    · have h1 : (1844674407370955161 : Int) < (V : Int) := by omega
      simp only [h1, or_true, true_or, true_iff]; omega
    · rw [Nat.mod_eq_of_lt (show 10 * V < 18446744073709551616 by omega)]
      omega
theorem dig_sub {b : UInt8} (h : isDig b = true) : IntKind.u8.wrap ((b.toNat : Int) - 48) = ((b.toNat - 48 : Nat) : Int) ∧ b.toNat - 48 ≤ 9 ∧ IntKind.u64.wrap ((b.toNat - 48 : Nat) : Int) = ((b.toNat - 48 : Nat) : Int) := by
  have := isDig_iff.1 h
  refine ⟨by simp [IntKind.wrap, IntKind.signed, IntKind.bits]; omega, by omega, by rw [wrapu]; congr 1; omega⟩
set_option maxHeartbeats 4000000 in
theorem p43 (l : List UInt8) (hl : l.length ≤ 1000000) : Pu Tryd.prog 43 [.str l] (natV l) := by
  have q1 : True := trivial
  have q2 : True := trivial
  have q3 : True := trivial
  have q4 : True := trivial
  have q5 : True := trivial
  have q6 : True := trivial
  have q7 : True := trivial
  have hw : True := trivial
  have hd : True := trivial
  have e1 : True := trivial
  have e2 : True := trivial
  have e3 : True := trivial
  have e4 : True := trivial
  have e5 : True := trivial
  by_cases hnil : l = []
  · subst hnil
    have q1 : (([] : List UInt8) == []) = true := rfl
    have e : natV [] = .tup [.int .u64 0, .bool false, .bool false] := rfl
    rw [e]
    (refine Pu_intro c43 b43 (Nat.le_of_ble_eq_true rfl) fun σ => ?_; simp only [c43, ↓R1, RR, Nat.reduceEqDiff, Nat.reduceAdd, Nat.reduceMul, Nat.reduceSub, Nat.reduceLeDiff, Nat.reduceLT, reduceIte, reduceCtorEq, Int.reduceBNe, Int.reduceBEq, q1, q2, q3, q4, q5, q6, q7, hw, hd, e1, e2, e3, e4, e5])
    repeat' (first | (with_reducible rw [allocV_eq]) | (with_reducible refine And.intro ?_ ?_; focus (intros; (repeat' (with_reducible apply And.intro)) <;> first | omega | (simp only [RZ]; omega))) | (with_reducible apply And.intro) | ((first | (refine gdV_split (fun hc => ?_) (fun hc => ?_) <;> (try simp only [hc, ↓R1, RR, Nat.reduceEqDiff, Nat.reduceAdd, Nat.reduceMul, Nat.reduceSub, Nat.reduceLeDiff, Nat.reduceLT, reduceIte, reduceCtorEq, Int.reduceBNe, Int.reduceBEq, q1, q2, q3, q4, q5, q6, q7, hw, hd, e1, e2, e3, e4, e5])) | refine condV_split (fun hc => ?_) (fun hc => ?_) | (with_reducible intro β hβ; (try simp only [RB] at hβ); (repeat (obtain ⟨⟨_, _⟩, hβ⟩ := hβ)); (try (have hbis := apart_is (by assumption) hβ; obtain ⟨_, _⟩ := hbis)))) <;> (try simp only [↓R1, RR, Nat.reduceEqDiff, Nat.reduceAdd, Nat.reduceMul, Nat.reduceSub, Nat.reduceLeDiff, Nat.reduceLT, reduceIte, reduceCtorEq, Int.reduceBNe, Int.reduceBEq, q1, q2, q3, q4, q5, q6, q7, hw, hd, e1, e2, e3, e4, e5])))
    (refine endP_pu (by simp) (by first | (simp [rvsS, rvS]; done) | (simp only [rvsS, rvS, ↓R1, RR, Nat.reduceEqDiff, Nat.reduceAdd, Nat.reduceMul, Nat.reduceSub, Nat.reduceLeDiff, Nat.reduceLT, reduceIte, reduceCtorEq, Int.reduceBNe, Int.reduceBEq, q1, q2, q3, q4, q5, q6, q7, hw, hd, e1, e2, e3, e4, e5]; try simp)) (wk_of_eq ?_) (by (repeat (first | exact St.le_refl _ | (refine St.le_new ?_ (by assumption)) | (refine St.le_newT ?_ (by assumption))))))
    (simp only [resAV, rvV, List.map_cons, List.map_nil, ↓R1, RR, Nat.reduceEqDiff, Nat.reduceAdd, Nat.reduceMul, Nat.reduceSub, Nat.reduceLeDiff, Nat.reduceLT, reduceIte, reduceCtorEq, Int.reduceBNe, Int.reduceBEq, q1, q2, q3, q4, q5, q6, q7, hw, hd, e1, e2, e3, e4, e5])
  · obtain ⟨c, m, e⟩ : ∃ c m, l = c :: m := by
      cases l with
      | nil => exact (hnil rfl).elim
      | cons c m => exact ⟨c, m, rfl⟩
    have q1 : (l == []) = false := by rw [e]; rfl
    have hd : l[0]? = some c := by rw [e]; rfl
    have hl1 : 0 < l.length := by rw [e]; simp
    by_cases h20 : 20 < l.length
    · have q2 : decide ((20 : Int) < (l.length : Int)) = true := by rw [decide_eq_true_eq]; omega
      have e : natV l = .tup [.int .u64 0, .bool false, .bool false] := by
        have : decide (l.length ≤ 20) = false := by rw [decide_eq_false_iff_not]; omega
        rw [natV, digOk_eq, this]; rfl
      rw [e]
      (refine Pu_intro c43 b43 (Nat.le_of_ble_eq_true rfl) fun σ => ?_; simp only [c43, ↓R1, RR, Nat.reduceEqDiff, Nat.reduceAdd, Nat.reduceMul, Nat.reduceSub, Nat.reduceLeDiff, Nat.reduceLT, reduceIte, reduceCtorEq, Int.reduceBNe, Int.reduceBEq, q1, q2, q3, q4, q5, q6, q7, hw, hd, e1, e2, e3, e4, e5])
      repeat' (first | (with_reducible rw [allocV_eq]) | (with_reducible refine And.intro ?_ ?_; focus (intros; (repeat' (with_reducible apply And.intro)) <;> first | omega | (simp only [RZ]; omega))) | (with_reducible apply And.intro) | ((first | (refine gdV_split (fun hc => ?_) (fun hc => ?_) <;> (try simp only [hc, ↓R1, RR, Nat.reduceEqDiff, Nat.reduceAdd, Nat.reduceMul, Nat.reduceSub, Nat.reduceLeDiff, Nat.reduceLT, reduceIte, reduceCtorEq, Int.reduceBNe, Int.reduceBEq, q1, q2, q3, q4, q5, q6, q7, hw, hd, e1, e2, e3, e4, e5])) | refine condV_split (fun hc => ?_) (fun hc => ?_) | (with_reducible intro β hβ; (try simp only [RB] at hβ); (repeat (obtain ⟨⟨_, _⟩, hβ⟩ := hβ)); (try (have hbis := apart_is (by assumption) hβ; obtain ⟨_, _⟩ := hbis)))) <;> (try simp only [↓R1, RR, Nat.reduceEqDiff, Nat.reduceAdd, Nat.reduceMul, Nat.reduceSub, Nat.reduceLeDiff, Nat.reduceLT, reduceIte, reduceCtorEq, Int.reduceBNe, Int.reduceBEq, q1, q2, q3, q4, q5, q6, q7, hw, hd, e1, e2, e3, e4, e5])))
      (refine endP_pu (by simp) (by first | (simp [rvsS, rvS]; done) | (simp only [rvsS, rvS, ↓R1, RR, Nat.reduceEqDiff, Nat.reduceAdd, Nat.reduceMul, Nat.reduceSub, Nat.reduceLeDiff, Nat.reduceLT, reduceIte, reduceCtorEq, Int.reduceBNe, Int.reduceBEq, q1, q2, q3, q4, q5, q6, q7, hw, hd, e1, e2, e3, e4, e5]; try simp)) (wk_of_eq ?_) (by (repeat (first | exact St.le_refl _ | (refine St.le_new ?_ (by assumption)) | (refine St.le_newT ?_ (by assumption))))))
      (simp only [resAV, rvV, List.map_cons, List.map_nil, ↓R1, RR, Nat.reduceEqDiff, Nat.reduceAdd, Nat.reduceMul, Nat.reduceSub, Nat.reduceLeDiff, Nat.reduceLT, reduceIte, reduceCtorEq, Int.reduceBNe, Int.reduceBEq, q1, q2, q3, q4, q5, q6, q7, hw, hd, e1, e2, e3, e4, e5])
    · have q2 : decide ((20 : Int) < (l.length : Int)) = false := by rw [decide_eq_false_iff_not]; omega
      have hd20 : decide (l.length ≤ 20) = true := by rw [decide_eq_true_eq]; omega
      have q3 : ((c.toNat : Int) == 48) = decide (c = 48) := u8_eq c 48
      have hfo : firstOk l = !(decide (c = 48) && decide ((1 : Int) < (l.length : Int))) := by
        rw [e]
        show (!(c == 48 && !m.isEmpty)) = _
        have h1 : (c == 48) = decide (c = 48) := by rw [Bool.eq_iff_iff]; simp
        have h2 : (!m.isEmpty) = decide ((1 : Int) < ((c :: m).length : Int)) := by
          cases m with
          | nil => rfl
          | cons x m => rw [Bool.eq_iff_iff]; simp; omega
        rw [h1, h2]
      by_cases hz : (decide (c = 48) && decide ((1 : Int) < (l.length : Int))) = true
      · have e : natV l = .tup [.int .u64 0, .bool false, .bool false] := by
          rw [natV, digOk_eq, hfo, hz]; simp
        rw [Bool.and_eq_true] at hz
        have q4 := hz.1
        have q5 := hz.2
        rw [e]
        (refine Pu_intro c43 b43 (Nat.le_of_ble_eq_true rfl) fun σ => ?_; simp only [c43, ↓R1, RR, Nat.reduceEqDiff, Nat.reduceAdd, Nat.reduceMul, Nat.reduceSub, Nat.reduceLeDiff, Nat.reduceLT, reduceIte, reduceCtorEq, Int.reduceBNe, Int.reduceBEq, q1, q2, q3, q4, q5, q6, q7, hw, hd, e1, e2, e3, e4, e5])
        repeat' (first | (with_reducible rw [allocV_eq]) | (with_reducible refine And.intro ?_ ?_; focus (intros; (repeat' (with_reducible apply And.intro)) <;> first | omega | (simp only [RZ]; omega))) | (with_reducible apply And.intro) | ((first | (refine gdV_split (fun hc => ?_) (fun hc => ?_) <;> (try simp only [hc, ↓R1, RR, Nat.reduceEqDiff, Nat.reduceAdd, Nat.reduceMul, Nat.reduceSub, Nat.reduceLeDiff, Nat.reduceLT, reduceIte, reduceCtorEq, Int.reduceBNe, Int.reduceBEq, q1, q2, q3, q4, q5, q6, q7, hw, hd, e1, e2, e3, e4, e5])) | refine condV_split (fun hc => ?_) (fun hc => ?_) | (with_reducible intro β hβ; (try simp only [RB] at hβ); (repeat (obtain ⟨⟨_, _⟩, hβ⟩ := hβ)); (try (have hbis := apart_is (by assumption) hβ; obtain ⟨_, _⟩ := hbis)))) <;> (try simp only [↓R1, RR, Nat.reduceEqDiff, Nat.reduceAdd, Nat.reduceMul, Nat.reduceSub, Nat.reduceLeDiff, Nat.reduceLT, reduceIte, reduceCtorEq, Int.reduceBNe, Int.reduceBEq, q1, q2, q3, q4, q5, q6, q7, hw, hd, e1, e2, e3, e4, e5])))
        all_goals first | omega | skip
        (refine endP_pu (by simp) (by first | (simp [rvsS, rvS]; done) | (simp only [rvsS, rvS, ↓R1, RR, Nat.reduceEqDiff, Nat.reduceAdd, Nat.reduceMul, Nat.reduceSub, Nat.reduceLeDiff, Nat.reduceLT, reduceIte, reduceCtorEq, Int.reduceBNe, Int.reduceBEq, q1, q2, q3, q4, q5, q6, q7, hw, hd, e1, e2, e3, e4, e5]; try simp)) (wk_of_eq ?_) (by (repeat (first | exact St.le_refl _ | (refine St.le_new ?_ (by assumption)) | (refine St.le_newT ?_ (by assumption))))))
        (simp only [resAV, rvV, List.map_cons, List.map_nil, ↓R1, RR, Nat.reduceEqDiff, Nat.reduceAdd, Nat.reduceMul, Nat.reduceSub, Nat.reduceLeDiff, Nat.reduceLT, reduceIte, reduceCtorEq, Int.reduceBNe, Int.reduceBEq, q1, q2, q3, q4, q5, q6, q7, hw, hd, e1, e2, e3, e4, e5])
      · have q4 : (decide (c = 48) && decide ((1 : Int) < (l.length : Int))) = false := by simpa using hz
        have hno : firstOk l = true := by rw [hfo, q4]; rfl
        have hnv : natV l = bif l.all isDig then .tup [.int .u64 ((valN l % 18446744073709551616 : Nat) : Int), .bool (decide (18446744073709551616 ≤ valN l)), .bool true] else .tup [.int .u64 0, .bool false, .bool false] := by
          rw [natV, digOk_eq, hno, hd20, Bool.true_and, Bool.true_and]
        rw [hnv]
        (refine Pu_intro c43 b43 (Nat.le_of_ble_eq_true rfl) fun σ => ?_; simp only [c43, ↓R1, RR, Nat.reduceEqDiff, Nat.reduceAdd, Nat.reduceMul, Nat.reduceSub, Nat.reduceLeDiff, Nat.reduceLT, reduceIte, reduceCtorEq, Int.reduceBNe, Int.reduceBEq, q1, q2, q3, q4, q5, q6, q7, hw, hd, e1, e2, e3, e4, e5])
        repeat' (first | (with_reducible rw [allocV_eq]) | (with_reducible refine And.intro ?_ ?_; focus (intros; (repeat' (with_reducible apply And.intro)) <;> first | omega | (simp only [RZ]; omega))) | (with_reducible apply And.intro) | ((first | (refine gdV_split (fun hc => ?_) (fun hc => ?_) <;> (try simp only [hc, ↓R1, RR, Nat.reduceEqDiff, Nat.reduceAdd, Nat.reduceMul, Nat.reduceSub, Nat.reduceLeDiff, Nat.reduceLT, reduceIte, reduceCtorEq, Int.reduceBNe, Int.reduceBEq, q1, q2, q3, q4, q5, q6, q7, hw, hd, e1, e2, e3, e4, e5])) | refine condV_split (fun hc => ?_) (fun hc => ?_) | (with_reducible intro β hβ; (try simp only [RB] at hβ); (repeat (obtain ⟨⟨_, _⟩, hβ⟩ := hβ)); (try (have hbis := apart_is (by assumption) hβ; obtain ⟨_, _⟩ := hbis)))) <;> (try simp only [↓R1, RR, Nat.reduceEqDiff, Nat.reduceAdd, Nat.reduceMul, Nat.reduceSub, Nat.reduceLeDiff, Nat.reduceLT, reduceIte, reduceCtorEq, Int.reduceBNe, Int.reduceBEq, q1, q2, q3, q4, q5, q6, q7, hw, hd, e1, e2, e3, e4, e5])))
        all_goals first | omega | (rw [q4]; done) | skip
        clear hd
        refine loopV_for l.length (fun k => [(2, .int .u64 ((valN (l.take k) % 18446744073709551616 : Nat) : Int)), (3, .bool (decide (18446744073709551616 ≤ valN (l.take k)))), (26, .sl false l.length (l.map fun b => .int .u8 b.toNat)), (27, .int .i64 (l.length : Nat)), (28, .int .i64 (k : Nat))]) (fun _ => σ) (fun k => (l.take k).all isDig = true) (by simp [subF, slot, wk_refl, valN]) (St.le_refl _) (by simp) (fun k hk hI => ?_)
        by_cases hlt : k < l.length
        · have q6 : decide ((k : Int) < (l.length : Int)) = true := by rw [decide_eq_true_eq]; omega
          have hd := bytesL_get l hlt
          have hw : IntKind.i64.wrap ((k : Int) + 1) = ((k + 1 : Nat) : Int) := by rw [wrap64 (by omega) (by omega)]; omega
          cases hb : isDig l[k] with
          | true =>
            have q7 : (decide ((l[k].toNat : Int) < 48) || decide ((57 : Int) < (l[k].toNat : Int))) = false := by
              simp only [isDig, Bool.not_eq_true'] at hb; exact hb
            obtain ⟨d1, d2, d3⟩ := dig_sub hb
            have e1 := shl3 (valN (l.take k) % 18446744073709551616)
            have e2 := shl1 (valN (l.take k) % 18446744073709551616)
            have e3 := add_mod (valN (l.take k) % 18446744073709551616)
            have e4 := next_mod (valN (l.take k)) (l[k].toNat - 48)
            have e5 := d1
            have q5 := d3
            have hg := great_next (valN (l.take k)) (l[k].toNat - 48) d2
            have hv := valN_take l hlt
            simp only [q6, ↓R1, RR, Nat.reduceEqDiff, Nat.reduceAdd, Nat.reduceMul, Nat.reduceSub, Nat.reduceLeDiff, Nat.reduceLT, reduceIte, reduceCtorEq, Int.reduceBNe, Int.reduceBEq, q1, q2, q3, q4, q5, q6, q7, hw, hd, e1, e2, e3, e4, e5]
            repeat' (first | (with_reducible rw [allocV_eq]) | (with_reducible refine And.intro ?_ ?_; focus (intros; (repeat' (with_reducible apply And.intro)) <;> first | omega | (simp only [RZ]; omega))) | (with_reducible apply And.intro) | ((first | (refine gdV_split (fun hc => ?_) (fun hc => ?_) <;> (try simp only [hc, ↓R1, RR, Nat.reduceEqDiff, Nat.reduceAdd, Nat.reduceMul, Nat.reduceSub, Nat.reduceLeDiff, Nat.reduceLT, reduceIte, reduceCtorEq, Int.reduceBNe, Int.reduceBEq, q1, q2, q3, q4, q5, q6, q7, hw, hd, e1, e2, e3, e4, e5])) | refine condV_split (fun hc => ?_) (fun hc => ?_) | (with_reducible intro β hβ; (try simp only [RB] at hβ); (repeat (obtain ⟨⟨_, _⟩, hβ⟩ := hβ)); (try (have hbis := apart_is (by assumption) hβ; obtain ⟨_, _⟩ := hbis)))) <;> (try simp only [↓R1, RR, Nat.reduceEqDiff, Nat.reduceAdd, Nat.reduceMul, Nat.reduceSub, Nat.reduceLeDiff, Nat.reduceLT, reduceIte, reduceCtorEq, Int.reduceBNe, Int.reduceBEq, q1, q2, q3, q4, q5, q6, q7, hw, hd, e1, e2, e3, e4, e5])))
            all_goals first | (simp only [List.length_map]; omega) | omega | skip
            · rw [all_take _ _ hlt, hI, hb]; rfl
            · rw [hv, ← hg]; simp [subF, slot, wk_refl]
            · exact St.le_refl _
          | false =>
            have q7 : (decide ((l[k].toNat : Int) < 48) || decide ((57 : Int) < (l[k].toNat : Int))) = true := by
              simp only [isDig, Bool.not_eq_false'] at hb; exact hb
            have hall : l.all isDig = false := by
              rw [← Bool.not_eq_true, List.all_eq_true]
              intro h
              have := h l[k] (List.getElem_mem hlt)
              rw [hb] at this; cases this
            rw [hall]
            simp only [q6, ↓R1, RR, Nat.reduceEqDiff, Nat.reduceAdd, Nat.reduceMul, Nat.reduceSub, Nat.reduceLeDiff, Nat.reduceLT, reduceIte, reduceCtorEq, Int.reduceBNe, Int.reduceBEq, q1, q2, q3, q4, q5, q6, q7, hw, hd, e1, e2, e3, e4, e5]
            repeat' (first | (with_reducible rw [allocV_eq]) | (with_reducible refine And.intro ?_ ?_; focus (intros; (repeat' (with_reducible apply And.intro)) <;> first | omega | (simp only [RZ]; omega))) | (with_reducible apply And.intro) | ((first | (refine gdV_split (fun hc => ?_) (fun hc => ?_) <;> (try simp only [hc, ↓R1, RR, Nat.reduceEqDiff, Nat.reduceAdd, Nat.reduceMul, Nat.reduceSub, Nat.reduceLeDiff, Nat.reduceLT, reduceIte, reduceCtorEq, Int.reduceBNe, Int.reduceBEq, q1, q2, q3, q4, q5, q6, q7, hw, hd, e1, e2, e3, e4, e5])) | refine condV_split (fun hc => ?_) (fun hc => ?_) | (with_reducible intro β hβ; (try simp only [RB] at hβ); (repeat (obtain ⟨⟨_, _⟩, hβ⟩ := hβ)); (try (have hbis := apart_is (by assumption) hβ; obtain ⟨_, _⟩ := hbis)))) <;> (try simp only [↓R1, RR, Nat.reduceEqDiff, Nat.reduceAdd, Nat.reduceMul, Nat.reduceSub, Nat.reduceLeDiff, Nat.reduceLT, reduceIte, reduceCtorEq, Int.reduceBNe, Int.reduceBEq, q1, q2, q3, q4, q5, q6, q7, hw, hd, e1, e2, e3, e4, e5])))
            all_goals first | (simp only [List.length_map]; omega) | omega | skip
            (refine endP_pu (by simp) (by first | (simp [rvsS, rvS]; done) | (simp only [rvsS, rvS, ↓R1, RR, Nat.reduceEqDiff, Nat.reduceAdd, Nat.reduceMul, Nat.reduceSub, Nat.reduceLeDiff, Nat.reduceLT, reduceIte, reduceCtorEq, Int.reduceBNe, Int.reduceBEq, q1, q2, q3, q4, q5, q6, q7, hw, hd, e1, e2, e3, e4, e5]; try simp)) (wk_of_eq ?_) (by (repeat (first | exact St.le_refl _ | (refine St.le_new ?_ (by assumption)) | (refine St.le_newT ?_ (by assumption))))))
            (simp only [resAV, rvV, List.map_cons, List.map_nil, ↓R1, RR, Nat.reduceEqDiff, Nat.reduceAdd, Nat.reduceMul, Nat.reduceSub, Nat.reduceLeDiff, Nat.reduceLT, reduceIte, reduceCtorEq, Int.reduceBNe, Int.reduceBEq, q1, q2, q3, q4, q5, q6, q7, hw, hd, e1, e2, e3, e4, e5])
            all_goals rfl
        · have hke : k = l.length := by omega
          subst hke
          have q6 : decide ((l.length : Int) < (l.length : Int)) = false := by simp
          rw [List.take_length] at hI ⊢
          rw [hI]
          simp only [q6, ↓R1, RR, Nat.reduceEqDiff, Nat.reduceAdd, Nat.reduceMul, Nat.reduceSub, Nat.reduceLeDiff, Nat.reduceLT, reduceIte, reduceCtorEq, Int.reduceBNe, Int.reduceBEq, q1, q2, q3, q4, q5, q6, q7, hw, hd, e1, e2, e3, e4, e5]
          repeat' (first | (with_reducible rw [allocV_eq]) | (with_reducible refine And.intro ?_ ?_; focus (intros; (repeat' (with_reducible apply And.intro)) <;> first | omega | (simp only [RZ]; omega))) | (with_reducible apply And.intro) | ((first | (refine gdV_split (fun hc => ?_) (fun hc => ?_) <;> (try simp only [hc, ↓R1, RR, Nat.reduceEqDiff, Nat.reduceAdd, Nat.reduceMul, Nat.reduceSub, Nat.reduceLeDiff, Nat.reduceLT, reduceIte, reduceCtorEq, Int.reduceBNe, Int.reduceBEq, q1, q2, q3, q4, q5, q6, q7, hw, hd, e1, e2, e3, e4, e5])) | refine condV_split (fun hc => ?_) (fun hc => ?_) | (with_reducible intro β hβ; (try simp only [RB] at hβ); (repeat (obtain ⟨⟨_, _⟩, hβ⟩ := hβ)); (try (have hbis := apart_is (by assumption) hβ; obtain ⟨_, _⟩ := hbis)))) <;> (try simp only [↓R1, RR, Nat.reduceEqDiff, Nat.reduceAdd, Nat.reduceMul, Nat.reduceSub, Nat.reduceLeDiff, Nat.reduceLT, reduceIte, reduceCtorEq, Int.reduceBNe, Int.reduceBEq, q1, q2, q3, q4, q5, q6, q7, hw, hd, e1, e2, e3, e4, e5])))
          (refine endP_pu (by simp) (by first | (simp [rvsS, rvS]; done) | (simp only [rvsS, rvS, ↓R1, RR, Nat.reduceEqDiff, Nat.reduceAdd, Nat.reduceMul, Nat.reduceSub, Nat.reduceLeDiff, Nat.reduceLT, reduceIte, reduceCtorEq, Int.reduceBNe, Int.reduceBEq, q1, q2, q3, q4, q5, q6, q7, hw, hd, e1, e2, e3, e4, e5]; try simp)) (wk_of_eq ?_) (by (repeat (first | exact St.le_refl _ | (refine St.le_new ?_ (by assumption)) | (refine St.le_newT ?_ (by assumption))))))
          (simp only [resAV, rvV, List.map_cons, List.map_nil, ↓R1, RR, Nat.reduceEqDiff, Nat.reduceAdd, Nat.reduceMul, Nat.reduceSub, Nat.reduceLeDiff, Nat.reduceLT, reduceIte, reduceCtorEq, Int.reduceBNe, Int.reduceBEq, q1, q2, q3, q4, q5, q6, q7, hw, hd, e1, e2, e3, e4, e5])
          all_goals rfl
end Go.Proofs.YtemddijemikleaaDoor
