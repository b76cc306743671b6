/- Part 22 of the proof of MatchSorted: an abstract semantics that is proved sound for the model, contracts of functions in it, and plain facts (S3 S4). No condition. -/
import Derived.Test.YtncadbcjikekhaaGreatDoorKMatchSorted21
set_option linter.all false
namespace Go.Proofs.YtncadbcjikekhaaGreatDoor
open Go.Abs
set_option linter.all false
set_option maxRecDepth 100000
section
variable {σ : St} {β n : Nat} {J : List AV}
set_option maxHeartbeats 4000000 in
theorem a_ins0 : AC Tryz.prog 115 [.nils, .int .i64 0, .int .i64 0, .fn 63 []] σ (fun r s => r = .tup [] ∧ s = σ) := by
  have q0 : decide ((1 : Int) < 0) = false := by decide
  have q1 : True := trivial
  have q2 : True := trivial
  have hw : IntKind.i64.wrap 1 = 1 := by decide
  (refine AC_intro c115 b115 (Nat.le_of_ble_eq_true rfl) ?_; simp only [c115, ↓R1, RR, seval, RQ, q0, q1, q2, hw])
  repeat' (first | (with_reducible rw [allocV_eq]) | (with_reducible refine And.intro ?_ ?_; focus (intros; (repeat' (with_reducible apply And.intro)) <;> first | omega | (simp only [RZ, cells_len]; omega))) | (with_reducible apply And.intro) | ((first | (refine gdV_split (fun hc => ?_) (fun hc => ?_) <;> (try simp only [hc, ↓R1, RR, seval, RQ, q0, q1, q2, hw])) | refine condV_split (fun hc => ?_) (fun hc => ?_) | (with_reducible intro β hβ; (try simp only [RB] at hβ); (repeat (obtain ⟨⟨_, _⟩, hβ⟩ := hβ)); (try (have hbis := apart_is (by assumption) hβ; obtain ⟨_, _⟩ := hbis)))) <;> (try simp only [↓R1, RR, seval, RQ, q0, q1, q2, hw])))
  refine loopV_st (α := Unit) (fun _ => [(0, .nils), (1, .int .i64 0), (2, .int .i64 0), (3, .fn 63 []), (8, .int .i64 1)]) (fun _ => σ) (fun _ => True) (fun _ => 0) () (by simp [subF, slot, wk_refl]) (St.le_refl _) trivial (fun _ _ => ?_)
  simp only [q0, ↓R1, RR, seval, RQ, q0, q1, q2, hw]
  repeat' (first | (with_reducible rw [allocV_eq]) | (with_reducible refine And.intro ?_ ?_; focus (intros; (repeat' (with_reducible apply And.intro)) <;> first | omega | (simp only [RZ, cells_len]; omega))) | (with_reducible apply And.intro) | ((first | (refine gdV_split (fun hc => ?_) (fun hc => ?_) <;> (try simp only [hc, ↓R1, RR, seval, RQ, q0, q1, q2, hw])) | refine condV_split (fun hc => ?_) (fun hc => ?_) | (with_reducible intro β hβ; (try simp only [RB] at hβ); (repeat (obtain ⟨⟨_, _⟩, hβ⟩ := hβ)); (try (have hbis := apart_is (by assumption) hβ; obtain ⟨_, _⟩ := hbis)))) <;> (try simp only [↓R1, RR, seval, RQ, q0, q1, q2, hw])))
  (refine endP_id (by simp) (by first | (simp [rvsS, rvS]; done) | (simp only [rvsS, rvS, ↓R1, RR, seval, RQ, q0, q1, q2, hw]; try simp)) ?_)
  exact ⟨rfl, rfl⟩
set_option maxHeartbeats 4000000 in
theorem a_stab0 : AC Tryz.prog 93 [.nils, .int .i64 0, .fn 63 []] σ (fun r s => r = .tup [] ∧ s = σ) := by
  have q0 : decide ((20 : Int) ≤ 0) = false := by decide
  have q1 : decide ((20 : Int) < 0) = false := by decide
  have q2 : True := trivial
  have hw : True := trivial
  have hi := a_ins0 (σ := σ)
  (refine AC_intro c93 b93 (Nat.le_of_ble_eq_true rfl) ?_; simp only [c93, ↓R1, RR, seval, RQ, q0, q1, q2, hw])
  repeat' (first | (with_reducible rw [allocV_eq]) | (with_reducible refine And.intro ?_ ?_; focus (intros; (repeat' (with_reducible apply And.intro)) <;> first | omega | (simp only [RZ, cells_len]; omega))) | (with_reducible apply And.intro) | ((first | (refine gdV_split (fun hc => ?_) (fun hc => ?_) <;> (try simp only [hc, ↓R1, RR, seval, RQ, q0, q1, q2, hw])) | refine condV_split (fun hc => ?_) (fun hc => ?_) | (with_reducible intro β hβ; (try simp only [RB] at hβ); (repeat (obtain ⟨⟨_, _⟩, hβ⟩ := hβ)); (try (have hbis := apart_is (by assumption) hβ; obtain ⟨_, _⟩ := hbis)))) <;> (try simp only [↓R1, RR, seval, RQ, q0, q1, q2, hw])))
  refine loopV_st (α := Unit) (fun _ => [(0, .nils), (1, .int .i64 0), (2, .fn 63 []), (6, .int .i64 20), (7, .int .i64 0), (8, .int .i64 20)]) (fun _ => σ) (fun _ => True) (fun _ => 0) () (by simp [subF, slot, wk_refl]) (St.le_refl _) trivial (fun _ _ => ?_)
  simp only [q0, ↓R1, RR, seval, RQ, q0, q1, q2, hw]
  repeat' (first | (with_reducible rw [allocV_eq]) | (with_reducible refine And.intro ?_ ?_; focus (intros; (repeat' (with_reducible apply And.intro)) <;> first | omega | (simp only [RZ, cells_len]; omega))) | (with_reducible apply And.intro) | ((first | (refine gdV_split (fun hc => ?_) (fun hc => ?_) <;> (try simp only [hc, ↓R1, RR, seval, RQ, q0, q1, q2, hw])) | refine condV_split (fun hc => ?_) (fun hc => ?_) | (with_reducible intro β hβ; (try simp only [RB] at hβ); (repeat (obtain ⟨⟨_, _⟩, hβ⟩ := hβ)); (try (have hbis := apart_is (by assumption) hβ; obtain ⟨_, _⟩ := hbis))) | (refine AC.mono (AC.wk (hi) (wkL_refl _)) ?_; (rintro _ _ ⟨rfl, rfl⟩))) <;> (try simp only [↓R1, RR, seval, RQ, q0, q1, q2, hw])))
  refine loopV_st (α := Unit) (fun _ => [(0, .nils), (1, .int .i64 0), (2, .fn 63 []), (6, .int .i64 20)]) (fun _ => _) (fun _ => True) (fun _ => 0) () (by simp [subF, slot, wk_refl]) (St.le_refl _) trivial (fun _ _ => ?_)
  simp only [q1, ↓R1, RR, seval, RQ, q0, q1, q2, hw]
  repeat' (first | (with_reducible rw [allocV_eq]) | (with_reducible refine And.intro ?_ ?_; focus (intros; (repeat' (with_reducible apply And.intro)) <;> first | omega | (simp only [RZ, cells_len]; omega))) | (with_reducible apply And.intro) | ((first | (refine gdV_split (fun hc => ?_) (fun hc => ?_) <;> (try simp only [hc, ↓R1, RR, seval, RQ, q0, q1, q2, hw])) | refine condV_split (fun hc => ?_) (fun hc => ?_) | (with_reducible intro β hβ; (try simp only [RB] at hβ); (repeat (obtain ⟨⟨_, _⟩, hβ⟩ := hβ)); (try (have hbis := apart_is (by assumption) hβ; obtain ⟨_, _⟩ := hbis)))) <;> (try simp only [↓R1, RR, seval, RQ, q0, q1, q2, hw])))
  (refine endP_id (by simp) (by first | (simp [rvsS, rvS]; done) | (simp only [rvsS, rvS, ↓R1, RR, seval, RQ, q0, q1, q2, hw]; try simp)) ?_)
  exact ⟨rfl, rfl⟩
theorem a_sort0 : AC Tryz.prog 62 [.nils, .fn 63 []] σ (fun r s => r = .tup [] ∧ s = σ) := by
  have q0 : True := trivial
  have q1 : True := trivial
  have q2 : True := trivial
  have hw : True := trivial
  have hi := a_stab0 (σ := σ)
  (refine AC_intro c62 b62 (Nat.le_of_ble_eq_true rfl) ?_; simp only [c62, ↓R1, RR, seval, RQ, q0, q1, q2, hw])
  repeat' (first | (with_reducible rw [allocV_eq]) | (with_reducible refine And.intro ?_ ?_; focus (intros; (repeat' (with_reducible apply And.intro)) <;> first | omega | (simp only [RZ, cells_len]; omega))) | (with_reducible apply And.intro) | ((first | (refine gdV_split (fun hc => ?_) (fun hc => ?_) <;> (try simp only [hc, ↓R1, RR, seval, RQ, q0, q1, q2, hw])) | refine condV_split (fun hc => ?_) (fun hc => ?_) | (with_reducible intro β hβ; (try simp only [RB] at hβ); (repeat (obtain ⟨⟨_, _⟩, hβ⟩ := hβ)); (try (have hbis := apart_is (by assumption) hβ; obtain ⟨_, _⟩ := hbis))) | (refine AC.mono (AC.wk (hi) (wkL_refl _)) ?_; (rintro _ _ ⟨rfl, rfl⟩))) <;> (try simp only [↓R1, RR, seval, RQ, q0, q1, q2, hw])))
  (refine endP_id (by simp) (by first | (simp [rvsS, rvS]; done) | (simp only [rvsS, rvS, ↓R1, RR, seval, RQ, q0, q1, q2, hw]; try simp)) ?_)
  exact ⟨rfl, rfl⟩
set_option maxHeartbeats 4000000 in
theorem a_stab (ls : List (List Pl)) (hl : ls.length < 20) (hm : ∀ l ∈ ls, OkM l) (hb : σ.box β = some (cells cM ls J)) :
    AC Tryz.prog 93 [.row β 30 1 ls.length, .int .i64 (ls.length : Nat), .fn 63 []] σ (fun r s => r = .tup [] ∧ s = σ.setBox β (cells cM (isort cmpM ls) J)) := by
  have q0 : decide ((20 : Int) ≤ (ls.length : Int)) = false := by rw [decide_eq_false_iff_not]; omega
  have q1 : decide ((20 : Int) < (ls.length : Int)) = false := by rw [decide_eq_false_iff_not]; omega
  have q2 : True := trivial
  have hw : True := trivial
  have hi := a_ins (σ := σ) (β := β) (n := ls.length) (J := J) [] ls [] (by simp; omega) (by simp) hm (by simpa using hb)
  simp only [List.length_nil, Nat.zero_add, List.nil_append, List.append_nil, Int.natCast_zero] at hi
  (refine AC_intro c93 b93 (Nat.le_of_ble_eq_true rfl) ?_; simp only [c93, ↓R1, RR, seval, RQ, q0, q1, q2, hw])
  repeat' (first | (with_reducible rw [allocV_eq]) | (with_reducible refine And.intro ?_ ?_; focus (intros; (repeat' (with_reducible apply And.intro)) <;> first | omega | (simp only [RZ, cells_len]; omega))) | (with_reducible apply And.intro) | ((first | (refine gdV_split (fun hc => ?_) (fun hc => ?_) <;> (try simp only [hc, ↓R1, RR, seval, RQ, q0, q1, q2, hw])) | refine condV_split (fun hc => ?_) (fun hc => ?_) | (with_reducible intro β hβ; (try simp only [RB] at hβ); (repeat (obtain ⟨⟨_, _⟩, hβ⟩ := hβ)); (try (have hbis := apart_is (by assumption) hβ; obtain ⟨_, _⟩ := hbis)))) <;> (try simp only [↓R1, RR, seval, RQ, q0, q1, q2, hw])))
  refine loopV_st (α := Unit) (fun _ => [(0, .row β 30 1 ls.length), (1, .int .i64 (ls.length : Nat)), (2, .fn 63 []), (6, .int .i64 20), (7, .int .i64 0), (8, .int .i64 20)]) (fun _ => σ) (fun _ => True) (fun _ => 0) () (by simp [subF, slot, wk_refl]) (St.le_refl _) trivial (fun _ _ => ?_)
  simp only [q0, ↓R1, RR, seval, RQ, q0, q1, q2, hw]
  repeat' (first | (with_reducible rw [allocV_eq]) | (with_reducible refine And.intro ?_ ?_; focus (intros; (repeat' (with_reducible apply And.intro)) <;> first | omega | (simp only [RZ, cells_len]; omega))) | (with_reducible apply And.intro) | ((first | (refine gdV_split (fun hc => ?_) (fun hc => ?_) <;> (try simp only [hc, ↓R1, RR, seval, RQ, q0, q1, q2, hw])) | refine condV_split (fun hc => ?_) (fun hc => ?_) | (with_reducible intro β hβ; (try simp only [RB] at hβ); (repeat (obtain ⟨⟨_, _⟩, hβ⟩ := hβ)); (try (have hbis := apart_is (by assumption) hβ; obtain ⟨_, _⟩ := hbis))) | (refine AC.mono (AC.wk (hi) (wkL_refl _)) ?_; (rintro _ _ ⟨rfl, rfl⟩))) <;> (try simp only [↓R1, RR, seval, RQ, q0, q1, q2, hw])))
  refine loopV_st (α := Unit) (fun _ => [(0, .row β 30 1 ls.length), (1, .int .i64 (ls.length : Nat)), (2, .fn 63 []), (6, .int .i64 20)]) (fun _ => σ.setBox β (cells cM (isort cmpM ls) J)) (fun _ => True) (fun _ => 0) () (by simp [subF, slot, wk_refl]) (St.le_refl _) trivial (fun _ _ => ?_)
  simp only [q1, ↓R1, RR, seval, RQ, q0, q1, q2, hw]
  repeat' (first | (with_reducible rw [allocV_eq]) | (with_reducible refine And.intro ?_ ?_; focus (intros; (repeat' (with_reducible apply And.intro)) <;> first | omega | (simp only [RZ, cells_len]; omega))) | (with_reducible apply And.intro) | ((first | (refine gdV_split (fun hc => ?_) (fun hc => ?_) <;> (try simp only [hc, ↓R1, RR, seval, RQ, q0, q1, q2, hw])) | refine condV_split (fun hc => ?_) (fun hc => ?_) | (with_reducible intro β hβ; (try simp only [RB] at hβ); (repeat (obtain ⟨⟨_, _⟩, hβ⟩ := hβ)); (try (have hbis := apart_is (by assumption) hβ; obtain ⟨_, _⟩ := hbis)))) <;> (try simp only [↓R1, RR, seval, RQ, q0, q1, q2, hw])))
  (refine endP_id (by simp) (by first | (simp [rvsS, rvS]; done) | (simp only [rvsS, rvS, ↓R1, RR, seval, RQ, q0, q1, q2, hw]; try simp)) ?_)
  exact ⟨rfl, rfl⟩
theorem a_sort (ls : List (List Pl)) (hl : ls.length < 20) (hm : ∀ l ∈ ls, OkM l) (hb : σ.box β = some (cells cM ls J)) :
    AC Tryz.prog 62 [.row β 30 1 ls.length, .fn 63 []] σ (fun r s => r = .tup [] ∧ s = σ.setBox β (cells cM (isort cmpM ls) J)) := by
  have q0 : True := trivial
  have q1 : True := trivial
  have q2 : True := trivial
  have hw : True := trivial
  have hi := a_stab ls hl hm hb
  (refine AC_intro c62 b62 (Nat.le_of_ble_eq_true rfl) ?_; simp only [c62, ↓R1, RR, seval, RQ, q0, q1, q2, hw])
  repeat' (first | (with_reducible rw [allocV_eq]) | (with_reducible refine And.intro ?_ ?_; focus (intros; (repeat' (with_reducible apply And.intro)) <;> first | omega | (simp only [RZ, cells_len]; omega))) | (with_reducible apply And.intro) | ((first | (refine gdV_split (fun hc => ?_) (fun hc => ?_) <;> (try simp only [hc, ↓R1, RR, seval, RQ, q0, q1, q2, hw])) | refine condV_split (fun hc => ?_) (fun hc => ?_) | (with_reducible intro β hβ; (try simp only [RB] at hβ); (repeat (obtain ⟨⟨_, _⟩, hβ⟩ := hβ)); (try (have hbis := apart_is (by assumption) hβ; obtain ⟨_, _⟩ := hbis))) | (refine AC.mono (AC.wk (hi) (wkL_refl _)) ?_; (rintro _ _ ⟨rfl, rfl⟩))) <;> (try simp only [↓R1, RR, seval, RQ, q0, q1, q2, hw])))
  (refine endP_id (by simp) (by first | (simp [rvsS, rvS]; done) | (simp only [rvsS, rvS, ↓R1, RR, seval, RQ, q0, q1, q2, hw]; try simp)) ?_)
  exact ⟨rfl, rfl⟩
end
end Go.Proofs.YtncadbcjikekhaaGreatDoor
namespace Go.Proofs.YtncadbcjikekhaaGreatDoor
open Go.Abs
set_option linter.all false
set_option maxRecDepth 100000
def outV (k β : Nat) : AV := match k with
  | 0 => .nils
  | k + 1 => .row β 30 1 (k + 1)
def outS (σ : St) (ls : List (List Pl)) (k β j : Nat) : St := match k with
  | 0 => σ
  | k + 1 => σ.setBox β (cells cM (ls.take (k + 1)) (List.replicate j .junk))
theorem outV_0 {k β : Nat} (h : k = 0) : outV k β = .nils := by subst h; rfl
theorem outV_1 {k β : Nat} (h : 0 < k) : outV k β = .row β 30 1 k := by cases k with
  | zero => omega
  | succ k => rfl
theorem outS_0 {σ : St} {ls : List (List Pl)} {k β j : Nat} (h : k = 0) : outS σ ls k β j = σ := by subst h; rfl
theorem outS_1 {σ : St} {ls : List (List Pl)} {k β j : Nat} (h : 0 < k) : outS σ ls k β j = σ.setBox β (cells cM (ls.take k) (List.replicate j .junk)) := by cases k with
  | zero => omega
  | succ k => rfl
theorem cM_get (ls : List (List Pl)) {k : Nat} (h : k < ls.length) : List.take 1 (List.drop (k * 1) (ls.map cM)) = [cM ls[k]] := by
  rw [Nat.mul_one, List.drop_eq_getElem_cons (by simpa using h)]
  simp
theorem none_of_le {σ σ' : St} {γ : Nat} (h : St.le σ σ') (hn : σ'.box γ = none) : σ.box γ = none := by
  cases h2 : σ.box γ with
  | none => rfl
  | some c => rw [h.1 γ c h2] at hn; cases hn
theorem le_drop1 {σ : St} {β : Nat} {c : List AV} (hb : σ.box β = none) : St.le σ ((σ.setBox β c).dropBox β) := by
  refine ⟨fun δ e he => ?_, fun _ _ h => h, fun _ _ h => h, fun _ _ h => h, fun δ T hT => ?_⟩
  · have : δ ≠ β := by rintro rfl; rw [hb] at he; cases he
    simp only [St.dropBox, St.setBox, upd, if_neg this]
    exact he
  · exact hT
theorem le_drop {σ : St} {β γ : Nat} {c d : List AV} (hb : σ.box β = none) (hg : σ.box γ = none) : St.le σ (((σ.setBox β c).setBox γ d).dropBox β) := by
  refine ⟨fun δ e he => ?_, fun _ _ h => h, fun _ _ h => h, fun _ _ h => h, fun δ T hT => ?_⟩
  · have h1 : δ ≠ β := by rintro rfl; rw [hb] at he; cases he
    have h2 : δ ≠ γ := by rintro rfl; rw [hg] at he; cases he
    simp only [St.dropBox, St.setBox, upd, if_neg h1, if_neg h2]
    exact he
  · exact hT
theorem cells_take {α : Type} {c : α → AV} {l : List α} {J : List AV} {k : Nat} (h : l.length = k) : (cells c l J).take (k * 1) = l.map c := by
  subst h
  unfold cells
  rw [Nat.mul_one]
  have : l.length = (l.map c).length := by simp
  rw [this, List.take_left]
set_option maxHeartbeats 4000000 in
theorem p22 (ls : List (List Pl)) (hl : ls.length < 20) (hm : ∀ l ∈ ls, checkS l = 0) (hk : ∀ l ∈ ls, OkM l) : Pu Tryz.prog 22 [.sl false ls.length (ls.map cM)] (.tup [.sl false ls.length ((isort cmpM ls).map cM), .int .i64 0]) := by
  have q0 : True := trivial
  have q1 : True := trivial
  have q2 : True := trivial
  have hw : True := trivial
  have hd : True := trivial
  have hd2 : True := trivial
  (refine Pu_intro c22 b22 (Nat.le_of_ble_eq_true rfl) fun σ => ?_; simp only [c22, ↓R1, RR, seval, RQ, q0, q1, q2, hw, hd, hd2])
  repeat' (first | (with_reducible rw [allocV_eq]) | (with_reducible refine And.intro ?_ ?_; focus (intros; (repeat' (with_reducible apply And.intro)) <;> first | omega | (simp only [RZ, cells_len, cP_len, List.length_replicate]; omega))) | (with_reducible apply And.intro) | ((first | (refine gdV_split (fun hc => ?_) (fun hc => ?_) <;> (try simp only [hc, ↓R1, RR, seval, RQ, q0, q1, q2, hw, hd, hd2])) | refine condV_split (fun hc => ?_) (fun hc => ?_) | (with_reducible intro β hβ; (try simp only [RB] at hβ); (repeat (obtain ⟨⟨_, _⟩, hβ⟩ := hβ)); (try (have hbis := apart_is (by assumption) hβ; obtain ⟨_, _⟩ := hbis)))) <;> (try simp only [↓R1, RR, seval, RQ, q0, q1, q2, hw, hd, hd2])))
  refine loopV_st (α := Nat × Nat × Nat) (fun a => [(4, outV a.1 a.2.1), (8, .sl false ls.length (ls.map cM)), (9, .int .i64 (ls.length : Nat)), (10, .int .i64 (a.1 : Nat))]) (fun a => outS σ ls a.1 a.2.1 a.2.2)
    (fun a => a.1 ≤ ls.length ∧ (a.1 ≠ 0 → σ.box a.2.1 = none)) (fun a => ls.length - a.1) (0, 0, 0) (by simp [subF, slot, wk_refl, outV]) (St.le_refl _) ⟨by simp, by simp⟩ (fun a ha => ?_)
  obtain ⟨k, b4, j⟩ := a
  obtain ⟨h1, h2⟩ := ha
  simp only at h1 h2 ⊢
  by_cases hlt : k < ls.length
  · have q0 : decide ((k : Int) < (ls.length : Int)) = true := by rw [decide_eq_true_eq]; omega
    have hd := cM_get ls hlt
    have hw : IntKind.i64.wrap ((k : Int) + 1) = ((k + 1 : Nat) : Int) := by rw [wrap64 (by omega) (by omega)]; omega
    obtain ⟨m, hmk⟩ : ∃ m, ls[k] = m := ⟨_, rfl⟩
    have hmm : m ∈ ls := by rw [← hmk]; exact List.getElem_mem hlt
    rw [hmk] at hd
    have hC := p31 m (hk m hmm).2
    rw [hm m hmm] at hC
    have hcl := (clone_ptp m (hk m hmm).2).pu
    simp only [cM] at hd
    rcases Nat.eq_zero_or_pos k with h0 | h0
    · rw [outV_0 h0, outS_0 h0]
      simp only [q0, ↓R1, RR, seval, RQ, q0, q1, q2, hw, hd, hd2]
      repeat' (first | (with_reducible rw [allocV_eq]) | (with_reducible refine And.intro ?_ ?_; focus (intros; (repeat' (with_reducible apply And.intro)) <;> first | omega | (simp only [RZ, cells_len, cP_len, List.length_replicate]; omega))) | (with_reducible apply And.intro) | ((first | (refine gdV_split (fun hc => ?_) (fun hc => ?_) <;> (try simp only [hc, ↓R1, RR, seval, RQ, q0, q1, q2, hw, hd, hd2])) | refine condV_split (fun hc => ?_) (fun hc => ?_) | (with_reducible intro β hβ; (try simp only [RB] at hβ); (repeat (obtain ⟨⟨_, _⟩, hβ⟩ := hβ)); (try (have hbis := apart_is (by assumption) hβ; obtain ⟨_, _⟩ := hbis))) | refine Pt (hC) ?_ | refine Ct (hC) ?_ | refine Pt (hcl) ?_ | refine Ct (hcl) ?_ | (refine appRV_nils rfl (by decide) rfl (by unfold maxLen; omega) (by omega) (fun γ j2 hγ => ?_))) <;> (try simp only [↓R1, RR, seval, RQ, q0, q1, q2, hw, hd, hd2])))
      have hle : St.le σ (σ.setBox β [AV.sl false m.length (List.flatMap cP m)]) := St.le_new (St.le_refl _) hβ
      refine ⟨(k + 1, γ, j2), ⟨by simp only; omega, fun _ => none_of_le hle hγ⟩, by subst h0; simp [subF, slot, wk_refl, outV], ?_, by simp only; omega⟩
      have e1 : cells cM (ls.take (k + 1)) (List.replicate j2 .junk) = AV.sl false m.length (List.flatMap cP m) :: List.replicate j2 AV.junk := by
        subst h0
        rw [List.take_succ_eq_append_getElem hlt, hmk]; rfl
      rw [outS_1 (by omega), e1]
      exact St.le_cong _ _ hle
    · have hb := h2 (by omega)
      rw [outV_1 h0, outS_1 h0]
      simp only [q0, ↓R1, RR, seval, RQ, q0, q1, q2, hw, hd, hd2]
      repeat' (first | (with_reducible rw [allocV_eq]) | (with_reducible refine And.intro ?_ ?_; focus (intros; (repeat' (with_reducible apply And.intro)) <;> first | omega | (simp only [RZ, cells_len, cP_len, List.length_replicate]; omega))) | (with_reducible apply And.intro) | ((first | (refine gdV_split (fun hc => ?_) (fun hc => ?_) <;> (try simp only [hc, ↓R1, RR, seval, RQ, q0, q1, q2, hw, hd, hd2])) | refine condV_split (fun hc => ?_) (fun hc => ?_) | (with_reducible intro β hβ; (try simp only [RB] at hβ); (repeat (obtain ⟨⟨_, _⟩, hβ⟩ := hβ)); (try (have hbis := apart_is (by assumption) hβ; obtain ⟨_, _⟩ := hbis))) | refine Pt (hC) ?_ | refine Ct (hC) ?_ | refine Pt (hcl) ?_ | refine Ct (hcl) ?_ | (refine appRV_row rfl (by simp only [↓R1, RR, seval, RQ, q0, q1, q2, hw, hd, hd2]; rfl) (by decide) (by rw [cells_len, List.length_take]; omega) rfl (by unfold maxLen; omega) (by omega) (fun γ j2 hγ => ?_))) <;> (try simp only [↓R1, RR, seval, RQ, q0, q1, q2, hw, hd, hd2])))
      have hle := le_drop (c := cells cM (ls.take k) (List.replicate j .junk)) (d := [AV.sl false m.length (List.flatMap cP m)]) hb hβ
      refine ⟨(k + 1, γ, j2), ⟨by simp only; omega, fun _ => none_of_le hle hγ⟩, by simp [subF, slot, wk_refl, outV], ?_, by simp only; omega⟩
      have e1 : cells cM (ls.take (k + 1)) (List.replicate j2 .junk) = List.take (k * 1) (cells cM (ls.take k) (List.replicate j .junk)) ++ [AV.sl false m.length (List.flatMap cP m)] ++ List.replicate j2 AV.junk := by
        rw [cells_take (by rw [List.length_take]; omega), List.take_succ_eq_append_getElem hlt, hmk]
        simp [cells, cM]
      rw [outS_1 (by omega), e1]
      exact St.le_cong _ _ hle
  · have hke : k = ls.length := by omega
    subst hke
    have q0 : decide ((ls.length : Int) < (ls.length : Int)) = false := by simp
    rcases Nat.eq_zero_or_pos ls.length with h0 | h0
    · have hs := a_sort0 (σ := σ)
      have hnil : ls = [] := List.eq_nil_of_length_eq_zero h0
      rw [outV_0 h0, outS_0 h0]
      simp only [q0, ↓R1, RR, seval, RQ, q0, q1, q2, hw, hd, hd2]
      repeat' (first | (with_reducible rw [allocV_eq]) | (with_reducible refine And.intro ?_ ?_; focus (intros; (repeat' (with_reducible apply And.intro)) <;> first | omega | (simp only [RZ, cells_len, cP_len, List.length_replicate]; omega))) | (with_reducible apply And.intro) | ((first | (refine gdV_split (fun hc => ?_) (fun hc => ?_) <;> (try simp only [hc, ↓R1, RR, seval, RQ, q0, q1, q2, hw, hd, hd2])) | refine condV_split (fun hc => ?_) (fun hc => ?_) | (with_reducible intro β hβ; (try simp only [RB] at hβ); (repeat (obtain ⟨⟨_, _⟩, hβ⟩ := hβ)); (try (have hbis := apart_is (by assumption) hβ; obtain ⟨_, _⟩ := hbis))) | (refine AC.mono (AC.wk (hs) (wkL_refl _)) ?_; (rintro _ _ ⟨rfl, rfl⟩))) <;> (try simp only [↓R1, RR, seval, RQ, q0, q1, q2, hw, hd, hd2])))
      rw [aC_frz, show frzS 4 1 _ _ = none from rfl, frzV_none]
      simp only [↓R1, RR, seval, RQ, q0, q1, q2, hw, hd, hd2]
      repeat' (first | (with_reducible rw [allocV_eq]) | (with_reducible refine And.intro ?_ ?_; focus (intros; (repeat' (with_reducible apply And.intro)) <;> first | omega | (simp only [RZ, cells_len, cP_len, List.length_replicate]; omega))) | (with_reducible apply And.intro) | ((first | (refine gdV_split (fun hc => ?_) (fun hc => ?_) <;> (try simp only [hc, ↓R1, RR, seval, RQ, q0, q1, q2, hw, hd, hd2])) | refine condV_split (fun hc => ?_) (fun hc => ?_) | (with_reducible intro β hβ; (try simp only [RB] at hβ); (repeat (obtain ⟨⟨_, _⟩, hβ⟩ := hβ)); (try (have hbis := apart_is (by assumption) hβ; obtain ⟨_, _⟩ := hbis)))) <;> (try simp only [↓R1, RR, seval, RQ, q0, q1, q2, hw, hd, hd2])))
      (refine endP_pu (by simp) (by first | (simp [rvsS, rvS]; done) | (simp only [rvsS, rvS, ↓R1, RR, seval, RQ, q0, q1, q2, hw, hd, hd2]; try simp)) ?_ (by (repeat (first | exact St.le_refl _ | (refine St.le_new ?_ (by assumption)) | (refine St.le_newT ?_ (by assumption))))))
      simp only [resAV, rvV, List.map_cons, List.map_nil, ↓R1, RR, seval, RQ, q0, q1, q2, hw, hd, hd2]
      rw [hnil]
      (repeat' (first | exact wk_refl _ | exact wk_nils | exact wk_tsl _ _ _ | exact wk_full _ _ | exact wkL.nil | exact wkL_refl _ | refine wk_tup ?_ | refine wk_agg ?_ | refine wkL.cons ?_ ?_))
    · have hb := h2 (by omega)
      rw [outV_1 h0, outS_1 h0, List.take_length]
      have hs := a_sort (σ := σ.setBox b4 (cells cM ls (List.replicate j .junk))) (β := b4) (J := List.replicate j .junk) ls hl hk (by simp [St.setBox, upd])
      simp only [q0, ↓R1, RR, seval, RQ, q0, q1, q2, hw, hd, hd2]
      repeat' (first | (with_reducible rw [allocV_eq]) | (with_reducible refine And.intro ?_ ?_; focus (intros; (repeat' (with_reducible apply And.intro)) <;> first | omega | (simp only [RZ, cells_len, cP_len, List.length_replicate]; omega))) | (with_reducible apply And.intro) | ((first | (refine gdV_split (fun hc => ?_) (fun hc => ?_) <;> (try simp only [hc, ↓R1, RR, seval, RQ, q0, q1, q2, hw, hd, hd2])) | refine condV_split (fun hc => ?_) (fun hc => ?_) | (with_reducible intro β hβ; (try simp only [RB] at hβ); (repeat (obtain ⟨⟨_, _⟩, hβ⟩ := hβ)); (try (have hbis := apart_is (by assumption) hβ; obtain ⟨_, _⟩ := hbis))) | (refine AC.mono (AC.wk (hs) (wkL_refl _)) ?_; (rintro _ _ ⟨rfl, rfl⟩))) <;> (try simp only [↓R1, RR, seval, RQ, q0, q1, q2, hw, hd, hd2])))
      rw [aC_frz, frzS_row (n := ls.length) (cs := cells cM (isort cmpM ls) (List.replicate j .junk)) rfl (by simp [St.setBox, upd]) (by rw [cells_len, isort_len]; omega), frzV_some]
      simp only [↓R1, RR, seval, RQ, q0, q1, q2, hw, hd, hd2]
      repeat' (first | (with_reducible rw [allocV_eq]) | (with_reducible refine And.intro ?_ ?_; focus (intros; (repeat' (with_reducible apply And.intro)) <;> first | omega | (simp only [RZ, cells_len, cP_len, List.length_replicate]; omega))) | (with_reducible apply And.intro) | ((first | (refine gdV_split (fun hc => ?_) (fun hc => ?_) <;> (try simp only [hc, ↓R1, RR, seval, RQ, q0, q1, q2, hw, hd, hd2])) | refine condV_split (fun hc => ?_) (fun hc => ?_) | (with_reducible intro β hβ; (try simp only [RB] at hβ); (repeat (obtain ⟨⟨_, _⟩, hβ⟩ := hβ)); (try (have hbis := apart_is (by assumption) hβ; obtain ⟨_, _⟩ := hbis)))) <;> (try simp only [↓R1, RR, seval, RQ, q0, q1, q2, hw, hd, hd2])))
      refine endP_pu (by simp) (by first | (simp [rvsS, rvS]; done) | (simp only [rvsS, rvS, ↓R1, RR, seval, RQ, q0, q1, q2, hw, hd, hd2]; try simp)) (wk_of_eq ?_) (le_drop1 hb)
      (simp only [resAV, rvV, List.map_cons, List.map_nil, ↓R1, RR, seval, RQ, q0, q1, q2, hw, hd, hd2])
      rw [cells_take (isort_len cmpM ls)]
end Go.Proofs.YtncadbcjikekhaaGreatDoor
