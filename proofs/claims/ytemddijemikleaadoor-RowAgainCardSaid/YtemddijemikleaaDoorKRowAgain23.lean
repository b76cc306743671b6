/- Part 23 of the proof of RowAgain: an abstract semantics that is proved sound for the model, contracts of functions in it, and plain facts (RX3 RX4 RX5 RW5 RW6 RW7 RW8 RW9 RX6 RC1). No condition. -/
import Derived.Test.YtemddijemikleaaDoorKRowAgain22
set_option linter.all false
namespace Go.Abs
theorem AC.le {P : Program} {f : Nat} {xs : List AV} {σ σ' : St} {R : AV → St → Prop} (h : AC P f xs σ R) (hl : St.le σ σ') : AC P f xs σ' R := fun g w vs hI hv => h g w vs (hI.le hl) hv
end Go.Abs
namespace Go.Proofs.YtemddijemikleaaDoor
open Go.Abs
set_option linter.all false
set_option maxRecDepth 100000
theorem joins : Joins Tryd.prog 34 :=
  joins_of (Go.Proofs.enters_of Tryd.func34 (by kernel_rfl) rfl) (fun x sep w => Tryd.strings_Join_none x 0 sep w) (fun bk o c xs sep w h1 h2 h3 h4 h5 => Tryd.strings_Join bk o c xs sep w h1 h2 h3 h4 h5)
def sV (τ : Nat) : List (List UInt8) → AV
  | [] => .nils
  | p => .tsl τ p.length (p.map AV.str)
def sT (σ : St) (τ : Nat) : List (List UInt8) → St
  | [] => σ
  | p => σ.setTip τ (9, 1, p.length)
theorem sT_box (σ : St) (τ : Nat) (p : List (List UInt8)) : (sT σ τ p).box = σ.box := by cases p <;> rfl
theorem sT_set (σ : St) (τ : Nat) (p : List (List UInt8)) (u : Nat) (c : List AV) : (sT σ τ p).setBox u c = sT (σ.setBox u c) τ p := by cases p <;> rfl
theorem sT_le {s s' : St} (h : St.le s s') {τ : Nat} {p : List (List UInt8)} (hn : p ≠ [] → s.tip τ = none) : St.le s (sT s' τ p) := by
  cases p with
  | nil => exact h
  | cons x p => exact St.le_setTip h (hn (by simp))
theorem sT_le2 {s s' : St} (h : St.le s s') (τ : Nat) (p : List (List UInt8)) : St.le (sT s τ p) (sT s' τ p) := by
  cases p with
  | nil => exact h
  | cons x p => exact St.le_setTc h
theorem bS_tip_none {σ : St} {γ τ τ1 : Nat} {out : List UInt8} (h : (bS σ γ τ out).tip τ1 = none) : σ.tip τ1 = none := by
  cases out with
  | nil => exact h
  | cons x out =>
    simp only [bS, bT, St.setBox, St.setTip, upd] at h
    split at h
    · cases h
    · exact h
theorem sV_slv (τ : Nat) (p : List (List UInt8)) : slv (sV τ p) = some (p.length, p.map AV.str) := by cases p <;> rfl
theorem sV_app {P : Program} {Y : St} {K : AV → St → Prop} {τ : Nat} {pre : List (List UInt8)} {w : List UInt8} {h : Hold (sT Y τ pre, K)} (hl : pre.length ≤ 1000000) (hY : pre ≠ [] → Y.tip τ = none)
    (hK : ∀ τ', Y.tip τ' = none → K (sV τ' (pre ++ [w])) (sT Y τ' (pre ++ [w]))) : appV true 9 1 16 (sV τ pre) (.sl true 1 [.str w]) (sT Y τ pre) K h := by
  cases pre with
  | nil =>
    refine appV_tip (n := 0) (cs := []) rfl trivial rfl rfl rfl ?_ ?_ (fun τ' hτ' => ?_)
    · unfold maxLen; decide
    · decide
    · exact hK τ' hτ'
  | cons x p =>
    simp only [List.length_cons] at hl
    refine appV_tslK rfl ?_ ?_ rfl ?_ ?_ ?_
    · simp [sT, St.setTip, upd]
    · simp
    · unfold maxLen; simp; omega
    · simp; omega
    · have := hK τ (hY (by simp))
      have e1 : (x :: p).map AV.str ++ [AV.str w] = ((x :: p) ++ [w]).map AV.str := by simp
      have e2 : sT (sT Y τ (x :: p)) τ ((x :: p) ++ [w]) = sT Y τ ((x :: p) ++ [w]) := St.setTip_setTip _ _ _ _
      have e3 : (x :: p).length + 1 = ((x :: p) ++ [w]).length := by simp
      rw [e1, e3]
      rw [← e2] at this
      exact this
theorem cRI_get (l : List RI) {k : Nat} (h : k < l.length) : ((l.flatMap cRI).drop (k * 2)).take 2 = cRI l[k] := by
  have := flat_get (f := cRI) (s := 2) (fun _ => rfl) l k h
  exact this
theorem cWI_get (l : List WI) {k : Nat} (h : k < l.length) : ((l.flatMap cWI).drop (k * 3)).take 3 = cWI l[k] := by
  have := flat_get (f := cWI) (s := 3) (fun _ => rfl) l k h
  exact this
theorem textG_missing {out : List UInt8} {l : List RI} {k : Nat} (h : k < l.length) (h0 : l[k].ws.length = 0) : textG out (l.drop k) = .error 7 := by
  rw [List.drop_eq_getElem_cons h]; simp only [textG, h0, if_true]
theorem textG_form {out : List UInt8} {l : List RI} {k : Nat} (h : k < l.length) (h0 : ¬ l[k].ws.length = 0) (hw : wordsT l[k].ws = none) : textG out (l.drop k) = .error 3 := by
  rw [List.drop_eq_getElem_cons h]; simp only [textG, if_neg h0, hw]
theorem textG_step {out : List UInt8} {l : List RI} {k : Nat} {ws : List (List UInt8)} (h : k < l.length) (h0 : ¬ l[k].ws.length = 0) (hw : wordsT l[k].ws = some ws) :
    textG out (l.drop k) = if 1000 < (Lib.join ws [32]).length ∨ 20000 < (out ++ (Lib.join ws [32] ++ [10])).length then .error 4 else textG (out ++ (Lib.join ws [32] ++ [10])) (l.drop (k + 1)) := by
  rw [List.drop_eq_getElem_cons h]; simp only [textG, if_neg h0, hw]
set_option maxHeartbeats 4000000 in
theorem p12 (l : List RI) (hl : LightR l) : Pu Tryd.prog 12 [.sl false l.length (l.flatMap cRI)] (textV (textS l)) := by
  have q1 : True := trivial
  have q2 : True := trivial
  have q3 : True := trivial
  have q4 : True := trivial
  have q5 : True := trivial
  have hw : True := trivial
  have hd : True := trivial
  have hd2 : True := trivial
  obtain ⟨hl1, hl2⟩ := hl
  (refine Pu_intro c12 b12 (Nat.le_of_ble_eq_true rfl) fun σ => ?_; simp only [c12, ↓R1, R2, R3, R4, R5, Nat.reduceEqDiff, Nat.reduceAdd, Nat.reduceMul, Nat.reduceSub, Nat.reduceLeDiff, Nat.reduceLT, reduceIte, reduceCtorEq, Int.reduceBNe, Int.reduceBEq, q1, q2, q3, q4, q5, hw, hd, hd2])
  refine allocTV_i (fun γ hγ hγt => ?_)
  have hγt : σ.bt γ = none := hγt
  simp only [↓R1, R2, R3, R4, R5, Nat.reduceEqDiff, Nat.reduceAdd, Nat.reduceMul, Nat.reduceSub, Nat.reduceLeDiff, Nat.reduceLT, reduceIte, reduceCtorEq, Int.reduceBNe, Int.reduceBEq, q1, q2, q3, q4, q5, hw, hd, hd2]
  obtain ⟨X, hX⟩ : ∃ X, X = σ.setBt γ 63 := ⟨_, rfl⟩
  have hXt : X.tip = σ.tip := by rw [hX]; rfl
  have hXb : X.bt γ = some 63 := by rw [hX]; exact St.bt_same _ _ _
  have hXl : ∀ c, St.le σ (X.setBox γ c) := fun c => by
    rw [hX]; exact St.le_setBox (St.le_newBt (St.le_refl _) hγt) hγ
  have hle : ∀ τ out, (out ≠ [] → σ.tip τ = none) → St.le σ (bS X γ τ out) := fun τ out h => by
    rw [hX]; exact bS_le (St.le_newBt (St.le_refl _) hγt) hγ h
  refine loopV_st (α := Nat × Nat × List UInt8) (fun z => [(4, .ptr γ 0), (13, .sl false l.length (l.flatMap cRI)), (14, .int .i64 (l.length : Nat)), (15, .int .i64 (z.1 : Nat))]) (fun z => bS X γ z.2.1 z.2.2)
    (fun z => z.1 ≤ l.length ∧ (z.2.2 ≠ [] → σ.tip z.2.1 = none) ∧ z.2.2.length ≤ 20000 ∧ textS l = textG z.2.2 (l.drop z.1)) (fun z => l.length - z.1) (0, 0, []) (by simp [subF, slot, wk_refl]) (by rw [hX]; exact St.le_refl _) ⟨Nat.zero_le _, (fun h => absurd rfl h), Nat.zero_le _, rfl⟩ ?_
  rintro ⟨k, τ, out⟩ ⟨hk, hτ, hlen, hI⟩
  simp only at hk hτ hlen hI
  by_cases hlt : k < l.length
  · have q1 : decide ((k : Int) < (l.length : Int)) = true := by rw [decide_eq_true_eq]; omega
    have hd := cRI_get l hlt
    have hd2 := cRI_len l
    have hw : IntKind.i64.wrap ((k : Int) + 1) = ((k + 1 : Nat) : Int) := by rw [wrap64 (by omega) (by omega)]; omega
    obtain ⟨hwn, hwt⟩ := hl2 l[k] (List.getElem_mem hlt)
    simp only [cRI] at hd
    have hτX : out ≠ [] → X.tip τ = none := by rw [hXt]; exact hτ
    by_cases h0 : l[k].ws.length = 0
    · have q2 : ((l[k].ws.length : Int) == 0) = true := by rw [h0]; rfl
      rw [textG_missing hlt h0] at hI
      rw [hI]
      simp only [q1, ↓R1, R2, R3, R4, R5, Nat.reduceEqDiff, Nat.reduceAdd, Nat.reduceMul, Nat.reduceSub, Nat.reduceLeDiff, Nat.reduceLT, reduceIte, reduceCtorEq, Int.reduceBNe, Int.reduceBEq, q1, q2, q3, q4, q5, hw, hd, hd2]
      repeat' (first | (with_reducible rw [allocV_eq]) | (refine gdV_split (fun hc => ?_) (fun hc => ?_) <;> (try simp only [hc, ↓R1, R2, R3, R4, R5, Nat.reduceEqDiff, Nat.reduceAdd, Nat.reduceMul, Nat.reduceSub, Nat.reduceLeDiff, Nat.reduceLT, reduceIte, reduceCtorEq, Int.reduceBNe, Int.reduceBEq, q1, q2, q3, q4, q5, hw, hd, hd2])) | ((first | refine condV_split (fun hc => ?_) (fun hc => ?_) | (with_reducible intro β hβ; (try simp only [St.box_noneA, St.tip_noneA, St.tip_set, St.box_tip, St.box_lp, St.tip_lp] at hβ); (repeat (obtain ⟨⟨_, _⟩, hβ⟩ := hβ)); (try (have hbis := apart_is (by assumption) hβ; obtain ⟨_, _⟩ := hbis)))) <;> (try simp only [↓R1, R2, R3, R4, R5, Nat.reduceEqDiff, Nat.reduceAdd, Nat.reduceMul, Nat.reduceSub, Nat.reduceLeDiff, Nat.reduceLT, reduceIte, reduceCtorEq, Int.reduceBNe, Int.reduceBEq, q1, q2, q3, q4, q5, hw, hd, hd2])) | (with_reducible refine And.intro ?_ ?_; (focus (first | omega | (intros; (repeat' (with_reducible apply And.intro)) <;> first | omega | (simp only [List.length_map]; omega))))) | (with_reducible apply And.intro))
      all_goals first | (rw [hd2]; omega) | skip
      refine endP_pu (by simp) (by first | (simp [rvsS, rvS]; done) | (simp only [rvsS, rvS, ↓R1, R2, R3, R4, R5, Nat.reduceEqDiff, Nat.reduceAdd, Nat.reduceMul, Nat.reduceSub, Nat.reduceLeDiff, Nat.reduceLT, reduceIte, reduceCtorEq, Int.reduceBNe, Int.reduceBEq, q1, q2, q3, q4, q5, hw, hd, hd2]; try simp)) (wk_of_eq ?_) (St.le_setBox (hle τ out hτ) (by rw [bS_none] at hβ; rw [hX] at hβ; exact hβ.2))
      (simp only [resAV, rvV, List.map_cons, List.map_nil, ↓R1, R2, R3, R4, R5, Nat.reduceEqDiff, Nat.reduceAdd, Nat.reduceMul, Nat.reduceSub, Nat.reduceLeDiff, Nat.reduceLT, reduceIte, reduceCtorEq, Int.reduceBNe, Int.reduceBEq, q1, q2, q3, q4, q5, hw, hd, hd2])
      rfl
    · have q2 : ((l[k].ws.length : Int) == 0) = false := by
        rw [← Bool.not_eq_true, beq_iff_eq]; omega
      simp only [q1, ↓R1, R2, R3, R4, R5, Nat.reduceEqDiff, Nat.reduceAdd, Nat.reduceMul, Nat.reduceSub, Nat.reduceLeDiff, Nat.reduceLT, reduceIte, reduceCtorEq, Int.reduceBNe, Int.reduceBEq, q1, q2, q3, q4, q5, hw, hd, hd2]
      repeat' (first | (with_reducible rw [allocV_eq]) | (refine gdV_split (fun hc => ?_) (fun hc => ?_) <;> (try simp only [hc, ↓R1, R2, R3, R4, R5, Nat.reduceEqDiff, Nat.reduceAdd, Nat.reduceMul, Nat.reduceSub, Nat.reduceLeDiff, Nat.reduceLT, reduceIte, reduceCtorEq, Int.reduceBNe, Int.reduceBEq, q1, q2, q3, q4, q5, hw, hd, hd2])) | ((first | refine condV_split (fun hc => ?_) (fun hc => ?_) | (with_reducible intro β hβ; (try simp only [St.box_noneA, St.tip_noneA, St.tip_set, St.box_tip, St.box_lp, St.tip_lp] at hβ); (repeat (obtain ⟨⟨_, _⟩, hβ⟩ := hβ)); (try (have hbis := apart_is (by assumption) hβ; obtain ⟨_, _⟩ := hbis)))) <;> (try simp only [↓R1, R2, R3, R4, R5, Nat.reduceEqDiff, Nat.reduceAdd, Nat.reduceMul, Nat.reduceSub, Nat.reduceLeDiff, Nat.reduceLT, reduceIte, reduceCtorEq, Int.reduceBNe, Int.reduceBEq, q1, q2, q3, q4, q5, hw, hd, hd2])) | (with_reducible refine And.intro ?_ ?_; (focus (first | omega | (intros; (repeat' (with_reducible apply And.intro)) <;> first | omega | (simp only [List.length_map]; omega))))) | (with_reducible apply And.intro))
      all_goals first | (rw [hd2]; omega) | skip
      obtain ⟨ws, hws⟩ : ∃ ws, l[k].ws = ws := ⟨_, rfl⟩
      rw [hws] at hwn hwt h0 ⊢
      have hd : True := trivial
      have hd2 : True := trivial
      refine loopV_st (α := Nat × Nat × List (List UInt8)) (fun z => [(4, .ptr γ 0), (7, sV z.2.1 z.2.2), (13, .sl false l.length (l.flatMap cRI)), (14, .int .i64 (l.length : Nat)), (15, .int .i64 (k : Nat)), (24, .sl false ws.length (ws.flatMap cWI)), (25, .int .i64 (ws.length : Nat)), (26, .int .i64 (z.1 : Nat))])
        (fun z => sT (bS X γ τ out) z.2.1 z.2.2) (fun z => z.1 ≤ ws.length ∧ (z.2.2 ≠ [] → (bS X γ τ out).tip z.2.1 = none) ∧ wordsT (ws.take z.1) = some z.2.2 ∧ z.2.2.length = z.1) (fun z => ws.length - z.1) (0, 0, [])
        (by simp [subF, slot, wk_refl, sV]) (St.le_setBox (St.le_setBox (St.le_refl _) hβ) hβ) ⟨Nat.zero_le _, (fun h => absurd rfl h), rfl, rfl⟩ ?_
      rintro ⟨i, τ1, acc⟩ ⟨hi, hτ1, hacc, hal⟩
      simp only at hi hτ1 hacc hal
      by_cases hin : i < ws.length
      · have q3 : decide ((i : Int) < (ws.length : Int)) = true := by rw [decide_eq_true_eq]; omega
        have hd := cWI_get ws hin
        have hd2 := cWI_len ws
        have hw : IntKind.i64.wrap ((i : Int) + 1) = ((i + 1 : Nat) : Int) := by rw [wrap64 (by omega) (by omega)]; omega
        have hp := p15 ws[i].q ws[i].t ws[i].a (by have := hwt ws[i] (List.getElem_mem hin); omega)
        simp only [cWI] at hd
        simp only [q3, ↓R1, R2, R3, R4, R5, Nat.reduceEqDiff, Nat.reduceAdd, Nat.reduceMul, Nat.reduceSub, Nat.reduceLeDiff, Nat.reduceLT, reduceIte, reduceCtorEq, Int.reduceBNe, Int.reduceBEq, q1, q2, q3, q4, q5, hw, hd, hd2]
        cases hwd : wordT ws[i].q ws[i].t with
        | none =>
          rw [hwd] at hp
          have hbad := wordsT_bad ws i hin hwd
          rw [textG_form hlt (by rw [hws]; exact h0) (by rw [hws]; exact hbad)] at hI
          rw [hI]
          simp only [wordV] at hp
          repeat' (first | (with_reducible rw [allocV_eq]) | (refine gdV_split (fun hc => ?_) (fun hc => ?_) <;> (try simp only [hc, ↓R1, R2, R3, R4, R5, Nat.reduceEqDiff, Nat.reduceAdd, Nat.reduceMul, Nat.reduceSub, Nat.reduceLeDiff, Nat.reduceLT, reduceIte, reduceCtorEq, Int.reduceBNe, Int.reduceBEq, q1, q2, q3, q4, q5, hw, hd, hd2])) | ((first | refine condV_split (fun hc => ?_) (fun hc => ?_) | (with_reducible intro β hβ; (try simp only [St.box_noneA, St.tip_noneA, St.tip_set, St.box_tip, St.box_lp, St.tip_lp] at hβ); (repeat (obtain ⟨⟨_, _⟩, hβ⟩ := hβ)); (try (have hbis := apart_is (by assumption) hβ; obtain ⟨_, _⟩ := hbis)))) <;> (try simp only [↓R1, R2, R3, R4, R5, Nat.reduceEqDiff, Nat.reduceAdd, Nat.reduceMul, Nat.reduceSub, Nat.reduceLeDiff, Nat.reduceLT, reduceIte, reduceCtorEq, Int.reduceBNe, Int.reduceBEq, q1, q2, q3, q4, q5, hw, hd, hd2])) | (with_reducible refine And.intro ?_ ?_; (focus (first | omega | (intros; (repeat' (with_reducible apply And.intro)) <;> first | omega | (simp only [List.length_map]; omega))))) | (with_reducible apply And.intro) | ((first | refine Pu.to (hp) (wkL_refl _) ?_ | refine callDV_pu (hp) (wkL_refl _) ?_); (try simp only [↓R1, R2, R3, R4, R5, Nat.reduceEqDiff, Nat.reduceAdd, Nat.reduceMul, Nat.reduceSub, Nat.reduceLeDiff, Nat.reduceLT, reduceIte, reduceCtorEq, Int.reduceBNe, Int.reduceBEq, q1, q2, q3, q4, q5, hw, hd, hd2])))
          all_goals first | (rw [hd2]; omega) | skip
          rw [sT_box, bS_none, hX] at hβ
          refine endP_pu (by simp) (by first | (simp [rvsS, rvS]; done) | (simp only [rvsS, rvS, ↓R1, R2, R3, R4, R5, Nat.reduceEqDiff, Nat.reduceAdd, Nat.reduceMul, Nat.reduceSub, Nat.reduceLeDiff, Nat.reduceLT, reduceIte, reduceCtorEq, Int.reduceBNe, Int.reduceBEq, q1, q2, q3, q4, q5, hw, hd, hd2]; try simp)) (wk_of_eq ?_) (St.le_setBox (sT_le (hle τ out hτ) (fun h => by have := bS_tip_none (hτ1 h); rwa [hXt] at this)) hβ.2)
          (simp only [resAV, rvV, List.map_cons, List.map_nil, ↓R1, R2, R3, R4, R5, Nat.reduceEqDiff, Nat.reduceAdd, Nat.reduceMul, Nat.reduceSub, Nat.reduceLeDiff, Nat.reduceLT, reduceIte, reduceCtorEq, Int.reduceBNe, Int.reduceBEq, q1, q2, q3, q4, q5, hw, hd, hd2])
          rfl
        | some x =>
          rw [hwd] at hp
          have hnx := wordsT_take hin hacc hwd
          simp only [wordV] at hp
          repeat' (first | (with_reducible rw [allocV_eq]) | (refine gdV_split (fun hc => ?_) (fun hc => ?_) <;> (try simp only [hc, ↓R1, R2, R3, R4, R5, Nat.reduceEqDiff, Nat.reduceAdd, Nat.reduceMul, Nat.reduceSub, Nat.reduceLeDiff, Nat.reduceLT, reduceIte, reduceCtorEq, Int.reduceBNe, Int.reduceBEq, q1, q2, q3, q4, q5, hw, hd, hd2])) | ((first | refine condV_split (fun hc => ?_) (fun hc => ?_) | (with_reducible intro β hβ; (try simp only [St.box_noneA, St.tip_noneA, St.tip_set, St.box_tip, St.box_lp, St.tip_lp] at hβ); (repeat (obtain ⟨⟨_, _⟩, hβ⟩ := hβ)); (try (have hbis := apart_is (by assumption) hβ; obtain ⟨_, _⟩ := hbis)))) <;> (try simp only [↓R1, R2, R3, R4, R5, Nat.reduceEqDiff, Nat.reduceAdd, Nat.reduceMul, Nat.reduceSub, Nat.reduceLeDiff, Nat.reduceLT, reduceIte, reduceCtorEq, Int.reduceBNe, Int.reduceBEq, q1, q2, q3, q4, q5, hw, hd, hd2])) | (with_reducible refine And.intro ?_ ?_; (focus (first | omega | (intros; (repeat' (with_reducible apply And.intro)) <;> first | omega | (simp only [List.length_map]; omega))))) | (with_reducible apply And.intro) | ((first | refine Pu.to (hp) (wkL_refl _) ?_ | refine callDV_pu (hp) (wkL_refl _) ?_); (try simp only [↓R1, R2, R3, R4, R5, Nat.reduceEqDiff, Nat.reduceAdd, Nat.reduceMul, Nat.reduceSub, Nat.reduceLeDiff, Nat.reduceLT, reduceIte, reduceCtorEq, Int.reduceBNe, Int.reduceBEq, q1, q2, q3, q4, q5, hw, hd, hd2])))
          all_goals first | (rw [hd2]; omega) | skip
          rw [sT_box] at hβ
          rw [sT_set, sT_set]
          refine sV_app (P := Tryd.prog) (by omega) hτ1 (fun τ' hτ' => ?_)
          simp only [↓R1, R2, R3, R4, R5, Nat.reduceEqDiff, Nat.reduceAdd, Nat.reduceMul, Nat.reduceSub, Nat.reduceLeDiff, Nat.reduceLT, reduceIte, reduceCtorEq, Int.reduceBNe, Int.reduceBEq, q1, q2, q3, q4, q5, hw, hd, hd2]
          repeat' (first | (with_reducible rw [allocV_eq]) | (refine gdV_split (fun hc => ?_) (fun hc => ?_) <;> (try simp only [hc, ↓R1, R2, R3, R4, R5, Nat.reduceEqDiff, Nat.reduceAdd, Nat.reduceMul, Nat.reduceSub, Nat.reduceLeDiff, Nat.reduceLT, reduceIte, reduceCtorEq, Int.reduceBNe, Int.reduceBEq, q1, q2, q3, q4, q5, hw, hd, hd2])) | ((first | refine condV_split (fun hc => ?_) (fun hc => ?_) | (with_reducible intro β hβ; (try simp only [St.box_noneA, St.tip_noneA, St.tip_set, St.box_tip, St.box_lp, St.tip_lp] at hβ); (repeat (obtain ⟨⟨_, _⟩, hβ⟩ := hβ)); (try (have hbis := apart_is (by assumption) hβ; obtain ⟨_, _⟩ := hbis)))) <;> (try simp only [↓R1, R2, R3, R4, R5, Nat.reduceEqDiff, Nat.reduceAdd, Nat.reduceMul, Nat.reduceSub, Nat.reduceLeDiff, Nat.reduceLT, reduceIte, reduceCtorEq, Int.reduceBNe, Int.reduceBEq, q1, q2, q3, q4, q5, hw, hd, hd2])) | (with_reducible refine And.intro ?_ ?_; (focus (first | omega | (intros; (repeat' (with_reducible apply And.intro)) <;> first | omega | (simp only [List.length_map]; omega))))) | (with_reducible apply And.intro))
          refine ⟨(i + 1, τ', acc ++ [x]), ⟨hin, fun _ => hτ', hnx, by simp [hal]⟩, by simp [subF, slot, wk_refl], sT_le2 (St.le_setBox (St.le_refl _) hβ) _ _, by simp only; omega⟩
      · have hie : i = ws.length := by omega
        subst hie
        have q3 : decide ((ws.length : Int) < (ws.length : Int)) = false := by simp
        rw [List.take_length] at hacc
        obtain ⟨ha1, ha2⟩ := wordsT_len ws hacc
        have hjl := join_bnd 80002 acc (fun x hx => by have := ha2 20000 hwt x hx; omega)
        have hjl2 : (Lib.join acc [32]).length ≤ 80003000 := by
          have : 80003 * acc.length ≤ 80003 * 1000 := Nat.mul_le_mul_left _ (by omega)
          omega
        rw [textG_step hlt (by rw [hws]; exact h0) (by rw [hws]; exact hacc)] at hI
        have hj := joins (sV τ1 acc) acc [32] (sT (bS X γ τ out) τ1 acc) (sV_slv τ1 acc) (by omega) (by omega)
        obtain ⟨line, hline⟩ : ∃ line, Lib.join acc [32] = line := ⟨_, rfl⟩
        rw [hline] at hj hI hjl2
        have hwr := (a_WriteString γ (line ++ [10]) (by simp) X τ out hτX hXb (by simp; omega)).le (sT_le (St.le_refl _) hτ1)
        simp only [q3, ↓R1, R2, R3, R4, R5, Nat.reduceEqDiff, Nat.reduceAdd, Nat.reduceMul, Nat.reduceSub, Nat.reduceLeDiff, Nat.reduceLT, reduceIte, reduceCtorEq, Int.reduceBNe, Int.reduceBEq, q1, q2, q3, q4, q5, hw, hd, hd2]
        repeat' (first | (with_reducible rw [allocV_eq]) | (refine gdV_split (fun hc => ?_) (fun hc => ?_) <;> (try simp only [hc, ↓R1, R2, R3, R4, R5, Nat.reduceEqDiff, Nat.reduceAdd, Nat.reduceMul, Nat.reduceSub, Nat.reduceLeDiff, Nat.reduceLT, reduceIte, reduceCtorEq, Int.reduceBNe, Int.reduceBEq, q1, q2, q3, q4, q5, hw, hd, hd2])) | ((first | refine condV_split (fun hc => ?_) (fun hc => ?_) | (with_reducible intro β hβ; (try simp only [St.box_noneA, St.tip_noneA, St.tip_set, St.box_tip, St.box_lp, St.tip_lp] at hβ); (repeat (obtain ⟨⟨_, _⟩, hβ⟩ := hβ)); (try (have hbis := apart_is (by assumption) hβ; obtain ⟨_, _⟩ := hbis)))) <;> (try simp only [↓R1, R2, R3, R4, R5, Nat.reduceEqDiff, Nat.reduceAdd, Nat.reduceMul, Nat.reduceSub, Nat.reduceLeDiff, Nat.reduceLT, reduceIte, reduceCtorEq, Int.reduceBNe, Int.reduceBEq, q1, q2, q3, q4, q5, hw, hd, hd2])) | (with_reducible refine And.intro ?_ ?_; (focus (first | omega | (intros; (repeat' (with_reducible apply And.intro)) <;> first | omega | (simp only [List.length_map]; omega))))) | (with_reducible apply And.intro) | ((first | (refine AC.mono (AC.wk (hj) (wkL_refl _)) ?_; (rintro _ _ ⟨rfl, rfl⟩))); (try simp only [↓R1, R2, R3, R4, R5, Nat.reduceEqDiff, Nat.reduceAdd, Nat.reduceMul, Nat.reduceSub, Nat.reduceLeDiff, Nat.reduceLT, reduceIte, reduceCtorEq, Int.reduceBNe, Int.reduceBEq, q1, q2, q3, q4, q5, hw, hd, hd2])))
        all_goals first | omega | (simp only [List.length_append, List.length_cons, List.length_nil]; omega) | skip
        refine (AC.wk hwr (wkL_refl _)).mono ?_
        rintro _ _ ⟨rfl, τ', hτ', _, rfl⟩
        have hln := a_Len X γ τ' (out ++ (line ++ [10]))
        have hτ'σ : σ.tip τ' = none := by rw [← hXt]; exact hτ'
        simp only [↓R1, R2, R3, R4, R5, Nat.reduceEqDiff, Nat.reduceAdd, Nat.reduceMul, Nat.reduceSub, Nat.reduceLeDiff, Nat.reduceLT, reduceIte, reduceCtorEq, Int.reduceBNe, Int.reduceBEq, q1, q2, q3, q4, q5, hw, hd, hd2]
        by_cases hL : 1000 < line.length
        · have q4 : decide ((1000 : Int) < (line.length : Int)) = true := by rw [decide_eq_true_eq]; omega
          rw [if_pos (.inl hL)] at hI
          rw [hI]
          simp only [q4, ↓R1, R2, R3, R4, R5, Nat.reduceEqDiff, Nat.reduceAdd, Nat.reduceMul, Nat.reduceSub, Nat.reduceLeDiff, Nat.reduceLT, reduceIte, reduceCtorEq, Int.reduceBNe, Int.reduceBEq, q1, q2, q3, q4, q5, hw, hd, hd2]
          repeat' (first | (with_reducible rw [allocV_eq]) | (refine gdV_split (fun hc => ?_) (fun hc => ?_) <;> (try simp only [hc, ↓R1, R2, R3, R4, R5, Nat.reduceEqDiff, Nat.reduceAdd, Nat.reduceMul, Nat.reduceSub, Nat.reduceLeDiff, Nat.reduceLT, reduceIte, reduceCtorEq, Int.reduceBNe, Int.reduceBEq, q1, q2, q3, q4, q5, hw, hd, hd2])) | ((first | refine condV_split (fun hc => ?_) (fun hc => ?_) | (with_reducible intro β hβ; (try simp only [St.box_noneA, St.tip_noneA, St.tip_set, St.box_tip, St.box_lp, St.tip_lp] at hβ); (repeat (obtain ⟨⟨_, _⟩, hβ⟩ := hβ)); (try (have hbis := apart_is (by assumption) hβ; obtain ⟨_, _⟩ := hbis)))) <;> (try simp only [↓R1, R2, R3, R4, R5, Nat.reduceEqDiff, Nat.reduceAdd, Nat.reduceMul, Nat.reduceSub, Nat.reduceLeDiff, Nat.reduceLT, reduceIte, reduceCtorEq, Int.reduceBNe, Int.reduceBEq, q1, q2, q3, q4, q5, hw, hd, hd2])) | (with_reducible refine And.intro ?_ ?_; (focus (first | omega | (intros; (repeat' (with_reducible apply And.intro)) <;> first | omega | (simp only [List.length_map]; omega))))) | (with_reducible apply And.intro))
          all_goals (try (first | omega | (rename_i hno; cases hno; done)))
          refine endP_pu (by simp) (by first | (simp [rvsS, rvS]; done) | (simp only [rvsS, rvS, ↓R1, R2, R3, R4, R5, Nat.reduceEqDiff, Nat.reduceAdd, Nat.reduceMul, Nat.reduceSub, Nat.reduceLeDiff, Nat.reduceLT, reduceIte, reduceCtorEq, Int.reduceBNe, Int.reduceBEq, q1, q2, q3, q4, q5, hw, hd, hd2]; try simp)) (wk_of_eq ?_) (hle τ' _ (fun _ => hτ'σ))
          (simp only [resAV, rvV, List.map_cons, List.map_nil, ↓R1, R2, R3, R4, R5, Nat.reduceEqDiff, Nat.reduceAdd, Nat.reduceMul, Nat.reduceSub, Nat.reduceLeDiff, Nat.reduceLT, reduceIte, reduceCtorEq, Int.reduceBNe, Int.reduceBEq, q1, q2, q3, q4, q5, hw, hd, hd2])
          rfl
        · have q4 : decide ((1000 : Int) < (line.length : Int)) = false := by rw [decide_eq_false_iff_not]; omega
          by_cases hO : 20000 < (out ++ (line ++ [10])).length
          · have q5 : decide ((20000 : Int) < ((out ++ (line ++ [10])).length : Int)) = true := by rw [decide_eq_true_eq]; omega
            rw [if_pos (.inr hO)] at hI
            rw [hI]
            simp only [q4, ↓R1, R2, R3, R4, R5, Nat.reduceEqDiff, Nat.reduceAdd, Nat.reduceMul, Nat.reduceSub, Nat.reduceLeDiff, Nat.reduceLT, reduceIte, reduceCtorEq, Int.reduceBNe, Int.reduceBEq, q1, q2, q3, q4, q5, hw, hd, hd2]
            repeat' (first | (with_reducible rw [allocV_eq]) | (refine gdV_split (fun hc => ?_) (fun hc => ?_) <;> (try simp only [hc, ↓R1, R2, R3, R4, R5, Nat.reduceEqDiff, Nat.reduceAdd, Nat.reduceMul, Nat.reduceSub, Nat.reduceLeDiff, Nat.reduceLT, reduceIte, reduceCtorEq, Int.reduceBNe, Int.reduceBEq, q1, q2, q3, q4, q5, hw, hd, hd2])) | ((first | refine condV_split (fun hc => ?_) (fun hc => ?_) | (with_reducible intro β hβ; (try simp only [St.box_noneA, St.tip_noneA, St.tip_set, St.box_tip, St.box_lp, St.tip_lp] at hβ); (repeat (obtain ⟨⟨_, _⟩, hβ⟩ := hβ)); (try (have hbis := apart_is (by assumption) hβ; obtain ⟨_, _⟩ := hbis)))) <;> (try simp only [↓R1, R2, R3, R4, R5, Nat.reduceEqDiff, Nat.reduceAdd, Nat.reduceMul, Nat.reduceSub, Nat.reduceLeDiff, Nat.reduceLT, reduceIte, reduceCtorEq, Int.reduceBNe, Int.reduceBEq, q1, q2, q3, q4, q5, hw, hd, hd2])) | (with_reducible refine And.intro ?_ ?_; (focus (first | omega | (intros; (repeat' (with_reducible apply And.intro)) <;> first | omega | (simp only [List.length_map]; omega))))) | (with_reducible apply And.intro) | ((first | (refine AC.mono (AC.wk (hln) (wkL_refl _)) ?_; (rintro _ _ ⟨rfl, rfl⟩))); (try simp only [↓R1, R2, R3, R4, R5, Nat.reduceEqDiff, Nat.reduceAdd, Nat.reduceMul, Nat.reduceSub, Nat.reduceLeDiff, Nat.reduceLT, reduceIte, reduceCtorEq, Int.reduceBNe, Int.reduceBEq, q1, q2, q3, q4, q5, hw, hd, hd2])))
            refine endP_pu (by simp) (by first | (simp [rvsS, rvS]; done) | (simp only [rvsS, rvS, ↓R1, R2, R3, R4, R5, Nat.reduceEqDiff, Nat.reduceAdd, Nat.reduceMul, Nat.reduceSub, Nat.reduceLeDiff, Nat.reduceLT, reduceIte, reduceCtorEq, Int.reduceBNe, Int.reduceBEq, q1, q2, q3, q4, q5, hw, hd, hd2]; try simp)) (wk_of_eq ?_) (hle τ' _ (fun _ => hτ'σ))
            (simp only [resAV, rvV, List.map_cons, List.map_nil, ↓R1, R2, R3, R4, R5, Nat.reduceEqDiff, Nat.reduceAdd, Nat.reduceMul, Nat.reduceSub, Nat.reduceLeDiff, Nat.reduceLT, reduceIte, reduceCtorEq, Int.reduceBNe, Int.reduceBEq, q1, q2, q3, q4, q5, hw, hd, hd2])
            rfl
          · have q5 : decide ((20000 : Int) < ((out ++ (line ++ [10])).length : Int)) = false := by rw [decide_eq_false_iff_not]; omega
            rw [if_neg (by omega)] at hI
            simp only [q4, ↓R1, R2, R3, R4, R5, Nat.reduceEqDiff, Nat.reduceAdd, Nat.reduceMul, Nat.reduceSub, Nat.reduceLeDiff, Nat.reduceLT, reduceIte, reduceCtorEq, Int.reduceBNe, Int.reduceBEq, q1, q2, q3, q4, q5, hw, hd, hd2]
            repeat' (first | (with_reducible rw [allocV_eq]) | (refine gdV_split (fun hc => ?_) (fun hc => ?_) <;> (try simp only [hc, ↓R1, R2, R3, R4, R5, Nat.reduceEqDiff, Nat.reduceAdd, Nat.reduceMul, Nat.reduceSub, Nat.reduceLeDiff, Nat.reduceLT, reduceIte, reduceCtorEq, Int.reduceBNe, Int.reduceBEq, q1, q2, q3, q4, q5, hw, hd, hd2])) | ((first | refine condV_split (fun hc => ?_) (fun hc => ?_) | (with_reducible intro β hβ; (try simp only [St.box_noneA, St.tip_noneA, St.tip_set, St.box_tip, St.box_lp, St.tip_lp] at hβ); (repeat (obtain ⟨⟨_, _⟩, hβ⟩ := hβ)); (try (have hbis := apart_is (by assumption) hβ; obtain ⟨_, _⟩ := hbis)))) <;> (try simp only [↓R1, R2, R3, R4, R5, Nat.reduceEqDiff, Nat.reduceAdd, Nat.reduceMul, Nat.reduceSub, Nat.reduceLeDiff, Nat.reduceLT, reduceIte, reduceCtorEq, Int.reduceBNe, Int.reduceBEq, q1, q2, q3, q4, q5, hw, hd, hd2])) | (with_reducible refine And.intro ?_ ?_; (focus (first | omega | (intros; (repeat' (with_reducible apply And.intro)) <;> first | omega | (simp only [List.length_map]; omega))))) | (with_reducible apply And.intro) | ((first | (refine AC.mono (AC.wk (hln) (wkL_refl _)) ?_; (rintro _ _ ⟨rfl, rfl⟩))); (try simp only [↓R1, R2, R3, R4, R5, Nat.reduceEqDiff, Nat.reduceAdd, Nat.reduceMul, Nat.reduceSub, Nat.reduceLeDiff, Nat.reduceLT, reduceIte, reduceCtorEq, Int.reduceBNe, Int.reduceBEq, q1, q2, q3, q4, q5, hw, hd, hd2])))
            exact ⟨(k + 1, τ', out ++ (line ++ [10])), ⟨hlt, fun _ => hτ'σ, by simp only; omega, hI⟩, by simp [subF, slot, wk_refl], St.le_refl _, by simp only; omega⟩
  · have hke : k = l.length := by omega
    subst hke
    have q1 : decide ((l.length : Int) < (l.length : Int)) = false := by simp
    rw [List.drop_length] at hI
    have ws := a_String (β := γ) (τ := τ) (l := out) (σ := X) (by rw [hXt]; exact hτ) hXb
    simp only [q1, ↓R1, R2, R3, R4, R5, Nat.reduceEqDiff, Nat.reduceAdd, Nat.reduceMul, Nat.reduceSub, Nat.reduceLeDiff, Nat.reduceLT, reduceIte, reduceCtorEq, Int.reduceBNe, Int.reduceBEq, q1, q2, q3, q4, q5, hw, hd, hd2]
    repeat' (first | (with_reducible rw [allocV_eq]) | (refine gdV_split (fun hc => ?_) (fun hc => ?_) <;> (try simp only [hc, ↓R1, R2, R3, R4, R5, Nat.reduceEqDiff, Nat.reduceAdd, Nat.reduceMul, Nat.reduceSub, Nat.reduceLeDiff, Nat.reduceLT, reduceIte, reduceCtorEq, Int.reduceBNe, Int.reduceBEq, q1, q2, q3, q4, q5, hw, hd, hd2])) | ((first | refine condV_split (fun hc => ?_) (fun hc => ?_) | (with_reducible intro β hβ; (try simp only [St.box_noneA, St.tip_noneA, St.tip_set, St.box_tip, St.box_lp, St.tip_lp] at hβ); (repeat (obtain ⟨⟨_, _⟩, hβ⟩ := hβ)); (try (have hbis := apart_is (by assumption) hβ; obtain ⟨_, _⟩ := hbis)))) <;> (try simp only [↓R1, R2, R3, R4, R5, Nat.reduceEqDiff, Nat.reduceAdd, Nat.reduceMul, Nat.reduceSub, Nat.reduceLeDiff, Nat.reduceLT, reduceIte, reduceCtorEq, Int.reduceBNe, Int.reduceBEq, q1, q2, q3, q4, q5, hw, hd, hd2])) | (with_reducible refine And.intro ?_ ?_; (focus (first | omega | (intros; (repeat' (with_reducible apply And.intro)) <;> first | omega | (simp only [List.length_map]; omega))))) | (with_reducible apply And.intro) | ((first | (refine AC.mono (AC.wk (ws) (wkL_refl _)) ?_; (rintro _ _ ⟨rfl, rfl⟩))); (try simp only [↓R1, R2, R3, R4, R5, Nat.reduceEqDiff, Nat.reduceAdd, Nat.reduceMul, Nat.reduceSub, Nat.reduceLeDiff, Nat.reduceLT, reduceIte, reduceCtorEq, Int.reduceBNe, Int.reduceBEq, q1, q2, q3, q4, q5, hw, hd, hd2])))
    rw [hI]
    refine endP_pu (by simp) (by first | (simp [rvsS, rvS]; done) | (simp only [rvsS, rvS, ↓R1, R2, R3, R4, R5, Nat.reduceEqDiff, Nat.reduceAdd, Nat.reduceMul, Nat.reduceSub, Nat.reduceLeDiff, Nat.reduceLT, reduceIte, reduceCtorEq, Int.reduceBNe, Int.reduceBEq, q1, q2, q3, q4, q5, hw, hd, hd2]; try simp)) (wk_of_eq ?_) (hXl _)
    (simp only [resAV, rvV, List.map_cons, List.map_nil, ↓R1, R2, R3, R4, R5, Nat.reduceEqDiff, Nat.reduceAdd, Nat.reduceMul, Nat.reduceSub, Nat.reduceLeDiff, Nat.reduceLT, reduceIte, reduceCtorEq, Int.reduceBNe, Int.reduceBEq, q1, q2, q3, q4, q5, hw, hd, hd2])
    rfl
end Go.Proofs.YtemddijemikleaaDoor
namespace Go.Proofs.YtemddijemikleaaDoor
open Go.Abs
set_option linter.all false
set_option maxRecDepth 100000
theorem join_snoc (l : List (List UInt8)) (x : List UInt8) (h : l ≠ []) : Lib.join (l ++ [x]) [32] = Lib.join l [32] ++ [32] ++ x := by
  cases l with
  | nil => exact (h rfl).elim
  | cons y l =>
    rw [List.cons_append, Lib.join_cons, Lib.join_cons]
    simp [Lib.joinTail]
/-- What the reference has of a row: the words so far, or too much. -/
def RowIs (row : List UInt8) (acc : List (List UInt8)) : Prop := row = Lib.join acc [32] ∨ 1000 < row.length ∧ 1000 < (Lib.join acc [32]).length
theorem RowIs.next {row x : List UInt8} {acc : List (List UInt8)} (h : RowIs row acc) (hr : row.length ≤ 1000) : RowIs ((if acc = [] then row else row ++ [32]) ++ x) (acc ++ [x]) := by
  have he : row = Lib.join acc [32] := h.elim id (fun h => by omega)
  left
  split
  · rename_i ha; subst ha; rw [he]; simp [Lib.join_nil, Lib.join_one]
  · rename_i ha; rw [join_snoc acc x ha, he]
theorem RowIs.over {row x y : List UInt8} {acc : List (List UInt8)} (h : RowIs row acc) (hr : 1000 < row.length) : RowIs ((if acc = [] then row else row ++ [32]) ++ y) (acc ++ [x]) := by
  have hj : 1000 < (Lib.join acc [32]).length := h.elim (fun e => by rw [← e]; exact hr) And.right
  have ha : acc ≠ [] := by rintro rfl; simp [Lib.join_nil] at hj
  right
  rw [if_neg ha, join_snoc acc x ha]
  simp only [List.length_append]
  omega
end Go.Proofs.YtemddijemikleaaDoor
namespace Go.Proofs.YtemddijemikleaaDoor
open Go.Abs
set_option linter.all false
set_option maxRecDepth 100000
set_option maxHeartbeats 2000000 in
theorem p14 (l : List RI) (hl : LightR l) : Pu Tryd.prog 14 [.sl false l.length (l.flatMap cRI), .sl false l.length (l.flatMap cRI)] (.bool true) := by
  have q1 : True := trivial
  have q2 : True := trivial
  have q3 : True := trivial
  have q4 : True := trivial
  have q5 : True := trivial
  have q6 : True := trivial
  have hw : True := trivial
  have hw2 : True := trivial
  have hd : True := trivial
  have hd2 : True := trivial
  have hd3 : True := trivial
  have hd4 : True := trivial
  obtain ⟨hl1, hl2⟩ := hl
  (refine Pu_intro c14 b14 (Nat.le_of_ble_eq_true rfl) fun σ => ?_; simp only [c14, ↓R1, R2, R3, R4, R5, Nat.reduceEqDiff, Nat.reduceAdd, Nat.reduceMul, Nat.reduceSub, Nat.reduceLeDiff, Nat.reduceLT, reduceIte, reduceCtorEq, Int.reduceBNe, Int.reduceBEq, q1, q2, q3, q4, q5, q6, hw, hw2, hd, hd2, hd3, hd4, beq_self_eq_true, bne_self_eq_false])
  refine loopV_for l.length (fun k => [(0, .sl false l.length (l.flatMap cRI)), (1, .sl false l.length (l.flatMap cRI)), (5, .int .i64 (k : Nat))]) (fun _ => σ) (fun _ => True) (by simp [subF, slot, wk_refl]) (St.le_refl _) trivial (fun k hk _ => ?_)
  by_cases hlt : k < l.length
  · have q1 : decide ((k : Int) < (l.length : Int)) = true := by rw [decide_eq_true_eq]; omega
    have hd := cRI_get l hlt
    have hd2 := cRI_len l
    have hw : IntKind.i64.wrap ((k : Int) + 1) = ((k + 1 : Nat) : Int) := by rw [wrap64 (by omega) (by omega)]; omega
    obtain ⟨hwn, hwt⟩ := hl2 l[k] (List.getElem_mem hlt)
    have hwl := cWI_len l[k].ws
    simp only [cRI] at hd
    simp only [q1, ↓R1, R2, R3, R4, R5, Nat.reduceEqDiff, Nat.reduceAdd, Nat.reduceMul, Nat.reduceSub, Nat.reduceLeDiff, Nat.reduceLT, reduceIte, reduceCtorEq, Int.reduceBNe, Int.reduceBEq, q1, q2, q3, q4, q5, q6, hw, hw2, hd, hd2, hd3, hd4, beq_self_eq_true, bne_self_eq_false]
    repeat' (first | (with_reducible rw [allocV_eq]) | (refine gdV_split (fun hc => ?_) (fun hc => ?_) <;> (try simp only [hc, ↓R1, R2, R3, R4, R5, Nat.reduceEqDiff, Nat.reduceAdd, Nat.reduceMul, Nat.reduceSub, Nat.reduceLeDiff, Nat.reduceLT, reduceIte, reduceCtorEq, Int.reduceBNe, Int.reduceBEq, q1, q2, q3, q4, q5, q6, hw, hw2, hd, hd2, hd3, hd4, beq_self_eq_true, bne_self_eq_false])) | ((first | refine condV_split (fun hc => ?_) (fun hc => ?_) | (with_reducible intro β hβ; (try simp only [St.box_noneA, St.tip_noneA, St.tip_set, St.box_tip, St.box_lp, St.tip_lp] at hβ); (repeat (obtain ⟨⟨_, _⟩, hβ⟩ := hβ)); (try (have hbis := apart_is (by assumption) hβ; obtain ⟨_, _⟩ := hbis))) | ((first | (refine appD_tslK (.inr rfl) rfl ?_ ?_ ?_ ?_ ?_ ?_; (first | rfl | exact St.tip_same _ _ _ | (simp only [↓R1, R2, R3, R4, R5, Nat.reduceEqDiff, Nat.reduceAdd, Nat.reduceMul, Nat.reduceSub, Nat.reduceLeDiff, Nat.reduceLT, reduceIte, reduceCtorEq, Int.reduceBNe, Int.reduceBEq, q1, q2, q3, q4, q5, q6, hw, hw2, hd, hd2, hd3, hd4, beq_self_eq_true, bne_self_eq_false])); (first | omega | (simp only [cWI_len, cRI_len, List.length_append, List.length_cons, List.length_nil, List.length_nil, List.length_cons]; omega) | (simp only [cWI_len, cRI_len, List.length_append, List.length_cons, List.length_nil, List.length_nil, List.length_cons])); (first | rfl | first | omega | (simp only [cWI_len, cRI_len, List.length_append, List.length_cons, List.length_nil, List.length_nil, List.length_cons]; omega) | (simp only [cWI_len, cRI_len, List.length_append, List.length_cons, List.length_nil, List.length_nil, List.length_cons]))) | (refine appV_tslK rfl ?_ ?_ ?_ ?_ ?_ ?_; (first | rfl | exact St.tip_same _ _ _ | (simp only [↓R1, R2, R3, R4, R5, Nat.reduceEqDiff, Nat.reduceAdd, Nat.reduceMul, Nat.reduceSub, Nat.reduceLeDiff, Nat.reduceLT, reduceIte, reduceCtorEq, Int.reduceBNe, Int.reduceBEq, q1, q2, q3, q4, q5, q6, hw, hw2, hd, hd2, hd3, hd4, beq_self_eq_true, bne_self_eq_false])); (first | omega | (simp only [cWI_len, cRI_len, List.length_append, List.length_cons, List.length_nil, List.length_nil, List.length_cons]; omega) | (simp only [cWI_len, cRI_len, List.length_append, List.length_cons, List.length_nil, List.length_nil, List.length_cons])); (first | rfl | first | omega | (simp only [cWI_len, cRI_len, List.length_append, List.length_cons, List.length_nil, List.length_nil, List.length_cons]; omega) | (simp only [cWI_len, cRI_len, List.length_append, List.length_cons, List.length_nil, List.length_nil, List.length_cons]))) | (refine appV_own ?_ ?_ ?_ ?_; exact flat_len (by intro _; rfl) _) | (refine appD_own ?_ ?_ ?_ ?_ ?_; omega; exact flat_len (by intro _; rfl) _) | (refine appV_fresh rfl trivial rfl ?_ ?_ ?_ ?_ ?_; (first | rfl | first | omega | (simp only [cWI_len, cRI_len, List.length_append, List.length_cons, List.length_nil, List.length_nil, List.length_cons]; omega) | (simp only [cWI_len, cRI_len, List.length_append, List.length_cons, List.length_nil, List.length_nil, List.length_cons])); (first | rfl | first | omega | (simp only [cWI_len, cRI_len, List.length_append, List.length_cons, List.length_nil, List.length_nil, List.length_cons]; omega) | (simp only [cWI_len, cRI_len, List.length_append, List.length_cons, List.length_nil, List.length_nil, List.length_cons]))) | (refine appD_fresh rfl trivial rfl ?_ ?_ ?_ ?_ ?_ ?_; omega; (first | rfl | first | omega | (simp only [cWI_len, cRI_len, List.length_append, List.length_cons, List.length_nil, List.length_nil, List.length_cons]; omega) | (simp only [cWI_len, cRI_len, List.length_append, List.length_cons, List.length_nil, List.length_nil, List.length_cons])); (first | rfl | first | omega | (simp only [cWI_len, cRI_len, List.length_append, List.length_cons, List.length_nil, List.length_nil, List.length_cons]; omega) | (simp only [cWI_len, cRI_len, List.length_append, List.length_cons, List.length_nil, List.length_nil, List.length_cons])))); (unfold maxLen; omega); omega)) <;> (try simp only [↓R1, R2, R3, R4, R5, Nat.reduceEqDiff, Nat.reduceAdd, Nat.reduceMul, Nat.reduceSub, Nat.reduceLeDiff, Nat.reduceLT, reduceIte, reduceCtorEq, Int.reduceBNe, Int.reduceBEq, q1, q2, q3, q4, q5, q6, hw, hw2, hd, hd2, hd3, hd4, beq_self_eq_true, bne_self_eq_false])) | (with_reducible refine And.intro ?_ ?_; (focus (first | omega | (intros; (repeat' (with_reducible apply And.intro)) <;> first | omega | (simp only [cWI_len, cRI_len, List.length_append, List.length_cons, List.length_nil]; omega))))) | (with_reducible apply And.intro))
    all_goals first | (rw [hd2]; omega) | (intros; rw [hd2]; omega) | skip
    obtain ⟨ws, hws⟩ : ∃ ws, l[k].ws = ws := ⟨_, rfl⟩
    rw [hws] at hwn hwt hwl hd
    refine loopV_for ws.length (fun i => [(0, .sl false l.length (l.flatMap cRI)), (1, .sl false l.length (l.flatMap cRI)), (5, .int .i64 (k : Nat)), (6, .int .i64 (i : Nat))]) (fun _ => σ) (fun _ => True) (by simp [subF, slot, wk_refl]) (St.le_refl _) trivial (fun i hi _ => ?_)
    by_cases hin : i < ws.length
    · have q2 : decide ((i : Int) < (ws.length : Int)) = true := by rw [decide_eq_true_eq]; omega
      have hd3 := cWI_get ws hin
      have hw2 : IntKind.i64.wrap ((i : Int) + 1) = ((i + 1 : Nat) : Int) := by rw [wrap64 (by omega) (by omega)]; omega
      simp only [cWI] at hd3
      simp only [q2, ↓R1, R2, R3, R4, R5, Nat.reduceEqDiff, Nat.reduceAdd, Nat.reduceMul, Nat.reduceSub, Nat.reduceLeDiff, Nat.reduceLT, reduceIte, reduceCtorEq, Int.reduceBNe, Int.reduceBEq, q1, q2, q3, q4, q5, q6, hw, hw2, hd, hd2, hd3, hd4, beq_self_eq_true, bne_self_eq_false]
      repeat' (first | (with_reducible rw [allocV_eq]) | (refine gdV_split (fun hc => ?_) (fun hc => ?_) <;> (try simp only [hc, ↓R1, R2, R3, R4, R5, Nat.reduceEqDiff, Nat.reduceAdd, Nat.reduceMul, Nat.reduceSub, Nat.reduceLeDiff, Nat.reduceLT, reduceIte, reduceCtorEq, Int.reduceBNe, Int.reduceBEq, q1, q2, q3, q4, q5, q6, hw, hw2, hd, hd2, hd3, hd4, beq_self_eq_true, bne_self_eq_false])) | ((first | refine condV_split (fun hc => ?_) (fun hc => ?_) | (with_reducible intro β hβ; (try simp only [St.box_noneA, St.tip_noneA, St.tip_set, St.box_tip, St.box_lp, St.tip_lp] at hβ); (repeat (obtain ⟨⟨_, _⟩, hβ⟩ := hβ)); (try (have hbis := apart_is (by assumption) hβ; obtain ⟨_, _⟩ := hbis))) | ((first | (refine appD_tslK (.inr rfl) rfl ?_ ?_ ?_ ?_ ?_ ?_; (first | rfl | exact St.tip_same _ _ _ | (simp only [↓R1, R2, R3, R4, R5, Nat.reduceEqDiff, Nat.reduceAdd, Nat.reduceMul, Nat.reduceSub, Nat.reduceLeDiff, Nat.reduceLT, reduceIte, reduceCtorEq, Int.reduceBNe, Int.reduceBEq, q1, q2, q3, q4, q5, q6, hw, hw2, hd, hd2, hd3, hd4, beq_self_eq_true, bne_self_eq_false])); (first | omega | (simp only [cWI_len, cRI_len, List.length_append, List.length_cons, List.length_nil, List.length_nil, List.length_cons]; omega) | (simp only [cWI_len, cRI_len, List.length_append, List.length_cons, List.length_nil, List.length_nil, List.length_cons])); (first | rfl | first | omega | (simp only [cWI_len, cRI_len, List.length_append, List.length_cons, List.length_nil, List.length_nil, List.length_cons]; omega) | (simp only [cWI_len, cRI_len, List.length_append, List.length_cons, List.length_nil, List.length_nil, List.length_cons]))) | (refine appV_tslK rfl ?_ ?_ ?_ ?_ ?_ ?_; (first | rfl | exact St.tip_same _ _ _ | (simp only [↓R1, R2, R3, R4, R5, Nat.reduceEqDiff, Nat.reduceAdd, Nat.reduceMul, Nat.reduceSub, Nat.reduceLeDiff, Nat.reduceLT, reduceIte, reduceCtorEq, Int.reduceBNe, Int.reduceBEq, q1, q2, q3, q4, q5, q6, hw, hw2, hd, hd2, hd3, hd4, beq_self_eq_true, bne_self_eq_false])); (first | omega | (simp only [cWI_len, cRI_len, List.length_append, List.length_cons, List.length_nil, List.length_nil, List.length_cons]; omega) | (simp only [cWI_len, cRI_len, List.length_append, List.length_cons, List.length_nil, List.length_nil, List.length_cons])); (first | rfl | first | omega | (simp only [cWI_len, cRI_len, List.length_append, List.length_cons, List.length_nil, List.length_nil, List.length_cons]; omega) | (simp only [cWI_len, cRI_len, List.length_append, List.length_cons, List.length_nil, List.length_nil, List.length_cons]))) | (refine appV_own ?_ ?_ ?_ ?_; exact flat_len (by intro _; rfl) _) | (refine appD_own ?_ ?_ ?_ ?_ ?_; omega; exact flat_len (by intro _; rfl) _) | (refine appV_fresh rfl trivial rfl ?_ ?_ ?_ ?_ ?_; (first | rfl | first | omega | (simp only [cWI_len, cRI_len, List.length_append, List.length_cons, List.length_nil, List.length_nil, List.length_cons]; omega) | (simp only [cWI_len, cRI_len, List.length_append, List.length_cons, List.length_nil, List.length_nil, List.length_cons])); (first | rfl | first | omega | (simp only [cWI_len, cRI_len, List.length_append, List.length_cons, List.length_nil, List.length_nil, List.length_cons]; omega) | (simp only [cWI_len, cRI_len, List.length_append, List.length_cons, List.length_nil, List.length_nil, List.length_cons]))) | (refine appD_fresh rfl trivial rfl ?_ ?_ ?_ ?_ ?_ ?_; omega; (first | rfl | first | omega | (simp only [cWI_len, cRI_len, List.length_append, List.length_cons, List.length_nil, List.length_nil, List.length_cons]; omega) | (simp only [cWI_len, cRI_len, List.length_append, List.length_cons, List.length_nil, List.length_nil, List.length_cons])); (first | rfl | first | omega | (simp only [cWI_len, cRI_len, List.length_append, List.length_cons, List.length_nil, List.length_nil, List.length_cons]; omega) | (simp only [cWI_len, cRI_len, List.length_append, List.length_cons, List.length_nil, List.length_nil, List.length_cons])))); (unfold maxLen; omega); omega)) <;> (try simp only [↓R1, R2, R3, R4, R5, Nat.reduceEqDiff, Nat.reduceAdd, Nat.reduceMul, Nat.reduceSub, Nat.reduceLeDiff, Nat.reduceLT, reduceIte, reduceCtorEq, Int.reduceBNe, Int.reduceBEq, q1, q2, q3, q4, q5, q6, hw, hw2, hd, hd2, hd3, hd4, beq_self_eq_true, bne_self_eq_false])) | (with_reducible refine And.intro ?_ ?_; (focus (first | omega | (intros; (repeat' (with_reducible apply And.intro)) <;> first | omega | (simp only [cWI_len, cRI_len, List.length_append, List.length_cons, List.length_nil]; omega))))) | (with_reducible apply And.intro))
      all_goals first | (rw [hd2]; omega) | (rw [hwl]; omega) | skip
      · simp [subF, slot, wk_refl]
      · exact St.le_refl _
    · have hie : i = ws.length := by omega
      subst hie
      have q2 : decide ((ws.length : Int) < (ws.length : Int)) = false := by simp
      simp only [q2, ↓R1, R2, R3, R4, R5, Nat.reduceEqDiff, Nat.reduceAdd, Nat.reduceMul, Nat.reduceSub, Nat.reduceLeDiff, Nat.reduceLT, reduceIte, reduceCtorEq, Int.reduceBNe, Int.reduceBEq, q1, q2, q3, q4, q5, q6, hw, hw2, hd, hd2, hd3, hd4, beq_self_eq_true, bne_self_eq_false]
      repeat' (first | (with_reducible rw [allocV_eq]) | (refine gdV_split (fun hc => ?_) (fun hc => ?_) <;> (try simp only [hc, ↓R1, R2, R3, R4, R5, Nat.reduceEqDiff, Nat.reduceAdd, Nat.reduceMul, Nat.reduceSub, Nat.reduceLeDiff, Nat.reduceLT, reduceIte, reduceCtorEq, Int.reduceBNe, Int.reduceBEq, q1, q2, q3, q4, q5, q6, hw, hw2, hd, hd2, hd3, hd4, beq_self_eq_true, bne_self_eq_false])) | ((first | refine condV_split (fun hc => ?_) (fun hc => ?_) | (with_reducible intro β hβ; (try simp only [St.box_noneA, St.tip_noneA, St.tip_set, St.box_tip, St.box_lp, St.tip_lp] at hβ); (repeat (obtain ⟨⟨_, _⟩, hβ⟩ := hβ)); (try (have hbis := apart_is (by assumption) hβ; obtain ⟨_, _⟩ := hbis))) | ((first | (refine appD_tslK (.inr rfl) rfl ?_ ?_ ?_ ?_ ?_ ?_; (first | rfl | exact St.tip_same _ _ _ | (simp only [↓R1, R2, R3, R4, R5, Nat.reduceEqDiff, Nat.reduceAdd, Nat.reduceMul, Nat.reduceSub, Nat.reduceLeDiff, Nat.reduceLT, reduceIte, reduceCtorEq, Int.reduceBNe, Int.reduceBEq, q1, q2, q3, q4, q5, q6, hw, hw2, hd, hd2, hd3, hd4, beq_self_eq_true, bne_self_eq_false])); (first | omega | (simp only [cWI_len, cRI_len, List.length_append, List.length_cons, List.length_nil, List.length_nil, List.length_cons]; omega) | (simp only [cWI_len, cRI_len, List.length_append, List.length_cons, List.length_nil, List.length_nil, List.length_cons])); (first | rfl | first | omega | (simp only [cWI_len, cRI_len, List.length_append, List.length_cons, List.length_nil, List.length_nil, List.length_cons]; omega) | (simp only [cWI_len, cRI_len, List.length_append, List.length_cons, List.length_nil, List.length_nil, List.length_cons]))) | (refine appV_tslK rfl ?_ ?_ ?_ ?_ ?_ ?_; (first | rfl | exact St.tip_same _ _ _ | (simp only [↓R1, R2, R3, R4, R5, Nat.reduceEqDiff, Nat.reduceAdd, Nat.reduceMul, Nat.reduceSub, Nat.reduceLeDiff, Nat.reduceLT, reduceIte, reduceCtorEq, Int.reduceBNe, Int.reduceBEq, q1, q2, q3, q4, q5, q6, hw, hw2, hd, hd2, hd3, hd4, beq_self_eq_true, bne_self_eq_false])); (first | omega | (simp only [cWI_len, cRI_len, List.length_append, List.length_cons, List.length_nil, List.length_nil, List.length_cons]; omega) | (simp only [cWI_len, cRI_len, List.length_append, List.length_cons, List.length_nil, List.length_nil, List.length_cons])); (first | rfl | first | omega | (simp only [cWI_len, cRI_len, List.length_append, List.length_cons, List.length_nil, List.length_nil, List.length_cons]; omega) | (simp only [cWI_len, cRI_len, List.length_append, List.length_cons, List.length_nil, List.length_nil, List.length_cons]))) | (refine appV_own ?_ ?_ ?_ ?_; exact flat_len (by intro _; rfl) _) | (refine appD_own ?_ ?_ ?_ ?_ ?_; omega; exact flat_len (by intro _; rfl) _) | (refine appV_fresh rfl trivial rfl ?_ ?_ ?_ ?_ ?_; (first | rfl | first | omega | (simp only [cWI_len, cRI_len, List.length_append, List.length_cons, List.length_nil, List.length_nil, List.length_cons]; omega) | (simp only [cWI_len, cRI_len, List.length_append, List.length_cons, List.length_nil, List.length_nil, List.length_cons])); (first | rfl | first | omega | (simp only [cWI_len, cRI_len, List.length_append, List.length_cons, List.length_nil, List.length_nil, List.length_cons]; omega) | (simp only [cWI_len, cRI_len, List.length_append, List.length_cons, List.length_nil, List.length_nil, List.length_cons]))) | (refine appD_fresh rfl trivial rfl ?_ ?_ ?_ ?_ ?_ ?_; omega; (first | rfl | first | omega | (simp only [cWI_len, cRI_len, List.length_append, List.length_cons, List.length_nil, List.length_nil, List.length_cons]; omega) | (simp only [cWI_len, cRI_len, List.length_append, List.length_cons, List.length_nil, List.length_nil, List.length_cons])); (first | rfl | first | omega | (simp only [cWI_len, cRI_len, List.length_append, List.length_cons, List.length_nil, List.length_nil, List.length_cons]; omega) | (simp only [cWI_len, cRI_len, List.length_append, List.length_cons, List.length_nil, List.length_nil, List.length_cons])))); (unfold maxLen; omega); omega)) <;> (try simp only [↓R1, R2, R3, R4, R5, Nat.reduceEqDiff, Nat.reduceAdd, Nat.reduceMul, Nat.reduceSub, Nat.reduceLeDiff, Nat.reduceLT, reduceIte, reduceCtorEq, Int.reduceBNe, Int.reduceBEq, q1, q2, q3, q4, q5, q6, hw, hw2, hd, hd2, hd3, hd4, beq_self_eq_true, bne_self_eq_false])) | (with_reducible refine And.intro ?_ ?_; (focus (first | omega | (intros; (repeat' (with_reducible apply And.intro)) <;> first | omega | (simp only [cWI_len, cRI_len, List.length_append, List.length_cons, List.length_nil]; omega))))) | (with_reducible apply And.intro))
      all_goals first | (rw [hd2]; omega) | skip
      · simp [subF, slot, wk_refl]
      · exact St.le_refl _
  · have hke : k = l.length := by omega
    subst hke
    have q1 : decide ((l.length : Int) < (l.length : Int)) = false := by simp
    simp only [q1, ↓R1, R2, R3, R4, R5, Nat.reduceEqDiff, Nat.reduceAdd, Nat.reduceMul, Nat.reduceSub, Nat.reduceLeDiff, Nat.reduceLT, reduceIte, reduceCtorEq, Int.reduceBNe, Int.reduceBEq, q1, q2, q3, q4, q5, q6, hw, hw2, hd, hd2, hd3, hd4, beq_self_eq_true, bne_self_eq_false]
    repeat' (first | (with_reducible rw [allocV_eq]) | (refine gdV_split (fun hc => ?_) (fun hc => ?_) <;> (try simp only [hc, ↓R1, R2, R3, R4, R5, Nat.reduceEqDiff, Nat.reduceAdd, Nat.reduceMul, Nat.reduceSub, Nat.reduceLeDiff, Nat.reduceLT, reduceIte, reduceCtorEq, Int.reduceBNe, Int.reduceBEq, q1, q2, q3, q4, q5, q6, hw, hw2, hd, hd2, hd3, hd4, beq_self_eq_true, bne_self_eq_false])) | ((first | refine condV_split (fun hc => ?_) (fun hc => ?_) | (with_reducible intro β hβ; (try simp only [St.box_noneA, St.tip_noneA, St.tip_set, St.box_tip, St.box_lp, St.tip_lp] at hβ); (repeat (obtain ⟨⟨_, _⟩, hβ⟩ := hβ)); (try (have hbis := apart_is (by assumption) hβ; obtain ⟨_, _⟩ := hbis))) | ((first | (refine appD_tslK (.inr rfl) rfl ?_ ?_ ?_ ?_ ?_ ?_; (first | rfl | exact St.tip_same _ _ _ | (simp only [↓R1, R2, R3, R4, R5, Nat.reduceEqDiff, Nat.reduceAdd, Nat.reduceMul, Nat.reduceSub, Nat.reduceLeDiff, Nat.reduceLT, reduceIte, reduceCtorEq, Int.reduceBNe, Int.reduceBEq, q1, q2, q3, q4, q5, q6, hw, hw2, hd, hd2, hd3, hd4, beq_self_eq_true, bne_self_eq_false])); (first | omega | (simp only [cWI_len, cRI_len, List.length_append, List.length_cons, List.length_nil, List.length_nil, List.length_cons]; omega) | (simp only [cWI_len, cRI_len, List.length_append, List.length_cons, List.length_nil, List.length_nil, List.length_cons])); (first | rfl | first | omega | (simp only [cWI_len, cRI_len, List.length_append, List.length_cons, List.length_nil, List.length_nil, List.length_cons]; omega) | (simp only [cWI_len, cRI_len, List.length_append, List.length_cons, List.length_nil, List.length_nil, List.length_cons]))) | (refine appV_tslK rfl ?_ ?_ ?_ ?_ ?_ ?_; (first | rfl | exact St.tip_same _ _ _ | (simp only [↓R1, R2, R3, R4, R5, Nat.reduceEqDiff, Nat.reduceAdd, Nat.reduceMul, Nat.reduceSub, Nat.reduceLeDiff, Nat.reduceLT, reduceIte, reduceCtorEq, Int.reduceBNe, Int.reduceBEq, q1, q2, q3, q4, q5, q6, hw, hw2, hd, hd2, hd3, hd4, beq_self_eq_true, bne_self_eq_false])); (first | omega | (simp only [cWI_len, cRI_len, List.length_append, List.length_cons, List.length_nil, List.length_nil, List.length_cons]; omega) | (simp only [cWI_len, cRI_len, List.length_append, List.length_cons, List.length_nil, List.length_nil, List.length_cons])); (first | rfl | first | omega | (simp only [cWI_len, cRI_len, List.length_append, List.length_cons, List.length_nil, List.length_nil, List.length_cons]; omega) | (simp only [cWI_len, cRI_len, List.length_append, List.length_cons, List.length_nil, List.length_nil, List.length_cons]))) | (refine appV_own ?_ ?_ ?_ ?_; exact flat_len (by intro _; rfl) _) | (refine appD_own ?_ ?_ ?_ ?_ ?_; omega; exact flat_len (by intro _; rfl) _) | (refine appV_fresh rfl trivial rfl ?_ ?_ ?_ ?_ ?_; (first | rfl | first | omega | (simp only [cWI_len, cRI_len, List.length_append, List.length_cons, List.length_nil, List.length_nil, List.length_cons]; omega) | (simp only [cWI_len, cRI_len, List.length_append, List.length_cons, List.length_nil, List.length_nil, List.length_cons])); (first | rfl | first | omega | (simp only [cWI_len, cRI_len, List.length_append, List.length_cons, List.length_nil, List.length_nil, List.length_cons]; omega) | (simp only [cWI_len, cRI_len, List.length_append, List.length_cons, List.length_nil, List.length_nil, List.length_cons]))) | (refine appD_fresh rfl trivial rfl ?_ ?_ ?_ ?_ ?_ ?_; omega; (first | rfl | first | omega | (simp only [cWI_len, cRI_len, List.length_append, List.length_cons, List.length_nil, List.length_nil, List.length_cons]; omega) | (simp only [cWI_len, cRI_len, List.length_append, List.length_cons, List.length_nil, List.length_nil, List.length_cons])); (first | rfl | first | omega | (simp only [cWI_len, cRI_len, List.length_append, List.length_cons, List.length_nil, List.length_nil, List.length_cons]; omega) | (simp only [cWI_len, cRI_len, List.length_append, List.length_cons, List.length_nil, List.length_nil, List.length_cons])))); (unfold maxLen; omega); omega)) <;> (try simp only [↓R1, R2, R3, R4, R5, Nat.reduceEqDiff, Nat.reduceAdd, Nat.reduceMul, Nat.reduceSub, Nat.reduceLeDiff, Nat.reduceLT, reduceIte, reduceCtorEq, Int.reduceBNe, Int.reduceBEq, q1, q2, q3, q4, q5, q6, hw, hw2, hd, hd2, hd3, hd4, beq_self_eq_true, bne_self_eq_false])) | (with_reducible refine And.intro ?_ ?_; (focus (first | omega | (intros; (repeat' (with_reducible apply And.intro)) <;> first | omega | (simp only [cWI_len, cRI_len, List.length_append, List.length_cons, List.length_nil]; omega))))) | (with_reducible apply And.intro))
    (refine endP_pu (by simp) (by first | (simp [rvsS, rvS]; done) | (simp only [rvsS, rvS, ↓R1, R2, R3, R4, R5, Nat.reduceEqDiff, Nat.reduceAdd, Nat.reduceMul, Nat.reduceSub, Nat.reduceLeDiff, Nat.reduceLT, reduceIte, reduceCtorEq, Int.reduceBNe, Int.reduceBEq, q1, q2, q3, q4, q5, q6, hw, hw2, hd, hd2, hd3, hd4, beq_self_eq_true, bne_self_eq_false]; try simp)) (wk_of_eq ?_) (by (repeat (first | exact St.le_refl _ | (refine St.le_new ?_ (by assumption)) | (refine St.le_newT ?_ (by assumption))))))
    (simp only [resAV, rvV, List.map_cons, List.map_nil, ↓R1, R2, R3, R4, R5, Nat.reduceEqDiff, Nat.reduceAdd, Nat.reduceMul, Nat.reduceSub, Nat.reduceLeDiff, Nat.reduceLT, reduceIte, reduceCtorEq, Int.reduceBNe, Int.reduceBEq, q1, q2, q3, q4, q5, q6, hw, hw2, hd, hd2, hd3, hd4, beq_self_eq_true, bne_self_eq_false])
/-- A loop that counts up to n and appends to a list in a part of a variable. -/
theorem loopV_forBx {P : Program} {x : CC} {fr : Fr} {σ : St} {Q : Exit → Fr → St → Prop} {h : Hold (x, σ, Q)} (n t o e s : Nat) {β : Nat} {c0 : List AV} (hp : slot t fr = .ptr β 0) (hb : σ.box β = some c0) (hc : c0[o]? = some .nils) (F : Nat → Nat → Fr) (S : Nat → Nat → St) (I : Nat → Prop) (h0 : I 0)
    (hF : ∀ τ, subF (F τ 0) fr) (hS : ∀ τ, σ.tip τ = none → St.le (S τ 0) ((σ.setTip τ (e, s, 0)).setBox β (c0.set o (.tsl τ 0 []))))
    (hr : ∀ τ, σ.tip τ = none → ∀ k, k ≤ n → I k → aC P x (F τ k) (S τ k) (loopK (fun fr' σ' => k < n ∧ I (k + 1) ∧ subF (F τ (k + 1)) fr' ∧ St.le (S τ (k + 1)) σ') Q)) : loopV P x fr σ Q h := by
  refine ⟨[(true, t, o, e, s)], ?_⟩
  simp only [startP, hp, hb, Nat.zero_add, hc, slv, fresh, true_and]
  intro τ hτ
  refine ⟨Nat, F τ, S τ, fun k => k ≤ n ∧ I k, fun k => n - k, 0, ⟨Nat.zero_le _, h0⟩, hF τ, hS τ hτ, fun k hk => ?_⟩
  refine aC_mono _ _ _ (hr τ hτ k hk.1 hk.2) (fun e fr' σ' hq => ?_)
  unfold loopK at hq
  cases e with
  | normal => simp only at hq ⊢; exact ⟨k + 1, ⟨hq.1, hq.2.1⟩, hq.2.2.1, hq.2.2.2, by omega⟩
  | _ => exact hq
def mkW (t : List UInt8) : WI := ⟨!bareS t, t, 0⟩
def mkR (l : List (List UInt8)) : RI := ⟨0, l.map mkW⟩
theorem strs_get (l : List (List UInt8)) {k : Nat} (h : k < l.length) : ((l.map AV.str).drop (k * 1)).take 1 = [.str l[k]] := by
  rw [Nat.mul_one, List.drop_eq_getElem_cons (by simpa using h)]
  simp
theorem mk_step (l : List (List UInt8)) {k : Nat} (h : k < l.length) : ((l.take k).map mkW).flatMap cWI ++ [.bool (!bareS l[k]), .str l[k], .int .i64 0] = ((l.take (k + 1)).map mkW).flatMap cWI := by
  rw [← List.take_append_getElem h, List.map_append, List.flatMap_append]
  simp [mkW, cWI]
set_option maxHeartbeats 2000000 in
theorem p23 (l : List (List UInt8)) (hl : l.length ≤ 1000) (ht : ∀ t ∈ l, t.length ≤ 1000000) : Pu Tryd.prog 23 [.sl false l.length (l.map AV.str)] (.agg (cRI (mkR l))) := by
  have q1 : True := trivial
  have q2 : True := trivial
  have q3 : True := trivial
  have q4 : True := trivial
  have q5 : True := trivial
  have q6 : True := trivial
  have hw : True := trivial
  have hd : True := trivial
  have hd2 : True := trivial
  (refine Pu_intro c23 b23 (Nat.le_of_ble_eq_true rfl) fun σ => ?_; simp only [c23, ↓R1, R2, R3, R4, R5, Nat.reduceEqDiff, Nat.reduceAdd, Nat.reduceMul, Nat.reduceSub, Nat.reduceLeDiff, Nat.reduceLT, reduceIte, reduceCtorEq, Int.reduceBNe, Int.reduceBEq, q1, q2, q3, q4, q5, q6, hw, hd, hd2])
  rw [allocV_eq]; intro b2 h2; simp only [↓R1, R2, R3, R4, R5, Nat.reduceEqDiff, Nat.reduceAdd, Nat.reduceMul, Nat.reduceSub, Nat.reduceLeDiff, Nat.reduceLT, reduceIte, reduceCtorEq, Int.reduceBNe, Int.reduceBEq, q1, q2, q3, q4, q5, q6, hw, hd, hd2]
  rw [allocV_eq]; intro b3 h3; rw [St.box_noneA] at h3; obtain ⟨⟨_, _⟩, h3⟩ := h3; simp only [↓R1, R2, R3, R4, R5, Nat.reduceEqDiff, Nat.reduceAdd, Nat.reduceMul, Nat.reduceSub, Nat.reduceLeDiff, Nat.reduceLT, reduceIte, reduceCtorEq, Int.reduceBNe, Int.reduceBEq, q1, q2, q3, q4, q5, q6, hw, hd, hd2]
  refine loopV_forBx l.length 3 1 31 3 (β := b3) rfl (by simp only [↓R1, R2, R3, R4, R5, Nat.reduceEqDiff, Nat.reduceAdd, Nat.reduceMul, Nat.reduceSub, Nat.reduceLeDiff, Nat.reduceLT, reduceIte, reduceCtorEq, Int.reduceBNe, Int.reduceBEq, q1, q2, q3, q4, q5, q6, hw, hd, hd2]; rfl) rfl
    (fun τ k => [(2, .ptr b2 0), (3, .ptr b3 0), (6, .sl false l.length (l.map AV.str)), (7, .int .i64 (l.length : Nat)), (8, .int .i64 (k : Nat))])
    (fun τ k => ((σ.setBox b2 [.int .i64 0, .nils]).setBox b3 [.int .i64 0, .tsl τ k (((l.take k).map mkW).flatMap cWI)]).setTip τ (31, 3, k)) (fun _ => True) trivial (fun τ => by simp [subF, slot, wk_refl]) (fun τ _ => by simp only [List.set_cons_succ, List.set_cons_zero, List.take_zero, List.map_nil, List.flatMap_nil, ↓R1, R2, R3, R4, R5, Nat.reduceEqDiff, Nat.reduceAdd, Nat.reduceMul, Nat.reduceSub, Nat.reduceLeDiff, Nat.reduceLT, reduceIte, reduceCtorEq, Int.reduceBNe, Int.reduceBEq, q1, q2, q3, q4, q5, q6, hw, hd, hd2]; exact St.le_refl _) (fun τ hτ k hk _ => ?_)
  by_cases hlt : k < l.length
  · have q1 : decide ((k : Int) < (l.length : Int)) = true := by rw [decide_eq_true_eq]; omega
    have hd := strs_get l hlt
    have hw : IntKind.i64.wrap ((k : Int) + 1) = ((k + 1 : Nat) : Int) := by rw [wrap64 (by omega) (by omega)]; omega
    have hp := p29 l[k] (ht _ (List.getElem_mem hlt))
    have hcl : (((l.take k).map mkW).flatMap cWI).length = k * 3 := by rw [cWI_len]; simp; omega
    have hs := mk_step l hlt
    simp only [q1, ↓R1, R2, R3, R4, R5, Nat.reduceEqDiff, Nat.reduceAdd, Nat.reduceMul, Nat.reduceSub, Nat.reduceLeDiff, Nat.reduceLT, reduceIte, reduceCtorEq, Int.reduceBNe, Int.reduceBEq, q1, q2, q3, q4, q5, q6, hw, hd, hd2]
    repeat' (first | (with_reducible rw [allocV_eq]) | (refine gdV_split (fun hc => ?_) (fun hc => ?_) <;> (try simp only [hc, ↓R1, R2, R3, R4, R5, Nat.reduceEqDiff, Nat.reduceAdd, Nat.reduceMul, Nat.reduceSub, Nat.reduceLeDiff, Nat.reduceLT, reduceIte, reduceCtorEq, Int.reduceBNe, Int.reduceBEq, q1, q2, q3, q4, q5, q6, hw, hd, hd2])) | ((first | refine condV_split (fun hc => ?_) (fun hc => ?_) | (with_reducible intro β hβ; (try simp only [St.box_noneA, St.tip_noneA, St.tip_set, St.box_tip, St.box_lp, St.tip_lp] at hβ); (repeat (obtain ⟨⟨_, _⟩, hβ⟩ := hβ)); (try (have hbis := apart_is (by assumption) hβ; obtain ⟨_, _⟩ := hbis))) | ((first | (refine appD_tslK (.inr rfl) rfl ?_ ?_ ?_ ?_ ?_ ?_; (first | rfl | exact St.tip_same _ _ _ | (simp only [↓R1, R2, R3, R4, R5, Nat.reduceEqDiff, Nat.reduceAdd, Nat.reduceMul, Nat.reduceSub, Nat.reduceLeDiff, Nat.reduceLT, reduceIte, reduceCtorEq, Int.reduceBNe, Int.reduceBEq, q1, q2, q3, q4, q5, q6, hw, hd, hd2])); (first | omega | (simp only [cWI_len, cRI_len, List.length_append, List.length_cons, List.length_nil, List.length_nil, List.length_cons]; omega) | (simp only [cWI_len, cRI_len, List.length_append, List.length_cons, List.length_nil, List.length_nil, List.length_cons])); (first | rfl | first | omega | (simp only [cWI_len, cRI_len, List.length_append, List.length_cons, List.length_nil, List.length_nil, List.length_cons]; omega) | (simp only [cWI_len, cRI_len, List.length_append, List.length_cons, List.length_nil, List.length_nil, List.length_cons]))) | (refine appV_tslK rfl ?_ ?_ ?_ ?_ ?_ ?_; (first | rfl | exact St.tip_same _ _ _ | (simp only [↓R1, R2, R3, R4, R5, Nat.reduceEqDiff, Nat.reduceAdd, Nat.reduceMul, Nat.reduceSub, Nat.reduceLeDiff, Nat.reduceLT, reduceIte, reduceCtorEq, Int.reduceBNe, Int.reduceBEq, q1, q2, q3, q4, q5, q6, hw, hd, hd2])); (first | omega | (simp only [cWI_len, cRI_len, List.length_append, List.length_cons, List.length_nil, List.length_nil, List.length_cons]; omega) | (simp only [cWI_len, cRI_len, List.length_append, List.length_cons, List.length_nil, List.length_nil, List.length_cons])); (first | rfl | first | omega | (simp only [cWI_len, cRI_len, List.length_append, List.length_cons, List.length_nil, List.length_nil, List.length_cons]; omega) | (simp only [cWI_len, cRI_len, List.length_append, List.length_cons, List.length_nil, List.length_nil, List.length_cons]))) | (refine appV_own ?_ ?_ ?_ ?_; exact flat_len (by intro _; rfl) _) | (refine appD_own ?_ ?_ ?_ ?_ ?_; omega; exact flat_len (by intro _; rfl) _) | (refine appV_fresh rfl trivial rfl ?_ ?_ ?_ ?_ ?_; (first | rfl | first | omega | (simp only [cWI_len, cRI_len, List.length_append, List.length_cons, List.length_nil, List.length_nil, List.length_cons]; omega) | (simp only [cWI_len, cRI_len, List.length_append, List.length_cons, List.length_nil, List.length_nil, List.length_cons])); (first | rfl | first | omega | (simp only [cWI_len, cRI_len, List.length_append, List.length_cons, List.length_nil, List.length_nil, List.length_cons]; omega) | (simp only [cWI_len, cRI_len, List.length_append, List.length_cons, List.length_nil, List.length_nil, List.length_cons]))) | (refine appD_fresh rfl trivial rfl ?_ ?_ ?_ ?_ ?_ ?_; omega; (first | rfl | first | omega | (simp only [cWI_len, cRI_len, List.length_append, List.length_cons, List.length_nil, List.length_nil, List.length_cons]; omega) | (simp only [cWI_len, cRI_len, List.length_append, List.length_cons, List.length_nil, List.length_nil, List.length_cons])); (first | rfl | first | omega | (simp only [cWI_len, cRI_len, List.length_append, List.length_cons, List.length_nil, List.length_nil, List.length_cons]; omega) | (simp only [cWI_len, cRI_len, List.length_append, List.length_cons, List.length_nil, List.length_nil, List.length_cons])))); (unfold maxLen; omega); omega)) <;> (try simp only [↓R1, R2, R3, R4, R5, Nat.reduceEqDiff, Nat.reduceAdd, Nat.reduceMul, Nat.reduceSub, Nat.reduceLeDiff, Nat.reduceLT, reduceIte, reduceCtorEq, Int.reduceBNe, Int.reduceBEq, q1, q2, q3, q4, q5, q6, hw, hd, hd2])) | (with_reducible refine And.intro ?_ ?_; (focus (first | omega | (intros; (repeat' (with_reducible apply And.intro)) <;> first | omega | (simp only [cWI_len, cRI_len, List.length_append, List.length_cons, List.length_nil]; omega))))) | (with_reducible apply And.intro) | ((first | refine Pu.to (hp) (wkL_refl _) ?_ | refine callDV_pu (hp) (wkL_refl _) ?_); (try simp only [↓R1, R2, R3, R4, R5, Nat.reduceEqDiff, Nat.reduceAdd, Nat.reduceMul, Nat.reduceSub, Nat.reduceLeDiff, Nat.reduceLT, reduceIte, reduceCtorEq, Int.reduceBNe, Int.reduceBEq, q1, q2, q3, q4, q5, q6, hw, hd, hd2])))
    all_goals first | (simp only [List.length_map]; omega) | skip
    · simp [subF, slot, wk_refl]
    · rw [hs]; exact St.le_refl _
  · have hke : k = l.length := by omega
    subst hke
    have q1 : decide ((l.length : Int) < (l.length : Int)) = false := by simp
    rw [List.take_length]
    simp only [q1, ↓R1, R2, R3, R4, R5, Nat.reduceEqDiff, Nat.reduceAdd, Nat.reduceMul, Nat.reduceSub, Nat.reduceLeDiff, Nat.reduceLT, reduceIte, reduceCtorEq, Int.reduceBNe, Int.reduceBEq, q1, q2, q3, q4, q5, q6, hw, hd, hd2]
    repeat' (first | (with_reducible rw [allocV_eq]) | (refine gdV_split (fun hc => ?_) (fun hc => ?_) <;> (try simp only [hc, ↓R1, R2, R3, R4, R5, Nat.reduceEqDiff, Nat.reduceAdd, Nat.reduceMul, Nat.reduceSub, Nat.reduceLeDiff, Nat.reduceLT, reduceIte, reduceCtorEq, Int.reduceBNe, Int.reduceBEq, q1, q2, q3, q4, q5, q6, hw, hd, hd2])) | ((first | refine condV_split (fun hc => ?_) (fun hc => ?_) | (with_reducible intro β hβ; (try simp only [St.box_noneA, St.tip_noneA, St.tip_set, St.box_tip, St.box_lp, St.tip_lp] at hβ); (repeat (obtain ⟨⟨_, _⟩, hβ⟩ := hβ)); (try (have hbis := apart_is (by assumption) hβ; obtain ⟨_, _⟩ := hbis))) | ((first | (refine appD_tslK (.inr rfl) rfl ?_ ?_ ?_ ?_ ?_ ?_; (first | rfl | exact St.tip_same _ _ _ | (simp only [↓R1, R2, R3, R4, R5, Nat.reduceEqDiff, Nat.reduceAdd, Nat.reduceMul, Nat.reduceSub, Nat.reduceLeDiff, Nat.reduceLT, reduceIte, reduceCtorEq, Int.reduceBNe, Int.reduceBEq, q1, q2, q3, q4, q5, q6, hw, hd, hd2])); (first | omega | (simp only [cWI_len, cRI_len, List.length_append, List.length_cons, List.length_nil, List.length_nil, List.length_cons]; omega) | (simp only [cWI_len, cRI_len, List.length_append, List.length_cons, List.length_nil, List.length_nil, List.length_cons])); (first | rfl | first | omega | (simp only [cWI_len, cRI_len, List.length_append, List.length_cons, List.length_nil, List.length_nil, List.length_cons]; omega) | (simp only [cWI_len, cRI_len, List.length_append, List.length_cons, List.length_nil, List.length_nil, List.length_cons]))) | (refine appV_tslK rfl ?_ ?_ ?_ ?_ ?_ ?_; (first | rfl | exact St.tip_same _ _ _ | (simp only [↓R1, R2, R3, R4, R5, Nat.reduceEqDiff, Nat.reduceAdd, Nat.reduceMul, Nat.reduceSub, Nat.reduceLeDiff, Nat.reduceLT, reduceIte, reduceCtorEq, Int.reduceBNe, Int.reduceBEq, q1, q2, q3, q4, q5, q6, hw, hd, hd2])); (first | omega | (simp only [cWI_len, cRI_len, List.length_append, List.length_cons, List.length_nil, List.length_nil, List.length_cons]; omega) | (simp only [cWI_len, cRI_len, List.length_append, List.length_cons, List.length_nil, List.length_nil, List.length_cons])); (first | rfl | first | omega | (simp only [cWI_len, cRI_len, List.length_append, List.length_cons, List.length_nil, List.length_nil, List.length_cons]; omega) | (simp only [cWI_len, cRI_len, List.length_append, List.length_cons, List.length_nil, List.length_nil, List.length_cons]))) | (refine appV_own ?_ ?_ ?_ ?_; exact flat_len (by intro _; rfl) _) | (refine appD_own ?_ ?_ ?_ ?_ ?_; omega; exact flat_len (by intro _; rfl) _) | (refine appV_fresh rfl trivial rfl ?_ ?_ ?_ ?_ ?_; (first | rfl | first | omega | (simp only [cWI_len, cRI_len, List.length_append, List.length_cons, List.length_nil, List.length_nil, List.length_cons]; omega) | (simp only [cWI_len, cRI_len, List.length_append, List.length_cons, List.length_nil, List.length_nil, List.length_cons])); (first | rfl | first | omega | (simp only [cWI_len, cRI_len, List.length_append, List.length_cons, List.length_nil, List.length_nil, List.length_cons]; omega) | (simp only [cWI_len, cRI_len, List.length_append, List.length_cons, List.length_nil, List.length_nil, List.length_cons]))) | (refine appD_fresh rfl trivial rfl ?_ ?_ ?_ ?_ ?_ ?_; omega; (first | rfl | first | omega | (simp only [cWI_len, cRI_len, List.length_append, List.length_cons, List.length_nil, List.length_nil, List.length_cons]; omega) | (simp only [cWI_len, cRI_len, List.length_append, List.length_cons, List.length_nil, List.length_nil, List.length_cons])); (first | rfl | first | omega | (simp only [cWI_len, cRI_len, List.length_append, List.length_cons, List.length_nil, List.length_nil, List.length_cons]; omega) | (simp only [cWI_len, cRI_len, List.length_append, List.length_cons, List.length_nil, List.length_nil, List.length_cons])))); (unfold maxLen; omega); omega)) <;> (try simp only [↓R1, R2, R3, R4, R5, Nat.reduceEqDiff, Nat.reduceAdd, Nat.reduceMul, Nat.reduceSub, Nat.reduceLeDiff, Nat.reduceLT, reduceIte, reduceCtorEq, Int.reduceBNe, Int.reduceBEq, q1, q2, q3, q4, q5, q6, hw, hd, hd2])) | (with_reducible refine And.intro ?_ ?_; (focus (first | omega | (intros; (repeat' (with_reducible apply And.intro)) <;> first | omega | (simp only [cWI_len, cRI_len, List.length_append, List.length_cons, List.length_nil]; omega))))) | (with_reducible apply And.intro))
    refine endP_pu (by simp) (by first | (simp [rvsS, rvS]; done) | (simp only [rvsS, rvS, ↓R1, R2, R3, R4, R5, Nat.reduceEqDiff, Nat.reduceAdd, Nat.reduceMul, Nat.reduceSub, Nat.reduceLeDiff, Nat.reduceLT, reduceIte, reduceCtorEq, Int.reduceBNe, Int.reduceBEq, q1, q2, q3, q4, q5, q6, hw, hd, hd2]; try simp)) ?_ (St.le_setTip (St.le_setBox (St.le_setBox (St.le_refl _) h2) h3) hτ)
    simp only [resAV, rvV, List.map_cons, List.map_nil, ↓R1, R2, R3, R4, R5, Nat.reduceEqDiff, Nat.reduceAdd, Nat.reduceMul, Nat.reduceSub, Nat.reduceLeDiff, Nat.reduceLT, reduceIte, reduceCtorEq, Int.reduceBNe, Int.reduceBEq, q1, q2, q3, q4, q5, q6, hw, hd, hd2]
    simp only [cRI, mkR, List.length_map]
    exact wk_agg (.cons (wk_refl _) (.cons (wk_tsl _ _ _) .nil))
end Go.Proofs.YtemddijemikleaaDoor
namespace Go.Proofs.YtemddijemikleaaDoor
open Go.Abs
set_option linter.all false
set_option maxRecDepth 100000
def cWd (w : Wd) : List AV := [.bool w.q, .str w.t, .int .i64 (w.a : Nat)]
theorem cWd_len (l : List Wd) : (l.flatMap cWd).length = l.length * 3 := flat_len (f := cWd) (fun _ => rfl) l
/-- A list that is made by appending: nothing yet, or a list of its own. -/
def lV (τ : Nat) : List Wd → AV
  | [] => .nils
  | p => .tsl τ p.length (p.flatMap cWd)
def lT (σ : St) (τ : Nat) : List Wd → St
  | [] => σ
  | p => σ.setTip τ (31, 3, p.length)
theorem lT_box (σ : St) (τ : Nat) (p : List Wd) : (lT σ τ p).box = σ.box := by cases p <;> rfl
theorem lT_set (σ : St) (τ : Nat) (p : List Wd) (u : Nat) (c : List AV) : (lT σ τ p).setBox u c = lT (σ.setBox u c) τ p := by cases p <;> rfl
theorem lV_app {P : Program} {Y : St} {K : AV → St → Prop} {τ : Nat} {pre : List Wd} {w : Wd} {h : Hold (lT Y τ pre, K)} (hl : pre.length ≤ 1000000) (hY : pre ≠ [] → Y.tip τ = none)
    (hK : ∀ τ', Y.tip τ' = none → K (lV τ' (pre ++ [w])) (lT Y τ' (pre ++ [w]))) : appV true 31 3 32 (lV τ pre) (.sl true 1 (cWd w)) (lT Y τ pre) K h := by
  cases pre with
  | nil =>
    refine appV_tip (n := 0) (cs := []) rfl trivial rfl rfl rfl ?_ ?_ (fun τ' hτ' => ?_)
    · unfold maxLen; decide
    · decide
    · exact hK τ' hτ'
  | cons x p =>
    have h1 := cWd_len (x :: p)
    simp only [List.length_cons] at hl h1
    refine appV_tslK rfl ?_ ?_ rfl ?_ ?_ ?_
    · simp [lT, St.setTip, upd]
    · simpa using h1
    · unfold maxLen; simp; omega
    · simp; omega
    · have := hK τ (hY (by simp))
      have e1 : (x :: p).flatMap cWd ++ cWd w = ((x :: p) ++ [w]).flatMap cWd := by simp
      have e2 : lT (lT Y τ (x :: p)) τ ((x :: p) ++ [w]) = lT Y τ ((x :: p) ++ [w]) := St.setTip_setTip _ _ _ _
      have e3 : (x :: p).length + 1 = ((x :: p) ++ [w]).length := by simp
      rw [e1, e3]
      rw [← e2] at this
      exact this
theorem lT_le {s s' : St} (h : St.le s s') (τ : Nat) (p : List Wd) : St.le (lT s τ p) (lT s' τ p) := by
  cases p with
  | nil => exact h
  | cons x p => exact St.le_setTc h
def WordsR (σ : St) (o : Except Nat (List Wd)) (r : AV) (s : St) : Prop :=
  match o with
  | .error b => r = .tup [.nils, .int .i64 (b : Nat), .bool false] ∧ s = σ
  | .ok ws => ∃ τ, (ws ≠ [] → σ.tip τ = none) ∧ r = .tup [lV τ ws, .int .i64 0, .bool true] ∧ s = lT σ τ ws
set_option maxHeartbeats 4000000 in
theorem a_words (σ : St) (l : List UInt8) (hl : l.length ≤ 1000000) : AC Tryd.prog 48 [.str l] σ (WordsR σ (wordsS l)) := by
  have hc1 : True := trivial
  have q1 : True := trivial
  have q2 : True := trivial
  have q3 : True := trivial
  have hw : True := trivial
  (refine AC_intro c48 b48 (Nat.le_of_ble_eq_true rfl) ?_; simp only [c48, ↓R1, R2, R3, R4, R5, Nat.reduceEqDiff, Nat.reduceAdd, Nat.reduceMul, Nat.reduceSub, Nat.reduceLeDiff, Nat.reduceLT, reduceIte, reduceCtorEq, Int.reduceBNe, Int.reduceBEq, u8_35, hc1, q1, q2, q3, hw])
  repeat' (first | (with_reducible rw [allocV_eq]) | (refine gdV_split (fun hc => ?_) (fun hc => ?_) <;> (try simp only [hc, ↓R1, R2, R3, R4, R5, Nat.reduceEqDiff, Nat.reduceAdd, Nat.reduceMul, Nat.reduceSub, Nat.reduceLeDiff, Nat.reduceLT, reduceIte, reduceCtorEq, Int.reduceBNe, Int.reduceBEq, u8_35, hc1, q1, q2, q3, hw])) | ((first | refine condV_split (fun hc => ?_) (fun hc => ?_) | (with_reducible intro β hβ; (try simp only [St.box_noneA, St.tip_noneA, St.tip_set, St.box_tip, St.box_lp, St.tip_lp] at hβ); (repeat (obtain ⟨⟨_, _⟩, hβ⟩ := hβ)); (try (have hbis := apart_is (by assumption) hβ; obtain ⟨_, _⟩ := hbis)))) <;> (try simp only [↓R1, R2, R3, R4, R5, Nat.reduceEqDiff, Nat.reduceAdd, Nat.reduceMul, Nat.reduceSub, Nat.reduceLeDiff, Nat.reduceLT, reduceIte, reduceCtorEq, Int.reduceBNe, Int.reduceBEq, u8_35, hc1, q1, q2, q3, hw])) | (with_reducible refine And.intro ?_ ?_; (focus (first | omega | (intros; (repeat' (with_reducible apply And.intro)) <;> first | omega | (simp only [cWd_len, List.length_append, List.length_cons, List.length_nil]; omega))))) | (with_reducible apply And.intro))
  refine (AC.wk (a_skip (k := 0) (l := l) (by simp only [↓R1, R2, R3, R4, R5, Nat.reduceEqDiff, Nat.reduceAdd, Nat.reduceMul, Nat.reduceSub, Nat.reduceLeDiff, Nat.reduceLT, reduceIte, reduceCtorEq, Int.reduceBNe, Int.reduceBEq, u8_35, hc1, q1, q2, q3, hw]; rfl) (Nat.zero_le _) hl) (wkL_refl _)).mono ?_
  rintro _ _ ⟨rfl, rfl⟩
  rw [List.drop_zero]
  simp only [↓R1, R2, R3, R4, R5, Nat.reduceEqDiff, Nat.reduceAdd, Nat.reduceMul, Nat.reduceSub, Nat.reduceLeDiff, Nat.reduceLT, reduceIte, reduceCtorEq, Int.reduceBNe, Int.reduceBEq, u8_35, hc1, q1, q2, q3, hw]
  revert hβ
  revert β
  intro u hu
  have hz : posOf l (l.dropWhile isBlank) ≤ l.length := by simp [posOf]
  have hz2 : l.drop (posOf l (l.dropWhile isBlank)) = l.dropWhile isBlank := (drop_pos (List.dropWhile_suffix _)).1
  refine loopV_st (α := Nat × Nat × List Wd) (fun z => [(2, lV z.2.1 z.2.2), (5, .ptr u 0)]) (fun z => lT (σ.setBox u [.str l, .int .i64 (z.1 : Nat)]) z.2.1 z.2.2)
    (fun z => z.1 ≤ l.length ∧ (z.2.2 ≠ [] → σ.tip z.2.1 = none) ∧ z.2.2.length ≤ z.1 ∧ (l.drop z.1).dropWhile isBlank = l.drop z.1 ∧ wordsS l = preE z.2.2 (wordsR (l.drop z.1) z.1)) (fun z => l.length - z.1) (posOf l (l.dropWhile isBlank), 0, [])
    (by simp [subF, slot, wk_refl, lV]) (by simp only [↓R1, R2, R3, R4, R5, Nat.reduceEqDiff, Nat.reduceAdd, Nat.reduceMul, Nat.reduceSub, Nat.reduceLeDiff, Nat.reduceLT, reduceIte, reduceCtorEq, Int.reduceBNe, Int.reduceBEq, u8_35, hc1, q1, q2, q3, hw]; exact St.le_refl _) ⟨hz, (fun h => absurd rfl h), Nat.zero_le _, (by rw [hz2, dropWhile_idem]), (by rw [preE_nil, hz2, wordsS, wordsR_skip, Nat.zero_add]; rfl)⟩ ?_
  rintro ⟨i, τ, pre⟩ ⟨hi, hτ, hlen, hdw, hI⟩
  simp only at hi hτ hlen hdw hI
  have hbS : ∀ (i : Nat) τ pre, (lT (σ.setBox u [.str l, .int .i64 i]) τ pre).box u = some [.str l, .int .i64 i] := fun i τ pre => by rw [lT_box]; simp only [↓R1, R2, R3, R4, R5, Nat.reduceEqDiff, Nat.reduceAdd, Nat.reduceMul, Nat.reduceSub, Nat.reduceLeDiff, Nat.reduceLT, reduceIte, reduceCtorEq, Int.reduceBNe, Int.reduceBEq, u8_35, hc1, q1, q2, q3, hw]
  have hset : ∀ (i j : Nat) τ pre, (lT (σ.setBox u [.str l, .int .i64 i]) τ pre).setBox u [.str l, .int .i64 j] = lT (σ.setBox u [.str l, .int .i64 j]) τ pre := fun i j τ pre => by rw [lT_set]; simp only [↓R1, R2, R3, R4, R5, Nat.reduceEqDiff, Nat.reduceAdd, Nat.reduceMul, Nat.reduceSub, Nat.reduceLeDiff, Nat.reduceLT, reduceIte, reduceCtorEq, Int.reduceBNe, Int.reduceBEq, u8_35, hc1, q1, q2, q3, hw]
  have fin : ∀ (i : Nat), wordsS l = .ok pre → WordsR σ (wordsS l) (.tup [lV τ pre, .int .i64 0, .bool true]) (lT σ τ pre) := fun i h => by rw [h]; exact ⟨τ, hτ, rfl, rfl⟩
  have hle : ∀ (i : Nat), St.le (lT σ τ pre) (lT (σ.setBox u [.str l, .int .i64 i]) τ pre) := fun i => by
    rw [← lT_set]; exact St.le_setBox (St.le_refl _) (by rw [lT_box]; exact hu)
  have hle0 : ∀ (i : Nat), St.le σ (lT (σ.setBox u [.str l, .int .i64 i]) τ pre) := fun i => by
    have h1 : St.le σ (σ.setBox u [.str l, .int .i64 i]) := St.le_setBox (St.le_refl _) hu
    cases pre with
    | nil => exact h1
    | cons x p => exact St.le_setTip h1 (hτ (by simp))
  simp only [↓R1, R2, R3, R4, R5, Nat.reduceEqDiff, Nat.reduceAdd, Nat.reduceMul, Nat.reduceSub, Nat.reduceLeDiff, Nat.reduceLT, reduceIte, reduceCtorEq, Int.reduceBNe, Int.reduceBEq, u8_35, hc1, q1, q2, q3, hw]
  have a1 := a_left (hbS i τ pre)
  have q3 := hbS i τ pre
  rcases drop_cases l i hi with ⟨hd, he⟩ | ⟨c, r, hd, hlt⟩
  · have hc1 : decide ((i : Int) < (l.length : Int)) = false := by simp; omega
    have hok : wordsS l = .ok pre := by rw [hI, hd, wordsR_eq]; simp [preE]
    repeat' (first | (with_reducible rw [allocV_eq]) | (refine gdV_split (fun hc => ?_) (fun hc => ?_) <;> (try simp only [hc, ↓R1, R2, R3, R4, R5, Nat.reduceEqDiff, Nat.reduceAdd, Nat.reduceMul, Nat.reduceSub, Nat.reduceLeDiff, Nat.reduceLT, reduceIte, reduceCtorEq, Int.reduceBNe, Int.reduceBEq, u8_35, hc1, q1, q2, q3, hw])) | ((first | refine condV_split (fun hc => ?_) (fun hc => ?_) | (with_reducible intro β hβ; (try simp only [St.box_noneA, St.tip_noneA, St.tip_set, St.box_tip, St.box_lp, St.tip_lp] at hβ); (repeat (obtain ⟨⟨_, _⟩, hβ⟩ := hβ)); (try (have hbis := apart_is (by assumption) hβ; obtain ⟨_, _⟩ := hbis)))) <;> (try simp only [↓R1, R2, R3, R4, R5, Nat.reduceEqDiff, Nat.reduceAdd, Nat.reduceMul, Nat.reduceSub, Nat.reduceLeDiff, Nat.reduceLT, reduceIte, reduceCtorEq, Int.reduceBNe, Int.reduceBEq, u8_35, hc1, q1, q2, q3, hw])) | (with_reducible refine And.intro ?_ ?_; (focus (first | omega | (intros; (repeat' (with_reducible apply And.intro)) <;> first | omega | (simp only [cWd_len, List.length_append, List.length_cons, List.length_nil]; omega))))) | (with_reducible apply And.intro) | ((first | (refine AC.mono (AC.wk (a1) (wkL_refl _)) ?_; (rintro _ _ ⟨rfl, rfl⟩))); (try simp only [↓R1, R2, R3, R4, R5, Nat.reduceEqDiff, Nat.reduceAdd, Nat.reduceMul, Nat.reduceSub, Nat.reduceLeDiff, Nat.reduceLT, reduceIte, reduceCtorEq, Int.reduceBNe, Int.reduceBEq, u8_35, hc1, q1, q2, q3, hw])))
    exact endP_intro (by simp) (by first | (simp [rvsS, rvS]; done) | (simp only [rvsS, rvS, ↓R1, R2, R3, R4, R5, Nat.reduceEqDiff, Nat.reduceAdd, Nat.reduceMul, Nat.reduceSub, Nat.reduceLeDiff, Nat.reduceLT, reduceIte, reduceCtorEq, Int.reduceBNe, Int.reduceBEq, u8_35, hc1, q1, q2, q3, hw]; try simp)) (wk_of_eq (by (simp only [resAV, rvV, List.map_cons, List.map_nil, ↓R1, R2, R3, R4, R5, Nat.reduceEqDiff, Nat.reduceAdd, Nat.reduceMul, Nat.reduceSub, Nat.reduceLeDiff, Nat.reduceLT, reduceIte, reduceCtorEq, Int.reduceBNe, Int.reduceBEq, u8_35, hc1, q1, q2, q3, hw]))) (hle i) (fin i hok)
  · have hc1 : decide ((i : Int) < (l.length : Int)) = true := by simpa using hlt
    have a2 := a_peek (hbS i τ pre) hd
    rw [wordsR_eq, hdw, hd] at hI
    simp only at hI
    by_cases h35 : c = 35
    · have q1 : ((c.toNat : Int) != 35) = false := by rw [bne, u8_35]; simpa using h35
      have hok : wordsS l = .ok pre := by rw [hI, if_pos h35]; simp [preE]
      repeat' (first | (with_reducible rw [allocV_eq]) | (refine gdV_split (fun hc => ?_) (fun hc => ?_) <;> (try simp only [hc, ↓R1, R2, R3, R4, R5, Nat.reduceEqDiff, Nat.reduceAdd, Nat.reduceMul, Nat.reduceSub, Nat.reduceLeDiff, Nat.reduceLT, reduceIte, reduceCtorEq, Int.reduceBNe, Int.reduceBEq, u8_35, hc1, q1, q2, q3, hw])) | ((first | refine condV_split (fun hc => ?_) (fun hc => ?_) | (with_reducible intro β hβ; (try simp only [St.box_noneA, St.tip_noneA, St.tip_set, St.box_tip, St.box_lp, St.tip_lp] at hβ); (repeat (obtain ⟨⟨_, _⟩, hβ⟩ := hβ)); (try (have hbis := apart_is (by assumption) hβ; obtain ⟨_, _⟩ := hbis)))) <;> (try simp only [↓R1, R2, R3, R4, R5, Nat.reduceEqDiff, Nat.reduceAdd, Nat.reduceMul, Nat.reduceSub, Nat.reduceLeDiff, Nat.reduceLT, reduceIte, reduceCtorEq, Int.reduceBNe, Int.reduceBEq, u8_35, hc1, q1, q2, q3, hw])) | (with_reducible refine And.intro ?_ ?_; (focus (first | omega | (intros; (repeat' (with_reducible apply And.intro)) <;> first | omega | (simp only [cWd_len, List.length_append, List.length_cons, List.length_nil]; omega))))) | (with_reducible apply And.intro) | ((first | (refine AC.mono (AC.wk (a1) (wkL_refl _)) ?_; (rintro _ _ ⟨rfl, rfl⟩)) | (refine AC.mono (AC.wk (a2) (wkL_refl _)) ?_; (rintro _ _ ⟨rfl, rfl⟩))); (try simp only [↓R1, R2, R3, R4, R5, Nat.reduceEqDiff, Nat.reduceAdd, Nat.reduceMul, Nat.reduceSub, Nat.reduceLeDiff, Nat.reduceLT, reduceIte, reduceCtorEq, Int.reduceBNe, Int.reduceBEq, u8_35, hc1, q1, q2, q3, hw])))
      exact endP_intro (by simp) (by first | (simp [rvsS, rvS]; done) | (simp only [rvsS, rvS, ↓R1, R2, R3, R4, R5, Nat.reduceEqDiff, Nat.reduceAdd, Nat.reduceMul, Nat.reduceSub, Nat.reduceLeDiff, Nat.reduceLT, reduceIte, reduceCtorEq, Int.reduceBNe, Int.reduceBEq, u8_35, hc1, q1, q2, q3, hw]; try simp)) (wk_of_eq (by (simp only [resAV, rvV, List.map_cons, List.map_nil, ↓R1, R2, R3, R4, R5, Nat.reduceEqDiff, Nat.reduceAdd, Nat.reduceMul, Nat.reduceSub, Nat.reduceLeDiff, Nat.reduceLT, reduceIte, reduceCtorEq, Int.reduceBNe, Int.reduceBEq, u8_35, hc1, q1, q2, q3, hw]))) (hle i) (fin i hok)
    · have q1 : ((c.toNat : Int) != 35) = true := by rw [bne, u8_35]; simpa using h35
      rw [if_neg h35] at hI
      have hlr : (l.drop i).length - (c :: r).length = 0 := by rw [hd]; omega
      have a3 := a_word (hbS i τ pre) hd hl
      cases hw0 : wordS (c :: r) with
      | none =>
        rw [hw0] at a3 hI
        repeat' (first | (with_reducible rw [allocV_eq]) | (refine gdV_split (fun hc => ?_) (fun hc => ?_) <;> (try simp only [hc, ↓R1, R2, R3, R4, R5, Nat.reduceEqDiff, Nat.reduceAdd, Nat.reduceMul, Nat.reduceSub, Nat.reduceLeDiff, Nat.reduceLT, reduceIte, reduceCtorEq, Int.reduceBNe, Int.reduceBEq, u8_35, hc1, q1, q2, q3, hw])) | ((first | refine condV_split (fun hc => ?_) (fun hc => ?_) | (with_reducible intro β hβ; (try simp only [St.box_noneA, St.tip_noneA, St.tip_set, St.box_tip, St.box_lp, St.tip_lp] at hβ); (repeat (obtain ⟨⟨_, _⟩, hβ⟩ := hβ)); (try (have hbis := apart_is (by assumption) hβ; obtain ⟨_, _⟩ := hbis)))) <;> (try simp only [↓R1, R2, R3, R4, R5, Nat.reduceEqDiff, Nat.reduceAdd, Nat.reduceMul, Nat.reduceSub, Nat.reduceLeDiff, Nat.reduceLT, reduceIte, reduceCtorEq, Int.reduceBNe, Int.reduceBEq, u8_35, hc1, q1, q2, q3, hw])) | (with_reducible refine And.intro ?_ ?_; (focus (first | omega | (intros; (repeat' (with_reducible apply And.intro)) <;> first | omega | (simp only [cWd_len, List.length_append, List.length_cons, List.length_nil]; omega))))) | (with_reducible apply And.intro) | ((first | (refine AC.mono (AC.wk (a1) (wkL_refl _)) ?_; (rintro _ _ ⟨rfl, rfl⟩)) | (refine AC.mono (AC.wk (a2) (wkL_refl _)) ?_; (rintro _ _ ⟨rfl, rfl⟩))); (try simp only [↓R1, R2, R3, R4, R5, Nat.reduceEqDiff, Nat.reduceAdd, Nat.reduceMul, Nat.reduceSub, Nat.reduceLeDiff, Nat.reduceLT, reduceIte, reduceCtorEq, Int.reduceBNe, Int.reduceBEq, u8_35, hc1, q1, q2, q3, hw])))
        refine (AC.wk a3 (wkL_refl _)).mono ?_
        rintro _ _ ⟨p, j, rfl, rfl⟩
        rw [hset]
        simp only [wdV, ↓R1, R2, R3, R4, R5, Nat.reduceEqDiff, Nat.reduceAdd, Nat.reduceMul, Nat.reduceSub, Nat.reduceLeDiff, Nat.reduceLT, reduceIte, reduceCtorEq, Int.reduceBNe, Int.reduceBEq, u8_35, hc1, q1, q2, q3, hw]
        repeat' (first | (with_reducible rw [allocV_eq]) | (refine gdV_split (fun hc => ?_) (fun hc => ?_) <;> (try simp only [hc, ↓R1, R2, R3, R4, R5, Nat.reduceEqDiff, Nat.reduceAdd, Nat.reduceMul, Nat.reduceSub, Nat.reduceLeDiff, Nat.reduceLT, reduceIte, reduceCtorEq, Int.reduceBNe, Int.reduceBEq, u8_35, hc1, q1, q2, q3, hw])) | ((first | refine condV_split (fun hc => ?_) (fun hc => ?_) | (with_reducible intro β hβ; (try simp only [St.box_noneA, St.tip_noneA, St.tip_set, St.box_tip, St.box_lp, St.tip_lp] at hβ); (repeat (obtain ⟨⟨_, _⟩, hβ⟩ := hβ)); (try (have hbis := apart_is (by assumption) hβ; obtain ⟨_, _⟩ := hbis)))) <;> (try simp only [↓R1, R2, R3, R4, R5, Nat.reduceEqDiff, Nat.reduceAdd, Nat.reduceMul, Nat.reduceSub, Nat.reduceLeDiff, Nat.reduceLT, reduceIte, reduceCtorEq, Int.reduceBNe, Int.reduceBEq, u8_35, hc1, q1, q2, q3, hw])) | (with_reducible refine And.intro ?_ ?_; (focus (first | omega | (intros; (repeat' (with_reducible apply And.intro)) <;> first | omega | (simp only [cWd_len, List.length_append, List.length_cons, List.length_nil]; omega))))) | (with_reducible apply And.intro))
        rw [lT_box, St.box_noneA] at hβ
        obtain ⟨⟨_, _⟩, hβ⟩ := hβ
        refine endP_intro (r := .tup [.nils, .int .i64 (i : Nat), .bool false]) (by simp) (by first | (simp [rvsS, rvS]; done) | (simp only [rvsS, rvS, ↓R1, R2, R3, R4, R5, Nat.reduceEqDiff, Nat.reduceAdd, Nat.reduceMul, Nat.reduceSub, Nat.reduceLeDiff, Nat.reduceLT, reduceIte, reduceCtorEq, Int.reduceBNe, Int.reduceBEq, u8_35, hc1, q1, q2, q3, hw]; try simp)) (wk_of_eq (by (simp only [resAV, rvV, List.map_cons, List.map_nil, ↓R1, R2, R3, R4, R5, Nat.reduceEqDiff, Nat.reduceAdd, Nat.reduceMul, Nat.reduceSub, Nat.reduceLeDiff, Nat.reduceLT, reduceIte, reduceCtorEq, Int.reduceBNe, Int.reduceBEq, u8_35, hc1, q1, q2, q3, hw]))) (St.le_new (hle0 j) (by assumption)) ?_
        rw [hI]
        simp only [preE, WordsR, Nat.sub_self, Nat.add_zero, true_and]
      | some q =>
        obtain ⟨q, t, m⟩ := q
        rw [hw0] at a3 hI
        obtain ⟨hdm, hml⟩ := drop_pos ((wordS_suf hw0).trans (by rw [← hd]; exact drop_suf l i))
        have hmlen := wordS_len hw0
        have hpm : posOf l m = l.length - m.length := rfl
        have hcl : (c :: r).length = l.length - i := by rw [← hd]; simp
        repeat' (first | (with_reducible rw [allocV_eq]) | (refine gdV_split (fun hc => ?_) (fun hc => ?_) <;> (try simp only [hc, ↓R1, R2, R3, R4, R5, Nat.reduceEqDiff, Nat.reduceAdd, Nat.reduceMul, Nat.reduceSub, Nat.reduceLeDiff, Nat.reduceLT, reduceIte, reduceCtorEq, Int.reduceBNe, Int.reduceBEq, u8_35, hc1, q1, q2, q3, hw])) | ((first | refine condV_split (fun hc => ?_) (fun hc => ?_) | (with_reducible intro β hβ; (try simp only [St.box_noneA, St.tip_noneA, St.tip_set, St.box_tip, St.box_lp, St.tip_lp] at hβ); (repeat (obtain ⟨⟨_, _⟩, hβ⟩ := hβ)); (try (have hbis := apart_is (by assumption) hβ; obtain ⟨_, _⟩ := hbis)))) <;> (try simp only [↓R1, R2, R3, R4, R5, Nat.reduceEqDiff, Nat.reduceAdd, Nat.reduceMul, Nat.reduceSub, Nat.reduceLeDiff, Nat.reduceLT, reduceIte, reduceCtorEq, Int.reduceBNe, Int.reduceBEq, u8_35, hc1, q1, q2, q3, hw])) | (with_reducible refine And.intro ?_ ?_; (focus (first | omega | (intros; (repeat' (with_reducible apply And.intro)) <;> first | omega | (simp only [cWd_len, List.length_append, List.length_cons, List.length_nil]; omega))))) | (with_reducible apply And.intro) | ((first | (refine AC.mono (AC.wk (a1) (wkL_refl _)) ?_; (rintro _ _ ⟨rfl, rfl⟩)) | (refine AC.mono (AC.wk (a2) (wkL_refl _)) ?_; (rintro _ _ ⟨rfl, rfl⟩))); (try simp only [↓R1, R2, R3, R4, R5, Nat.reduceEqDiff, Nat.reduceAdd, Nat.reduceMul, Nat.reduceSub, Nat.reduceLeDiff, Nat.reduceLT, reduceIte, reduceCtorEq, Int.reduceBNe, Int.reduceBEq, u8_35, hc1, q1, q2, q3, hw])))
        refine (AC.wk a3 (wkL_refl _)).mono ?_
        rintro _ _ ⟨rfl, rfl⟩
        rw [hset]
        simp only [wdV, ↓R1, R2, R3, R4, R5, Nat.reduceEqDiff, Nat.reduceAdd, Nat.reduceMul, Nat.reduceSub, Nat.reduceLeDiff, Nat.reduceLT, reduceIte, reduceCtorEq, Int.reduceBNe, Int.reduceBEq, u8_35, hc1, q1, q2, q3, hw]
        repeat' (first | (with_reducible rw [allocV_eq]) | (refine gdV_split (fun hc => ?_) (fun hc => ?_) <;> (try simp only [hc, ↓R1, R2, R3, R4, R5, Nat.reduceEqDiff, Nat.reduceAdd, Nat.reduceMul, Nat.reduceSub, Nat.reduceLeDiff, Nat.reduceLT, reduceIte, reduceCtorEq, Int.reduceBNe, Int.reduceBEq, u8_35, hc1, q1, q2, q3, hw])) | ((first | refine condV_split (fun hc => ?_) (fun hc => ?_) | (with_reducible intro β hβ; (try simp only [St.box_noneA, St.tip_noneA, St.tip_set, St.box_tip, St.box_lp, St.tip_lp] at hβ); (repeat (obtain ⟨⟨_, _⟩, hβ⟩ := hβ)); (try (have hbis := apart_is (by assumption) hβ; obtain ⟨_, _⟩ := hbis)))) <;> (try simp only [↓R1, R2, R3, R4, R5, Nat.reduceEqDiff, Nat.reduceAdd, Nat.reduceMul, Nat.reduceSub, Nat.reduceLeDiff, Nat.reduceLT, reduceIte, reduceCtorEq, Int.reduceBNe, Int.reduceBEq, u8_35, hc1, q1, q2, q3, hw])) | (with_reducible refine And.intro ?_ ?_; (focus (first | omega | (intros; (repeat' (with_reducible apply And.intro)) <;> first | omega | (simp only [cWd_len, List.length_append, List.length_cons, List.length_nil]; omega))))) | (with_reducible apply And.intro))
        rw [lT_box, St.box_noneA] at hβ
        obtain ⟨⟨_, _⟩, hβ⟩ := hβ
        rw [lT_set, lT_set]
        refine lV_app (P := Tryd.prog) (w := ⟨q, t, i⟩) (by omega) hτ (fun τ' hτ' => ?_)
        simp only [↓R1, R2, R3, R4, R5, Nat.reduceEqDiff, Nat.reduceAdd, Nat.reduceMul, Nat.reduceSub, Nat.reduceLeDiff, Nat.reduceLT, reduceIte, reduceCtorEq, Int.reduceBNe, Int.reduceBEq, u8_35, hc1, q1, q2, q3, hw]
        have hbu : ∀ p, (lT (((σ.setBox u [.str l, .int .i64 (posOf l m : Nat)]).setBox β [.bool false, .str [], .int .i64 0]).setBox β [.bool q, .str t, .int .i64 (i : Nat)]) τ' p).box u = some [.str l, .int .i64 (posOf l m : Nat)] := fun p => by
          rw [lT_box]; simp only [↓R1, R2, R3, R4, R5, Nat.reduceEqDiff, Nat.reduceAdd, Nat.reduceMul, Nat.reduceSub, Nat.reduceLeDiff, Nat.reduceLT, reduceIte, reduceCtorEq, Int.reduceBNe, Int.reduceBEq, u8_35, hc1, q1, q2, q3, hw]
        refine (AC.wk (a_skip (hbu _) hml hl) (wkL_refl _)).mono ?_
        rintro _ _ ⟨rfl, rfl⟩
        rw [hdm, lT_set]
        simp only [↓R1, R2, R3, R4, R5, Nat.reduceEqDiff, Nat.reduceAdd, Nat.reduceMul, Nat.reduceSub, Nat.reduceLeDiff, Nat.reduceLT, reduceIte, reduceCtorEq, Int.reduceBNe, Int.reduceBEq, u8_35, hc1, q1, q2, q3, hw]
        have hsuf : m.dropWhile isBlank <:+ l := (List.dropWhile_suffix _).trans ((wordS_suf hw0).trans (by rw [← hd]; exact drop_suf l i))
        obtain ⟨hd4, hl4⟩ := drop_pos hsuf
        have hp4 : posOf l (m.dropWhile isBlank) = l.length - (m.dropWhile isBlank).length := rfl
        have hl5 := dropWhile_len isBlank m
        refine ⟨(posOf l (m.dropWhile isBlank), τ', pre ++ [⟨q, t, i⟩]), ⟨hl4, fun _ => hτ', ?_, ?_, ?_⟩, by simp [subF, slot, wk_refl], lT_le (St.le_setBox (St.le_refl _) (by rw [St.box_noneA]; exact ⟨⟨by assumption, by assumption⟩, hβ⟩)) _ _, ?_⟩
        · simp only [List.length_append, List.length_cons, List.length_nil]; omega
        · rw [hd4, dropWhile_idem]
        · rw [hI, hd4]
          simp only
          rw [preE_cons, preE_pre, wordsR_skip m]
          rw [show i + ((c :: r).length - m.length) + (m.length - (m.dropWhile isBlank).length) = posOf l (m.dropWhile isBlank) by omega]
          simp only [Nat.sub_self, Nat.add_zero]
        · simp only; omega
end Go.Proofs.YtemddijemikleaaDoor
namespace Go.Proofs.YtemddijemikleaaDoor
open Go.Abs
set_option linter.all false
set_option maxRecDepth 100000
theorem p67 (s : List UInt8) (c : UInt8) : Pu Tryd.prog 67 [.str s, .str [c]] (.int .i64 (Lib.indexByte s c)) := by
  intro σ
  refine AC.of_calls (Go.Proofs.enters_of Tryd.func67 (by kernel_rfl) rfl) ?_
  intro g w vs hI hv
  obtain ⟨v1, vs, rfl, r1, hv⟩ := hv.cons_inv
  obtain ⟨v2, vs, rfl, r2, hv⟩ := hv.cons_inv
  rw [hv.nil_inv, r1.str_inv, r2.str_inv]
  refine (Tryd.strings_Index_one ⟨s.toArray⟩ c w).mono ?_
  rintro e w' ⟨rfl, rfl⟩
  exact ⟨_, rfl, Go.RowKit.Below.refl _ _, fun g' _ => .int _ _⟩
theorem a_split (σ : St) (l : List UInt8) : AC Tryd.prog 46 [.str l, .str [10]] σ (fun r s => ∃ β0 β1 β2, σ.box β0 = none ∧ σ.box β1 = none ∧ σ.box β2 = none ∧ (Apart β1 β0 ∧ Apart β0 β1) ∧ (Apart β2 β0 ∧ Apart β0 β2) ∧ (Apart β2 β1 ∧ Apart β1 β2) ∧
    r = .fn 65 [.ptr β1 0, .ptr β0 0, .ptr β2 0] ∧ s = ((σ.setBox β0 [.str l]).setBox β1 [.str [10]]).setBox β2 [.int .i64 1]) := by
  have h : ∀ σ : St, AC Tryd.prog 56 [.str l, .str [10], .int .i64 1] σ (fun r s => ∃ β0 β1 β2, σ.box β0 = none ∧ σ.box β1 = none ∧ σ.box β2 = none ∧ (Apart β1 β0 ∧ Apart β0 β1) ∧ (Apart β2 β0 ∧ Apart β0 β2) ∧ (Apart β2 β1 ∧ Apart β1 β2) ∧
      r = .fn 65 [.ptr β1 0, .ptr β0 0, .ptr β2 0] ∧ s = ((σ.setBox β0 [.str l]).setBox β1 [.str [10]]).setBox β2 [.int .i64 1]) := fun σ => by
    (refine AC_intro c56 b56 (Nat.le_of_ble_eq_true rfl) ?_; simp only [c56, ↓R1, R2, R3, R4, R5, Nat.reduceEqDiff, Nat.reduceAdd, Nat.reduceMul, Nat.reduceSub, Nat.reduceLeDiff, Nat.reduceLT, reduceIte, reduceCtorEq, Int.reduceBNe, Int.reduceBEq])
    intro β0 h0 β1 h1 β2 h2
    simp only [St.box_noneA] at h1 h2
    refine endP_id (by simp) (by simp [rvsS, rvS]) ?_
    exact ⟨β0, β1, β2, h0, h1.2, h2.2.2, h1.1, h2.2.1, h2.1, rfl, rfl⟩
  (refine AC_intro c46 b46 (Nat.le_of_ble_eq_true rfl) ?_; simp only [c46, ↓R1, R2, R3, R4, R5, Nat.reduceEqDiff, Nat.reduceAdd, Nat.reduceMul, Nat.reduceSub, Nat.reduceLeDiff, Nat.reduceLT, reduceIte, reduceCtorEq, Int.reduceBNe, Int.reduceBEq])
  refine (AC.wk (h σ) (wkL_refl _)).mono ?_
  rintro _ _ ⟨β0, β1, β2, h0, h1, h2, h3, h4, h5, rfl, rfl⟩
  simp only [↓R1, R2, R3, R4, R5, Nat.reduceEqDiff, Nat.reduceAdd, Nat.reduceMul, Nat.reduceSub, Nat.reduceLeDiff, Nat.reduceLT, reduceIte, reduceCtorEq, Int.reduceBNe, Int.reduceBEq]
  refine endP_id (by simp) (by simp [rvsS, rvS]) ?_
  exact ⟨β0, β1, β2, h0, h1, h2, h3, h4, h5, rfl, rfl⟩
theorem cut_none {l : List UInt8} (h : afterOf l = []) : cut l = (l, none) := by simp only [cut, h]
theorem cut_some {l r : List UInt8} {c : UInt8} (h : afterOf l = c :: r) : cut l = (lineOf l ++ [10], some r) ∧ l.take ((lineOf l).length + 1) = lineOf l ++ [10] ∧ l.drop ((lineOf l).length + 1) = r ∧ (lineOf l).length + 1 ≤ l.length := by
  have h1 := line_after l
  rw [h] at h1
  have hc := after_head h
  subst hc
  have h2 : l = (lineOf l ++ [10]) ++ r := by rw [List.append_assoc]; exact h1.symm
  have hn : (lineOf l ++ [10]).length = (lineOf l).length + 1 := by simp
  refine ⟨by simp only [cut, h], ?_, ?_, ?_⟩
  · exact (congrArg (List.take _) h2).trans (List.take_left' hn)
  · exact (congrArg (List.drop _) h2).trans (List.drop_left' hn)
  · have := congrArg List.length h2
    rw [List.length_append, hn] at this; omega
-- A loop over the lines of a text: 'T g rest' is the state when 'rest' is still to come.
set_option maxHeartbeats 2000000 in
theorem RF_lines {γ : Type} {prs : List Nat} {asg body : CC} {fr : Fr} {Q : Exit → Fr → St → Prop} {β0 β1 β2 : Nat} (T : γ → List UInt8 → St) (I : γ → List UInt8 → Prop) (J : γ → Prop) (hps : prs.length = 1) (g0 : γ) (l0 : List UInt8) (h0 : I g0 l0)
    (hb0 : ∀ g r, (T g r).box β0 = some [.str r]) (hb1 : ∀ g r, (T g r).box β1 = some [.str [10]]) (hb2 : ∀ g r, (T g r).box β2 = some [.int .i64 1])
    (hs : ∀ g r r', (T g r).setBox β0 [.str r'] = T g r') (hl : ∀ g r L, (T g r).lp L = (T g0 l0).lp L) (hlen : ∀ g r, I g r → r.length ≤ 1000000)
    (hround : ∀ L r g rest, (T g0 l0).lp L = none → I g rest → aC Tryd.prog asg (putL prs [.str (cut rest).1] fr) ((T g rest).setLp L (r, fr)) (fun e fr1 σ2 => e = .normal ∧ σ2.lp L = some (r, fr) ∧ aC Tryd.prog body fr1 (σ2.setLp L (busy r, fr)) (fun e _ σ3 => σ3.lp L = some (busy r, fr) ∧ match e with
        | .normal => ∃ g', St.le ((T g' rest).setLp L (r, fr)) (σ3.setLp L (r, fr)) ∧ (match (cut rest).2 with | none => J g' | some r' => I g' r')
        | .ret => Q .ret fr ((σ3.setLp L (left r .ret, fr)).dropLp L)
        | _ => False)))
    (hend : ∀ g r, J g → Q .normal fr (T g r)) : RF Tryd.prog 65 [.ptr β1 0, .ptr β0 0, .ptr β2 0] prs asg body fr (T g0 l0) Q := by
  refine ⟨by kernel_rfl, fun L r hL hr1 hr2 hY => ?_⟩
  have hY' : ∀ g rest, I g rest → YC Tryd.prog L [.str (cut rest).1] ((T g rest).setLp L (r, fr)) (fun v s' => (v = .bool true ∧ ∃ g', (match (cut rest).2 with | none => J g' | some r' => I g' r') ∧ s' = (T g' rest).setLp L (r, fr)) ∨ (v = .bool false ∧ s'.lp L = some (left r .ret, fr) ∧ Q .ret fr (s'.dropLp L))) := fun g rest hI => by
    refine YC.weaken (hY [.str (cut rest).1] ((T g rest).setLp L (r, fr)) (fun v s => (v = .bool true ∧ ∃ g', St.le ((T g' rest).setLp L (r, fr)) s ∧ (match (cut rest).2 with | none => J g' | some r' => I g' r')) ∨ (v = .bool false ∧ s.lp L = some (left r .ret, fr) ∧ Q .ret fr (s.dropLp L))) (by simpa using hps.symm) (St.lp_same _ _ _) ?_) ?_
    · refine aC_mono _ _ _ (hround L r g rest hL hI) (fun e fr1 σ2 h => ?_)
      obtain ⟨h1, h2, h3⟩ := h
      refine ⟨h1, h2, aC_mono _ _ _ h3 (fun e2 fr2 σ3 h4 => ?_)⟩
      obtain ⟨h5, h6⟩ := h4
      refine ⟨h5, ?_⟩
      cases e2 with
      | normal => obtain ⟨g', k1, k2⟩ := h6; exact .inl ⟨rfl, g', k1, k2⟩
      | ret => exact .inr ⟨rfl, St.lp_same _ _ _, h6⟩
      | _ => exact h6.elim
    · rintro v s (⟨rfl, g', k1, k2⟩ | ⟨rfl, k1, k2⟩)
      · exact ⟨_, _, wk_refl _, k1, .inl ⟨rfl, g', k2, rfl⟩⟩
      · exact ⟨_, _, wk_refl _, St.le_refl _, .inr ⟨rfl, k1, k2⟩⟩
  have hb0' : ∀ g rest, ((T g rest).setLp L (r, fr)).box β0 = some [.str rest] := fun g rest => hb0 g rest
  have hb1' : ∀ g rest, ((T g rest).setLp L (r, fr)).box β1 = some [.str [10]] := fun g rest => hb1 g rest
  have hb2' : ∀ g rest, ((T g rest).setLp L (r, fr)).box β2 = some [.int .i64 1] := fun g rest => hb2 g rest
  have hs' : ∀ g rest r', ((T g rest).setLp L (r, fr)).setBox β0 [.str r'] = (T g r').setLp L (r, fr) := fun g rest r' => by rw [← St.setBox_setLp, hs]
  have q1 : (((1 : Nat) : Int) == 0) = false := rfl
  have q2 : True := trivial
  have q3 : True := trivial
  have q4 : True := trivial
  have q5 : True := trivial
  have q6 : True := trivial
  refine AC_intro c65 b65 (Nat.le_of_ble_eq_true rfl) ?_
  simp only [c65, hb0, hb1, hb2, List.length_cons, List.length_nil, Nat.zero_add, ↓R1, R2, R3, R4, R5, Nat.reduceEqDiff, Nat.reduceAdd, Nat.reduceMul, Nat.reduceSub, Nat.reduceLeDiff, Nat.reduceLT, reduceIte, reduceCtorEq, Int.reduceBNe, Int.reduceBEq, hb0', hb1', hb2', q1, q2, q3, q4, q5, q6]
  refine loopV_st (α := γ × List UInt8) (fun _ => [(0, .yld L), (1, .ptr β1 0), (2, .ptr β0 0), (3, .ptr β2 0)]) (fun z => (T z.1 z.2).setLp L (r, fr)) (fun z => I z.1 z.2) (fun z => z.2.length) (g0, l0) (by simp [subF, slot, wk_refl]) (St.le_refl _) h0 ?_
  rintro ⟨g, rest⟩ hI
  simp only at hI
  have hn := hlen g rest hI
  have hy := hY' g rest hI
  have hix := p67 rest 10
  simp only [hb0', hb1', hb2', ↓R1, R2, R3, R4, R5, Nat.reduceEqDiff, Nat.reduceAdd, Nat.reduceMul, Nat.reduceSub, Nat.reduceLeDiff, Nat.reduceLT, reduceIte, reduceCtorEq, Int.reduceBNe, Int.reduceBEq, hb0', hb1', hb2', q1, q2, q3, q4, q5, q6]
  rw [index_line] at hix
  cases ha : afterOf rest with
  | nil =>
    rw [ha] at hix
    rw [cut_none ha] at hy
    simp only at hix
    have q2 : decide ((-1 : Int) < 0) = true := rfl
    repeat' (first | (with_reducible rw [allocV_eq]) | (refine gdV_split (fun hc => ?_) (fun hc => ?_) <;> (try simp only [hc, ↓R1, R2, R3, R4, R5, Nat.reduceEqDiff, Nat.reduceAdd, Nat.reduceMul, Nat.reduceSub, Nat.reduceLeDiff, Nat.reduceLT, reduceIte, reduceCtorEq, Int.reduceBNe, Int.reduceBEq, hb0', hb1', hb2', q1, q2, q3, q4, q5, q6])) | ((first | refine condV_split (fun hc => ?_) (fun hc => ?_) | (with_reducible intro β hβ; (try simp only [St.box_noneA, St.tip_noneA, St.tip_set, St.box_tip, St.box_lp, St.tip_lp] at hβ); (repeat (obtain ⟨⟨_, _⟩, hβ⟩ := hβ)); (try (have hbis := apart_is (by assumption) hβ; obtain ⟨_, _⟩ := hbis))) | ((first | (refine appD_tslK (.inr rfl) rfl ?_ ?_ ?_ ?_ ?_ ?_; (first | rfl | exact St.tip_same _ _ _ | (simp only [↓R1, R2, R3, R4, R5, Nat.reduceEqDiff, Nat.reduceAdd, Nat.reduceMul, Nat.reduceSub, Nat.reduceLeDiff, Nat.reduceLT, reduceIte, reduceCtorEq, Int.reduceBNe, Int.reduceBEq, hb0', hb1', hb2', q1, q2, q3, q4, q5, q6])); (first | omega | (simp only [List.length_map, List.length_nil, List.length_cons]; omega) | (simp only [List.length_map, List.length_nil, List.length_cons])); (first | rfl | first | omega | (simp only [List.length_map, List.length_nil, List.length_cons]; omega) | (simp only [List.length_map, List.length_nil, List.length_cons]))) | (refine appV_tslK rfl ?_ ?_ ?_ ?_ ?_ ?_; (first | rfl | exact St.tip_same _ _ _ | (simp only [↓R1, R2, R3, R4, R5, Nat.reduceEqDiff, Nat.reduceAdd, Nat.reduceMul, Nat.reduceSub, Nat.reduceLeDiff, Nat.reduceLT, reduceIte, reduceCtorEq, Int.reduceBNe, Int.reduceBEq, hb0', hb1', hb2', q1, q2, q3, q4, q5, q6])); (first | omega | (simp only [List.length_map, List.length_nil, List.length_cons]; omega) | (simp only [List.length_map, List.length_nil, List.length_cons])); (first | rfl | first | omega | (simp only [List.length_map, List.length_nil, List.length_cons]; omega) | (simp only [List.length_map, List.length_nil, List.length_cons]))) | (refine appV_own ?_ ?_ ?_ ?_; exact flat_len (by intro _; rfl) _) | (refine appD_own ?_ ?_ ?_ ?_ ?_; omega; exact flat_len (by intro _; rfl) _) | (refine appV_fresh rfl trivial rfl ?_ ?_ ?_ ?_ ?_; (first | rfl | first | omega | (simp only [List.length_map, List.length_nil, List.length_cons]; omega) | (simp only [List.length_map, List.length_nil, List.length_cons])); (first | rfl | first | omega | (simp only [List.length_map, List.length_nil, List.length_cons]; omega) | (simp only [List.length_map, List.length_nil, List.length_cons]))) | (refine appD_fresh rfl trivial rfl ?_ ?_ ?_ ?_ ?_ ?_; omega; (first | rfl | first | omega | (simp only [List.length_map, List.length_nil, List.length_cons]; omega) | (simp only [List.length_map, List.length_nil, List.length_cons])); (first | rfl | first | omega | (simp only [List.length_map, List.length_nil, List.length_cons]; omega) | (simp only [List.length_map, List.length_nil, List.length_cons])))); (unfold maxLen; omega); omega)) <;> (try simp only [↓R1, R2, R3, R4, R5, Nat.reduceEqDiff, Nat.reduceAdd, Nat.reduceMul, Nat.reduceSub, Nat.reduceLeDiff, Nat.reduceLT, reduceIte, reduceCtorEq, Int.reduceBNe, Int.reduceBEq, hb0', hb1', hb2', q1, q2, q3, q4, q5, q6])) | (with_reducible refine And.intro ?_ ?_; (focus (first | omega | (intros; (repeat' (with_reducible apply And.intro)) <;> first | omega | (simp only [List.length_map]; omega))))) | (with_reducible apply And.intro) | ((first | refine Pu.to (hix) (wkL_refl _) ?_ | refine callDV_pu (hix) (wkL_refl _) ?_); (try simp only [↓R1, R2, R3, R4, R5, Nat.reduceEqDiff, Nat.reduceAdd, Nat.reduceMul, Nat.reduceSub, Nat.reduceLeDiff, Nat.reduceLT, reduceIte, reduceCtorEq, Int.reduceBNe, Int.reduceBEq, hb0', hb1', hb2', q1, q2, q3, q4, q5, q6])))
    refine YC.mono hy ?_
    rintro v s' (⟨rfl, g', hJ, rfl⟩ | ⟨rfl, h1, h2⟩)
    · simp only [↓R1, R2, R3, R4, R5, Nat.reduceEqDiff, Nat.reduceAdd, Nat.reduceMul, Nat.reduceSub, Nat.reduceLeDiff, Nat.reduceLT, reduceIte, reduceCtorEq, Int.reduceBNe, Int.reduceBEq, hb0', hb1', hb2', q1, q2, q3, q4, q5, q6]
      refine endP_id (by simp) (by simp [rvsS]) (.inl ⟨St.lp_same _ _ _, ?_⟩)
      rw [St.drop_set (by rw [hl, hL])]
      exact hend g' rest hJ
    · simp only [↓R1, R2, R3, R4, R5, Nat.reduceEqDiff, Nat.reduceAdd, Nat.reduceMul, Nat.reduceSub, Nat.reduceLeDiff, Nat.reduceLT, reduceIte, reduceCtorEq, Int.reduceBNe, Int.reduceBEq, hb0', hb1', hb2', q1, q2, q3, q4, q5, q6]
      exact endP_id (by simp) (by simp [rvsS]) (.inr (.inl ⟨h1, h2⟩))
  | cons c r' =>
    rw [ha] at hix
    simp only at hix
    obtain ⟨k1, k2, k3, k4⟩ := cut_some ha
    rw [k1] at hy
    have q2 : decide (((lineOf rest).length : Int) < 0) = false := by simp
    have q3 : IntKind.i64.wrap (((lineOf rest).length : Int) + 1) = (((lineOf rest).length + 1 : Nat) : Int) := by rw [wrap64 (by omega) (by omega)]; omega
    have q6 : IntKind.i64.wrap (((lineOf rest).length : Int) + ((1 : Nat) : Int)) = (((lineOf rest).length + 1 : Nat) : Int) := q3
    have q4 := k2
    have q5 := List.take_of_length_le (l := rest.drop ((lineOf rest).length + 1)) (i := rest.length - ((lineOf rest).length + 1)) (by simp)
    repeat' (first | (with_reducible rw [allocV_eq]) | (refine gdV_split (fun hc => ?_) (fun hc => ?_) <;> (try simp only [hc, ↓R1, R2, R3, R4, R5, Nat.reduceEqDiff, Nat.reduceAdd, Nat.reduceMul, Nat.reduceSub, Nat.reduceLeDiff, Nat.reduceLT, reduceIte, reduceCtorEq, Int.reduceBNe, Int.reduceBEq, hb0', hb1', hb2', q1, q2, q3, q4, q5, q6])) | ((first | refine condV_split (fun hc => ?_) (fun hc => ?_) | (with_reducible intro β hβ; (try simp only [St.box_noneA, St.tip_noneA, St.tip_set, St.box_tip, St.box_lp, St.tip_lp] at hβ); (repeat (obtain ⟨⟨_, _⟩, hβ⟩ := hβ)); (try (have hbis := apart_is (by assumption) hβ; obtain ⟨_, _⟩ := hbis))) | ((first | (refine appD_tslK (.inr rfl) rfl ?_ ?_ ?_ ?_ ?_ ?_; (first | rfl | exact St.tip_same _ _ _ | (simp only [↓R1, R2, R3, R4, R5, Nat.reduceEqDiff, Nat.reduceAdd, Nat.reduceMul, Nat.reduceSub, Nat.reduceLeDiff, Nat.reduceLT, reduceIte, reduceCtorEq, Int.reduceBNe, Int.reduceBEq, hb0', hb1', hb2', q1, q2, q3, q4, q5, q6])); (first | omega | (simp only [List.length_map, List.length_nil, List.length_cons]; omega) | (simp only [List.length_map, List.length_nil, List.length_cons])); (first | rfl | first | omega | (simp only [List.length_map, List.length_nil, List.length_cons]; omega) | (simp only [List.length_map, List.length_nil, List.length_cons]))) | (refine appV_tslK rfl ?_ ?_ ?_ ?_ ?_ ?_; (first | rfl | exact St.tip_same _ _ _ | (simp only [↓R1, R2, R3, R4, R5, Nat.reduceEqDiff, Nat.reduceAdd, Nat.reduceMul, Nat.reduceSub, Nat.reduceLeDiff, Nat.reduceLT, reduceIte, reduceCtorEq, Int.reduceBNe, Int.reduceBEq, hb0', hb1', hb2', q1, q2, q3, q4, q5, q6])); (first | omega | (simp only [List.length_map, List.length_nil, List.length_cons]; omega) | (simp only [List.length_map, List.length_nil, List.length_cons])); (first | rfl | first | omega | (simp only [List.length_map, List.length_nil, List.length_cons]; omega) | (simp only [List.length_map, List.length_nil, List.length_cons]))) | (refine appV_own ?_ ?_ ?_ ?_; exact flat_len (by intro _; rfl) _) | (refine appD_own ?_ ?_ ?_ ?_ ?_; omega; exact flat_len (by intro _; rfl) _) | (refine appV_fresh rfl trivial rfl ?_ ?_ ?_ ?_ ?_; (first | rfl | first | omega | (simp only [List.length_map, List.length_nil, List.length_cons]; omega) | (simp only [List.length_map, List.length_nil, List.length_cons])); (first | rfl | first | omega | (simp only [List.length_map, List.length_nil, List.length_cons]; omega) | (simp only [List.length_map, List.length_nil, List.length_cons]))) | (refine appD_fresh rfl trivial rfl ?_ ?_ ?_ ?_ ?_ ?_; omega; (first | rfl | first | omega | (simp only [List.length_map, List.length_nil, List.length_cons]; omega) | (simp only [List.length_map, List.length_nil, List.length_cons])); (first | rfl | first | omega | (simp only [List.length_map, List.length_nil, List.length_cons]; omega) | (simp only [List.length_map, List.length_nil, List.length_cons])))); (unfold maxLen; omega); omega)) <;> (try simp only [↓R1, R2, R3, R4, R5, Nat.reduceEqDiff, Nat.reduceAdd, Nat.reduceMul, Nat.reduceSub, Nat.reduceLeDiff, Nat.reduceLT, reduceIte, reduceCtorEq, Int.reduceBNe, Int.reduceBEq, hb0', hb1', hb2', q1, q2, q3, q4, q5, q6])) | (with_reducible refine And.intro ?_ ?_; (focus (first | omega | (intros; (repeat' (with_reducible apply And.intro)) <;> first | omega | (simp only [List.length_map]; omega))))) | (with_reducible apply And.intro) | ((first | refine Pu.to (hix) (wkL_refl _) ?_ | refine callDV_pu (hix) (wkL_refl _) ?_); (try simp only [↓R1, R2, R3, R4, R5, Nat.reduceEqDiff, Nat.reduceAdd, Nat.reduceMul, Nat.reduceSub, Nat.reduceLeDiff, Nat.reduceLT, reduceIte, reduceCtorEq, Int.reduceBNe, Int.reduceBEq, hb0', hb1', hb2', q1, q2, q3, q4, q5, q6])))
    all_goals first | omega | skip
    refine YC.mono hy ?_
    rintro v s' (⟨rfl, g', hJ, rfl⟩ | ⟨rfl, h1, h2⟩)
    · simp only [hb0', hb1', hb2', ↓R1, R2, R3, R4, R5, Nat.reduceEqDiff, Nat.reduceAdd, Nat.reduceMul, Nat.reduceSub, Nat.reduceLeDiff, Nat.reduceLT, reduceIte, reduceCtorEq, Int.reduceBNe, Int.reduceBEq, hb0', hb1', hb2', q1, q2, q3, q4, q5, q6]
      repeat' (first | (with_reducible rw [allocV_eq]) | (refine gdV_split (fun hc => ?_) (fun hc => ?_) <;> (try simp only [hc, ↓R1, R2, R3, R4, R5, Nat.reduceEqDiff, Nat.reduceAdd, Nat.reduceMul, Nat.reduceSub, Nat.reduceLeDiff, Nat.reduceLT, reduceIte, reduceCtorEq, Int.reduceBNe, Int.reduceBEq, hb0', hb1', hb2', q1, q2, q3, q4, q5, q6])) | ((first | refine condV_split (fun hc => ?_) (fun hc => ?_) | (with_reducible intro β hβ; (try simp only [St.box_noneA, St.tip_noneA, St.tip_set, St.box_tip, St.box_lp, St.tip_lp] at hβ); (repeat (obtain ⟨⟨_, _⟩, hβ⟩ := hβ)); (try (have hbis := apart_is (by assumption) hβ; obtain ⟨_, _⟩ := hbis))) | ((first | (refine appD_tslK (.inr rfl) rfl ?_ ?_ ?_ ?_ ?_ ?_; (first | rfl | exact St.tip_same _ _ _ | (simp only [↓R1, R2, R3, R4, R5, Nat.reduceEqDiff, Nat.reduceAdd, Nat.reduceMul, Nat.reduceSub, Nat.reduceLeDiff, Nat.reduceLT, reduceIte, reduceCtorEq, Int.reduceBNe, Int.reduceBEq, hb0', hb1', hb2', q1, q2, q3, q4, q5, q6])); (first | omega | (simp only [List.length_map, List.length_nil, List.length_cons]; omega) | (simp only [List.length_map, List.length_nil, List.length_cons])); (first | rfl | first | omega | (simp only [List.length_map, List.length_nil, List.length_cons]; omega) | (simp only [List.length_map, List.length_nil, List.length_cons]))) | (refine appV_tslK rfl ?_ ?_ ?_ ?_ ?_ ?_; (first | rfl | exact St.tip_same _ _ _ | (simp only [↓R1, R2, R3, R4, R5, Nat.reduceEqDiff, Nat.reduceAdd, Nat.reduceMul, Nat.reduceSub, Nat.reduceLeDiff, Nat.reduceLT, reduceIte, reduceCtorEq, Int.reduceBNe, Int.reduceBEq, hb0', hb1', hb2', q1, q2, q3, q4, q5, q6])); (first | omega | (simp only [List.length_map, List.length_nil, List.length_cons]; omega) | (simp only [List.length_map, List.length_nil, List.length_cons])); (first | rfl | first | omega | (simp only [List.length_map, List.length_nil, List.length_cons]; omega) | (simp only [List.length_map, List.length_nil, List.length_cons]))) | (refine appV_own ?_ ?_ ?_ ?_; exact flat_len (by intro _; rfl) _) | (refine appD_own ?_ ?_ ?_ ?_ ?_; omega; exact flat_len (by intro _; rfl) _) | (refine appV_fresh rfl trivial rfl ?_ ?_ ?_ ?_ ?_; (first | rfl | first | omega | (simp only [List.length_map, List.length_nil, List.length_cons]; omega) | (simp only [List.length_map, List.length_nil, List.length_cons])); (first | rfl | first | omega | (simp only [List.length_map, List.length_nil, List.length_cons]; omega) | (simp only [List.length_map, List.length_nil, List.length_cons]))) | (refine appD_fresh rfl trivial rfl ?_ ?_ ?_ ?_ ?_ ?_; omega; (first | rfl | first | omega | (simp only [List.length_map, List.length_nil, List.length_cons]; omega) | (simp only [List.length_map, List.length_nil, List.length_cons])); (first | rfl | first | omega | (simp only [List.length_map, List.length_nil, List.length_cons]; omega) | (simp only [List.length_map, List.length_nil, List.length_cons])))); (unfold maxLen; omega); omega)) <;> (try simp only [↓R1, R2, R3, R4, R5, Nat.reduceEqDiff, Nat.reduceAdd, Nat.reduceMul, Nat.reduceSub, Nat.reduceLeDiff, Nat.reduceLT, reduceIte, reduceCtorEq, Int.reduceBNe, Int.reduceBEq, hb0', hb1', hb2', q1, q2, q3, q4, q5, q6])) | (with_reducible refine And.intro ?_ ?_; (focus (first | omega | (intros; (repeat' (with_reducible apply And.intro)) <;> first | omega | (simp only [List.length_map]; omega))))) | (with_reducible apply And.intro))
      all_goals first | omega | skip
      rw [hs', k3]
      refine ⟨(g', r'), hJ, by simp [subF, slot, wk_refl], St.le_refl _, ?_⟩
      have := congrArg List.length k3
      simp only [List.length_drop] at this
      simp only; omega
    · simp only [↓R1, R2, R3, R4, R5, Nat.reduceEqDiff, Nat.reduceAdd, Nat.reduceMul, Nat.reduceSub, Nat.reduceLeDiff, Nat.reduceLT, reduceIte, reduceCtorEq, Int.reduceBNe, Int.reduceBEq, hb0', hb1', hb2', q1, q2, q3, q4, q5, q6]
      exact endP_id (by simp) (by simp [rvsS]) (.inr (.inl ⟨h1, h2⟩))
end Go.Proofs.YtemddijemikleaaDoor
namespace Go.Proofs.YtemddijemikleaaDoor
open Go.Abs
set_option linter.all false
set_option maxRecDepth 100000
/-- A text without the line feed at its end. -/
def trim1 (l : List UInt8) : List UInt8 := if 1 ≤ l.length ∧ l.drop (l.length - 1) = [10] then l.take (l.length - 1) else l
theorem p68 (l : List UInt8) (hl : l.length ≤ 1000000) : Pu Tryd.prog 68 [.str l, .str [10]] (.bool (decide (1 ≤ l.length ∧ l.drop (l.length - 1) = [10]))) := by
  have q1 : True := trivial
  have q2 : True := trivial
  have hw : True := trivial
  by_cases h : 1 ≤ l.length
  · have q1 : decide ((((1 : Nat) : Int)) ≤ (l.length : Int)) = true := by simp; omega
    have hw : IntKind.i64.wrap ((l.length : Int) - ((1 : Nat) : Int)) = ((l.length - 1 : Nat) : Int) := by rw [wrap64 (by omega) (by omega)]; omega
    (refine Pu_intro c68 b68 (Nat.le_of_ble_eq_true rfl) fun σ => ?_; simp only [c68, ↓R1, R2, R3, R4, R5, Nat.reduceEqDiff, Nat.reduceAdd, Nat.reduceMul, Nat.reduceSub, Nat.reduceLeDiff, Nat.reduceLT, reduceIte, reduceCtorEq, Int.reduceBNe, Int.reduceBEq, hw, q1, q2])
    repeat' (first | (with_reducible rw [allocV_eq]) | (refine gdV_split (fun hc => ?_) (fun hc => ?_) <;> (try simp only [hc, ↓R1, R2, R3, R4, R5, Nat.reduceEqDiff, Nat.reduceAdd, Nat.reduceMul, Nat.reduceSub, Nat.reduceLeDiff, Nat.reduceLT, reduceIte, reduceCtorEq, Int.reduceBNe, Int.reduceBEq, hw, q1, q2])) | ((first | refine condV_split (fun hc => ?_) (fun hc => ?_) | (with_reducible intro β hβ; (try simp only [St.box_noneA, St.tip_noneA, St.tip_set, St.box_tip, St.box_lp, St.tip_lp] at hβ); (repeat (obtain ⟨⟨_, _⟩, hβ⟩ := hβ)); (try (have hbis := apart_is (by assumption) hβ; obtain ⟨_, _⟩ := hbis)))) <;> (try simp only [↓R1, R2, R3, R4, R5, Nat.reduceEqDiff, Nat.reduceAdd, Nat.reduceMul, Nat.reduceSub, Nat.reduceLeDiff, Nat.reduceLT, reduceIte, reduceCtorEq, Int.reduceBNe, Int.reduceBEq, hw, q1, q2])) | (with_reducible refine And.intro ?_ ?_; (focus (first | omega | (intros; (repeat' (with_reducible apply And.intro)) <;> first | omega | (simp only [cWd_len, List.length_append, List.length_cons, List.length_nil]; omega))))) | (with_reducible apply And.intro))
    all_goals first | omega | skip
    (refine endP_pu (by simp) (by first | (simp [rvsS, rvS]; done) | (simp only [rvsS, rvS, ↓R1, R2, R3, R4, R5, Nat.reduceEqDiff, Nat.reduceAdd, Nat.reduceMul, Nat.reduceSub, Nat.reduceLeDiff, Nat.reduceLT, reduceIte, reduceCtorEq, Int.reduceBNe, Int.reduceBEq, hw, q1, q2]; try simp)) (wk_of_eq ?_) (by (repeat (first | exact St.le_refl _ | (refine St.le_new ?_ (by assumption)) | (refine St.le_newT ?_ (by assumption))))))
    (simp only [resAV, rvV, List.map_cons, List.map_nil, ↓R1, R2, R3, R4, R5, Nat.reduceEqDiff, Nat.reduceAdd, Nat.reduceMul, Nat.reduceSub, Nat.reduceLeDiff, Nat.reduceLT, reduceIte, reduceCtorEq, Int.reduceBNe, Int.reduceBEq, hw, q1, q2])
    have e : (l.drop (l.length - 1)).take (l.length - (l.length - 1)) = l.drop (l.length - 1) := List.take_of_length_le (by simp)
    rw [e]
    by_cases h2 : l.drop (l.length - 1) = [10] <;> simp [h, h2]
  · have q1 : decide ((((1 : Nat) : Int)) ≤ (l.length : Int)) = false := by simp; omega
    (refine Pu_intro c68 b68 (Nat.le_of_ble_eq_true rfl) fun σ => ?_; simp only [c68, ↓R1, R2, R3, R4, R5, Nat.reduceEqDiff, Nat.reduceAdd, Nat.reduceMul, Nat.reduceSub, Nat.reduceLeDiff, Nat.reduceLT, reduceIte, reduceCtorEq, Int.reduceBNe, Int.reduceBEq, hw, q1, q2])
    repeat' (first | (with_reducible rw [allocV_eq]) | (refine gdV_split (fun hc => ?_) (fun hc => ?_) <;> (try simp only [hc, ↓R1, R2, R3, R4, R5, Nat.reduceEqDiff, Nat.reduceAdd, Nat.reduceMul, Nat.reduceSub, Nat.reduceLeDiff, Nat.reduceLT, reduceIte, reduceCtorEq, Int.reduceBNe, Int.reduceBEq, hw, q1, q2])) | ((first | refine condV_split (fun hc => ?_) (fun hc => ?_) | (with_reducible intro β hβ; (try simp only [St.box_noneA, St.tip_noneA, St.tip_set, St.box_tip, St.box_lp, St.tip_lp] at hβ); (repeat (obtain ⟨⟨_, _⟩, hβ⟩ := hβ)); (try (have hbis := apart_is (by assumption) hβ; obtain ⟨_, _⟩ := hbis)))) <;> (try simp only [↓R1, R2, R3, R4, R5, Nat.reduceEqDiff, Nat.reduceAdd, Nat.reduceMul, Nat.reduceSub, Nat.reduceLeDiff, Nat.reduceLT, reduceIte, reduceCtorEq, Int.reduceBNe, Int.reduceBEq, hw, q1, q2])) | (with_reducible refine And.intro ?_ ?_; (focus (first | omega | (intros; (repeat' (with_reducible apply And.intro)) <;> first | omega | (simp only [cWd_len, List.length_append, List.length_cons, List.length_nil]; omega))))) | (with_reducible apply And.intro))
    (refine endP_pu (by simp) (by first | (simp [rvsS, rvS]; done) | (simp only [rvsS, rvS, ↓R1, R2, R3, R4, R5, Nat.reduceEqDiff, Nat.reduceAdd, Nat.reduceMul, Nat.reduceSub, Nat.reduceLeDiff, Nat.reduceLT, reduceIte, reduceCtorEq, Int.reduceBNe, Int.reduceBEq, hw, q1, q2]; try simp)) (wk_of_eq ?_) (by (repeat (first | exact St.le_refl _ | (refine St.le_new ?_ (by assumption)) | (refine St.le_newT ?_ (by assumption))))))
    (simp only [resAV, rvV, List.map_cons, List.map_nil, ↓R1, R2, R3, R4, R5, Nat.reduceEqDiff, Nat.reduceAdd, Nat.reduceMul, Nat.reduceSub, Nat.reduceLeDiff, Nat.reduceLT, reduceIte, reduceCtorEq, Int.reduceBNe, Int.reduceBEq, hw, q1, q2])
    simp [h]
theorem p57 (l : List UInt8) (hl : l.length ≤ 1000000) : Pu Tryd.prog 57 [.str l, .str [10]] (.str (trim1 l)) := by
  have q1 : True := trivial
  have q2 : True := trivial
  have hw : True := trivial
  have hp := p68 l hl
  by_cases h : 1 ≤ l.length ∧ l.drop (l.length - 1) = [10]
  · have hw : IntKind.i64.wrap ((l.length : Int) - ((1 : Nat) : Int)) = ((l.length - 1 : Nat) : Int) := by rw [wrap64 (by omega) (by omega)]; omega
    rw [decide_eq_true h] at hp
    (refine Pu_intro c57 b57 (Nat.le_of_ble_eq_true rfl) fun σ => ?_; simp only [c57, ↓R1, R2, R3, R4, R5, Nat.reduceEqDiff, Nat.reduceAdd, Nat.reduceMul, Nat.reduceSub, Nat.reduceLeDiff, Nat.reduceLT, reduceIte, reduceCtorEq, Int.reduceBNe, Int.reduceBEq, hw, q1, q2])
    repeat' (first | (with_reducible rw [allocV_eq]) | (refine gdV_split (fun hc => ?_) (fun hc => ?_) <;> (try simp only [hc, ↓R1, R2, R3, R4, R5, Nat.reduceEqDiff, Nat.reduceAdd, Nat.reduceMul, Nat.reduceSub, Nat.reduceLeDiff, Nat.reduceLT, reduceIte, reduceCtorEq, Int.reduceBNe, Int.reduceBEq, hw, q1, q2])) | ((first | refine condV_split (fun hc => ?_) (fun hc => ?_) | (with_reducible intro β hβ; (try simp only [St.box_noneA, St.tip_noneA, St.tip_set, St.box_tip, St.box_lp, St.tip_lp] at hβ); (repeat (obtain ⟨⟨_, _⟩, hβ⟩ := hβ)); (try (have hbis := apart_is (by assumption) hβ; obtain ⟨_, _⟩ := hbis)))) <;> (try simp only [↓R1, R2, R3, R4, R5, Nat.reduceEqDiff, Nat.reduceAdd, Nat.reduceMul, Nat.reduceSub, Nat.reduceLeDiff, Nat.reduceLT, reduceIte, reduceCtorEq, Int.reduceBNe, Int.reduceBEq, hw, q1, q2])) | (with_reducible refine And.intro ?_ ?_; (focus (first | omega | (intros; (repeat' (with_reducible apply And.intro)) <;> first | omega | (simp only [cWd_len, List.length_append, List.length_cons, List.length_nil]; omega))))) | (with_reducible apply And.intro) | ((first | refine Pu.to (hp) (wkL_refl _) ?_ | refine callDV_pu (hp) (wkL_refl _) ?_); (try simp only [↓R1, R2, R3, R4, R5, Nat.reduceEqDiff, Nat.reduceAdd, Nat.reduceMul, Nat.reduceSub, Nat.reduceLeDiff, Nat.reduceLT, reduceIte, reduceCtorEq, Int.reduceBNe, Int.reduceBEq, hw, q1, q2])))
    repeat' (first | (with_reducible rw [allocV_eq]) | (refine gdV_split (fun hc => ?_) (fun hc => ?_) <;> (try simp only [hc, ↓R1, R2, R3, R4, R5, Nat.reduceEqDiff, Nat.reduceAdd, Nat.reduceMul, Nat.reduceSub, Nat.reduceLeDiff, Nat.reduceLT, reduceIte, reduceCtorEq, Int.reduceBNe, Int.reduceBEq, hw, q1, q2])) | ((first | refine condV_split (fun hc => ?_) (fun hc => ?_) | (with_reducible intro β hβ; (try simp only [St.box_noneA, St.tip_noneA, St.tip_set, St.box_tip, St.box_lp, St.tip_lp] at hβ); (repeat (obtain ⟨⟨_, _⟩, hβ⟩ := hβ)); (try (have hbis := apart_is (by assumption) hβ; obtain ⟨_, _⟩ := hbis)))) <;> (try simp only [↓R1, R2, R3, R4, R5, Nat.reduceEqDiff, Nat.reduceAdd, Nat.reduceMul, Nat.reduceSub, Nat.reduceLeDiff, Nat.reduceLT, reduceIte, reduceCtorEq, Int.reduceBNe, Int.reduceBEq, hw, q1, q2])) | (with_reducible refine And.intro ?_ ?_; (focus (first | omega | (intros; (repeat' (with_reducible apply And.intro)) <;> first | omega | (simp only [cWd_len, List.length_append, List.length_cons, List.length_nil]; omega))))) | (with_reducible apply And.intro))
    all_goals first | omega | skip
    (refine endP_pu (by simp) (by first | (simp [rvsS, rvS]; done) | (simp only [rvsS, rvS, ↓R1, R2, R3, R4, R5, Nat.reduceEqDiff, Nat.reduceAdd, Nat.reduceMul, Nat.reduceSub, Nat.reduceLeDiff, Nat.reduceLT, reduceIte, reduceCtorEq, Int.reduceBNe, Int.reduceBEq, hw, q1, q2]; try simp)) (wk_of_eq ?_) (by (repeat (first | exact St.le_refl _ | (refine St.le_new ?_ (by assumption)) | (refine St.le_newT ?_ (by assumption))))))
    (simp only [resAV, rvV, List.map_cons, List.map_nil, ↓R1, R2, R3, R4, R5, Nat.reduceEqDiff, Nat.reduceAdd, Nat.reduceMul, Nat.reduceSub, Nat.reduceLeDiff, Nat.reduceLT, reduceIte, reduceCtorEq, Int.reduceBNe, Int.reduceBEq, hw, q1, q2])
    simp [trim1, h]
  · rw [decide_eq_false h] at hp
    (refine Pu_intro c57 b57 (Nat.le_of_ble_eq_true rfl) fun σ => ?_; simp only [c57, ↓R1, R2, R3, R4, R5, Nat.reduceEqDiff, Nat.reduceAdd, Nat.reduceMul, Nat.reduceSub, Nat.reduceLeDiff, Nat.reduceLT, reduceIte, reduceCtorEq, Int.reduceBNe, Int.reduceBEq, hw, q1, q2])
    repeat' (first | (with_reducible rw [allocV_eq]) | (refine gdV_split (fun hc => ?_) (fun hc => ?_) <;> (try simp only [hc, ↓R1, R2, R3, R4, R5, Nat.reduceEqDiff, Nat.reduceAdd, Nat.reduceMul, Nat.reduceSub, Nat.reduceLeDiff, Nat.reduceLT, reduceIte, reduceCtorEq, Int.reduceBNe, Int.reduceBEq, hw, q1, q2])) | ((first | refine condV_split (fun hc => ?_) (fun hc => ?_) | (with_reducible intro β hβ; (try simp only [St.box_noneA, St.tip_noneA, St.tip_set, St.box_tip, St.box_lp, St.tip_lp] at hβ); (repeat (obtain ⟨⟨_, _⟩, hβ⟩ := hβ)); (try (have hbis := apart_is (by assumption) hβ; obtain ⟨_, _⟩ := hbis)))) <;> (try simp only [↓R1, R2, R3, R4, R5, Nat.reduceEqDiff, Nat.reduceAdd, Nat.reduceMul, Nat.reduceSub, Nat.reduceLeDiff, Nat.reduceLT, reduceIte, reduceCtorEq, Int.reduceBNe, Int.reduceBEq, hw, q1, q2])) | (with_reducible refine And.intro ?_ ?_; (focus (first | omega | (intros; (repeat' (with_reducible apply And.intro)) <;> first | omega | (simp only [cWd_len, List.length_append, List.length_cons, List.length_nil]; omega))))) | (with_reducible apply And.intro) | ((first | refine Pu.to (hp) (wkL_refl _) ?_ | refine callDV_pu (hp) (wkL_refl _) ?_); (try simp only [↓R1, R2, R3, R4, R5, Nat.reduceEqDiff, Nat.reduceAdd, Nat.reduceMul, Nat.reduceSub, Nat.reduceLeDiff, Nat.reduceLT, reduceIte, reduceCtorEq, Int.reduceBNe, Int.reduceBEq, hw, q1, q2])))
    (refine endP_pu (by simp) (by first | (simp [rvsS, rvS]; done) | (simp only [rvsS, rvS, ↓R1, R2, R3, R4, R5, Nat.reduceEqDiff, Nat.reduceAdd, Nat.reduceMul, Nat.reduceSub, Nat.reduceLeDiff, Nat.reduceLT, reduceIte, reduceCtorEq, Int.reduceBNe, Int.reduceBEq, hw, q1, q2]; try simp)) (wk_of_eq ?_) (by (repeat (first | exact St.le_refl _ | (refine St.le_new ?_ (by assumption)) | (refine St.le_newT ?_ (by assumption))))))
    (simp only [resAV, rvV, List.map_cons, List.map_nil, ↓R1, R2, R3, R4, R5, Nat.reduceEqDiff, Nat.reduceAdd, Nat.reduceMul, Nat.reduceSub, Nat.reduceLeDiff, Nat.reduceLT, reduceIte, reduceCtorEq, Int.reduceBNe, Int.reduceBEq, hw, q1, q2])
    simp [trim1, h]
theorem p47 (l : List UInt8) (hl : l.length ≤ 1000000) : Pu Tryd.prog 47 [.str l, .str [10]] (.str (trim1 l)) := by
  have q1 : True := trivial
  have q2 : True := trivial
  have hw : True := trivial
  (refine Pu_intro c47 b47 (Nat.le_of_ble_eq_true rfl) fun σ => ?_; simp only [c47, ↓R1, R2, R3, R4, R5, Nat.reduceEqDiff, Nat.reduceAdd, Nat.reduceMul, Nat.reduceSub, Nat.reduceLeDiff, Nat.reduceLT, reduceIte, reduceCtorEq, Int.reduceBNe, Int.reduceBEq, hw, q1, q2])
  repeat' (first | (with_reducible rw [allocV_eq]) | (refine gdV_split (fun hc => ?_) (fun hc => ?_) <;> (try simp only [hc, ↓R1, R2, R3, R4, R5, Nat.reduceEqDiff, Nat.reduceAdd, Nat.reduceMul, Nat.reduceSub, Nat.reduceLeDiff, Nat.reduceLT, reduceIte, reduceCtorEq, Int.reduceBNe, Int.reduceBEq, hw, q1, q2])) | ((first | refine condV_split (fun hc => ?_) (fun hc => ?_) | (with_reducible intro β hβ; (try simp only [St.box_noneA, St.tip_noneA, St.tip_set, St.box_tip, St.box_lp, St.tip_lp] at hβ); (repeat (obtain ⟨⟨_, _⟩, hβ⟩ := hβ)); (try (have hbis := apart_is (by assumption) hβ; obtain ⟨_, _⟩ := hbis)))) <;> (try simp only [↓R1, R2, R3, R4, R5, Nat.reduceEqDiff, Nat.reduceAdd, Nat.reduceMul, Nat.reduceSub, Nat.reduceLeDiff, Nat.reduceLT, reduceIte, reduceCtorEq, Int.reduceBNe, Int.reduceBEq, hw, q1, q2])) | (with_reducible refine And.intro ?_ ?_; (focus (first | omega | (intros; (repeat' (with_reducible apply And.intro)) <;> first | omega | (simp only [cWd_len, List.length_append, List.length_cons, List.length_nil]; omega))))) | (with_reducible apply And.intro) | ((first | refine Pu.to (p57 l hl) (wkL_refl _) ?_ | refine callDV_pu (p57 l hl) (wkL_refl _) ?_); (try simp only [↓R1, R2, R3, R4, R5, Nat.reduceEqDiff, Nat.reduceAdd, Nat.reduceMul, Nat.reduceSub, Nat.reduceLeDiff, Nat.reduceLT, reduceIte, reduceCtorEq, Int.reduceBNe, Int.reduceBEq, hw, q1, q2])))
  (refine endP_pu (by simp) (by first | (simp [rvsS, rvS]; done) | (simp only [rvsS, rvS, ↓R1, R2, R3, R4, R5, Nat.reduceEqDiff, Nat.reduceAdd, Nat.reduceMul, Nat.reduceSub, Nat.reduceLeDiff, Nat.reduceLT, reduceIte, reduceCtorEq, Int.reduceBNe, Int.reduceBEq, hw, q1, q2]; try simp)) (wk_of_eq ?_) (by (repeat (first | exact St.le_refl _ | (refine St.le_new ?_ (by assumption)) | (refine St.le_newT ?_ (by assumption))))))
  (simp only [resAV, rvV, List.map_cons, List.map_nil, ↓R1, R2, R3, R4, R5, Nat.reduceEqDiff, Nat.reduceAdd, Nat.reduceMul, Nat.reduceSub, Nat.reduceLeDiff, Nat.reduceLT, reduceIte, reduceCtorEq, Int.reduceBNe, Int.reduceBEq, hw, q1, q2])
theorem trim_line (x : List UInt8) : trim1 (x ++ [10]) = x := by
  have h1 : (x ++ [10] : List UInt8).length - 1 = x.length := by simp
  unfold trim1
  rw [h1, List.drop_left, if_pos ⟨by simp, rfl⟩, List.take_left]
theorem trim_last {l : List UInt8} (h : afterOf l = []) : trim1 l = l := by
  unfold trim1
  rw [if_neg]
  rintro ⟨h1, h2⟩
  have hl := line_after l
  rw [h, List.append_nil] at hl
  have hm : (10 : UInt8) ∈ lineOf l := by
    rw [hl]
    exact List.mem_of_mem_drop (i := l.length - 1) (by rw [h2]; simp)
  have : ∀ m : List UInt8, (10 : UInt8) ∈ lineOf m → False := by
    intro m
    induction m with
    | nil => intro h; simp [lineOf] at h
    | cons c m ih =>
      intro h
      simp only [lineOf, List.takeWhile_cons] at h
      split at h
      · rename_i hc
        rcases List.mem_cons.1 h with e | h
        · subst e; simp at hc
        · exact ih h
      · simp at h
  exact this l hm
end Go.Proofs.YtemddijemikleaaDoor
namespace Go.Proofs.YtemddijemikleaaDoor
open Go.Abs
set_option linter.all false
set_option maxRecDepth 100000
def cRw (r : Rw) : List AV := [.int .i64 (r.a : Nat), .sl false r.ws.length (r.ws.flatMap cWd)]
theorem cRw_len (l : List Rw) : (l.flatMap cRw).length = l.length * 2 := flat_len (f := cRw) (fun _ => rfl) l
def faultV (e a : Nat) : AV := .agg [.int .i64 (e : Nat), .int .i64 (a : Nat)]
/-- What row.Rows answers. -/
def rowsV : Except (Nat × Nat) (List Rw) → AV
  | .error (e, a) => .tup [.sl false 0 [], faultV e a]
  | .ok rs => .tup [.sl false rs.length (rs.flatMap cRw), faultV 0 0]
theorem bx_comm (σ : St) {β γ : Nat} [h : Apart γ β] (a b : List AV) : (σ.setBox β a).setBox γ b = (σ.setBox γ b).setBox β a := by
  simp only [St.setBox, St.mk.injEq, and_true]
  funext j
  simp only [upd]
  by_cases h1 : j = γ
  · subst h1; rw [if_pos rfl, if_neg h.ne, if_pos rfl]
  · rw [if_neg h1, if_neg h1]
theorem set_over4 (σ : St) {β γ δ ε ζ : Nat} [Apart β γ] [Apart β δ] [Apart β ε] [Apart β ζ] (a b d e f c : List AV) : (((((σ.setBox β a).setBox γ b).setBox δ d).setBox ε e).setBox ζ f).setBox β c = ((((σ.setBox β c).setBox γ b).setBox δ d).setBox ε e).setBox ζ f := by
  rw [bx_comm _ (β := ζ) (γ := β), bx_comm _ (β := ε) (γ := β), bx_comm _ (β := δ) (γ := β), bx_comm _ (β := γ) (γ := β), St.set_set]
structure RG where
  a : Nat
  rs : List Rw
def TR (σ : St) (b2 b3 b4 b5 β0 β1 β2 τ : Nat) (g : RG) (rest : List UInt8) : St :=
  (((((((((σ.setBox b2 [AV.nils]).setBox b3 [AV.int IntKind.i64 0, AV.int IntKind.i64 0]).setBox b4 [AV.nils]).setBox b5 [AV.int IntKind.i64 (g.a : Nat)]).setBox β0 [AV.str rest]).setBox β1 [AV.str [10]]).setBox β2 [AV.int IntKind.i64 1]).setBox b4 [AV.tsl τ g.rs.length (g.rs.flatMap cRw)]).setTip τ (43, 2, g.rs.length))
theorem lineRow_err {x : List UInt8} {a b : Nat} (h : ¬ 1000 < x.length) (hw : wordsS x = .error b) : lineRow x a = .error (3, a + b) := by
  simp only [lineRow, if_neg h, hw]
theorem lineRow_nil {x : List UInt8} {a : Nat} (h : ¬ 1000 < x.length) (hw : wordsS x = .ok []) : lineRow x a = .ok [] := by
  simp only [lineRow, if_neg h, hw]
theorem lineRow_cons {x : List UInt8} {a : Nat} {ws : List Wd} (h : ¬ 1000 < x.length) (hw : wordsS x = .ok ws) (hn : ws ≠ []) : lineRow x a = .ok [⟨a, ws.map (shiftW a)⟩] := by
  cases ws with
  | nil => exact (hn rfl).elim
  | cons w ws => simp only [lineRow, if_neg h, hw]
theorem words_owned (σ : St) {x : List UInt8} {ws : List Wd} (hl : x.length ≤ 1000000) (hw : wordsS x = .ok ws) (hn : ws ≠ []) :
    AC Tryd.prog 48 [.str x] σ (fun r s => ∃ β k, σ.box β = none ∧ r = .tup (.psl β 0 ws.length :: [.int .i64 0, .bool true]) ∧ s = σ.setBox β (ws.flatMap cWd ++ List.replicate k .junk)) := by
  refine AC.owned (e := 31) (es := 3) (enters_of Tryd.func48 (by kernel_rfl) rfl) (by simp [gnd]) (by simp [gnd]) ?_ (by simpa using hn) ?_
  · intro a ha
    simp only [List.mem_flatMap, cWd] at ha
    obtain ⟨w, _, hw⟩ := ha
    simp at hw
    rcases hw with rfl | rfl | rfl <;> rfl
  · have h := a_words (s0 fun _ => none) x hl
    rw [hw] at h
    refine h.mono ?_
    rintro r s ⟨τ, _, rfl, rfl⟩
    cases ws with
    | nil => exact (hn rfl).elim
    | cons w ws => exact ⟨τ, rfl, rfl⟩
end Go.Proofs.YtemddijemikleaaDoor
namespace Go.Proofs.YtemddijemikleaaDoor
open Go.Abs
set_option linter.all false
set_option maxRecDepth 100000
theorem le_lpdrop1 {s s' : St} {L : Nat} {x : Loop × Fr} (h : St.le s s') (hn : s.lp L = none) : St.le s ((s'.setLp L x).dropLp L) := by
  refine ⟨h.1, h.2.1, h.2.2.1, fun l r hr => ?_, h.2.2.2.2⟩
  have hne : l ≠ L := by rintro rfl; rw [hn] at hr; cases hr
  simp only [St.dropLp, St.setLp, upd, if_neg hne]
  exact h.2.2.2.1 _ _ hr
theorem lines_head (l : List UInt8) : lines l = lineOf l :: (match (cut l).2 with | none => [] | some r' => lines r') := by
  rw [lines_eq]
  cases ha : afterOf l with
  | nil =>
    have h1 := line_after l
    rw [ha, List.append_nil] at h1
    rw [cut_none ha, h1]
  | cons c r => rw [(cut_some ha).1]
theorem drop_new {σ : St} {γ : Nat} {c : List AV} (h : σ.box γ = none) : (σ.setBox γ c).dropBox γ = σ := by
  simp only [St.dropBox, St.setBox]
  have : (fun j => if j = γ then none else upd σ.box γ c j) = σ.box := by
    funext j
    simp only [upd]
    split
    · rename_i e; subst e; exact h.symm
    · rfl
  rw [this]
def shG (a : Nat) (ws : List Wd) (k : Nat) (j : List AV) : List AV := ((ws.take k).map (shiftW a) ++ ws.drop k).flatMap cWd ++ j
theorem shG_zero (a : Nat) (ws : List Wd) (j : List AV) : shG a ws 0 j = ws.flatMap cWd ++ j := by simp [shG]
theorem shG_all (a : Nat) (ws : List Wd) (j : List AV) : (shG a ws ws.length j).take (ws.length * 3) = (ws.map (shiftW a)).flatMap cWd := by
  have h := cWd_len (ws.map (shiftW a))
  simp only [shG, List.take_length, List.drop_length, List.append_nil]
  rw [List.take_append_of_le_length (by rw [h]; simp)]
  rw [List.take_of_length_le (by rw [h]; simp)]
theorem shG_len (a : Nat) (ws : List Wd) (k : Nat) (hk : k ≤ ws.length) (j : List AV) : (shG a ws k j).length = ws.length * 3 + j.length := by
  simp only [shG, List.length_append, cWd_len, List.length_map, List.length_take, List.length_drop]
  omega
theorem shG_at (a : Nat) (ws : List Wd) {k : Nat} (hk : k < ws.length) (j : List AV) :
    (shG a ws k j)[k * 3 + 2]? = some (.int .i64 (ws[k].a : Nat)) ∧ (shG a ws k j).take (k * 3 + 2) ++ [AV.int .i64 ((ws[k].a + a : Nat) : Int)] ++ (shG a ws k j).drop (k * 3 + 2 + 1) = shG a ws (k + 1) j := by
  obtain ⟨p, hp⟩ : ∃ p, ((ws.take k).map (shiftW a)).flatMap cWd = p := ⟨_, rfl⟩
  have hpl : p.length = k * 3 := by rw [← hp, cWd_len]; simp; omega
  obtain ⟨s, hs⟩ : ∃ s, (ws.drop (k + 1)).flatMap cWd ++ j = s := ⟨_, rfl⟩
  have e1 : shG a ws k j = (p ++ [AV.bool ws[k].q, AV.str ws[k].t]) ++ (AV.int .i64 (ws[k].a : Nat) :: s) := by
    rw [shG, List.drop_eq_getElem_cons hk, List.flatMap_append, hp, List.flatMap_cons, ← hs]
    simp [cWd]
  have e2 : shG a ws (k + 1) j = (p ++ [AV.bool ws[k].q, AV.str ws[k].t]) ++ (AV.int .i64 ((ws[k].a + a : Nat) : Int) :: s) := by
    rw [shG, ← List.take_append_getElem hk, List.map_append, List.flatMap_append, List.flatMap_append, hp, ← hs]
    simp [cWd, shiftW]
  have hl : (p ++ [AV.bool ws[k].q, AV.str ws[k].t]).length = k * 3 + 2 := by simp [hpl]
  rw [e1, e2]
  refine ⟨?_, ?_⟩
  · rw [List.getElem?_append_right (by omega), hl, Nat.sub_self]; rfl
  · rw [List.take_left' hl, List.drop_append, List.drop_of_length_le (by omega), hl]
    simp
set_option maxHeartbeats 4000000 in
theorem p25 (l : List UInt8) (hl : l.length ≤ 1000000) : Pu Tryd.prog 25 [.str l] (rowsV (rowsS l)) := by
  have q1 : True := trivial
  have q2 : True := trivial
  have q3 : True := trivial
  have q4 : True := trivial
  have q5 : True := trivial
  have hw : True := trivial
  have t2 : True := trivial
  have t3 : True := trivial
  have t4 : True := trivial
  have t5 : True := trivial
  have ttip : True := trivial
  have s5 : True := trivial
  have tl : True := trivial
  by_cases hlong : 20000 < l.length
  · have q1 : decide ((20000 : Int) < (l.length : Int)) = true := by rw [decide_eq_true_eq]; omega
    have e : rowsS l = .error (4, 20000) := by simp only [rowsS, if_pos hlong]
    rw [e]
    (refine Pu_intro c25 b25 (Nat.le_of_ble_eq_true rfl) fun σ => ?_; simp only [c25, ↓R1, R2, R3, R4, R5, Nat.reduceEqDiff, Nat.reduceAdd, Nat.reduceMul, Nat.reduceSub, Nat.reduceLeDiff, Nat.reduceLT, reduceIte, reduceCtorEq, Int.reduceBNe, Int.reduceBEq, aC_frz, frzS, frzV_none, frzV_some, q1, q2, q3, q4, q5, hw, t2, t3, t4, t5, ttip, s5, tl])
    repeat' (first | (with_reducible rw [allocV_eq]) | (refine gdV_split (fun hc => ?_) (fun hc => ?_) <;> (try simp only [hc, ↓R1, R2, R3, R4, R5, Nat.reduceEqDiff, Nat.reduceAdd, Nat.reduceMul, Nat.reduceSub, Nat.reduceLeDiff, Nat.reduceLT, reduceIte, reduceCtorEq, Int.reduceBNe, Int.reduceBEq, aC_frz, frzS, frzV_none, frzV_some, q1, q2, q3, q4, q5, hw, t2, t3, t4, t5, ttip, s5, tl])) | ((first | refine condV_split (fun hc => ?_) (fun hc => ?_) | (with_reducible intro β hβ; (try simp only [St.box_noneA, St.tip_noneA, St.tip_set, St.box_tip, St.box_lp, St.tip_lp] at hβ); (repeat (obtain ⟨⟨_, _⟩, hβ⟩ := hβ)); (try (have hbis := apart_is (by assumption) hβ; obtain ⟨_, _⟩ := hbis)))) <;> (try simp only [↓R1, R2, R3, R4, R5, Nat.reduceEqDiff, Nat.reduceAdd, Nat.reduceMul, Nat.reduceSub, Nat.reduceLeDiff, Nat.reduceLT, reduceIte, reduceCtorEq, Int.reduceBNe, Int.reduceBEq, aC_frz, frzS, frzV_none, frzV_some, q1, q2, q3, q4, q5, hw, t2, t3, t4, t5, ttip, s5, tl])) | (with_reducible refine And.intro ?_ ?_; (focus (first | omega | (intros; (repeat' (with_reducible apply And.intro)) <;> first | omega | (simp only [cWd_len, cRw_len, List.length_append, List.length_cons, List.length_nil]; omega))))) | (with_reducible apply And.intro))
    (refine endP_pu (by simp) (by first | (simp [rvsS, rvS]; done) | (simp only [rvsS, rvS, ↓R1, R2, R3, R4, R5, Nat.reduceEqDiff, Nat.reduceAdd, Nat.reduceMul, Nat.reduceSub, Nat.reduceLeDiff, Nat.reduceLT, reduceIte, reduceCtorEq, Int.reduceBNe, Int.reduceBEq, aC_frz, frzS, frzV_none, frzV_some, q1, q2, q3, q4, q5, hw, t2, t3, t4, t5, ttip, s5, tl]; try simp)) ?_ (by (repeat (first | exact St.le_refl _ | (refine St.le_new ?_ (by assumption)) | (refine St.le_newT ?_ (by assumption))))))
    simp only [resAV, rvV, List.map_cons, List.map_nil, ↓R1, R2, R3, R4, R5, Nat.reduceEqDiff, Nat.reduceAdd, Nat.reduceMul, Nat.reduceSub, Nat.reduceLeDiff, Nat.reduceLT, reduceIte, reduceCtorEq, Int.reduceBNe, Int.reduceBEq, aC_frz, frzS, frzV_none, frzV_some, q1, q2, q3, q4, q5, hw, t2, t3, t4, t5, ttip, s5, tl]
    simp only [rowsV, faultV]
    (repeat' (first | exact wk_refl _ | exact wk_nils | exact wk_tsl _ _ _ | exact wk_full _ _ | exact wkL.nil | exact wkL_refl _ | refine wk_tup ?_ | refine wk_agg ?_ | refine wkL.cons ?_ ?_))
  · have q1 : decide ((20000 : Int) < (l.length : Int)) = false := by rw [decide_eq_false_iff_not]; omega
    have e : rowsS l = rowsL (lines l) 0 := by simp only [rowsS, if_neg hlong]
    rw [e]
    (refine Pu_intro c25 b25 (Nat.le_of_ble_eq_true rfl) fun σ => ?_; simp only [c25, ↓R1, R2, R3, R4, R5, Nat.reduceEqDiff, Nat.reduceAdd, Nat.reduceMul, Nat.reduceSub, Nat.reduceLeDiff, Nat.reduceLT, reduceIte, reduceCtorEq, Int.reduceBNe, Int.reduceBEq, aC_frz, frzS, frzV_none, frzV_some, q1, q2, q3, q4, q5, hw, t2, t3, t4, t5, ttip, s5, tl])
    rw [allocV_eq]; intro b2 h2; simp only [↓R1, R2, R3, R4, R5, Nat.reduceEqDiff, Nat.reduceAdd, Nat.reduceMul, Nat.reduceSub, Nat.reduceLeDiff, Nat.reduceLT, reduceIte, reduceCtorEq, Int.reduceBNe, Int.reduceBEq, aC_frz, frzS, frzV_none, frzV_some, q1, q2, q3, q4, q5, hw, t2, t3, t4, t5, ttip, s5, tl]
    rw [allocV_eq]; intro b3 h3; rw [St.box_noneA] at h3; obtain ⟨⟨_, _⟩, h3⟩ := h3; simp only [↓R1, R2, R3, R4, R5, Nat.reduceEqDiff, Nat.reduceAdd, Nat.reduceMul, Nat.reduceSub, Nat.reduceLeDiff, Nat.reduceLT, reduceIte, reduceCtorEq, Int.reduceBNe, Int.reduceBEq, aC_frz, frzS, frzV_none, frzV_some, q1, q2, q3, q4, q5, hw, t2, t3, t4, t5, ttip, s5, tl]
    rw [allocV_eq]; intro b4 h4; simp only [St.box_noneA] at h4; obtain ⟨⟨_, _⟩, ⟨_, _⟩, h4⟩ := h4; simp only [↓R1, R2, R3, R4, R5, Nat.reduceEqDiff, Nat.reduceAdd, Nat.reduceMul, Nat.reduceSub, Nat.reduceLeDiff, Nat.reduceLT, reduceIte, reduceCtorEq, Int.reduceBNe, Int.reduceBEq, aC_frz, frzS, frzV_none, frzV_some, q1, q2, q3, q4, q5, hw, t2, t3, t4, t5, ttip, s5, tl]
    rw [allocV_eq]; intro b5 h5; simp only [St.box_noneA] at h5; obtain ⟨⟨_, _⟩, ⟨_, _⟩, ⟨_, _⟩, h5⟩ := h5; simp only [↓R1, R2, R3, R4, R5, Nat.reduceEqDiff, Nat.reduceAdd, Nat.reduceMul, Nat.reduceSub, Nat.reduceLeDiff, Nat.reduceLT, reduceIte, reduceCtorEq, Int.reduceBNe, Int.reduceBEq, aC_frz, frzS, frzV_none, frzV_some, q1, q2, q3, q4, q5, hw, t2, t3, t4, t5, ttip, s5, tl]
    refine (AC.wk (a_split _ l) (wkL_refl _)).mono ?_
    rintro _ _ ⟨β0, β1, β2, k0, k1, k2, ⟨_, _⟩, ⟨_, _⟩, ⟨_, _⟩, rfl, rfl⟩
    simp only [St.box_noneA] at k0 k1 k2
    obtain ⟨⟨_, _⟩, ⟨_, _⟩, ⟨_, _⟩, ⟨_, _⟩, ⟨_, _⟩, k0⟩ := k0
    obtain ⟨⟨_, _⟩, ⟨_, _⟩, ⟨_, _⟩, ⟨_, _⟩, ⟨_, _⟩, k1⟩ := k1
    obtain ⟨⟨_, _⟩, ⟨_, _⟩, ⟨_, _⟩, ⟨_, _⟩, ⟨_, _⟩, k2⟩ := k2
    simp only [↓R1, R2, R3, R4, R5, Nat.reduceEqDiff, Nat.reduceAdd, Nat.reduceMul, Nat.reduceSub, Nat.reduceLeDiff, Nat.reduceLT, reduceIte, reduceCtorEq, Int.reduceBNe, Int.reduceBEq, aC_frz, frzS, frzV_none, frzV_some, q1, q2, q3, q4, q5, hw, t2, t3, t4, t5, ttip, s5, tl]
    refine rfunV_start [(true, 4, 0, 43, 2)] ?_
    simp only [startP, List.set_cons_zero, ↓R1, R2, R3, R4, R5, Nat.reduceEqDiff, Nat.reduceAdd, Nat.reduceMul, Nat.reduceSub, Nat.reduceLeDiff, Nat.reduceLT, reduceIte, reduceCtorEq, Int.reduceBNe, Int.reduceBEq, aC_frz, frzS, frzV_none, frzV_some, q1, q2, q3, q4, q5, hw, t2, t3, t4, t5, ttip, s5, tl]
    intro τ hτ
    refine ⟨_, _, rfl, ?_⟩
    obtain ⟨T, hT⟩ : ∃ T, T = TR σ b2 b3 b4 b5 β0 β1 β2 τ := ⟨_, rfl⟩
    have t0 : ∀ g r, (T g r).box β0 = some [.str r] := fun g r => by subst hT; simp only [TR, ↓R1, R2, R3, R4, R5, Nat.reduceEqDiff, Nat.reduceAdd, Nat.reduceMul, Nat.reduceSub, Nat.reduceLeDiff, Nat.reduceLT, reduceIte, reduceCtorEq, Int.reduceBNe, Int.reduceBEq, aC_frz, frzS, frzV_none, frzV_some, q1, q2, q3, q4, q5, hw, t2, t3, t4, t5, ttip, s5, tl]
    have t1 : ∀ g r, (T g r).box β1 = some [.str [10]] := fun g r => by subst hT; simp only [TR, ↓R1, R2, R3, R4, R5, Nat.reduceEqDiff, Nat.reduceAdd, Nat.reduceMul, Nat.reduceSub, Nat.reduceLeDiff, Nat.reduceLT, reduceIte, reduceCtorEq, Int.reduceBNe, Int.reduceBEq, aC_frz, frzS, frzV_none, frzV_some, q1, q2, q3, q4, q5, hw, t2, t3, t4, t5, ttip, s5, tl]
    have t22 : ∀ g r, (T g r).box β2 = some [.int .i64 1] := fun g r => by subst hT; simp only [TR, ↓R1, R2, R3, R4, R5, Nat.reduceEqDiff, Nat.reduceAdd, Nat.reduceMul, Nat.reduceSub, Nat.reduceLeDiff, Nat.reduceLT, reduceIte, reduceCtorEq, Int.reduceBNe, Int.reduceBEq, aC_frz, frzS, frzV_none, frzV_some, q1, q2, q3, q4, q5, hw, t2, t3, t4, t5, ttip, s5, tl]
    have t2 : ∀ g r, (T g r).box b2 = some [.nils] := fun g r => by subst hT; simp only [TR, ↓R1, R2, R3, R4, R5, Nat.reduceEqDiff, Nat.reduceAdd, Nat.reduceMul, Nat.reduceSub, Nat.reduceLeDiff, Nat.reduceLT, reduceIte, reduceCtorEq, Int.reduceBNe, Int.reduceBEq, aC_frz, frzS, frzV_none, frzV_some, q1, q2, q3, q4, q5, hw, t2, t3, t4, t5, ttip, s5, tl]
    have t3 : ∀ g r, (T g r).box b3 = some [.int .i64 0, .int .i64 0] := fun g r => by subst hT; simp only [TR, ↓R1, R2, R3, R4, R5, Nat.reduceEqDiff, Nat.reduceAdd, Nat.reduceMul, Nat.reduceSub, Nat.reduceLeDiff, Nat.reduceLT, reduceIte, reduceCtorEq, Int.reduceBNe, Int.reduceBEq, aC_frz, frzS, frzV_none, frzV_some, q1, q2, q3, q4, q5, hw, t2, t3, t4, t5, ttip, s5, tl]
    have t4 : ∀ g r, (T g r).box b4 = some [.tsl τ g.rs.length (g.rs.flatMap cRw)] := fun g r => by subst hT; simp only [TR, ↓R1, R2, R3, R4, R5, Nat.reduceEqDiff, Nat.reduceAdd, Nat.reduceMul, Nat.reduceSub, Nat.reduceLeDiff, Nat.reduceLT, reduceIte, reduceCtorEq, Int.reduceBNe, Int.reduceBEq, aC_frz, frzS, frzV_none, frzV_some, q1, q2, q3, q4, q5, hw, t2, t3, t4, t5, ttip, s5, tl]
    have t5 : ∀ g r, (T g r).box b5 = some [.int .i64 (g.a : Nat)] := fun g r => by subst hT; simp only [TR, ↓R1, R2, R3, R4, R5, Nat.reduceEqDiff, Nat.reduceAdd, Nat.reduceMul, Nat.reduceSub, Nat.reduceLeDiff, Nat.reduceLT, reduceIte, reduceCtorEq, Int.reduceBNe, Int.reduceBEq, aC_frz, frzS, frzV_none, frzV_some, q1, q2, q3, q4, q5, hw, t2, t3, t4, t5, ttip, s5, tl]
    have ttip : ∀ g r, (T g r).tip τ = some (43, 2, g.rs.length) := fun g r => by subst hT; simp only [TR, ↓R1, R2, R3, R4, R5, Nat.reduceEqDiff, Nat.reduceAdd, Nat.reduceMul, Nat.reduceSub, Nat.reduceLeDiff, Nat.reduceLT, reduceIte, reduceCtorEq, Int.reduceBNe, Int.reduceBEq, aC_frz, frzS, frzV_none, frzV_some, q1, q2, q3, q4, q5, hw, t2, t3, t4, t5, ttip, s5, tl]
    have s0 : ∀ g r r', (T g r).setBox β0 [.str r'] = T g r' := fun g r r' => by subst hT; simp only [TR, ↓R1, R2, R3, R4, R5, Nat.reduceEqDiff, Nat.reduceAdd, Nat.reduceMul, Nat.reduceSub, Nat.reduceLeDiff, Nat.reduceLT, reduceIte, reduceCtorEq, Int.reduceBNe, Int.reduceBEq, aC_frz, frzS, frzV_none, frzV_some, q1, q2, q3, q4, q5, hw, t2, t3, t4, t5, ttip, s5, tl]
    have s5 : ∀ (g : RG) r (a' : Nat) L x, ((T g r).setLp L x).setBox b5 [.int .i64 a'] = (T ⟨a', g.rs⟩ r).setLp L x := fun g r a' L x => by
      subst hT; rw [← St.setBox_setLp]; simp only [TR, set_over4, ↓R1, R2, R3, R4, R5, Nat.reduceEqDiff, Nat.reduceAdd, Nat.reduceMul, Nat.reduceSub, Nat.reduceLeDiff, Nat.reduceLT, reduceIte, reduceCtorEq, Int.reduceBNe, Int.reduceBEq, aC_frz, frzS, frzV_none, frzV_some, q1, q2, q3, q4, q5, hw, t2, t3, t4, t5, ttip, s5, tl]
    have s4 : ∀ (g : RG) r rs' L x, (((T g r).setLp L x).setBox b4 [.tsl τ rs'.length (rs'.flatMap cRw)]).setTip τ (43, 2, rs'.length) = (T ⟨g.a, rs'⟩ r).setLp L x := fun g r rs' L x => by
      subst hT; rw [← St.setBox_setLp, ← St.setTip_setLp]; simp only [TR, ↓R1, R2, R3, R4, R5, Nat.reduceEqDiff, Nat.reduceAdd, Nat.reduceMul, Nat.reduceSub, Nat.reduceLeDiff, Nat.reduceLT, reduceIte, reduceCtorEq, Int.reduceBNe, Int.reduceBEq, aC_frz, frzS, frzV_none, frzV_some, q1, q2, q3, q4, q5, hw, t2, t3, t4, t5, ttip, s5, tl]
    have tl : ∀ g r, (T g r).lp = σ.lp := fun g r => by subst hT; rfl
    have tle : ∀ g r, St.le σ (T g r) := fun g r => by
      subst hT
      refine St.le_setTip (St.le_setBox (St.le_setBox (St.le_setBox (St.le_setBox (St.le_setBox (St.le_setBox (St.le_setBox (St.le_setBox (St.le_refl σ) h2) h3) h4) h5) k0) k1) k2) h4) hτ
    have hst : ((((((((((σ.setBox b2 [AV.nils]).setBox b3 [AV.int IntKind.i64 0, AV.int IntKind.i64 0]).setBox b4 [AV.nils]).setBox b5 [AV.int IntKind.i64 0]).setBox β0 [AV.str l]).setBox β1 [AV.str [10]]).setBox β2 [AV.int IntKind.i64 1]).setBox b4 [AV.tsl τ 0 []]).setTip τ (43, 2, 0))) = T ⟨0, []⟩ l := by
      subst hT; rfl
    rw [hst]
    clear hst
    refine RF_lines T (fun g rest => rest.length ≤ l.length ∧ g.a = l.length - rest.length ∧ g.rs.length ≤ g.a ∧ rowsL (lines l) 0 = bindR (.ok g.rs) (rowsL (lines rest) g.a)) (fun g => rowsL (lines l) 0 = .ok g.rs ∧ g.rs.length ≤ l.length + 1) rfl _ _ ⟨Nat.le_refl _, by simp, Nat.zero_le _, by rw [bindR_nil]⟩ t0 t1 t22 s0 (fun g r L => by rw [tl, tl]) (fun g r h => Nat.le_trans h.1 hl) ?_ ?_
    · rintro L r g rest hL ⟨i1, i2, i3, i4⟩
      have hL0 : σ.lp L = none := by rw [tl] at hL; exact hL
      have hcut : (trim1 (cut rest).1 = lineOf rest) ∧ (cut rest).1.length ≤ rest.length ∧ (lineOf rest).length ≤ (cut rest).1.length := by
        cases ha : afterOf rest with
        | nil =>
          have h1 := line_after rest
          rw [ha, List.append_nil] at h1
          rw [cut_none ha, h1]
          exact ⟨trim_last ha, Nat.le_refl _, Nat.le_refl _⟩
        | cons c r' =>
          obtain ⟨k1, k2, k3, k4⟩ := cut_some ha
          rw [k1]
          exact ⟨trim_line _, by simpa using k4, by simp⟩
      obtain ⟨hc1, hc2, hc3⟩ := hcut
      have hw : IntKind.i64.wrap ((g.a : Int) + ((cut rest).1.length : Int)) = ((g.a + (cut rest).1.length : Nat) : Int) := by rw [wrap64 (by omega) (by omega)]; omega
      have ht := p47 (cut rest).1 (by omega)
      rw [hc1] at ht
      have fin : ∀ nw : List Rw, lineRow (lineOf rest) g.a = .ok nw → nw.length ≤ 1 → match (cut rest).2 with
          | none => rowsL (lines l) 0 = .ok (g.rs ++ nw) ∧ (g.rs ++ nw).length ≤ l.length + 1
          | some r' => r'.length ≤ l.length ∧ g.a + (cut rest).1.length = l.length - r'.length ∧ (g.rs ++ nw).length ≤ g.a + (cut rest).1.length ∧ rowsL (lines l) 0 = bindR (.ok (g.rs ++ nw)) (rowsL (lines r') (g.a + (cut rest).1.length)) := by
        intro nw h1 h2
        rw [lines_head rest] at i4
        simp only [rowsL, h1] at i4
        rw [← bindR_assoc] at i4
        have hb : bindR (.ok g.rs) (.ok nw) = .ok (g.rs ++ nw) := rfl
        rw [hb] at i4
        have hn : (g.rs ++ nw).length ≤ g.a + 1 := by simp; omega
        cases ha : afterOf rest with
        | nil =>
          rw [cut_none ha] at i4 ⊢
          simp only [rowsL, bindR_ok_nil] at i4 ⊢
          exact ⟨i4, by omega⟩
        | cons c r' =>
          obtain ⟨k1, k2, k3, k4⟩ := cut_some ha
          rw [k1] at i4 ⊢
          have hr' : r'.length = rest.length - ((lineOf rest).length + 1) := by rw [← k3]; simp
          simp only [List.length_append, List.length_cons, List.length_nil] at i4 hn ⊢
          refine ⟨by omega, by omega, by omega, ?_⟩
          rw [i4]
          congr 2
      simp only [putL, ↓R1, R2, R3, R4, R5, Nat.reduceEqDiff, Nat.reduceAdd, Nat.reduceMul, Nat.reduceSub, Nat.reduceLeDiff, Nat.reduceLT, reduceIte, reduceCtorEq, Int.reduceBNe, Int.reduceBEq, aC_frz, frzS, frzV_none, frzV_some, q1, q2, q3, q4, q5, hw, t2, t3, t4, t5, ttip, s5, tl]
      by_cases h1000 : 1000 < (lineOf rest).length
      · have q2 : decide ((1000 : Int) < ((lineOf rest).length : Int)) = true := by rw [decide_eq_true_eq]; omega
        have hrr : rowsL (lines l) 0 = .error (4, g.a) := by rw [i4, lines_head]; simp only [rowsL, lineRow, if_pos h1000, bindR]
        repeat' (first | (with_reducible rw [allocV_eq]) | (refine gdV_split (fun hc => ?_) (fun hc => ?_) <;> (try simp only [hc, ↓R1, R2, R3, R4, R5, Nat.reduceEqDiff, Nat.reduceAdd, Nat.reduceMul, Nat.reduceSub, Nat.reduceLeDiff, Nat.reduceLT, reduceIte, reduceCtorEq, Int.reduceBNe, Int.reduceBEq, aC_frz, frzS, frzV_none, frzV_some, q1, q2, q3, q4, q5, hw, t2, t3, t4, t5, ttip, s5, tl])) | ((first | refine condV_split (fun hc => ?_) (fun hc => ?_) | (with_reducible intro β hβ; (try simp only [St.box_noneA, St.tip_noneA, St.tip_set, St.box_tip, St.box_lp, St.tip_lp] at hβ); (repeat (obtain ⟨⟨_, _⟩, hβ⟩ := hβ)); (try (have hbis := apart_is (by assumption) hβ; obtain ⟨_, _⟩ := hbis)))) <;> (try simp only [↓R1, R2, R3, R4, R5, Nat.reduceEqDiff, Nat.reduceAdd, Nat.reduceMul, Nat.reduceSub, Nat.reduceLeDiff, Nat.reduceLT, reduceIte, reduceCtorEq, Int.reduceBNe, Int.reduceBEq, aC_frz, frzS, frzV_none, frzV_some, q1, q2, q3, q4, q5, hw, t2, t3, t4, t5, ttip, s5, tl])) | (with_reducible refine And.intro ?_ ?_; (focus (first | omega | (intros; (repeat' (with_reducible apply And.intro)) <;> first | omega | (simp only [cWd_len, cRw_len, List.length_append, List.length_cons, List.length_nil]; omega))))) | (with_reducible apply And.intro) | ((first | refine Pu.to (ht) (wkL_refl _) ?_ | refine callDV_pu (ht) (wkL_refl _) ?_); (try simp only [↓R1, R2, R3, R4, R5, Nat.reduceEqDiff, Nat.reduceAdd, Nat.reduceMul, Nat.reduceSub, Nat.reduceLeDiff, Nat.reduceLT, reduceIte, reduceCtorEq, Int.reduceBNe, Int.reduceBEq, aC_frz, frzS, frzV_none, frzV_some, q1, q2, q3, q4, q5, hw, t2, t3, t4, t5, ttip, s5, tl])))
        rw [hrr]
        refine endP_pu (by simp) (by first | (simp [rvsS, rvS]; done) | (simp only [rvsS, rvS, ↓R1, R2, R3, R4, R5, Nat.reduceEqDiff, Nat.reduceAdd, Nat.reduceMul, Nat.reduceSub, Nat.reduceLeDiff, Nat.reduceLT, reduceIte, reduceCtorEq, Int.reduceBNe, Int.reduceBEq, aC_frz, frzS, frzV_none, frzV_some, q1, q2, q3, q4, q5, hw, t2, t3, t4, t5, ttip, s5, tl]; try simp)) ?_ (St.le_setBox (St.le_setBox (le_lpdrop1 (tle _ _) hL0) h2) h3)
        simp only [resAV, rvV, List.map_cons, List.map_nil, ↓R1, R2, R3, R4, R5, Nat.reduceEqDiff, Nat.reduceAdd, Nat.reduceMul, Nat.reduceSub, Nat.reduceLeDiff, Nat.reduceLT, reduceIte, reduceCtorEq, Int.reduceBNe, Int.reduceBEq, aC_frz, frzS, frzV_none, frzV_some, q1, q2, q3, q4, q5, hw, t2, t3, t4, t5, ttip, s5, tl]
        simp only [rowsV, faultV]
        (repeat' (first | exact wk_refl _ | exact wk_nils | exact wk_tsl _ _ _ | exact wk_full _ _ | exact wkL.nil | exact wkL_refl _ | refine wk_tup ?_ | refine wk_agg ?_ | refine wkL.cons ?_ ?_))
      · have q2 : decide ((1000 : Int) < ((lineOf rest).length : Int)) = false := by rw [decide_eq_false_iff_not]; omega
        have hll : (lineOf rest).length ≤ 1000000 := by omega
        cases hws : wordsS (lineOf rest) with
        | error b =>
          have hrr : rowsL (lines l) 0 = .error (3, g.a + b) := by rw [i4, lines_head]; simp only [rowsL, lineRow_err h1000 hws, bindR]
          have ha : ∀ s, AC Tryd.prog 48 [.str (lineOf rest)] s (fun r s' => r = .tup [.nils, .int .i64 (b : Nat), .bool false] ∧ s' = s) := fun s => by
            have := a_words s (lineOf rest) hll
            rwa [hws] at this
          have hb : b ≤ 1000000 := by have := words_err hws; omega
          have q3 : IntKind.i64.wrap ((g.a : Int) + (b : Int)) = ((g.a + b : Nat) : Int) := by rw [wrap64 (by omega) (by omega)]; omega
          repeat' (first | (with_reducible rw [allocV_eq]) | (refine gdV_split (fun hc => ?_) (fun hc => ?_) <;> (try simp only [hc, ↓R1, R2, R3, R4, R5, Nat.reduceEqDiff, Nat.reduceAdd, Nat.reduceMul, Nat.reduceSub, Nat.reduceLeDiff, Nat.reduceLT, reduceIte, reduceCtorEq, Int.reduceBNe, Int.reduceBEq, aC_frz, frzS, frzV_none, frzV_some, q1, q2, q3, q4, q5, hw, t2, t3, t4, t5, ttip, s5, tl])) | ((first | refine condV_split (fun hc => ?_) (fun hc => ?_) | (with_reducible intro β hβ; (try simp only [St.box_noneA, St.tip_noneA, St.tip_set, St.box_tip, St.box_lp, St.tip_lp] at hβ); (repeat (obtain ⟨⟨_, _⟩, hβ⟩ := hβ)); (try (have hbis := apart_is (by assumption) hβ; obtain ⟨_, _⟩ := hbis)))) <;> (try simp only [↓R1, R2, R3, R4, R5, Nat.reduceEqDiff, Nat.reduceAdd, Nat.reduceMul, Nat.reduceSub, Nat.reduceLeDiff, Nat.reduceLT, reduceIte, reduceCtorEq, Int.reduceBNe, Int.reduceBEq, aC_frz, frzS, frzV_none, frzV_some, q1, q2, q3, q4, q5, hw, t2, t3, t4, t5, ttip, s5, tl])) | (with_reducible refine And.intro ?_ ?_; (focus (first | omega | (intros; (repeat' (with_reducible apply And.intro)) <;> first | omega | (simp only [cWd_len, cRw_len, List.length_append, List.length_cons, List.length_nil]; omega))))) | (with_reducible apply And.intro) | ((first | refine Pu.to (ht) (wkL_refl _) ?_ | refine callDV_pu (ht) (wkL_refl _) ?_ | (refine AC.mono (AC.wk (ha _) (wkL_refl _)) ?_; (rintro _ _ ⟨rfl, rfl⟩))); (try simp only [↓R1, R2, R3, R4, R5, Nat.reduceEqDiff, Nat.reduceAdd, Nat.reduceMul, Nat.reduceSub, Nat.reduceLeDiff, Nat.reduceLT, reduceIte, reduceCtorEq, Int.reduceBNe, Int.reduceBEq, aC_frz, frzS, frzV_none, frzV_some, q1, q2, q3, q4, q5, hw, t2, t3, t4, t5, ttip, s5, tl])))
          rw [hrr]
          refine endP_pu (by simp) (by first | (simp [rvsS, rvS]; done) | (simp only [rvsS, rvS, ↓R1, R2, R3, R4, R5, Nat.reduceEqDiff, Nat.reduceAdd, Nat.reduceMul, Nat.reduceSub, Nat.reduceLeDiff, Nat.reduceLT, reduceIte, reduceCtorEq, Int.reduceBNe, Int.reduceBEq, aC_frz, frzS, frzV_none, frzV_some, q1, q2, q3, q4, q5, hw, t2, t3, t4, t5, ttip, s5, tl]; try simp)) ?_ (St.le_setBox (St.le_setBox (le_lpdrop1 (tle _ _) hL0) h2) h3)
          simp only [resAV, rvV, List.map_cons, List.map_nil, ↓R1, R2, R3, R4, R5, Nat.reduceEqDiff, Nat.reduceAdd, Nat.reduceMul, Nat.reduceSub, Nat.reduceLeDiff, Nat.reduceLT, reduceIte, reduceCtorEq, Int.reduceBNe, Int.reduceBEq, aC_frz, frzS, frzV_none, frzV_some, q1, q2, q3, q4, q5, hw, t2, t3, t4, t5, ttip, s5, tl]
          simp only [rowsV, faultV]
          (repeat' (first | exact wk_refl _ | exact wk_nils | exact wk_tsl _ _ _ | exact wk_full _ _ | exact wkL.nil | exact wkL_refl _ | refine wk_tup ?_ | refine wk_agg ?_ | refine wkL.cons ?_ ?_))
        | ok ws =>
          by_cases hne : ws = []
          · subst hne
            have hrr := lineRow_nil (a := g.a) h1000 hws
            have ha : ∀ s, AC Tryd.prog 48 [.str (lineOf rest)] s (fun r s' => r = .tup [.nils, .int .i64 0, .bool true] ∧ s' = s) := fun s => by
              have := a_words s (lineOf rest) hll
              rw [hws] at this
              refine this.mono ?_
              rintro r s' ⟨τ', _, rfl, rfl⟩
              exact ⟨rfl, rfl⟩
            have q3 : decide (((0 : Int)) < ((0 : Nat) : Int)) = false := rfl
            repeat' (first | (with_reducible rw [allocV_eq]) | (refine gdV_split (fun hc => ?_) (fun hc => ?_) <;> (try simp only [hc, ↓R1, R2, R3, R4, R5, Nat.reduceEqDiff, Nat.reduceAdd, Nat.reduceMul, Nat.reduceSub, Nat.reduceLeDiff, Nat.reduceLT, reduceIte, reduceCtorEq, Int.reduceBNe, Int.reduceBEq, aC_frz, frzS, frzV_none, frzV_some, q1, q2, q3, q4, q5, hw, t2, t3, t4, t5, ttip, s5, tl])) | ((first | refine condV_split (fun hc => ?_) (fun hc => ?_) | (with_reducible intro β hβ; (try simp only [St.box_noneA, St.tip_noneA, St.tip_set, St.box_tip, St.box_lp, St.tip_lp] at hβ); (repeat (obtain ⟨⟨_, _⟩, hβ⟩ := hβ)); (try (have hbis := apart_is (by assumption) hβ; obtain ⟨_, _⟩ := hbis)))) <;> (try simp only [↓R1, R2, R3, R4, R5, Nat.reduceEqDiff, Nat.reduceAdd, Nat.reduceMul, Nat.reduceSub, Nat.reduceLeDiff, Nat.reduceLT, reduceIte, reduceCtorEq, Int.reduceBNe, Int.reduceBEq, aC_frz, frzS, frzV_none, frzV_some, q1, q2, q3, q4, q5, hw, t2, t3, t4, t5, ttip, s5, tl])) | (with_reducible refine And.intro ?_ ?_; (focus (first | omega | (intros; (repeat' (with_reducible apply And.intro)) <;> first | omega | (simp only [cWd_len, cRw_len, List.length_append, List.length_cons, List.length_nil]; omega))))) | (with_reducible apply And.intro) | ((first | refine Pu.to (ht) (wkL_refl _) ?_ | refine callDV_pu (ht) (wkL_refl _) ?_ | (refine AC.mono (AC.wk (ha _) (wkL_refl _)) ?_; (rintro _ _ ⟨rfl, rfl⟩))); (try simp only [↓R1, R2, R3, R4, R5, Nat.reduceEqDiff, Nat.reduceAdd, Nat.reduceMul, Nat.reduceSub, Nat.reduceLeDiff, Nat.reduceLT, reduceIte, reduceCtorEq, Int.reduceBNe, Int.reduceBEq, aC_frz, frzS, frzV_none, frzV_some, q1, q2, q3, q4, q5, hw, t2, t3, t4, t5, ttip, s5, tl])))
            refine loopV_st (α := Unit) (fun _ => [(4, .ptr b4 0), (7, .int .i64 (g.a : Nat)), (8, .nils), (44, .int .i64 ((0 : Nat) : Int)), (45, .int .i64 0)]) (fun _ => _) (fun _ => True) (fun _ => 0) () (by simp [subF, slot, wk_refl]) (St.le_refl _) trivial ?_
            rintro _ _
            simp only [↓R1, R2, R3, R4, R5, Nat.reduceEqDiff, Nat.reduceAdd, Nat.reduceMul, Nat.reduceSub, Nat.reduceLeDiff, Nat.reduceLT, reduceIte, reduceCtorEq, Int.reduceBNe, Int.reduceBEq, aC_frz, frzS, frzV_none, frzV_some, q1, q2, q3, q4, q5, hw, t2, t3, t4, t5, ttip, s5, tl]
            repeat' (first | (with_reducible rw [allocV_eq]) | (refine gdV_split (fun hc => ?_) (fun hc => ?_) <;> (try simp only [hc, ↓R1, R2, R3, R4, R5, Nat.reduceEqDiff, Nat.reduceAdd, Nat.reduceMul, Nat.reduceSub, Nat.reduceLeDiff, Nat.reduceLT, reduceIte, reduceCtorEq, Int.reduceBNe, Int.reduceBEq, aC_frz, frzS, frzV_none, frzV_some, q1, q2, q3, q4, q5, hw, t2, t3, t4, t5, ttip, s5, tl])) | ((first | refine condV_split (fun hc => ?_) (fun hc => ?_) | (with_reducible intro β hβ; (try simp only [St.box_noneA, St.tip_noneA, St.tip_set, St.box_tip, St.box_lp, St.tip_lp] at hβ); (repeat (obtain ⟨⟨_, _⟩, hβ⟩ := hβ)); (try (have hbis := apart_is (by assumption) hβ; obtain ⟨_, _⟩ := hbis)))) <;> (try simp only [↓R1, R2, R3, R4, R5, Nat.reduceEqDiff, Nat.reduceAdd, Nat.reduceMul, Nat.reduceSub, Nat.reduceLeDiff, Nat.reduceLT, reduceIte, reduceCtorEq, Int.reduceBNe, Int.reduceBEq, aC_frz, frzS, frzV_none, frzV_some, q1, q2, q3, q4, q5, hw, t2, t3, t4, t5, ttip, s5, tl])) | (with_reducible refine And.intro ?_ ?_; (focus (first | omega | (intros; (repeat' (with_reducible apply And.intro)) <;> first | omega | (simp only [cWd_len, cRw_len, List.length_append, List.length_cons, List.length_nil]; omega))))) | (with_reducible apply And.intro))
            refine ⟨⟨g.a + (cut rest).1.length, g.rs⟩, St.le_refl _, ?_⟩
            have hfin := fin [] hrr (by simp)
            simp only [List.append_nil] at hfin
            exact hfin
          · have hrr := lineRow_cons (a := g.a) h1000 hws hne
            obtain ⟨hwl, hwa⟩ := words_len hws
            repeat' (first | (with_reducible rw [allocV_eq]) | (refine gdV_split (fun hc => ?_) (fun hc => ?_) <;> (try simp only [hc, ↓R1, R2, R3, R4, R5, Nat.reduceEqDiff, Nat.reduceAdd, Nat.reduceMul, Nat.reduceSub, Nat.reduceLeDiff, Nat.reduceLT, reduceIte, reduceCtorEq, Int.reduceBNe, Int.reduceBEq, aC_frz, frzS, frzV_none, frzV_some, q1, q2, q3, q4, q5, hw, t2, t3, t4, t5, ttip, s5, tl])) | ((first | refine condV_split (fun hc => ?_) (fun hc => ?_) | (with_reducible intro β hβ; (try simp only [St.box_noneA, St.tip_noneA, St.tip_set, St.box_tip, St.box_lp, St.tip_lp] at hβ); (repeat (obtain ⟨⟨_, _⟩, hβ⟩ := hβ)); (try (have hbis := apart_is (by assumption) hβ; obtain ⟨_, _⟩ := hbis)))) <;> (try simp only [↓R1, R2, R3, R4, R5, Nat.reduceEqDiff, Nat.reduceAdd, Nat.reduceMul, Nat.reduceSub, Nat.reduceLeDiff, Nat.reduceLT, reduceIte, reduceCtorEq, Int.reduceBNe, Int.reduceBEq, aC_frz, frzS, frzV_none, frzV_some, q1, q2, q3, q4, q5, hw, t2, t3, t4, t5, ttip, s5, tl])) | (with_reducible refine And.intro ?_ ?_; (focus (first | omega | (intros; (repeat' (with_reducible apply And.intro)) <;> first | omega | (simp only [cWd_len, cRw_len, List.length_append, List.length_cons, List.length_nil]; omega))))) | (with_reducible apply And.intro) | ((first | refine Pu.to (ht) (wkL_refl _) ?_ | refine callDV_pu (ht) (wkL_refl _) ?_); (try simp only [↓R1, R2, R3, R4, R5, Nat.reduceEqDiff, Nat.reduceAdd, Nat.reduceMul, Nat.reduceSub, Nat.reduceLeDiff, Nat.reduceLT, reduceIte, reduceCtorEq, Int.reduceBNe, Int.reduceBEq, aC_frz, frzS, frzV_none, frzV_some, q1, q2, q3, q4, q5, hw, t2, t3, t4, t5, ttip, s5, tl])))
            refine (AC.wk (words_owned _ hll hws hne) (wkL_refl _)).mono ?_
            rintro _ _ ⟨γ, k, hγ, rfl, rfl⟩
            simp only [St.box_noneA, St.box_lp] at hγ
            obtain ⟨⟨_, _⟩, hγ⟩ := hγ
            obtain ⟨_, _⟩ := apart_is (σ := T g rest) (β := b4) (γ := γ) ⟨t4 g rest⟩ hγ
            simp only [↓R1, R2, R3, R4, R5, Nat.reduceEqDiff, Nat.reduceAdd, Nat.reduceMul, Nat.reduceSub, Nat.reduceLeDiff, Nat.reduceLT, reduceIte, reduceCtorEq, Int.reduceBNe, Int.reduceBEq, aC_frz, frzS, frzV_none, frzV_some, q1, q2, q3, q4, q5, hw, t2, t3, t4, t5, ttip, s5, tl]
            refine loopV_for ws.length (fun i => [(4, .ptr b4 0), (7, .int .i64 (g.a : Nat)), (8, .psl γ 0 ws.length), (44, .int .i64 (ws.length : Nat)), (45, .int .i64 (i : Nat))]) (fun i => ((T ⟨g.a + (cut rest).1.length, g.rs⟩ rest).setLp L (busy r, _)).setBox γ (shG g.a ws i (List.replicate k .junk))) (fun _ => True) (by simp [subF, slot, wk_refl]) (by rw [shG_zero]; exact St.le_refl _) trivial (fun i hi _ => ?_)
            have hsl := shG_len g.a ws i hi (List.replicate k .junk)
            simp only [↓R1, R2, R3, R4, R5, Nat.reduceEqDiff, Nat.reduceAdd, Nat.reduceMul, Nat.reduceSub, Nat.reduceLeDiff, Nat.reduceLT, reduceIte, reduceCtorEq, Int.reduceBNe, Int.reduceBEq, aC_frz, frzS, frzV_none, frzV_some, q1, q2, q3, q4, q5, hw, t2, t3, t4, t5, ttip, s5, tl]
            by_cases hin : i < ws.length
            · have q3 : decide ((i : Int) < (ws.length : Int)) = true := by rw [decide_eq_true_eq]; omega
              obtain ⟨g1, g2⟩ := shG_at g.a ws hin (List.replicate k .junk)
              have hwk := hwa ws[i] (List.getElem_mem hin)
              have q4 := g1
              have hw2 : IntKind.i64.wrap ((ws[i].a : Int) + (g.a : Int)) = ((ws[i].a + g.a : Nat) : Int) := by rw [wrap64 (by omega) (by omega)]; omega
              have q5 := hw2
              simp only [q3, ↓R1, R2, R3, R4, R5, Nat.reduceEqDiff, Nat.reduceAdd, Nat.reduceMul, Nat.reduceSub, Nat.reduceLeDiff, Nat.reduceLT, reduceIte, reduceCtorEq, Int.reduceBNe, Int.reduceBEq, aC_frz, frzS, frzV_none, frzV_some, q1, q2, q3, q4, q5, hw, t2, t3, t4, t5, ttip, s5, tl]
              repeat' (first | (with_reducible rw [allocV_eq]) | (refine gdV_split (fun hc => ?_) (fun hc => ?_) <;> (try simp only [hc, ↓R1, R2, R3, R4, R5, Nat.reduceEqDiff, Nat.reduceAdd, Nat.reduceMul, Nat.reduceSub, Nat.reduceLeDiff, Nat.reduceLT, reduceIte, reduceCtorEq, Int.reduceBNe, Int.reduceBEq, aC_frz, frzS, frzV_none, frzV_some, q1, q2, q3, q4, q5, hw, t2, t3, t4, t5, ttip, s5, tl])) | ((first | refine condV_split (fun hc => ?_) (fun hc => ?_) | (with_reducible intro β hβ; (try simp only [St.box_noneA, St.tip_noneA, St.tip_set, St.box_tip, St.box_lp, St.tip_lp] at hβ); (repeat (obtain ⟨⟨_, _⟩, hβ⟩ := hβ)); (try (have hbis := apart_is (by assumption) hβ; obtain ⟨_, _⟩ := hbis)))) <;> (try simp only [↓R1, R2, R3, R4, R5, Nat.reduceEqDiff, Nat.reduceAdd, Nat.reduceMul, Nat.reduceSub, Nat.reduceLeDiff, Nat.reduceLT, reduceIte, reduceCtorEq, Int.reduceBNe, Int.reduceBEq, aC_frz, frzS, frzV_none, frzV_some, q1, q2, q3, q4, q5, hw, t2, t3, t4, t5, ttip, s5, tl])) | (with_reducible refine And.intro ?_ ?_; (focus (first | omega | (intros; (repeat' (with_reducible apply And.intro)) <;> first | omega | (simp only [cWd_len, cRw_len, List.length_append, List.length_cons, List.length_nil]; omega))))) | (with_reducible apply And.intro))
              · (simp only [subF, slot, wk_refl, ↓R1, R2, R3, R4, R5, Nat.reduceEqDiff, Nat.reduceAdd, Nat.reduceMul, Nat.reduceSub, Nat.reduceLeDiff, Nat.reduceLT, reduceIte, reduceCtorEq, Int.reduceBNe, Int.reduceBEq, aC_frz, frzS, frzV_none, frzV_some, q1, q2, q3, q4, q5, hw, t2, t3, t4, t5, ttip, s5, tl]; (repeat' (with_reducible apply And.intro)) <;> first | exact wk_k (by have := maxLen_lt; omega) | exact wk_tsl _ _ _ | exact wk_full _ _ | exact wk_of_eq (congrArg (AV.tsl _ _) (flat_step (by assumption))))
              · rw [g2]; exact St.le_refl _
            · have q3 : decide ((i : Int) < (ws.length : Int)) = false := by rw [decide_eq_false_iff_not]; omega
              have hie : i = ws.length := by omega
              subst hie
              have q4 : (ws.length * 3).ble (shG g.a ws ws.length (List.replicate k AV.junk)).length = true := Nat.ble_eq_true_of_le (by rw [hsl]; omega)
              have hwp : 0 < ws.length := List.length_pos_iff.2 hne
              simp only [q3, ↓R1, R2, R3, R4, R5, Nat.reduceEqDiff, Nat.reduceAdd, Nat.reduceMul, Nat.reduceSub, Nat.reduceLeDiff, Nat.reduceLT, reduceIte, reduceCtorEq, Int.reduceBNe, Int.reduceBEq, aC_frz, frzS, frzV_none, frzV_some, q1, q2, q3, q4, q5, hw, t2, t3, t4, t5, ttip, s5, tl]
              have hγ2 : (T ⟨g.a + (cut rest).1.length, g.rs⟩ rest).box γ = none := by
                have h : (((T g rest).setLp L (r, [])).setBox b5 [.int .i64 ((g.a + (cut rest).1.length : Nat) : Int)]).box γ = none := by
                  rw [St.box_noneA]; exact ⟨⟨by assumption, by assumption⟩, hγ⟩
                rw [s5] at h
                exact h
              rw [shG_all, drop_new (σ := (T ⟨g.a + (cut rest).1.length, g.rs⟩ rest).setLp L _) hγ2]
              have q3 : decide ((0 : Int) < (ws.length : Int)) = true := by rw [decide_eq_true_eq]; omega
              simp only [q3, ↓R1, R2, R3, R4, R5, Nat.reduceEqDiff, Nat.reduceAdd, Nat.reduceMul, Nat.reduceSub, Nat.reduceLeDiff, Nat.reduceLT, reduceIte, reduceCtorEq, Int.reduceBNe, Int.reduceBEq, aC_frz, frzS, frzV_none, frzV_some, q1, q2, q3, q4, q5, hw, t2, t3, t4, t5, ttip, s5, tl]
              repeat' (first | (with_reducible rw [allocV_eq]) | (refine gdV_split (fun hc => ?_) (fun hc => ?_) <;> (try simp only [hc, ↓R1, R2, R3, R4, R5, Nat.reduceEqDiff, Nat.reduceAdd, Nat.reduceMul, Nat.reduceSub, Nat.reduceLeDiff, Nat.reduceLT, reduceIte, reduceCtorEq, Int.reduceBNe, Int.reduceBEq, aC_frz, frzS, frzV_none, frzV_some, q1, q2, q3, q4, q5, hw, t2, t3, t4, t5, ttip, s5, tl])) | ((first | refine condV_split (fun hc => ?_) (fun hc => ?_) | (with_reducible intro β hβ; (try simp only [St.box_noneA, St.tip_noneA, St.tip_set, St.box_tip, St.box_lp, St.tip_lp] at hβ); (repeat (obtain ⟨⟨_, _⟩, hβ⟩ := hβ)); (try (have hbis := apart_is (by assumption) hβ; obtain ⟨_, _⟩ := hbis))) | ((first | (refine appD_tslK (.inr rfl) rfl ?_ ?_ ?_ ?_ ?_ ?_; (first | rfl | exact St.tip_same _ _ _ | (simp only [↓R1, R2, R3, R4, R5, Nat.reduceEqDiff, Nat.reduceAdd, Nat.reduceMul, Nat.reduceSub, Nat.reduceLeDiff, Nat.reduceLT, reduceIte, reduceCtorEq, Int.reduceBNe, Int.reduceBEq, aC_frz, frzS, frzV_none, frzV_some, q1, q2, q3, q4, q5, hw, t2, t3, t4, t5, ttip, s5, tl])); (first | omega | (simp only [cWd_len, cRw_len, List.length_append, List.length_cons, List.length_nil, List.length_nil, List.length_cons]; omega) | (simp only [cWd_len, cRw_len, List.length_append, List.length_cons, List.length_nil, List.length_nil, List.length_cons])); (first | rfl | first | omega | (simp only [cWd_len, cRw_len, List.length_append, List.length_cons, List.length_nil, List.length_nil, List.length_cons]; omega) | (simp only [cWd_len, cRw_len, List.length_append, List.length_cons, List.length_nil, List.length_nil, List.length_cons]))) | (refine appV_tslK rfl ?_ ?_ ?_ ?_ ?_ ?_; (first | rfl | exact St.tip_same _ _ _ | (simp only [↓R1, R2, R3, R4, R5, Nat.reduceEqDiff, Nat.reduceAdd, Nat.reduceMul, Nat.reduceSub, Nat.reduceLeDiff, Nat.reduceLT, reduceIte, reduceCtorEq, Int.reduceBNe, Int.reduceBEq, aC_frz, frzS, frzV_none, frzV_some, q1, q2, q3, q4, q5, hw, t2, t3, t4, t5, ttip, s5, tl])); (first | omega | (simp only [cWd_len, cRw_len, List.length_append, List.length_cons, List.length_nil, List.length_nil, List.length_cons]; omega) | (simp only [cWd_len, cRw_len, List.length_append, List.length_cons, List.length_nil, List.length_nil, List.length_cons])); (first | rfl | first | omega | (simp only [cWd_len, cRw_len, List.length_append, List.length_cons, List.length_nil, List.length_nil, List.length_cons]; omega) | (simp only [cWd_len, cRw_len, List.length_append, List.length_cons, List.length_nil, List.length_nil, List.length_cons]))) | (refine appV_own ?_ ?_ ?_ ?_; exact flat_len (by intro _; rfl) _) | (refine appD_own ?_ ?_ ?_ ?_ ?_; omega; exact flat_len (by intro _; rfl) _) | (refine appV_fresh rfl trivial rfl ?_ ?_ ?_ ?_ ?_; (first | rfl | first | omega | (simp only [cWd_len, cRw_len, List.length_append, List.length_cons, List.length_nil, List.length_nil, List.length_cons]; omega) | (simp only [cWd_len, cRw_len, List.length_append, List.length_cons, List.length_nil, List.length_nil, List.length_cons])); (first | rfl | first | omega | (simp only [cWd_len, cRw_len, List.length_append, List.length_cons, List.length_nil, List.length_nil, List.length_cons]; omega) | (simp only [cWd_len, cRw_len, List.length_append, List.length_cons, List.length_nil, List.length_nil, List.length_cons]))) | (refine appD_fresh rfl trivial rfl ?_ ?_ ?_ ?_ ?_ ?_; omega; (first | rfl | first | omega | (simp only [cWd_len, cRw_len, List.length_append, List.length_cons, List.length_nil, List.length_nil, List.length_cons]; omega) | (simp only [cWd_len, cRw_len, List.length_append, List.length_cons, List.length_nil, List.length_nil, List.length_cons])); (first | rfl | first | omega | (simp only [cWd_len, cRw_len, List.length_append, List.length_cons, List.length_nil, List.length_nil, List.length_cons]; omega) | (simp only [cWd_len, cRw_len, List.length_append, List.length_cons, List.length_nil, List.length_nil, List.length_cons])))); (unfold maxLen; omega); omega)) <;> (try simp only [↓R1, R2, R3, R4, R5, Nat.reduceEqDiff, Nat.reduceAdd, Nat.reduceMul, Nat.reduceSub, Nat.reduceLeDiff, Nat.reduceLT, reduceIte, reduceCtorEq, Int.reduceBNe, Int.reduceBEq, aC_frz, frzS, frzV_none, frzV_some, q1, q2, q3, q4, q5, hw, t2, t3, t4, t5, ttip, s5, tl])) | (with_reducible refine And.intro ?_ ?_; (focus (first | omega | (intros; (repeat' (with_reducible apply And.intro)) <;> first | omega | (simp only [cWd_len, cRw_len, List.length_append, List.length_cons, List.length_nil]; omega))))) | (with_reducible apply And.intro))
              have e1 : ([AV.tsl τ (g.rs.length + 1) (g.rs.flatMap cRw ++ [AV.int .i64 (g.a : Nat), AV.sl false ws.length ((ws.map (shiftW g.a)).flatMap cWd)])] : List AV) = [AV.tsl τ (g.rs ++ [(⟨g.a, ws.map (shiftW g.a)⟩ : Rw)]).length ((g.rs ++ [(⟨g.a, ws.map (shiftW g.a)⟩ : Rw)]).flatMap cRw)] := by
                simp [cRw]
              have e2 : g.rs.length + 1 = (g.rs ++ [(⟨g.a, ws.map (shiftW g.a)⟩ : Rw)]).length := by simp
              rw [e1, e2, s4]
              exact ⟨⟨g.a + (cut rest).1.length, g.rs ++ [⟨g.a, ws.map (shiftW g.a)⟩]⟩, St.le_refl _, fin _ hrr (by simp)⟩
    · rintro g r ⟨j1, j2⟩
      rw [j1]
      simp only [↓R1, R2, R3, R4, R5, Nat.reduceEqDiff, Nat.reduceAdd, Nat.reduceMul, Nat.reduceSub, Nat.reduceLeDiff, Nat.reduceLT, reduceIte, reduceCtorEq, Int.reduceBNe, Int.reduceBEq, aC_frz, frzS, frzV_none, frzV_some, q1, q2, q3, q4, q5, hw, t2, t3, t4, t5, ttip, s5, tl]
      have hl2 : St.le σ (((T g r).setBox b2 [AV.tsl τ g.rs.length (g.rs.flatMap cRw)]).setBox b3 [AV.int IntKind.i64 0, AV.int IntKind.i64 0]) := St.le_setBox (St.le_setBox (tle g r) h2) h3
      refine endP_pu (by simp) (by first | (simp [rvsS, rvS]; done) | (simp only [rvsS, rvS, ↓R1, R2, R3, R4, R5, Nat.reduceEqDiff, Nat.reduceAdd, Nat.reduceMul, Nat.reduceSub, Nat.reduceLeDiff, Nat.reduceLT, reduceIte, reduceCtorEq, Int.reduceBNe, Int.reduceBEq, aC_frz, frzS, frzV_none, frzV_some, q1, q2, q3, q4, q5, hw, t2, t3, t4, t5, ttip, s5, tl]; try simp)) ?_ hl2
      simp only [resAV, rvV, List.map_cons, List.map_nil, ↓R1, R2, R3, R4, R5, Nat.reduceEqDiff, Nat.reduceAdd, Nat.reduceMul, Nat.reduceSub, Nat.reduceLeDiff, Nat.reduceLT, reduceIte, reduceCtorEq, Int.reduceBNe, Int.reduceBEq, aC_frz, frzS, frzV_none, frzV_some, q1, q2, q3, q4, q5, hw, t2, t3, t4, t5, ttip, s5, tl]
      simp only [rowsV, faultV]
      (repeat' (first | exact wk_refl _ | exact wk_nils | exact wk_tsl _ _ _ | exact wk_full _ _ | exact wkL.nil | exact wkL_refl _ | refine wk_tup ?_ | refine wk_agg ?_ | refine wkL.cons ?_ ?_))
end Go.Proofs.YtemddijemikleaaDoor
namespace Go.Proofs.YtemddijemikleaaDoor
open Go.Abs
set_option linter.all false
set_option maxRecDepth 100000
theorem p27 (q : Bool) (t : List UInt8) (a : Int) : Pu Tryd.prog 27 [.bool q, .str t, .int .i64 a] (.agg [.bool q, .str t, .int .i64 a]) := by
  (refine Pu_intro c27 b27 (Nat.le_of_ble_eq_true rfl) fun σ => ?_; simp only [c27, ↓R1, R2, R3, R4, R5, Nat.reduceEqDiff, Nat.reduceAdd, Nat.reduceMul, Nat.reduceSub, Nat.reduceLeDiff, Nat.reduceLT, reduceIte, reduceCtorEq, Int.reduceBNe, Int.reduceBEq])
  repeat' (first | (with_reducible rw [allocV_eq]) | (refine gdV_split (fun hc => ?_) (fun hc => ?_) <;> (try simp only [hc, ↓R1, R2, R3, R4, R5, Nat.reduceEqDiff, Nat.reduceAdd, Nat.reduceMul, Nat.reduceSub, Nat.reduceLeDiff, Nat.reduceLT, reduceIte, reduceCtorEq, Int.reduceBNe, Int.reduceBEq])) | ((first | refine condV_split (fun hc => ?_) (fun hc => ?_) | (with_reducible intro β hβ; (try simp only [St.box_noneA, St.tip_noneA, St.tip_set, St.box_tip, St.box_lp, St.tip_lp] at hβ); (repeat (obtain ⟨⟨_, _⟩, hβ⟩ := hβ)); (try (have hbis := apart_is (by assumption) hβ; obtain ⟨_, _⟩ := hbis)))) <;> (try simp only [↓R1, R2, R3, R4, R5, Nat.reduceEqDiff, Nat.reduceAdd, Nat.reduceMul, Nat.reduceSub, Nat.reduceLeDiff, Nat.reduceLT, reduceIte, reduceCtorEq, Int.reduceBNe, Int.reduceBEq])) | (with_reducible refine And.intro ?_ ?_; (focus (first | omega | (intros; (repeat' (with_reducible apply And.intro)) <;> first | omega | (simp only [List.length_map]; omega))))) | (with_reducible apply And.intro))
  (refine endP_pu (by simp) (by first | (simp [rvsS, rvS]; done) | (simp only [rvsS, rvS, ↓R1, R2, R3, R4, R5, Nat.reduceEqDiff, Nat.reduceAdd, Nat.reduceMul, Nat.reduceSub, Nat.reduceLeDiff, Nat.reduceLT, reduceIte, reduceCtorEq, Int.reduceBNe, Int.reduceBEq]; try simp)) (wk_of_eq ?_) (by (repeat (first | exact St.le_refl _ | (refine St.le_new ?_ (by assumption)) | (refine St.le_newT ?_ (by assumption))))))
  (simp only [resAV, rvV, List.map_cons, List.map_nil, ↓R1, R2, R3, R4, R5, Nat.reduceEqDiff, Nat.reduceAdd, Nat.reduceMul, Nat.reduceSub, Nat.reduceLeDiff, Nat.reduceLT, reduceIte, reduceCtorEq, Int.reduceBNe, Int.reduceBEq])
theorem toRI_flat (rs : List Rw) : rs.flatMap cRw = (rs.map toRI).flatMap cRI := by
  induction rs with
  | nil => rfl
  | cons r rs ih =>
    simp only [List.flatMap_cons, List.map_cons, ih]
    congr 1
    simp only [cRw, cRI, toRI, List.length_map]
    congr 3
    induction r.ws with
    | nil => rfl
    | cons w ws ih2 => simp only [List.flatMap_cons, List.map_cons, ih2]; rfl
def exT : List UInt8 := [97, 32, 34, 98, 32, 99, 34, 32, 35, 32, 110, 111, 10, 32, 32, 120, 10]
def exR : List Rw := [⟨0, [⟨false, [97], 0⟩, ⟨true, [98, 32, 99], 2⟩]⟩, ⟨13, [⟨false, [120], 15⟩]⟩]
theorem ex_rows : rowsS exT = .ok exR := by kernel_rfl
theorem ex_text : textS [mkR [[97], [98, 32, 99]], mkR [[55]]] = .ok [97, 32, 34, 98, 32, 99, 34, 10, 55, 10] := by kernel_rfl
theorem light_of {l : List RI} (h : decide (l.length ≤ 1000) && (l.all fun r => decide (r.ws.length ≤ 1000) && r.ws.all fun w => decide (w.t.length ≤ 20000)) = true) : LightR l := by
  simp only [Bool.and_eq_true, List.all_eq_true, decide_eq_true_eq] at h
  exact ⟨h.1, fun r hr => ⟨(h.2 r hr).1, (h.2 r hr).2⟩⟩
theorem awake_pu : Pu Tryd.prog 10 [] (.bool true) := by
  have q1 : (((0 : Nat) : Int) == 0) = true := rfl
  have q2 : True := trivial
  have q3 : True := trivial
  have h1 := p25 exT (by decide)
  rw [ex_rows] at h1
  simp only [rowsV, faultV, toRI_flat] at h1
  have h2 := p14 (exR.map toRI) (light_of (by decide))
  have h3 := p23 [[97], [98, 32, 99]] (by decide) (by decide)
  have h4 := p23 [[55]] (by decide) (by decide)
  have h5 := p12 [mkR [[97], [98, 32, 99]], mkR [[55]]] (light_of (by decide))
  rw [ex_text] at h5
  simp only [textV, List.flatMap_cons, List.flatMap_nil, List.append_nil, cRI, mkR, List.map_cons, List.map_nil, List.cons_append, List.nil_append, List.length_cons, List.length_nil, Nat.zero_add] at h5
  simp only [cRI, mkR, List.map_cons, List.map_nil, List.flatMap_cons, List.flatMap_nil, List.append_nil, List.length_cons, List.length_nil, Nat.zero_add] at h3 h4 h5
  have hwk : wk (.sl true 2 [AV.int IntKind.i64 0, AV.sl true 2 [AV.bool false, AV.str [97], AV.int IntKind.i64 0, AV.bool true, AV.str [98, 32, 99], AV.int IntKind.i64 2], AV.int IntKind.i64 13, AV.sl true 1 [AV.bool false, AV.str [120], AV.int IntKind.i64 15]]) (.sl false (exR.map toRI).length ((exR.map toRI).flatMap cRI)) :=
    wk_trans (wk_full _ _) (wk_sl (.cons (wk_refl _) (.cons (wk_full _ _) (.cons (wk_refl _) (.cons (wk_full _ _) .nil)))))
  (refine Pu_intro c10 b10 (Nat.le_of_ble_eq_true rfl) fun σ => ?_; simp only [c10, ↓R1, R2, R3, R4, R5, Nat.reduceEqDiff, Nat.reduceAdd, Nat.reduceMul, Nat.reduceSub, Nat.reduceLeDiff, Nat.reduceLT, reduceIte, reduceCtorEq, Int.reduceBNe, Int.reduceBEq, q1, q2, q3, beq_self_eq_true])
  repeat' (first | (with_reducible rw [allocV_eq]) | (refine gdV_split (fun hc => ?_) (fun hc => ?_) <;> (try simp only [hc, ↓R1, R2, R3, R4, R5, Nat.reduceEqDiff, Nat.reduceAdd, Nat.reduceMul, Nat.reduceSub, Nat.reduceLeDiff, Nat.reduceLT, reduceIte, reduceCtorEq, Int.reduceBNe, Int.reduceBEq, q1, q2, q3, beq_self_eq_true])) | ((first | refine condV_split (fun hc => ?_) (fun hc => ?_) | (with_reducible intro β hβ; (try simp only [St.box_noneA, St.tip_noneA, St.tip_set, St.box_tip, St.box_lp, St.tip_lp] at hβ); (repeat (obtain ⟨⟨_, _⟩, hβ⟩ := hβ)); (try (have hbis := apart_is (by assumption) hβ; obtain ⟨_, _⟩ := hbis)))) <;> (try simp only [↓R1, R2, R3, R4, R5, Nat.reduceEqDiff, Nat.reduceAdd, Nat.reduceMul, Nat.reduceSub, Nat.reduceLeDiff, Nat.reduceLT, reduceIte, reduceCtorEq, Int.reduceBNe, Int.reduceBEq, q1, q2, q3, beq_self_eq_true])) | (with_reducible refine And.intro ?_ ?_; (focus (first | omega | (intros; (repeat' (with_reducible apply And.intro)) <;> first | omega | (simp only [List.length_map]; omega))))) | (with_reducible apply And.intro) | ((first | refine Pu.to (h1) (wkL_refl _) ?_ | refine callDV_pu (h1) (wkL_refl _) ?_ | refine Pu.to (p27 _ _ _) (wkL_refl _) ?_ | refine callDV_pu (p27 _ _ _) (wkL_refl _) ?_ | (refine Pu.to h2 (.cons (wk_refl _) (.cons hwk .nil)) ?_)); (try simp only [↓R1, R2, R3, R4, R5, Nat.reduceEqDiff, Nat.reduceAdd, Nat.reduceMul, Nat.reduceSub, Nat.reduceLeDiff, Nat.reduceLT, reduceIte, reduceCtorEq, Int.reduceBNe, Int.reduceBEq, q1, q2, q3, beq_self_eq_true])) | (refine Pu.to (h3) ?_ ?_; (focus ((repeat' (first | exact wk_refl _ | exact wk_nils | exact wk_tsl _ _ _ | exact wk_full _ _ | exact wkL.nil | exact wkL_refl _ | refine wk_tup ?_ | refine wk_agg ?_ | refine wkL.cons ?_ ?_)); done)); (try simp only [↓R1, R2, R3, R4, R5, Nat.reduceEqDiff, Nat.reduceAdd, Nat.reduceMul, Nat.reduceSub, Nat.reduceLeDiff, Nat.reduceLT, reduceIte, reduceCtorEq, Int.reduceBNe, Int.reduceBEq, q1, q2, q3, beq_self_eq_true])) | (refine Pu.to (h4) ?_ ?_; (focus ((repeat' (first | exact wk_refl _ | exact wk_nils | exact wk_tsl _ _ _ | exact wk_full _ _ | exact wkL.nil | exact wkL_refl _ | refine wk_tup ?_ | refine wk_agg ?_ | refine wkL.cons ?_ ?_)); done)); (try simp only [↓R1, R2, R3, R4, R5, Nat.reduceEqDiff, Nat.reduceAdd, Nat.reduceMul, Nat.reduceSub, Nat.reduceLeDiff, Nat.reduceLT, reduceIte, reduceCtorEq, Int.reduceBNe, Int.reduceBEq, q1, q2, q3, beq_self_eq_true])) | (refine Pu.to (h5) ?_ ?_; (focus ((repeat' (first | exact wk_refl _ | exact wk_nils | exact wk_tsl _ _ _ | exact wk_full _ _ | exact wkL.nil | exact wkL_refl _ | refine wk_tup ?_ | refine wk_agg ?_ | refine wkL.cons ?_ ?_)); done)); (try simp only [↓R1, R2, R3, R4, R5, Nat.reduceEqDiff, Nat.reduceAdd, Nat.reduceMul, Nat.reduceSub, Nat.reduceLeDiff, Nat.reduceLT, reduceIte, reduceCtorEq, Int.reduceBNe, Int.reduceBEq, q1, q2, q3, beq_self_eq_true])))
  (refine endP_pu (by simp) (by first | (simp [rvsS, rvS]; done) | (simp only [rvsS, rvS, ↓R1, R2, R3, R4, R5, Nat.reduceEqDiff, Nat.reduceAdd, Nat.reduceMul, Nat.reduceSub, Nat.reduceLeDiff, Nat.reduceLT, reduceIte, reduceCtorEq, Int.reduceBNe, Int.reduceBEq, q1, q2, q3, beq_self_eq_true]; try simp)) (wk_of_eq ?_) (by (repeat (first | exact St.le_refl _ | (refine St.le_new ?_ (by assumption)) | (refine St.le_newT ?_ (by assumption))))))
  (simp only [resAV, rvV, List.map_cons, List.map_nil, ↓R1, R2, R3, R4, R5, Nat.reduceEqDiff, Nat.reduceAdd, Nat.reduceMul, Nat.reduceSub, Nat.reduceLeDiff, Nat.reduceLT, reduceIte, reduceCtorEq, Int.reduceBNe, Int.reduceBEq, q1, q2, q3, beq_self_eq_true])
  all_goals rfl
end Go.Proofs.YtemddijemikleaaDoor
namespace Go.Proofs.YtemddijemikleaaDoor
open Go.Abs
set_option linter.all false
set_option maxRecDepth 100000
set_option maxHeartbeats 4000000 in
theorem p33 (l m : List RI) (hl : LightR l) (hm : LightR m) (h : l.map bodyI = m.map bodyI) : Pu Tryd.prog 33 [.sl false l.length (l.flatMap cRI), .sl false m.length (m.flatMap cRI)] (.bool true) := by
  have q1 : True := trivial
  have q2 : True := trivial
  have q3 : True := trivial
  have q4 : True := trivial
  have q5 : True := trivial
  have q6 : True := trivial
  have hw : True := trivial
  have hw2 : True := trivial
  have hd : True := trivial
  have hd2 : True := trivial
  have hd3 : True := trivial
  have hd4 : True := trivial
  have f0 : True := trivial
  have f1 : True := trivial
  have f2 : True := trivial
  have f3 : True := trivial
  have f4 : True := trivial
  have f5 : True := trivial
  have f6 : True := trivial
  have f7 : True := trivial
  obtain ⟨hl1, hl2⟩ := hl
  obtain ⟨hm1, hm2⟩ := hm
  have hlen : m.length = l.length := by have := congrArg List.length h; simpa using this.symm
  rw [hlen]
  have hcl := cRI_len l
  have hcm := cRI_len m
  (refine Pu_intro c33 b33 (Nat.le_of_ble_eq_true rfl) fun σ => ?_; simp only [c33, ↓R1, R2, R3, R4, R5, Nat.reduceEqDiff, Nat.reduceAdd, Nat.reduceMul, Nat.reduceSub, Nat.reduceLeDiff, Nat.reduceLT, reduceIte, reduceCtorEq, Int.reduceBNe, Int.reduceBEq, q1, q2, q3, q4, q5, q6, hw, hw2, hd, hd2, hd3, hd4, bne_self_eq_false, f0, f1, f2, f3, f4, f5, f6, f7, beq_self_eq_true])
  repeat' (first | (with_reducible rw [allocV_eq]) | (refine gdV_split (fun hc => ?_) (fun hc => ?_) <;> (try simp only [hc, ↓R1, R2, R3, R4, R5, Nat.reduceEqDiff, Nat.reduceAdd, Nat.reduceMul, Nat.reduceSub, Nat.reduceLeDiff, Nat.reduceLT, reduceIte, reduceCtorEq, Int.reduceBNe, Int.reduceBEq, q1, q2, q3, q4, q5, q6, hw, hw2, hd, hd2, hd3, hd4, bne_self_eq_false, f0, f1, f2, f3, f4, f5, f6, f7, beq_self_eq_true])) | ((first | refine condV_split (fun hc => ?_) (fun hc => ?_) | (with_reducible intro β hβ; (try simp only [St.box_noneA, St.tip_noneA, St.tip_set, St.box_tip, St.box_lp, St.tip_lp] at hβ); (repeat (obtain ⟨⟨_, _⟩, hβ⟩ := hβ)); (try (have hbis := apart_is (by assumption) hβ; obtain ⟨_, _⟩ := hbis)))) <;> (try simp only [↓R1, R2, R3, R4, R5, Nat.reduceEqDiff, Nat.reduceAdd, Nat.reduceMul, Nat.reduceSub, Nat.reduceLeDiff, Nat.reduceLT, reduceIte, reduceCtorEq, Int.reduceBNe, Int.reduceBEq, q1, q2, q3, q4, q5, q6, hw, hw2, hd, hd2, hd3, hd4, bne_self_eq_false, f0, f1, f2, f3, f4, f5, f6, f7, beq_self_eq_true])) | (with_reducible refine And.intro ?_ ?_; (focus (first | omega | (intros; (repeat' (with_reducible apply And.intro)) <;> first | omega | (simp only [List.length_map]; omega))))) | (with_reducible apply And.intro))
  refine loopV_for l.length (fun k => [(0, .sl false l.length (l.flatMap cRI)), (1, .sl false l.length (m.flatMap cRI)), (5, .int .i64 (k : Nat))]) (fun _ => σ) (fun _ => True) (by simp [subF, slot, wk_refl]) (St.le_refl _) trivial (fun k hk _ => ?_)
  by_cases hlt : k < l.length
  · have q1 : decide ((k : Int) < (l.length : Int)) = true := by rw [decide_eq_true_eq]; omega
    have hlm : k < m.length := by omega
    have hd := cRI_get l hlt
    have hd2 := cRI_get m hlm
    have hw : IntKind.i64.wrap ((k : Int) + 1) = ((k + 1 : Nat) : Int) := by rw [wrap64 (by omega) (by omega)]; omega
    obtain ⟨hln, hlt2⟩ := hl2 l[k] (List.getElem_mem hlt)
    have hb : bodyI l[k] = bodyI m[k] := by
      have e1 : (l.map bodyI)[k]'(by simpa using hlt) = bodyI l[k] := by simp
      have e2 : (m.map bodyI)[k]'(by simpa using hlm) = bodyI m[k] := by simp
      rw [← e1, ← e2]; simp only [h]
    simp only [cRI] at hd hd2
    obtain ⟨ws, hws⟩ : ∃ ws, l[k].ws = ws := ⟨_, rfl⟩
    obtain ⟨vs, hvs⟩ : ∃ vs, m[k].ws = vs := ⟨_, rfl⟩
    simp only [bodyI] at hb
    rw [hws] at hln hlt2 hd hb
    rw [hvs] at hd2 hb
    have hvl : vs.length = ws.length := by have := congrArg List.length hb; simpa using this.symm
    rw [hvl] at hd2
    have hwl := cWI_len ws
    have hvl2 := cWI_len vs
    simp only [q1, ↓R1, R2, R3, R4, R5, Nat.reduceEqDiff, Nat.reduceAdd, Nat.reduceMul, Nat.reduceSub, Nat.reduceLeDiff, Nat.reduceLT, reduceIte, reduceCtorEq, Int.reduceBNe, Int.reduceBEq, q1, q2, q3, q4, q5, q6, hw, hw2, hd, hd2, hd3, hd4, bne_self_eq_false, f0, f1, f2, f3, f4, f5, f6, f7, beq_self_eq_true]
    repeat' (first | (with_reducible rw [allocV_eq]) | (refine gdV_split (fun hc => ?_) (fun hc => ?_) <;> (try simp only [hc, ↓R1, R2, R3, R4, R5, Nat.reduceEqDiff, Nat.reduceAdd, Nat.reduceMul, Nat.reduceSub, Nat.reduceLeDiff, Nat.reduceLT, reduceIte, reduceCtorEq, Int.reduceBNe, Int.reduceBEq, q1, q2, q3, q4, q5, q6, hw, hw2, hd, hd2, hd3, hd4, bne_self_eq_false, f0, f1, f2, f3, f4, f5, f6, f7, beq_self_eq_true])) | ((first | refine condV_split (fun hc => ?_) (fun hc => ?_) | (with_reducible intro β hβ; (try simp only [St.box_noneA, St.tip_noneA, St.tip_set, St.box_tip, St.box_lp, St.tip_lp] at hβ); (repeat (obtain ⟨⟨_, _⟩, hβ⟩ := hβ)); (try (have hbis := apart_is (by assumption) hβ; obtain ⟨_, _⟩ := hbis)))) <;> (try simp only [↓R1, R2, R3, R4, R5, Nat.reduceEqDiff, Nat.reduceAdd, Nat.reduceMul, Nat.reduceSub, Nat.reduceLeDiff, Nat.reduceLT, reduceIte, reduceCtorEq, Int.reduceBNe, Int.reduceBEq, q1, q2, q3, q4, q5, q6, hw, hw2, hd, hd2, hd3, hd4, bne_self_eq_false, f0, f1, f2, f3, f4, f5, f6, f7, beq_self_eq_true])) | (with_reducible refine And.intro ?_ ?_; (focus (first | omega | (intros; (repeat' (with_reducible apply And.intro)) <;> first | omega | (simp only [List.length_map]; omega))))) | (with_reducible apply And.intro))
    all_goals first | (rw [hcl]; omega) | (rw [hcm]; omega) | skip
    refine loopV_for ws.length (fun i => [(0, .sl false l.length (l.flatMap cRI)), (1, .sl false l.length (m.flatMap cRI)), (5, .int .i64 (k : Nat)), (6, .int .i64 (i : Nat))]) (fun _ => σ) (fun _ => True) (by simp [subF, slot, wk_refl]) (St.le_refl _) trivial (fun i hi _ => ?_)
    by_cases hin : i < ws.length
    · have q2 : decide ((i : Int) < (ws.length : Int)) = true := by rw [decide_eq_true_eq]; omega
      have hd3 := cWI_get ws hin
      have hd4 := cWI_get vs (k := i) (by omega)
      have hw2 : IntKind.i64.wrap ((i : Int) + 1) = ((i + 1 : Nat) : Int) := by rw [wrap64 (by omega) (by omega)]; omega
      simp only [cWI] at hd3 hd4
      simp only [q2, ↓R1, R2, R3, R4, R5, Nat.reduceEqDiff, Nat.reduceAdd, Nat.reduceMul, Nat.reduceSub, Nat.reduceLeDiff, Nat.reduceLT, reduceIte, reduceCtorEq, Int.reduceBNe, Int.reduceBEq, q1, q2, q3, q4, q5, q6, hw, hw2, hd, hd2, hd3, hd4, bne_self_eq_false, f0, f1, f2, f3, f4, f5, f6, f7, beq_self_eq_true]
      repeat' (first | (with_reducible rw [allocV_eq]) | (refine gdV_split (fun hc => ?_) (fun hc => ?_) <;> (try simp only [hc, ↓R1, R2, R3, R4, R5, Nat.reduceEqDiff, Nat.reduceAdd, Nat.reduceMul, Nat.reduceSub, Nat.reduceLeDiff, Nat.reduceLT, reduceIte, reduceCtorEq, Int.reduceBNe, Int.reduceBEq, q1, q2, q3, q4, q5, q6, hw, hw2, hd, hd2, hd3, hd4, bne_self_eq_false, f0, f1, f2, f3, f4, f5, f6, f7, beq_self_eq_true])) | ((first | refine condV_split (fun hc => ?_) (fun hc => ?_) | (with_reducible intro β hβ; (try simp only [St.box_noneA, St.tip_noneA, St.tip_set, St.box_tip, St.box_lp, St.tip_lp] at hβ); (repeat (obtain ⟨⟨_, _⟩, hβ⟩ := hβ)); (try (have hbis := apart_is (by assumption) hβ; obtain ⟨_, _⟩ := hbis)))) <;> (try simp only [↓R1, R2, R3, R4, R5, Nat.reduceEqDiff, Nat.reduceAdd, Nat.reduceMul, Nat.reduceSub, Nat.reduceLeDiff, Nat.reduceLT, reduceIte, reduceCtorEq, Int.reduceBNe, Int.reduceBEq, q1, q2, q3, q4, q5, q6, hw, hw2, hd, hd2, hd3, hd4, bne_self_eq_false, f0, f1, f2, f3, f4, f5, f6, f7, beq_self_eq_true])) | (with_reducible refine And.intro ?_ ?_; (focus (first | omega | (intros; (repeat' (with_reducible apply And.intro)) <;> first | omega | (simp only [List.length_map]; omega))))) | (with_reducible apply And.intro))
      all_goals first | (rw [hcl]; omega) | (rw [hcm]; omega) | skip
      have hqt : (ws[i].q, ws[i].t) = (vs[i].q, vs[i].t) := by
        have e1 : (ws.map fun w => (w.q, w.t))[i]'(by simpa using hin) = (ws[i].q, ws[i].t) := by simp
        have e2 : (vs.map fun w => (w.q, w.t))[i]'(by simp; omega) = (vs[i].q, vs[i].t) := by simp
        rw [← e1, ← e2]; simp only [hb]
      have hq1 : vs[i].q = ws[i].q := (Prod.mk.inj hqt).1.symm
      have ht1 : vs[i].t = ws[i].t := (Prod.mk.inj hqt).2.symm
      rw [hq1, ht1] at hd4
      refine same_inv hlt (by rw [hcl]; omega) (by rw [hcm]; omega) hin (by rw [hwl]; omega) (by rw [hvl2]; omega) hd hd2 hd3 hd4 (fun fr σ' b7 b8 f0 f1 f2 f3 f4 f5 f6 f7 hle => ?_)
      simp only [↓R1, R2, R3, R4, R5, Nat.reduceEqDiff, Nat.reduceAdd, Nat.reduceMul, Nat.reduceSub, Nat.reduceLeDiff, Nat.reduceLT, reduceIte, reduceCtorEq, Int.reduceBNe, Int.reduceBEq, q1, q2, q3, q4, q5, q6, hw, hw2, hd, hd2, hd3, hd4, bne_self_eq_false, f0, f1, f2, f3, f4, f5, f6, f7, beq_self_eq_true]
      repeat' (first | (with_reducible rw [allocV_eq]) | (refine gdV_split (fun hc => ?_) (fun hc => ?_) <;> (try simp only [hc, ↓R1, R2, R3, R4, R5, Nat.reduceEqDiff, Nat.reduceAdd, Nat.reduceMul, Nat.reduceSub, Nat.reduceLeDiff, Nat.reduceLT, reduceIte, reduceCtorEq, Int.reduceBNe, Int.reduceBEq, q1, q2, q3, q4, q5, q6, hw, hw2, hd, hd2, hd3, hd4, bne_self_eq_false, f0, f1, f2, f3, f4, f5, f6, f7, beq_self_eq_true])) | ((first | refine condV_split (fun hc => ?_) (fun hc => ?_) | (with_reducible intro β hβ; (try simp only [St.box_noneA, St.tip_noneA, St.tip_set, St.box_tip, St.box_lp, St.tip_lp] at hβ); (repeat (obtain ⟨⟨_, _⟩, hβ⟩ := hβ)); (try (have hbis := apart_is (by assumption) hβ; obtain ⟨_, _⟩ := hbis)))) <;> (try simp only [↓R1, R2, R3, R4, R5, Nat.reduceEqDiff, Nat.reduceAdd, Nat.reduceMul, Nat.reduceSub, Nat.reduceLeDiff, Nat.reduceLT, reduceIte, reduceCtorEq, Int.reduceBNe, Int.reduceBEq, q1, q2, q3, q4, q5, q6, hw, hw2, hd, hd2, hd3, hd4, bne_self_eq_false, f0, f1, f2, f3, f4, f5, f6, f7, beq_self_eq_true])) | (with_reducible refine And.intro ?_ ?_; (focus (first | omega | (intros; (repeat' (with_reducible apply And.intro)) <;> first | omega | (simp only [List.length_map]; omega))))) | (with_reducible apply And.intro))
      · simp [subF, slot, wk_refl]
      · exact hle
    · have hie : i = ws.length := by omega
      subst hie
      have q2 : decide ((ws.length : Int) < (ws.length : Int)) = false := by simp
      simp only [q2, ↓R1, R2, R3, R4, R5, Nat.reduceEqDiff, Nat.reduceAdd, Nat.reduceMul, Nat.reduceSub, Nat.reduceLeDiff, Nat.reduceLT, reduceIte, reduceCtorEq, Int.reduceBNe, Int.reduceBEq, q1, q2, q3, q4, q5, q6, hw, hw2, hd, hd2, hd3, hd4, bne_self_eq_false, f0, f1, f2, f3, f4, f5, f6, f7, beq_self_eq_true]
      repeat' (first | (with_reducible rw [allocV_eq]) | (refine gdV_split (fun hc => ?_) (fun hc => ?_) <;> (try simp only [hc, ↓R1, R2, R3, R4, R5, Nat.reduceEqDiff, Nat.reduceAdd, Nat.reduceMul, Nat.reduceSub, Nat.reduceLeDiff, Nat.reduceLT, reduceIte, reduceCtorEq, Int.reduceBNe, Int.reduceBEq, q1, q2, q3, q4, q5, q6, hw, hw2, hd, hd2, hd3, hd4, bne_self_eq_false, f0, f1, f2, f3, f4, f5, f6, f7, beq_self_eq_true])) | ((first | refine condV_split (fun hc => ?_) (fun hc => ?_) | (with_reducible intro β hβ; (try simp only [St.box_noneA, St.tip_noneA, St.tip_set, St.box_tip, St.box_lp, St.tip_lp] at hβ); (repeat (obtain ⟨⟨_, _⟩, hβ⟩ := hβ)); (try (have hbis := apart_is (by assumption) hβ; obtain ⟨_, _⟩ := hbis)))) <;> (try simp only [↓R1, R2, R3, R4, R5, Nat.reduceEqDiff, Nat.reduceAdd, Nat.reduceMul, Nat.reduceSub, Nat.reduceLeDiff, Nat.reduceLT, reduceIte, reduceCtorEq, Int.reduceBNe, Int.reduceBEq, q1, q2, q3, q4, q5, q6, hw, hw2, hd, hd2, hd3, hd4, bne_self_eq_false, f0, f1, f2, f3, f4, f5, f6, f7, beq_self_eq_true])) | (with_reducible refine And.intro ?_ ?_; (focus (first | omega | (intros; (repeat' (with_reducible apply And.intro)) <;> first | omega | (simp only [List.length_map]; omega))))) | (with_reducible apply And.intro))
      all_goals first | (rw [hcl]; omega) | skip
      · simp [subF, slot, wk_refl]
      · exact St.le_refl _
  · have hke : k = l.length := by omega
    subst hke
    have q1 : decide ((l.length : Int) < (l.length : Int)) = false := by simp
    simp only [q1, ↓R1, R2, R3, R4, R5, Nat.reduceEqDiff, Nat.reduceAdd, Nat.reduceMul, Nat.reduceSub, Nat.reduceLeDiff, Nat.reduceLT, reduceIte, reduceCtorEq, Int.reduceBNe, Int.reduceBEq, q1, q2, q3, q4, q5, q6, hw, hw2, hd, hd2, hd3, hd4, bne_self_eq_false, f0, f1, f2, f3, f4, f5, f6, f7, beq_self_eq_true]
    repeat' (first | (with_reducible rw [allocV_eq]) | (refine gdV_split (fun hc => ?_) (fun hc => ?_) <;> (try simp only [hc, ↓R1, R2, R3, R4, R5, Nat.reduceEqDiff, Nat.reduceAdd, Nat.reduceMul, Nat.reduceSub, Nat.reduceLeDiff, Nat.reduceLT, reduceIte, reduceCtorEq, Int.reduceBNe, Int.reduceBEq, q1, q2, q3, q4, q5, q6, hw, hw2, hd, hd2, hd3, hd4, bne_self_eq_false, f0, f1, f2, f3, f4, f5, f6, f7, beq_self_eq_true])) | ((first | refine condV_split (fun hc => ?_) (fun hc => ?_) | (with_reducible intro β hβ; (try simp only [St.box_noneA, St.tip_noneA, St.tip_set, St.box_tip, St.box_lp, St.tip_lp] at hβ); (repeat (obtain ⟨⟨_, _⟩, hβ⟩ := hβ)); (try (have hbis := apart_is (by assumption) hβ; obtain ⟨_, _⟩ := hbis)))) <;> (try simp only [↓R1, R2, R3, R4, R5, Nat.reduceEqDiff, Nat.reduceAdd, Nat.reduceMul, Nat.reduceSub, Nat.reduceLeDiff, Nat.reduceLT, reduceIte, reduceCtorEq, Int.reduceBNe, Int.reduceBEq, q1, q2, q3, q4, q5, q6, hw, hw2, hd, hd2, hd3, hd4, bne_self_eq_false, f0, f1, f2, f3, f4, f5, f6, f7, beq_self_eq_true])) | (with_reducible refine And.intro ?_ ?_; (focus (first | omega | (intros; (repeat' (with_reducible apply And.intro)) <;> first | omega | (simp only [List.length_map]; omega))))) | (with_reducible apply And.intro))
    (refine endP_pu (by simp) (by first | (simp [rvsS, rvS]; done) | (simp only [rvsS, rvS, ↓R1, R2, R3, R4, R5, Nat.reduceEqDiff, Nat.reduceAdd, Nat.reduceMul, Nat.reduceSub, Nat.reduceLeDiff, Nat.reduceLT, reduceIte, reduceCtorEq, Int.reduceBNe, Int.reduceBEq, q1, q2, q3, q4, q5, q6, hw, hw2, hd, hd2, hd3, hd4, bne_self_eq_false, f0, f1, f2, f3, f4, f5, f6, f7, beq_self_eq_true]; try simp)) (wk_of_eq ?_) (by (repeat (first | exact St.le_refl _ | (refine St.le_new ?_ (by assumption)) | (refine St.le_newT ?_ (by assumption))))))
    (simp only [resAV, rvV, List.map_cons, List.map_nil, ↓R1, R2, R3, R4, R5, Nat.reduceEqDiff, Nat.reduceAdd, Nat.reduceMul, Nat.reduceSub, Nat.reduceLeDiff, Nat.reduceLT, reduceIte, reduceCtorEq, Int.reduceBNe, Int.reduceBEq, q1, q2, q3, q4, q5, q6, hw, hw2, hd, hd2, hd3, hd4, bne_self_eq_false, f0, f1, f2, f3, f4, f5, f6, f7, beq_self_eq_true])
end Go.Proofs.YtemddijemikleaaDoor
