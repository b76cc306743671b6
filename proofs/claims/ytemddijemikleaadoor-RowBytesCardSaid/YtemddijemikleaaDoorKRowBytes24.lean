/- Part 24 of the proof of RowBytes: an abstract semantics that is proved sound for the model, contracts of functions in it, and plain facts (RW8 RW9 RX6 RN3 RN4 RK1 RB2). No condition. -/
import Derived.Test.YtemddijemikleaaDoorKRowBytes23
set_option linter.all false
namespace Go.Proofs.YtemddijemikleaaDoor
open Go.Abs
set_option linter.all false
set_option maxRecDepth 100000
def cRw (r : Rw) : List AV := [.int .i64 (r.a : Nat), .sl false r.ws.length (r.ws.flatMap cWd)]
theorem cRw_len (l : List Rw) : (l.flatMap cRw).length = l.length * 2 := flat_len (f := cRw) (fun _ => rfl) l
def faultV (e a : Nat) : AV := .agg [.int .i64 (e : Nat), .int .i64 (a : Nat)]
/-- What row.Rows answers. -/
def rowsV : Except (Nat × Nat) (List Rw) → AV
  | .error (e, a) => .tup [.sl false 0 [], faultV e a]
  | .ok rs => .tup [.sl false rs.length (rs.flatMap cRw), faultV 0 0]
theorem bx_comm (σ : St) {β γ : Nat} [h : Apart γ β] (a b : List AV) : (σ.setBox β a).setBox γ b = (σ.setBox γ b).setBox β a := by
  simp only [St.setBox, St.mk.injEq, and_true]
  funext j
  simp only [upd]
  by_cases h1 : j = γ
  · subst h1; rw [if_pos rfl, if_neg h.ne, if_pos rfl]
  · rw [if_neg h1, if_neg h1]
theorem set_over4 (σ : St) {β γ δ ε ζ : Nat} [Apart β γ] [Apart β δ] [Apart β ε] [Apart β ζ] (a b d e f c : List AV) : (((((σ.setBox β a).setBox γ b).setBox δ d).setBox ε e).setBox ζ f).setBox β c = ((((σ.setBox β c).setBox γ b).setBox δ d).setBox ε e).setBox ζ f := by
  rw [bx_comm _ (β := ζ) (γ := β), bx_comm _ (β := ε) (γ := β), bx_comm _ (β := δ) (γ := β), bx_comm _ (β := γ) (γ := β), St.set_set]
structure RG where
  a : Nat
  rs : List Rw
def TR (σ : St) (b2 b3 b4 b5 β0 β1 β2 τ : Nat) (g : RG) (rest : List UInt8) : St :=
  (((((((((σ.setBox b2 [AV.nils]).setBox b3 [AV.int IntKind.i64 0, AV.int IntKind.i64 0]).setBox b4 [AV.nils]).setBox b5 [AV.int IntKind.i64 (g.a : Nat)]).setBox β0 [AV.str rest]).setBox β1 [AV.str [10]]).setBox β2 [AV.int IntKind.i64 1]).setBox b4 [AV.tsl τ g.rs.length (g.rs.flatMap cRw)]).setTip τ (43, 2, g.rs.length))
theorem lineRow_err {x : List UInt8} {a b : Nat} (h : ¬ 1000 < x.length) (hw : wordsS x = .error b) : lineRow x a = .error (3, a + b) := by
  simp only [lineRow, if_neg h, hw]
theorem lineRow_nil {x : List UInt8} {a : Nat} (h : ¬ 1000 < x.length) (hw : wordsS x = .ok []) : lineRow x a = .ok [] := by
  simp only [lineRow, if_neg h, hw]
theorem lineRow_cons {x : List UInt8} {a : Nat} {ws : List Wd} (h : ¬ 1000 < x.length) (hw : wordsS x = .ok ws) (hn : ws ≠ []) : lineRow x a = .ok [⟨a, ws.map (shiftW a)⟩] := by
  cases ws with
  | nil => exact (hn rfl).elim
  | cons w ws => simp only [lineRow, if_neg h, hw]
theorem words_owned (σ : St) {x : List UInt8} {ws : List Wd} (hl : x.length ≤ 1000000) (hw : wordsS x = .ok ws) (hn : ws ≠ []) :
    AC Tryd.prog 48 [.str x] σ (fun r s => ∃ β k, σ.box β = none ∧ r = .tup (.psl β 0 ws.length :: [.int .i64 0, .bool true]) ∧ s = σ.setBox β (ws.flatMap cWd ++ List.replicate k .junk)) := by
  refine AC.owned (e := 31) (es := 3) (enters_of Tryd.func48 (by kernel_rfl) rfl) (by simp [gnd]) (by simp [gnd]) ?_ (by simpa using hn) ?_
  · intro a ha
    simp only [List.mem_flatMap, cWd] at ha
    obtain ⟨w, _, hw⟩ := ha
    simp at hw
    rcases hw with rfl | rfl | rfl <;> rfl
  · have h := a_words (s0 fun _ => none) x hl
    rw [hw] at h
    refine h.mono ?_
    rintro r s ⟨τ, _, rfl, rfl⟩
    cases ws with
    | nil => exact (hn rfl).elim
    | cons w ws => exact ⟨τ, rfl, rfl⟩
end Go.Proofs.YtemddijemikleaaDoor
namespace Go.Proofs.YtemddijemikleaaDoor
open Go.Abs
set_option linter.all false
set_option maxRecDepth 100000
theorem le_lpdrop1 {s s' : St} {L : Nat} {x : Loop × Fr} (h : St.le s s') (hn : s.lp L = none) : St.le s ((s'.setLp L x).dropLp L) := by
  refine ⟨h.1, h.2.1, h.2.2.1, fun l r hr => ?_, h.2.2.2.2⟩
  have hne : l ≠ L := by rintro rfl; rw [hn] at hr; cases hr
  simp only [St.dropLp, St.setLp, upd, if_neg hne]
  exact h.2.2.2.1 _ _ hr
theorem lines_head (l : List UInt8) : lines l = lineOf l :: (match (cut l).2 with | none => [] | some r' => lines r') := by
  rw [lines_eq]
  cases ha : afterOf l with
  | nil =>
    have h1 := line_after l
    rw [ha, List.append_nil] at h1
    rw [cut_none ha, h1]
  | cons c r => rw [(cut_some ha).1]
theorem drop_new {σ : St} {γ : Nat} {c : List AV} (h : σ.box γ = none) : (σ.setBox γ c).dropBox γ = σ := by
  simp only [St.dropBox, St.setBox]
  have : (fun j => if j = γ then none else upd σ.box γ c j) = σ.box := by
    funext j
    simp only [upd]
    split
    · rename_i e; subst e; exact h.symm
    · rfl
  rw [this]
def shG (a : Nat) (ws : List Wd) (k : Nat) (j : List AV) : List AV := ((ws.take k).map (shiftW a) ++ ws.drop k).flatMap cWd ++ j
theorem shG_zero (a : Nat) (ws : List Wd) (j : List AV) : shG a ws 0 j = ws.flatMap cWd ++ j := by simp [shG]
theorem shG_all (a : Nat) (ws : List Wd) (j : List AV) : (shG a ws ws.length j).take (ws.length * 3) = (ws.map (shiftW a)).flatMap cWd := by
  have h := cWd_len (ws.map (shiftW a))
  simp only [shG, List.take_length, List.drop_length, List.append_nil]
  rw [List.take_append_of_le_length (by rw [h]; simp)]
  rw [List.take_of_length_le (by rw [h]; simp)]
theorem shG_len (a : Nat) (ws : List Wd) (k : Nat) (hk : k ≤ ws.length) (j : List AV) : (shG a ws k j).length = ws.length * 3 + j.length := by
  simp only [shG, List.length_append, cWd_len, List.length_map, List.length_take, List.length_drop]
  omega
theorem shG_at (a : Nat) (ws : List Wd) {k : Nat} (hk : k < ws.length) (j : List AV) :
    (shG a ws k j)[k * 3 + 2]? = some (.int .i64 (ws[k].a : Nat)) ∧ (shG a ws k j).take (k * 3 + 2) ++ [AV.int .i64 ((ws[k].a + a : Nat) : Int)] ++ (shG a ws k j).drop (k * 3 + 2 + 1) = shG a ws (k + 1) j := by
  obtain ⟨p, hp⟩ : ∃ p, ((ws.take k).map (shiftW a)).flatMap cWd = p := ⟨_, rfl⟩
  have hpl : p.length = k * 3 := by rw [← hp, cWd_len]; simp; omega
  obtain ⟨s, hs⟩ : ∃ s, (ws.drop (k + 1)).flatMap cWd ++ j = s := ⟨_, rfl⟩
  have e1 : shG a ws k j = (p ++ [AV.bool ws[k].q, AV.str ws[k].t]) ++ (AV.int .i64 (ws[k].a : Nat) :: s) := by
    rw [shG, List.drop_eq_getElem_cons hk, List.flatMap_append, hp, List.flatMap_cons, ← hs]
    simp [cWd]
  have e2 : shG a ws (k + 1) j = (p ++ [AV.bool ws[k].q, AV.str ws[k].t]) ++ (AV.int .i64 ((ws[k].a + a : Nat) : Int) :: s) := by
    rw [shG, ← List.take_append_getElem hk, List.map_append, List.flatMap_append, List.flatMap_append, hp, ← hs]
    simp [cWd, shiftW]
  have hl : (p ++ [AV.bool ws[k].q, AV.str ws[k].t]).length = k * 3 + 2 := by simp [hpl]
  rw [e1, e2]
  refine ⟨?_, ?_⟩
  · rw [List.getElem?_append_right (by omega), hl, Nat.sub_self]; rfl
  · rw [List.take_left' hl, List.drop_append, List.drop_of_length_le (by omega), hl]
    simp
set_option maxHeartbeats 4000000 in
theorem p25 (l : List UInt8) (hl : l.length ≤ 1000000) : Pu Tryd.prog 25 [.str l] (rowsV (rowsS l)) := by
  have q1 : True := trivial
  have q2 : True := trivial
  have q3 : True := trivial
  have q4 : True := trivial
  have q5 : True := trivial
  have hw : True := trivial
  have t2 : True := trivial
  have t3 : True := trivial
  have t4 : True := trivial
  have t5 : True := trivial
  have ttip : True := trivial
  have s5 : True := trivial
  have tl : True := trivial
  by_cases hlong : 20000 < l.length
  · have q1 : decide ((20000 : Int) < (l.length : Int)) = true := by rw [decide_eq_true_eq]; omega
    have e : rowsS l = .error (4, 20000) := by simp only [rowsS, if_pos hlong]
    rw [e]
    (refine Pu_intro c25 b25 (Nat.le_of_ble_eq_true rfl) fun σ => ?_; simp only [c25, ↓R1, R2, R3, R4, R5, Nat.reduceEqDiff, Nat.reduceAdd, Nat.reduceMul, Nat.reduceSub, Nat.reduceLeDiff, Nat.reduceLT, reduceIte, reduceCtorEq, Int.reduceBNe, Int.reduceBEq, aC_frz, frzS, frzV_none, frzV_some, q1, q2, q3, q4, q5, hw, t2, t3, t4, t5, ttip, s5, tl])
    repeat' (first | (with_reducible rw [allocV_eq]) | (refine gdV_split (fun hc => ?_) (fun hc => ?_) <;> (try simp only [hc, ↓R1, R2, R3, R4, R5, Nat.reduceEqDiff, Nat.reduceAdd, Nat.reduceMul, Nat.reduceSub, Nat.reduceLeDiff, Nat.reduceLT, reduceIte, reduceCtorEq, Int.reduceBNe, Int.reduceBEq, aC_frz, frzS, frzV_none, frzV_some, q1, q2, q3, q4, q5, hw, t2, t3, t4, t5, ttip, s5, tl])) | ((first | refine condV_split (fun hc => ?_) (fun hc => ?_) | (with_reducible intro β hβ; (try simp only [St.box_noneA, St.tip_noneA, St.tip_set, St.box_tip, St.box_lp, St.tip_lp] at hβ); (repeat (obtain ⟨⟨_, _⟩, hβ⟩ := hβ)); (try (have hbis := apart_is (by assumption) hβ; obtain ⟨_, _⟩ := hbis)))) <;> (try simp only [↓R1, R2, R3, R4, R5, Nat.reduceEqDiff, Nat.reduceAdd, Nat.reduceMul, Nat.reduceSub, Nat.reduceLeDiff, Nat.reduceLT, reduceIte, reduceCtorEq, Int.reduceBNe, Int.reduceBEq, aC_frz, frzS, frzV_none, frzV_some, q1, q2, q3, q4, q5, hw, t2, t3, t4, t5, ttip, s5, tl])) | (with_reducible refine And.intro ?_ ?_; (focus (first | omega | (intros; (repeat' (with_reducible apply And.intro)) <;> first | omega | (simp only [cWd_len, cRw_len, List.length_append, List.length_cons, List.length_nil]; omega))))) | (with_reducible apply And.intro))
    (refine endP_pu (by simp) (by first | (simp [rvsS, rvS]; done) | (simp only [rvsS, rvS, ↓R1, R2, R3, R4, R5, Nat.reduceEqDiff, Nat.reduceAdd, Nat.reduceMul, Nat.reduceSub, Nat.reduceLeDiff, Nat.reduceLT, reduceIte, reduceCtorEq, Int.reduceBNe, Int.reduceBEq, aC_frz, frzS, frzV_none, frzV_some, q1, q2, q3, q4, q5, hw, t2, t3, t4, t5, ttip, s5, tl]; try simp)) ?_ (by (repeat (first | exact St.le_refl _ | (refine St.le_new ?_ (by assumption)) | (refine St.le_newT ?_ (by assumption))))))
    simp only [resAV, rvV, List.map_cons, List.map_nil, ↓R1, R2, R3, R4, R5, Nat.reduceEqDiff, Nat.reduceAdd, Nat.reduceMul, Nat.reduceSub, Nat.reduceLeDiff, Nat.reduceLT, reduceIte, reduceCtorEq, Int.reduceBNe, Int.reduceBEq, aC_frz, frzS, frzV_none, frzV_some, q1, q2, q3, q4, q5, hw, t2, t3, t4, t5, ttip, s5, tl]
    simp only [rowsV, faultV]
    (repeat' (first | exact wk_refl _ | exact wk_nils | exact wk_tsl _ _ _ | exact wk_full _ _ | exact wkL.nil | exact wkL_refl _ | refine wk_tup ?_ | refine wk_agg ?_ | refine wkL.cons ?_ ?_))
  · have q1 : decide ((20000 : Int) < (l.length : Int)) = false := by rw [decide_eq_false_iff_not]; omega
    have e : rowsS l = rowsL (lines l) 0 := by simp only [rowsS, if_neg hlong]
    rw [e]
    (refine Pu_intro c25 b25 (Nat.le_of_ble_eq_true rfl) fun σ => ?_; simp only [c25, ↓R1, R2, R3, R4, R5, Nat.reduceEqDiff, Nat.reduceAdd, Nat.reduceMul, Nat.reduceSub, Nat.reduceLeDiff, Nat.reduceLT, reduceIte, reduceCtorEq, Int.reduceBNe, Int.reduceBEq, aC_frz, frzS, frzV_none, frzV_some, q1, q2, q3, q4, q5, hw, t2, t3, t4, t5, ttip, s5, tl])
    rw [allocV_eq]; intro b2 h2; simp only [↓R1, R2, R3, R4, R5, Nat.reduceEqDiff, Nat.reduceAdd, Nat.reduceMul, Nat.reduceSub, Nat.reduceLeDiff, Nat.reduceLT, reduceIte, reduceCtorEq, Int.reduceBNe, Int.reduceBEq, aC_frz, frzS, frzV_none, frzV_some, q1, q2, q3, q4, q5, hw, t2, t3, t4, t5, ttip, s5, tl]
    rw [allocV_eq]; intro b3 h3; rw [St.box_noneA] at h3; obtain ⟨⟨_, _⟩, h3⟩ := h3; simp only [↓R1, R2, R3, R4, R5, Nat.reduceEqDiff, Nat.reduceAdd, Nat.reduceMul, Nat.reduceSub, Nat.reduceLeDiff, Nat.reduceLT, reduceIte, reduceCtorEq, Int.reduceBNe, Int.reduceBEq, aC_frz, frzS, frzV_none, frzV_some, q1, q2, q3, q4, q5, hw, t2, t3, t4, t5, ttip, s5, tl]
    rw [allocV_eq]; intro b4 h4; simp only [St.box_noneA] at h4; obtain ⟨⟨_, _⟩, ⟨_, _⟩, h4⟩ := h4; simp only [↓R1, R2, R3, R4, R5, Nat.reduceEqDiff, Nat.reduceAdd, Nat.reduceMul, Nat.reduceSub, Nat.reduceLeDiff, Nat.reduceLT, reduceIte, reduceCtorEq, Int.reduceBNe, Int.reduceBEq, aC_frz, frzS, frzV_none, frzV_some, q1, q2, q3, q4, q5, hw, t2, t3, t4, t5, ttip, s5, tl]
    rw [allocV_eq]; intro b5 h5; simp only [St.box_noneA] at h5; obtain ⟨⟨_, _⟩, ⟨_, _⟩, ⟨_, _⟩, h5⟩ := h5; simp only [↓R1, R2, R3, R4, R5, Nat.reduceEqDiff, Nat.reduceAdd, Nat.reduceMul, Nat.reduceSub, Nat.reduceLeDiff, Nat.reduceLT, reduceIte, reduceCtorEq, Int.reduceBNe, Int.reduceBEq, aC_frz, frzS, frzV_none, frzV_some, q1, q2, q3, q4, q5, hw, t2, t3, t4, t5, ttip, s5, tl]
    refine (AC.wk (a_split _ l) (wkL_refl _)).mono ?_
    rintro _ _ ⟨β0, β1, β2, k0, k1, k2, ⟨_, _⟩, ⟨_, _⟩, ⟨_, _⟩, rfl, rfl⟩
    simp only [St.box_noneA] at k0 k1 k2
    obtain ⟨⟨_, _⟩, ⟨_, _⟩, ⟨_, _⟩, ⟨_, _⟩, ⟨_, _⟩, k0⟩ := k0
    obtain ⟨⟨_, _⟩, ⟨_, _⟩, ⟨_, _⟩, ⟨_, _⟩, ⟨_, _⟩, k1⟩ := k1
    obtain ⟨⟨_, _⟩, ⟨_, _⟩, ⟨_, _⟩, ⟨_, _⟩, ⟨_, _⟩, k2⟩ := k2
    simp only [↓R1, R2, R3, R4, R5, Nat.reduceEqDiff, Nat.reduceAdd, Nat.reduceMul, Nat.reduceSub, Nat.reduceLeDiff, Nat.reduceLT, reduceIte, reduceCtorEq, Int.reduceBNe, Int.reduceBEq, aC_frz, frzS, frzV_none, frzV_some, q1, q2, q3, q4, q5, hw, t2, t3, t4, t5, ttip, s5, tl]
    refine rfunV_start [(true, 4, 0, 43, 2)] ?_
    simp only [startP, List.set_cons_zero, ↓R1, R2, R3, R4, R5, Nat.reduceEqDiff, Nat.reduceAdd, Nat.reduceMul, Nat.reduceSub, Nat.reduceLeDiff, Nat.reduceLT, reduceIte, reduceCtorEq, Int.reduceBNe, Int.reduceBEq, aC_frz, frzS, frzV_none, frzV_some, q1, q2, q3, q4, q5, hw, t2, t3, t4, t5, ttip, s5, tl]
    intro τ hτ
    refine ⟨_, _, rfl, ?_⟩
    obtain ⟨T, hT⟩ : ∃ T, T = TR σ b2 b3 b4 b5 β0 β1 β2 τ := ⟨_, rfl⟩
    have t0 : ∀ g r, (T g r).box β0 = some [.str r] := fun g r => by subst hT; simp only [TR, ↓R1, R2, R3, R4, R5, Nat.reduceEqDiff, Nat.reduceAdd, Nat.reduceMul, Nat.reduceSub, Nat.reduceLeDiff, Nat.reduceLT, reduceIte, reduceCtorEq, Int.reduceBNe, Int.reduceBEq, aC_frz, frzS, frzV_none, frzV_some, q1, q2, q3, q4, q5, hw, t2, t3, t4, t5, ttip, s5, tl]
    have t1 : ∀ g r, (T g r).box β1 = some [.str [10]] := fun g r => by subst hT; simp only [TR, ↓R1, R2, R3, R4, R5, Nat.reduceEqDiff, Nat.reduceAdd, Nat.reduceMul, Nat.reduceSub, Nat.reduceLeDiff, Nat.reduceLT, reduceIte, reduceCtorEq, Int.reduceBNe, Int.reduceBEq, aC_frz, frzS, frzV_none, frzV_some, q1, q2, q3, q4, q5, hw, t2, t3, t4, t5, ttip, s5, tl]
    have t22 : ∀ g r, (T g r).box β2 = some [.int .i64 1] := fun g r => by subst hT; simp only [TR, ↓R1, R2, R3, R4, R5, Nat.reduceEqDiff, Nat.reduceAdd, Nat.reduceMul, Nat.reduceSub, Nat.reduceLeDiff, Nat.reduceLT, reduceIte, reduceCtorEq, Int.reduceBNe, Int.reduceBEq, aC_frz, frzS, frzV_none, frzV_some, q1, q2, q3, q4, q5, hw, t2, t3, t4, t5, ttip, s5, tl]
    have t2 : ∀ g r, (T g r).box b2 = some [.nils] := fun g r => by subst hT; simp only [TR, ↓R1, R2, R3, R4, R5, Nat.reduceEqDiff, Nat.reduceAdd, Nat.reduceMul, Nat.reduceSub, Nat.reduceLeDiff, Nat.reduceLT, reduceIte, reduceCtorEq, Int.reduceBNe, Int.reduceBEq, aC_frz, frzS, frzV_none, frzV_some, q1, q2, q3, q4, q5, hw, t2, t3, t4, t5, ttip, s5, tl]
    have t3 : ∀ g r, (T g r).box b3 = some [.int .i64 0, .int .i64 0] := fun g r => by subst hT; simp only [TR, ↓R1, R2, R3, R4, R5, Nat.reduceEqDiff, Nat.reduceAdd, Nat.reduceMul, Nat.reduceSub, Nat.reduceLeDiff, Nat.reduceLT, reduceIte, reduceCtorEq, Int.reduceBNe, Int.reduceBEq, aC_frz, frzS, frzV_none, frzV_some, q1, q2, q3, q4, q5, hw, t2, t3, t4, t5, ttip, s5, tl]
    have t4 : ∀ g r, (T g r).box b4 = some [.tsl τ g.rs.length (g.rs.flatMap cRw)] := fun g r => by subst hT; simp only [TR, ↓R1, R2, R3, R4, R5, Nat.reduceEqDiff, Nat.reduceAdd, Nat.reduceMul, Nat.reduceSub, Nat.reduceLeDiff, Nat.reduceLT, reduceIte, reduceCtorEq, Int.reduceBNe, Int.reduceBEq, aC_frz, frzS, frzV_none, frzV_some, q1, q2, q3, q4, q5, hw, t2, t3, t4, t5, ttip, s5, tl]
    have t5 : ∀ g r, (T g r).box b5 = some [.int .i64 (g.a : Nat)] := fun g r => by subst hT; simp only [TR, ↓R1, R2, R3, R4, R5, Nat.reduceEqDiff, Nat.reduceAdd, Nat.reduceMul, Nat.reduceSub, Nat.reduceLeDiff, Nat.reduceLT, reduceIte, reduceCtorEq, Int.reduceBNe, Int.reduceBEq, aC_frz, frzS, frzV_none, frzV_some, q1, q2, q3, q4, q5, hw, t2, t3, t4, t5, ttip, s5, tl]
    have ttip : ∀ g r, (T g r).tip τ = some (43, 2, g.rs.length) := fun g r => by subst hT; simp only [TR, ↓R1, R2, R3, R4, R5, Nat.reduceEqDiff, Nat.reduceAdd, Nat.reduceMul, Nat.reduceSub, Nat.reduceLeDiff, Nat.reduceLT, reduceIte, reduceCtorEq, Int.reduceBNe, Int.reduceBEq, aC_frz, frzS, frzV_none, frzV_some, q1, q2, q3, q4, q5, hw, t2, t3, t4, t5, ttip, s5, tl]
    have s0 : ∀ g r r', (T g r).setBox β0 [.str r'] = T g r' := fun g r r' => by subst hT; simp only [TR, ↓R1, R2, R3, R4, R5, Nat.reduceEqDiff, Nat.reduceAdd, Nat.reduceMul, Nat.reduceSub, Nat.reduceLeDiff, Nat.reduceLT, reduceIte, reduceCtorEq, Int.reduceBNe, Int.reduceBEq, aC_frz, frzS, frzV_none, frzV_some, q1, q2, q3, q4, q5, hw, t2, t3, t4, t5, ttip, s5, tl]
    have s5 : ∀ (g : RG) r (a' : Nat) L x, ((T g r).setLp L x).setBox b5 [.int .i64 a'] = (T ⟨a', g.rs⟩ r).setLp L x := fun g r a' L x => by
      subst hT; rw [← St.setBox_setLp]; simp only [TR, set_over4, ↓R1, R2, R3, R4, R5, Nat.reduceEqDiff, Nat.reduceAdd, Nat.reduceMul, Nat.reduceSub, Nat.reduceLeDiff, Nat.reduceLT, reduceIte, reduceCtorEq, Int.reduceBNe, Int.reduceBEq, aC_frz, frzS, frzV_none, frzV_some, q1, q2, q3, q4, q5, hw, t2, t3, t4, t5, ttip, s5, tl]
    have s4 : ∀ (g : RG) r rs' L x, (((T g r).setLp L x).setBox b4 [.tsl τ rs'.length (rs'.flatMap cRw)]).setTip τ (43, 2, rs'.length) = (T ⟨g.a, rs'⟩ r).setLp L x := fun g r rs' L x => by
      subst hT; rw [← St.setBox_setLp, ← St.setTip_setLp]; simp only [TR, ↓R1, R2, R3, R4, R5, Nat.reduceEqDiff, Nat.reduceAdd, Nat.reduceMul, Nat.reduceSub, Nat.reduceLeDiff, Nat.reduceLT, reduceIte, reduceCtorEq, Int.reduceBNe, Int.reduceBEq, aC_frz, frzS, frzV_none, frzV_some, q1, q2, q3, q4, q5, hw, t2, t3, t4, t5, ttip, s5, tl]
    have tl : ∀ g r, (T g r).lp = σ.lp := fun g r => by subst hT; rfl
    have tle : ∀ g r, St.le σ (T g r) := fun g r => by
      subst hT
      refine St.le_setTip (St.le_setBox (St.le_setBox (St.le_setBox (St.le_setBox (St.le_setBox (St.le_setBox (St.le_setBox (St.le_setBox (St.le_refl σ) h2) h3) h4) h5) k0) k1) k2) h4) hτ
    have hst : ((((((((((σ.setBox b2 [AV.nils]).setBox b3 [AV.int IntKind.i64 0, AV.int IntKind.i64 0]).setBox b4 [AV.nils]).setBox b5 [AV.int IntKind.i64 0]).setBox β0 [AV.str l]).setBox β1 [AV.str [10]]).setBox β2 [AV.int IntKind.i64 1]).setBox b4 [AV.tsl τ 0 []]).setTip τ (43, 2, 0))) = T ⟨0, []⟩ l := by
      subst hT; rfl
    rw [hst]
    clear hst
    refine RF_lines T (fun g rest => rest.length ≤ l.length ∧ g.a = l.length - rest.length ∧ g.rs.length ≤ g.a ∧ rowsL (lines l) 0 = bindR (.ok g.rs) (rowsL (lines rest) g.a)) (fun g => rowsL (lines l) 0 = .ok g.rs ∧ g.rs.length ≤ l.length + 1) rfl _ _ ⟨Nat.le_refl _, by simp, Nat.zero_le _, by rw [bindR_nil]⟩ t0 t1 t22 s0 (fun g r L => by rw [tl, tl]) (fun g r h => Nat.le_trans h.1 hl) ?_ ?_
    · rintro L r g rest hL ⟨i1, i2, i3, i4⟩
      have hL0 : σ.lp L = none := by rw [tl] at hL; exact hL
      have hcut : (trim1 (cut rest).1 = lineOf rest) ∧ (cut rest).1.length ≤ rest.length ∧ (lineOf rest).length ≤ (cut rest).1.length := by
        cases ha : afterOf rest with
        | nil =>
          have h1 := line_after rest
          rw [ha, List.append_nil] at h1
          rw [cut_none ha, h1]
          exact ⟨trim_last ha, Nat.le_refl _, Nat.le_refl _⟩
        | cons c r' =>
          obtain ⟨k1, k2, k3, k4⟩ := cut_some ha
          rw [k1]
          exact ⟨trim_line _, by simpa using k4, by simp⟩
      obtain ⟨hc1, hc2, hc3⟩ := hcut
      have hw : IntKind.i64.wrap ((g.a : Int) + ((cut rest).1.length : Int)) = ((g.a + (cut rest).1.length : Nat) : Int) := by rw [wrap64 (by omega) (by omega)]; omega
      have ht := p47 (cut rest).1 (by omega)
      rw [hc1] at ht
      have fin : ∀ nw : List Rw, lineRow (lineOf rest) g.a = .ok nw → nw.length ≤ 1 → match (cut rest).2 with
          | none => rowsL (lines l) 0 = .ok (g.rs ++ nw) ∧ (g.rs ++ nw).length ≤ l.length + 1
          | some r' => r'.length ≤ l.length ∧ g.a + (cut rest).1.length = l.length - r'.length ∧ (g.rs ++ nw).length ≤ g.a + (cut rest).1.length ∧ rowsL (lines l) 0 = bindR (.ok (g.rs ++ nw)) (rowsL (lines r') (g.a + (cut rest).1.length)) := by
        intro nw h1 h2
        rw [lines_head rest] at i4
        simp only [rowsL, h1] at i4
        rw [← bindR_assoc] at i4
        have hb : bindR (.ok g.rs) (.ok nw) = .ok (g.rs ++ nw) := rfl
        rw [hb] at i4
        have hn : (g.rs ++ nw).length ≤ g.a + 1 := by simp; omega
        cases ha : afterOf rest with
        | nil =>
          rw [cut_none ha] at i4 ⊢
          simp only [rowsL, bindR_ok_nil] at i4 ⊢
          exact ⟨i4, by omega⟩
        | cons c r' =>
          obtain ⟨k1, k2, k3, k4⟩ := cut_some ha
          rw [k1] at i4 ⊢
          have hr' : r'.length = rest.length - ((lineOf rest).length + 1) := by rw [← k3]; simp
          simp only [List.length_append, List.length_cons, List.length_nil] at i4 hn ⊢
          refine ⟨by omega, by omega, by omega, ?_⟩
          rw [i4]
          congr 2
      simp only [putL, ↓R1, R2, R3, R4, R5, Nat.reduceEqDiff, Nat.reduceAdd, Nat.reduceMul, Nat.reduceSub, Nat.reduceLeDiff, Nat.reduceLT, reduceIte, reduceCtorEq, Int.reduceBNe, Int.reduceBEq, aC_frz, frzS, frzV_none, frzV_some, q1, q2, q3, q4, q5, hw, t2, t3, t4, t5, ttip, s5, tl]
      by_cases h1000 : 1000 < (lineOf rest).length
      · have q2 : decide ((1000 : Int) < ((lineOf rest).length : Int)) = true := by rw [decide_eq_true_eq]; omega
        have hrr : rowsL (lines l) 0 = .error (4, g.a) := by rw [i4, lines_head]; simp only [rowsL, lineRow, if_pos h1000, bindR]
        repeat' (first | (with_reducible rw [allocV_eq]) | (refine gdV_split (fun hc => ?_) (fun hc => ?_) <;> (try simp only [hc, ↓R1, R2, R3, R4, R5, Nat.reduceEqDiff, Nat.reduceAdd, Nat.reduceMul, Nat.reduceSub, Nat.reduceLeDiff, Nat.reduceLT, reduceIte, reduceCtorEq, Int.reduceBNe, Int.reduceBEq, aC_frz, frzS, frzV_none, frzV_some, q1, q2, q3, q4, q5, hw, t2, t3, t4, t5, ttip, s5, tl])) | ((first | refine condV_split (fun hc => ?_) (fun hc => ?_) | (with_reducible intro β hβ; (try simp only [St.box_noneA, St.tip_noneA, St.tip_set, St.box_tip, St.box_lp, St.tip_lp] at hβ); (repeat (obtain ⟨⟨_, _⟩, hβ⟩ := hβ)); (try (have hbis := apart_is (by assumption) hβ; obtain ⟨_, _⟩ := hbis)))) <;> (try simp only [↓R1, R2, R3, R4, R5, Nat.reduceEqDiff, Nat.reduceAdd, Nat.reduceMul, Nat.reduceSub, Nat.reduceLeDiff, Nat.reduceLT, reduceIte, reduceCtorEq, Int.reduceBNe, Int.reduceBEq, aC_frz, frzS, frzV_none, frzV_some, q1, q2, q3, q4, q5, hw, t2, t3, t4, t5, ttip, s5, tl])) | (with_reducible refine And.intro ?_ ?_; (focus (first | omega | (intros; (repeat' (with_reducible apply And.intro)) <;> first | omega | (simp only [cWd_len, cRw_len, List.length_append, List.length_cons, List.length_nil]; omega))))) | (with_reducible apply And.intro) | ((first | refine Pu.to (ht) (wkL_refl _) ?_ | refine callDV_pu (ht) (wkL_refl _) ?_); (try simp only [↓R1, R2, R3, R4, R5, Nat.reduceEqDiff, Nat.reduceAdd, Nat.reduceMul, Nat.reduceSub, Nat.reduceLeDiff, Nat.reduceLT, reduceIte, reduceCtorEq, Int.reduceBNe, Int.reduceBEq, aC_frz, frzS, frzV_none, frzV_some, q1, q2, q3, q4, q5, hw, t2, t3, t4, t5, ttip, s5, tl])))
        rw [hrr]
        refine endP_pu (by simp) (by first | (simp [rvsS, rvS]; done) | (simp only [rvsS, rvS, ↓R1, R2, R3, R4, R5, Nat.reduceEqDiff, Nat.reduceAdd, Nat.reduceMul, Nat.reduceSub, Nat.reduceLeDiff, Nat.reduceLT, reduceIte, reduceCtorEq, Int.reduceBNe, Int.reduceBEq, aC_frz, frzS, frzV_none, frzV_some, q1, q2, q3, q4, q5, hw, t2, t3, t4, t5, ttip, s5, tl]; try simp)) ?_ (St.le_setBox (St.le_setBox (le_lpdrop1 (tle _ _) hL0) h2) h3)
        simp only [resAV, rvV, List.map_cons, List.map_nil, ↓R1, R2, R3, R4, R5, Nat.reduceEqDiff, Nat.reduceAdd, Nat.reduceMul, Nat.reduceSub, Nat.reduceLeDiff, Nat.reduceLT, reduceIte, reduceCtorEq, Int.reduceBNe, Int.reduceBEq, aC_frz, frzS, frzV_none, frzV_some, q1, q2, q3, q4, q5, hw, t2, t3, t4, t5, ttip, s5, tl]
        simp only [rowsV, faultV]
        (repeat' (first | exact wk_refl _ | exact wk_nils | exact wk_tsl _ _ _ | exact wk_full _ _ | exact wkL.nil | exact wkL_refl _ | refine wk_tup ?_ | refine wk_agg ?_ | refine wkL.cons ?_ ?_))
      · have q2 : decide ((1000 : Int) < ((lineOf rest).length : Int)) = false := by rw [decide_eq_false_iff_not]; omega
        have hll : (lineOf rest).length ≤ 1000000 := by omega
        cases hws : wordsS (lineOf rest) with
        | error b =>
          have hrr : rowsL (lines l) 0 = .error (3, g.a + b) := by rw [i4, lines_head]; simp only [rowsL, lineRow_err h1000 hws, bindR]
          have ha : ∀ s, AC Tryd.prog 48 [.str (lineOf rest)] s (fun r s' => r = .tup [.nils, .int .i64 (b : Nat), .bool false] ∧ s' = s) := fun s => by
            have := a_words s (lineOf rest) hll
            rwa [hws] at this
          have hb : b ≤ 1000000 := by have := words_err hws; omega
          have q3 : IntKind.i64.wrap ((g.a : Int) + (b : Int)) = ((g.a + b : Nat) : Int) := by rw [wrap64 (by omega) (by omega)]; omega
          repeat' (first | (with_reducible rw [allocV_eq]) | (refine gdV_split (fun hc => ?_) (fun hc => ?_) <;> (try simp only [hc, ↓R1, R2, R3, R4, R5, Nat.reduceEqDiff, Nat.reduceAdd, Nat.reduceMul, Nat.reduceSub, Nat.reduceLeDiff, Nat.reduceLT, reduceIte, reduceCtorEq, Int.reduceBNe, Int.reduceBEq, aC_frz, frzS, frzV_none, frzV_some, q1, q2, q3, q4, q5, hw, t2, t3, t4, t5, ttip, s5, tl])) | ((first | refine condV_split (fun hc => ?_) (fun hc => ?_) | (with_reducible intro β hβ; (try simp only [St.box_noneA, St.tip_noneA, St.tip_set, St.box_tip, St.box_lp, St.tip_lp] at hβ); (repeat (obtain ⟨⟨_, _⟩, hβ⟩ := hβ)); (try (have hbis := apart_is (by assumption) hβ; obtain ⟨_, _⟩ := hbis)))) <;> (try simp only [↓R1, R2, R3, R4, R5, Nat.reduceEqDiff, Nat.reduceAdd, Nat.reduceMul, Nat.reduceSub, Nat.reduceLeDiff, Nat.reduceLT, reduceIte, reduceCtorEq, Int.reduceBNe, Int.reduceBEq, aC_frz, frzS, frzV_none, frzV_some, q1, q2, q3, q4, q5, hw, t2, t3, t4, t5, ttip, s5, tl])) | (with_reducible refine And.intro ?_ ?_; (focus (first | omega | (intros; (repeat' (with_reducible apply And.intro)) <;> first | omega | (simp only [cWd_len, cRw_len, List.length_append, List.length_cons, List.length_nil]; omega))))) | (with_reducible apply And.intro) | ((first | refine Pu.to (ht) (wkL_refl _) ?_ | refine callDV_pu (ht) (wkL_refl _) ?_ | (refine AC.mono (AC.wk (ha _) (wkL_refl _)) ?_; (rintro _ _ ⟨rfl, rfl⟩))); (try simp only [↓R1, R2, R3, R4, R5, Nat.reduceEqDiff, Nat.reduceAdd, Nat.reduceMul, Nat.reduceSub, Nat.reduceLeDiff, Nat.reduceLT, reduceIte, reduceCtorEq, Int.reduceBNe, Int.reduceBEq, aC_frz, frzS, frzV_none, frzV_some, q1, q2, q3, q4, q5, hw, t2, t3, t4, t5, ttip, s5, tl])))
          rw [hrr]
          refine endP_pu (by simp) (by first | (simp [rvsS, rvS]; done) | (simp only [rvsS, rvS, ↓R1, R2, R3, R4, R5, Nat.reduceEqDiff, Nat.reduceAdd, Nat.reduceMul, Nat.reduceSub, Nat.reduceLeDiff, Nat.reduceLT, reduceIte, reduceCtorEq, Int.reduceBNe, Int.reduceBEq, aC_frz, frzS, frzV_none, frzV_some, q1, q2, q3, q4, q5, hw, t2, t3, t4, t5, ttip, s5, tl]; try simp)) ?_ (St.le_setBox (St.le_setBox (le_lpdrop1 (tle _ _) hL0) h2) h3)
          simp only [resAV, rvV, List.map_cons, List.map_nil, ↓R1, R2, R3, R4, R5, Nat.reduceEqDiff, Nat.reduceAdd, Nat.reduceMul, Nat.reduceSub, Nat.reduceLeDiff, Nat.reduceLT, reduceIte, reduceCtorEq, Int.reduceBNe, Int.reduceBEq, aC_frz, frzS, frzV_none, frzV_some, q1, q2, q3, q4, q5, hw, t2, t3, t4, t5, ttip, s5, tl]
          simp only [rowsV, faultV]
          (repeat' (first | exact wk_refl _ | exact wk_nils | exact wk_tsl _ _ _ | exact wk_full _ _ | exact wkL.nil | exact wkL_refl _ | refine wk_tup ?_ | refine wk_agg ?_ | refine wkL.cons ?_ ?_))
        | ok ws =>
          by_cases hne : ws = []
          · subst hne
            have hrr := lineRow_nil (a := g.a) h1000 hws
            have ha : ∀ s, AC Tryd.prog 48 [.str (lineOf rest)] s (fun r s' => r = .tup [.nils, .int .i64 0, .bool true] ∧ s' = s) := fun s => by
              have := a_words s (lineOf rest) hll
              rw [hws] at this
              refine this.mono ?_
              rintro r s' ⟨τ', _, rfl, rfl⟩
              exact ⟨rfl, rfl⟩
            have q3 : decide (((0 : Int)) < ((0 : Nat) : Int)) = false := rfl
            repeat' (first | (with_reducible rw [allocV_eq]) | (refine gdV_split (fun hc => ?_) (fun hc => ?_) <;> (try simp only [hc, ↓R1, R2, R3, R4, R5, Nat.reduceEqDiff, Nat.reduceAdd, Nat.reduceMul, Nat.reduceSub, Nat.reduceLeDiff, Nat.reduceLT, reduceIte, reduceCtorEq, Int.reduceBNe, Int.reduceBEq, aC_frz, frzS, frzV_none, frzV_some, q1, q2, q3, q4, q5, hw, t2, t3, t4, t5, ttip, s5, tl])) | ((first | refine condV_split (fun hc => ?_) (fun hc => ?_) | (with_reducible intro β hβ; (try simp only [St.box_noneA, St.tip_noneA, St.tip_set, St.box_tip, St.box_lp, St.tip_lp] at hβ); (repeat (obtain ⟨⟨_, _⟩, hβ⟩ := hβ)); (try (have hbis := apart_is (by assumption) hβ; obtain ⟨_, _⟩ := hbis)))) <;> (try simp only [↓R1, R2, R3, R4, R5, Nat.reduceEqDiff, Nat.reduceAdd, Nat.reduceMul, Nat.reduceSub, Nat.reduceLeDiff, Nat.reduceLT, reduceIte, reduceCtorEq, Int.reduceBNe, Int.reduceBEq, aC_frz, frzS, frzV_none, frzV_some, q1, q2, q3, q4, q5, hw, t2, t3, t4, t5, ttip, s5, tl])) | (with_reducible refine And.intro ?_ ?_; (focus (first | omega | (intros; (repeat' (with_reducible apply And.intro)) <;> first | omega | (simp only [cWd_len, cRw_len, List.length_append, List.length_cons, List.length_nil]; omega))))) | (with_reducible apply And.intro) | ((first | refine Pu.to (ht) (wkL_refl _) ?_ | refine callDV_pu (ht) (wkL_refl _) ?_ | (refine AC.mono (AC.wk (ha _) (wkL_refl _)) ?_; (rintro _ _ ⟨rfl, rfl⟩))); (try simp only [↓R1, R2, R3, R4, R5, Nat.reduceEqDiff, Nat.reduceAdd, Nat.reduceMul, Nat.reduceSub, Nat.reduceLeDiff, Nat.reduceLT, reduceIte, reduceCtorEq, Int.reduceBNe, Int.reduceBEq, aC_frz, frzS, frzV_none, frzV_some, q1, q2, q3, q4, q5, hw, t2, t3, t4, t5, ttip, s5, tl])))
            refine loopV_st (α := Unit) (fun _ => [(4, .ptr b4 0), (7, .int .i64 (g.a : Nat)), (8, .nils), (44, .int .i64 ((0 : Nat) : Int)), (45, .int .i64 0)]) (fun _ => _) (fun _ => True) (fun _ => 0) () (by simp [subF, slot, wk_refl]) (St.le_refl _) trivial ?_
            rintro _ _
            simp only [↓R1, R2, R3, R4, R5, Nat.reduceEqDiff, Nat.reduceAdd, Nat.reduceMul, Nat.reduceSub, Nat.reduceLeDiff, Nat.reduceLT, reduceIte, reduceCtorEq, Int.reduceBNe, Int.reduceBEq, aC_frz, frzS, frzV_none, frzV_some, q1, q2, q3, q4, q5, hw, t2, t3, t4, t5, ttip, s5, tl]
            repeat' (first | (with_reducible rw [allocV_eq]) | (refine gdV_split (fun hc => ?_) (fun hc => ?_) <;> (try simp only [hc, ↓R1, R2, R3, R4, R5, Nat.reduceEqDiff, Nat.reduceAdd, Nat.reduceMul, Nat.reduceSub, Nat.reduceLeDiff, Nat.reduceLT, reduceIte, reduceCtorEq, Int.reduceBNe, Int.reduceBEq, aC_frz, frzS, frzV_none, frzV_some, q1, q2, q3, q4, q5, hw, t2, t3, t4, t5, ttip, s5, tl])) | ((first | refine condV_split (fun hc => ?_) (fun hc => ?_) | (with_reducible intro β hβ; (try simp only [St.box_noneA, St.tip_noneA, St.tip_set, St.box_tip, St.box_lp, St.tip_lp] at hβ); (repeat (obtain ⟨⟨_, _⟩, hβ⟩ := hβ)); (try (have hbis := apart_is (by assumption) hβ; obtain ⟨_, _⟩ := hbis)))) <;> (try simp only [↓R1, R2, R3, R4, R5, Nat.reduceEqDiff, Nat.reduceAdd, Nat.reduceMul, Nat.reduceSub, Nat.reduceLeDiff, Nat.reduceLT, reduceIte, reduceCtorEq, Int.reduceBNe, Int.reduceBEq, aC_frz, frzS, frzV_none, frzV_some, q1, q2, q3, q4, q5, hw, t2, t3, t4, t5, ttip, s5, tl])) | (with_reducible refine And.intro ?_ ?_; (focus (first | omega | (intros; (repeat' (with_reducible apply And.intro)) <;> first | omega | (simp only [cWd_len, cRw_len, List.length_append, List.length_cons, List.length_nil]; omega))))) | (with_reducible apply And.intro))
            refine ⟨⟨g.a + (cut rest).1.length, g.rs⟩, St.le_refl _, ?_⟩
            have hfin := fin [] hrr (by simp)
            simp only [List.append_nil] at hfin
            exact hfin
          · have hrr := lineRow_cons (a := g.a) h1000 hws hne
            obtain ⟨hwl, hwa⟩ := words_len hws
            repeat' (first | (with_reducible rw [allocV_eq]) | (refine gdV_split (fun hc => ?_) (fun hc => ?_) <;> (try simp only [hc, ↓R1, R2, R3, R4, R5, Nat.reduceEqDiff, Nat.reduceAdd, Nat.reduceMul, Nat.reduceSub, Nat.reduceLeDiff, Nat.reduceLT, reduceIte, reduceCtorEq, Int.reduceBNe, Int.reduceBEq, aC_frz, frzS, frzV_none, frzV_some, q1, q2, q3, q4, q5, hw, t2, t3, t4, t5, ttip, s5, tl])) | ((first | refine condV_split (fun hc => ?_) (fun hc => ?_) | (with_reducible intro β hβ; (try simp only [St.box_noneA, St.tip_noneA, St.tip_set, St.box_tip, St.box_lp, St.tip_lp] at hβ); (repeat (obtain ⟨⟨_, _⟩, hβ⟩ := hβ)); (try (have hbis := apart_is (by assumption) hβ; obtain ⟨_, _⟩ := hbis)))) <;> (try simp only [↓R1, R2, R3, R4, R5, Nat.reduceEqDiff, Nat.reduceAdd, Nat.reduceMul, Nat.reduceSub, Nat.reduceLeDiff, Nat.reduceLT, reduceIte, reduceCtorEq, Int.reduceBNe, Int.reduceBEq, aC_frz, frzS, frzV_none, frzV_some, q1, q2, q3, q4, q5, hw, t2, t3, t4, t5, ttip, s5, tl])) | (with_reducible refine And.intro ?_ ?_; (focus (first | omega | (intros; (repeat' (with_reducible apply And.intro)) <;> first | omega | (simp only [cWd_len, cRw_len, List.length_append, List.length_cons, List.length_nil]; omega))))) | (with_reducible apply And.intro) | ((first | refine Pu.to (ht) (wkL_refl _) ?_ | refine callDV_pu (ht) (wkL_refl _) ?_); (try simp only [↓R1, R2, R3, R4, R5, Nat.reduceEqDiff, Nat.reduceAdd, Nat.reduceMul, Nat.reduceSub, Nat.reduceLeDiff, Nat.reduceLT, reduceIte, reduceCtorEq, Int.reduceBNe, Int.reduceBEq, aC_frz, frzS, frzV_none, frzV_some, q1, q2, q3, q4, q5, hw, t2, t3, t4, t5, ttip, s5, tl])))
            refine (AC.wk (words_owned _ hll hws hne) (wkL_refl _)).mono ?_
            rintro _ _ ⟨γ, k, hγ, rfl, rfl⟩
            simp only [St.box_noneA, St.box_lp] at hγ
            obtain ⟨⟨_, _⟩, hγ⟩ := hγ
            obtain ⟨_, _⟩ := apart_is (σ := T g rest) (β := b4) (γ := γ) ⟨t4 g rest⟩ hγ
            simp only [↓R1, R2, R3, R4, R5, Nat.reduceEqDiff, Nat.reduceAdd, Nat.reduceMul, Nat.reduceSub, Nat.reduceLeDiff, Nat.reduceLT, reduceIte, reduceCtorEq, Int.reduceBNe, Int.reduceBEq, aC_frz, frzS, frzV_none, frzV_some, q1, q2, q3, q4, q5, hw, t2, t3, t4, t5, ttip, s5, tl]
            refine loopV_for ws.length (fun i => [(4, .ptr b4 0), (7, .int .i64 (g.a : Nat)), (8, .psl γ 0 ws.length), (44, .int .i64 (ws.length : Nat)), (45, .int .i64 (i : Nat))]) (fun i => ((T ⟨g.a + (cut rest).1.length, g.rs⟩ rest).setLp L (busy r, _)).setBox γ (shG g.a ws i (List.replicate k .junk))) (fun _ => True) (by simp [subF, slot, wk_refl]) (by rw [shG_zero]; exact St.le_refl _) trivial (fun i hi _ => ?_)
            have hsl := shG_len g.a ws i hi (List.replicate k .junk)
            simp only [↓R1, R2, R3, R4, R5, Nat.reduceEqDiff, Nat.reduceAdd, Nat.reduceMul, Nat.reduceSub, Nat.reduceLeDiff, Nat.reduceLT, reduceIte, reduceCtorEq, Int.reduceBNe, Int.reduceBEq, aC_frz, frzS, frzV_none, frzV_some, q1, q2, q3, q4, q5, hw, t2, t3, t4, t5, ttip, s5, tl]
            by_cases hin : i < ws.length
            · have q3 : decide ((i : Int) < (ws.length : Int)) = true := by rw [decide_eq_true_eq]; omega
              obtain ⟨g1, g2⟩ := shG_at g.a ws hin (List.replicate k .junk)
              have hwk := hwa ws[i] (List.getElem_mem hin)
              have q4 := g1
              have hw2 : IntKind.i64.wrap ((ws[i].a : Int) + (g.a : Int)) = ((ws[i].a + g.a : Nat) : Int) := by rw [wrap64 (by omega) (by omega)]; omega
              have q5 := hw2
              simp only [q3, ↓R1, R2, R3, R4, R5, Nat.reduceEqDiff, Nat.reduceAdd, Nat.reduceMul, Nat.reduceSub, Nat.reduceLeDiff, Nat.reduceLT, reduceIte, reduceCtorEq, Int.reduceBNe, Int.reduceBEq, aC_frz, frzS, frzV_none, frzV_some, q1, q2, q3, q4, q5, hw, t2, t3, t4, t5, ttip, s5, tl]
              repeat' (first | (with_reducible rw [allocV_eq]) | (refine gdV_split (fun hc => ?_) (fun hc => ?_) <;> (try simp only [hc, ↓R1, R2, R3, R4, R5, Nat.reduceEqDiff, Nat.reduceAdd, Nat.reduceMul, Nat.reduceSub, Nat.reduceLeDiff, Nat.reduceLT, reduceIte, reduceCtorEq, Int.reduceBNe, Int.reduceBEq, aC_frz, frzS, frzV_none, frzV_some, q1, q2, q3, q4, q5, hw, t2, t3, t4, t5, ttip, s5, tl])) | ((first | refine condV_split (fun hc => ?_) (fun hc => ?_) | (with_reducible intro β hβ; (try simp only [St.box_noneA, St.tip_noneA, St.tip_set, St.box_tip, St.box_lp, St.tip_lp] at hβ); (repeat (obtain ⟨⟨_, _⟩, hβ⟩ := hβ)); (try (have hbis := apart_is (by assumption) hβ; obtain ⟨_, _⟩ := hbis)))) <;> (try simp only [↓R1, R2, R3, R4, R5, Nat.reduceEqDiff, Nat.reduceAdd, Nat.reduceMul, Nat.reduceSub, Nat.reduceLeDiff, Nat.reduceLT, reduceIte, reduceCtorEq, Int.reduceBNe, Int.reduceBEq, aC_frz, frzS, frzV_none, frzV_some, q1, q2, q3, q4, q5, hw, t2, t3, t4, t5, ttip, s5, tl])) | (with_reducible refine And.intro ?_ ?_; (focus (first | omega | (intros; (repeat' (with_reducible apply And.intro)) <;> first | omega | (simp only [cWd_len, cRw_len, List.length_append, List.length_cons, List.length_nil]; omega))))) | (with_reducible apply And.intro))
              · (simp only [subF, slot, wk_refl, ↓R1, R2, R3, R4, R5, Nat.reduceEqDiff, Nat.reduceAdd, Nat.reduceMul, Nat.reduceSub, Nat.reduceLeDiff, Nat.reduceLT, reduceIte, reduceCtorEq, Int.reduceBNe, Int.reduceBEq, aC_frz, frzS, frzV_none, frzV_some, q1, q2, q3, q4, q5, hw, t2, t3, t4, t5, ttip, s5, tl]; (repeat' (with_reducible apply And.intro)) <;> first | exact wk_k (by have := maxLen_lt; omega) | exact wk_tsl _ _ _ | exact wk_full _ _ | exact wk_of_eq (congrArg (AV.tsl _ _) (flat_step (by assumption))))
              · rw [g2]; exact St.le_refl _
            · have q3 : decide ((i : Int) < (ws.length : Int)) = false := by rw [decide_eq_false_iff_not]; omega
              have hie : i = ws.length := by omega
              subst hie
              have q4 : (ws.length * 3).ble (shG g.a ws ws.length (List.replicate k AV.junk)).length = true := Nat.ble_eq_true_of_le (by rw [hsl]; omega)
              have hwp : 0 < ws.length := List.length_pos_iff.2 hne
              simp only [q3, ↓R1, R2, R3, R4, R5, Nat.reduceEqDiff, Nat.reduceAdd, Nat.reduceMul, Nat.reduceSub, Nat.reduceLeDiff, Nat.reduceLT, reduceIte, reduceCtorEq, Int.reduceBNe, Int.reduceBEq, aC_frz, frzS, frzV_none, frzV_some, q1, q2, q3, q4, q5, hw, t2, t3, t4, t5, ttip, s5, tl]
              have hγ2 : (T ⟨g.a + (cut rest).1.length, g.rs⟩ rest).box γ = none := by
                have h : (((T g rest).setLp L (r, [])).setBox b5 [.int .i64 ((g.a + (cut rest).1.length : Nat) : Int)]).box γ = none := by
                  rw [St.box_noneA]; exact ⟨⟨by assumption, by assumption⟩, hγ⟩
                rw [s5] at h
                exact h
              rw [shG_all, drop_new (σ := (T ⟨g.a + (cut rest).1.length, g.rs⟩ rest).setLp L _) hγ2]
              have q3 : decide ((0 : Int) < (ws.length : Int)) = true := by rw [decide_eq_true_eq]; omega
              simp only [q3, ↓R1, R2, R3, R4, R5, Nat.reduceEqDiff, Nat.reduceAdd, Nat.reduceMul, Nat.reduceSub, Nat.reduceLeDiff, Nat.reduceLT, reduceIte, reduceCtorEq, Int.reduceBNe, Int.reduceBEq, aC_frz, frzS, frzV_none, frzV_some, q1, q2, q3, q4, q5, hw, t2, t3, t4, t5, ttip, s5, tl]
              repeat' (first | (with_reducible rw [allocV_eq]) | (refine gdV_split (fun hc => ?_) (fun hc => ?_) <;> (try simp only [hc, ↓R1, R2, R3, R4, R5, Nat.reduceEqDiff, Nat.reduceAdd, Nat.reduceMul, Nat.reduceSub, Nat.reduceLeDiff, Nat.reduceLT, reduceIte, reduceCtorEq, Int.reduceBNe, Int.reduceBEq, aC_frz, frzS, frzV_none, frzV_some, q1, q2, q3, q4, q5, hw, t2, t3, t4, t5, ttip, s5, tl])) | ((first | refine condV_split (fun hc => ?_) (fun hc => ?_) | (with_reducible intro β hβ; (try simp only [St.box_noneA, St.tip_noneA, St.tip_set, St.box_tip, St.box_lp, St.tip_lp] at hβ); (repeat (obtain ⟨⟨_, _⟩, hβ⟩ := hβ)); (try (have hbis := apart_is (by assumption) hβ; obtain ⟨_, _⟩ := hbis))) | ((first | (refine appD_tslK (.inr rfl) rfl ?_ ?_ ?_ ?_ ?_ ?_; (first | rfl | exact St.tip_same _ _ _ | (simp only [↓R1, R2, R3, R4, R5, Nat.reduceEqDiff, Nat.reduceAdd, Nat.reduceMul, Nat.reduceSub, Nat.reduceLeDiff, Nat.reduceLT, reduceIte, reduceCtorEq, Int.reduceBNe, Int.reduceBEq, aC_frz, frzS, frzV_none, frzV_some, q1, q2, q3, q4, q5, hw, t2, t3, t4, t5, ttip, s5, tl])); (first | omega | (simp only [cWd_len, cRw_len, List.length_append, List.length_cons, List.length_nil, List.length_nil, List.length_cons]; omega) | (simp only [cWd_len, cRw_len, List.length_append, List.length_cons, List.length_nil, List.length_nil, List.length_cons])); (first | rfl | first | omega | (simp only [cWd_len, cRw_len, List.length_append, List.length_cons, List.length_nil, List.length_nil, List.length_cons]; omega) | (simp only [cWd_len, cRw_len, List.length_append, List.length_cons, List.length_nil, List.length_nil, List.length_cons]))) | (refine appV_tslK rfl ?_ ?_ ?_ ?_ ?_ ?_; (first | rfl | exact St.tip_same _ _ _ | (simp only [↓R1, R2, R3, R4, R5, Nat.reduceEqDiff, Nat.reduceAdd, Nat.reduceMul, Nat.reduceSub, Nat.reduceLeDiff, Nat.reduceLT, reduceIte, reduceCtorEq, Int.reduceBNe, Int.reduceBEq, aC_frz, frzS, frzV_none, frzV_some, q1, q2, q3, q4, q5, hw, t2, t3, t4, t5, ttip, s5, tl])); (first | omega | (simp only [cWd_len, cRw_len, List.length_append, List.length_cons, List.length_nil, List.length_nil, List.length_cons]; omega) | (simp only [cWd_len, cRw_len, List.length_append, List.length_cons, List.length_nil, List.length_nil, List.length_cons])); (first | rfl | first | omega | (simp only [cWd_len, cRw_len, List.length_append, List.length_cons, List.length_nil, List.length_nil, List.length_cons]; omega) | (simp only [cWd_len, cRw_len, List.length_append, List.length_cons, List.length_nil, List.length_nil, List.length_cons]))) | (refine appV_own ?_ ?_ ?_ ?_; exact flat_len (by intro _; rfl) _) | (refine appD_own ?_ ?_ ?_ ?_ ?_; omega; exact flat_len (by intro _; rfl) _) | (refine appV_fresh rfl trivial rfl ?_ ?_ ?_ ?_ ?_; (first | rfl | first | omega | (simp only [cWd_len, cRw_len, List.length_append, List.length_cons, List.length_nil, List.length_nil, List.length_cons]; omega) | (simp only [cWd_len, cRw_len, List.length_append, List.length_cons, List.length_nil, List.length_nil, List.length_cons])); (first | rfl | first | omega | (simp only [cWd_len, cRw_len, List.length_append, List.length_cons, List.length_nil, List.length_nil, List.length_cons]; omega) | (simp only [cWd_len, cRw_len, List.length_append, List.length_cons, List.length_nil, List.length_nil, List.length_cons]))) | (refine appD_fresh rfl trivial rfl ?_ ?_ ?_ ?_ ?_ ?_; omega; (first | rfl | first | omega | (simp only [cWd_len, cRw_len, List.length_append, List.length_cons, List.length_nil, List.length_nil, List.length_cons]; omega) | (simp only [cWd_len, cRw_len, List.length_append, List.length_cons, List.length_nil, List.length_nil, List.length_cons])); (first | rfl | first | omega | (simp only [cWd_len, cRw_len, List.length_append, List.length_cons, List.length_nil, List.length_nil, List.length_cons]; omega) | (simp only [cWd_len, cRw_len, List.length_append, List.length_cons, List.length_nil, List.length_nil, List.length_cons])))); (unfold maxLen; omega); omega)) <;> (try simp only [↓R1, R2, R3, R4, R5, Nat.reduceEqDiff, Nat.reduceAdd, Nat.reduceMul, Nat.reduceSub, Nat.reduceLeDiff, Nat.reduceLT, reduceIte, reduceCtorEq, Int.reduceBNe, Int.reduceBEq, aC_frz, frzS, frzV_none, frzV_some, q1, q2, q3, q4, q5, hw, t2, t3, t4, t5, ttip, s5, tl])) | (with_reducible refine And.intro ?_ ?_; (focus (first | omega | (intros; (repeat' (with_reducible apply And.intro)) <;> first | omega | (simp only [cWd_len, cRw_len, List.length_append, List.length_cons, List.length_nil]; omega))))) | (with_reducible apply And.intro))
              have e1 : ([AV.tsl τ (g.rs.length + 1) (g.rs.flatMap cRw ++ [AV.int .i64 (g.a : Nat), AV.sl false ws.length ((ws.map (shiftW g.a)).flatMap cWd)])] : List AV) = [AV.tsl τ (g.rs ++ [(⟨g.a, ws.map (shiftW g.a)⟩ : Rw)]).length ((g.rs ++ [(⟨g.a, ws.map (shiftW g.a)⟩ : Rw)]).flatMap cRw)] := by
                simp [cRw]
              have e2 : g.rs.length + 1 = (g.rs ++ [(⟨g.a, ws.map (shiftW g.a)⟩ : Rw)]).length := by simp
              rw [e1, e2, s4]
              exact ⟨⟨g.a + (cut rest).1.length, g.rs ++ [⟨g.a, ws.map (shiftW g.a)⟩]⟩, St.le_refl _, fin _ hrr (by simp)⟩
    · rintro g r ⟨j1, j2⟩
      rw [j1]
      simp only [↓R1, R2, R3, R4, R5, Nat.reduceEqDiff, Nat.reduceAdd, Nat.reduceMul, Nat.reduceSub, Nat.reduceLeDiff, Nat.reduceLT, reduceIte, reduceCtorEq, Int.reduceBNe, Int.reduceBEq, aC_frz, frzS, frzV_none, frzV_some, q1, q2, q3, q4, q5, hw, t2, t3, t4, t5, ttip, s5, tl]
      have hl2 : St.le σ (((T g r).setBox b2 [AV.tsl τ g.rs.length (g.rs.flatMap cRw)]).setBox b3 [AV.int IntKind.i64 0, AV.int IntKind.i64 0]) := St.le_setBox (St.le_setBox (tle g r) h2) h3
      refine endP_pu (by simp) (by first | (simp [rvsS, rvS]; done) | (simp only [rvsS, rvS, ↓R1, R2, R3, R4, R5, Nat.reduceEqDiff, Nat.reduceAdd, Nat.reduceMul, Nat.reduceSub, Nat.reduceLeDiff, Nat.reduceLT, reduceIte, reduceCtorEq, Int.reduceBNe, Int.reduceBEq, aC_frz, frzS, frzV_none, frzV_some, q1, q2, q3, q4, q5, hw, t2, t3, t4, t5, ttip, s5, tl]; try simp)) ?_ hl2
      simp only [resAV, rvV, List.map_cons, List.map_nil, ↓R1, R2, R3, R4, R5, Nat.reduceEqDiff, Nat.reduceAdd, Nat.reduceMul, Nat.reduceSub, Nat.reduceLeDiff, Nat.reduceLT, reduceIte, reduceCtorEq, Int.reduceBNe, Int.reduceBEq, aC_frz, frzS, frzV_none, frzV_some, q1, q2, q3, q4, q5, hw, t2, t3, t4, t5, ttip, s5, tl]
      simp only [rowsV, faultV]
      (repeat' (first | exact wk_refl _ | exact wk_nils | exact wk_tsl _ _ _ | exact wk_full _ _ | exact wkL.nil | exact wkL_refl _ | refine wk_tup ?_ | refine wk_agg ?_ | refine wkL.cons ?_ ?_))
end Go.Proofs.YtemddijemikleaaDoor
namespace Go.Proofs.YtemddijemikleaaDoor
open Go.Abs
set_option linter.all false
set_option maxRecDepth 100000
theorem p27 (q : Bool) (t : List UInt8) (a : Int) : Pu Tryd.prog 27 [.bool q, .str t, .int .i64 a] (.agg [.bool q, .str t, .int .i64 a]) := by
  (refine Pu_intro c27 b27 (Nat.le_of_ble_eq_true rfl) fun σ => ?_; simp only [c27, ↓R1, R2, R3, R4, R5, Nat.reduceEqDiff, Nat.reduceAdd, Nat.reduceMul, Nat.reduceSub, Nat.reduceLeDiff, Nat.reduceLT, reduceIte, reduceCtorEq, Int.reduceBNe, Int.reduceBEq])
  repeat' (first | (with_reducible rw [allocV_eq]) | (refine gdV_split (fun hc => ?_) (fun hc => ?_) <;> (try simp only [hc, ↓R1, R2, R3, R4, R5, Nat.reduceEqDiff, Nat.reduceAdd, Nat.reduceMul, Nat.reduceSub, Nat.reduceLeDiff, Nat.reduceLT, reduceIte, reduceCtorEq, Int.reduceBNe, Int.reduceBEq])) | ((first | refine condV_split (fun hc => ?_) (fun hc => ?_) | (with_reducible intro β hβ; (try simp only [St.box_noneA, St.tip_noneA, St.tip_set, St.box_tip, St.box_lp, St.tip_lp] at hβ); (repeat (obtain ⟨⟨_, _⟩, hβ⟩ := hβ)); (try (have hbis := apart_is (by assumption) hβ; obtain ⟨_, _⟩ := hbis)))) <;> (try simp only [↓R1, R2, R3, R4, R5, Nat.reduceEqDiff, Nat.reduceAdd, Nat.reduceMul, Nat.reduceSub, Nat.reduceLeDiff, Nat.reduceLT, reduceIte, reduceCtorEq, Int.reduceBNe, Int.reduceBEq])) | (with_reducible refine And.intro ?_ ?_; (focus (first | omega | (intros; (repeat' (with_reducible apply And.intro)) <;> first | omega | (simp only [List.length_map]; omega))))) | (with_reducible apply And.intro))
  (refine endP_pu (by simp) (by first | (simp [rvsS, rvS]; done) | (simp only [rvsS, rvS, ↓R1, R2, R3, R4, R5, Nat.reduceEqDiff, Nat.reduceAdd, Nat.reduceMul, Nat.reduceSub, Nat.reduceLeDiff, Nat.reduceLT, reduceIte, reduceCtorEq, Int.reduceBNe, Int.reduceBEq]; try simp)) (wk_of_eq ?_) (by (repeat (first | exact St.le_refl _ | (refine St.le_new ?_ (by assumption)) | (refine St.le_newT ?_ (by assumption))))))
  (simp only [resAV, rvV, List.map_cons, List.map_nil, ↓R1, R2, R3, R4, R5, Nat.reduceEqDiff, Nat.reduceAdd, Nat.reduceMul, Nat.reduceSub, Nat.reduceLeDiff, Nat.reduceLT, reduceIte, reduceCtorEq, Int.reduceBNe, Int.reduceBEq])
theorem toRI_flat (rs : List Rw) : rs.flatMap cRw = (rs.map toRI).flatMap cRI := by
  induction rs with
  | nil => rfl
  | cons r rs ih =>
    simp only [List.flatMap_cons, List.map_cons, ih]
    congr 1
    simp only [cRw, cRI, toRI, List.length_map]
    congr 3
    induction r.ws with
    | nil => rfl
    | cons w ws ih2 => simp only [List.flatMap_cons, List.map_cons, ih2]; rfl
def exT : List UInt8 := [97, 32, 34, 98, 32, 99, 34, 32, 35, 32, 110, 111, 10, 32, 32, 120, 10]
def exR : List Rw := [⟨0, [⟨false, [97], 0⟩, ⟨true, [98, 32, 99], 2⟩]⟩, ⟨13, [⟨false, [120], 15⟩]⟩]
theorem ex_rows : rowsS exT = .ok exR := by kernel_rfl
theorem ex_text : textS [mkR [[97], [98, 32, 99]], mkR [[55]]] = .ok [97, 32, 34, 98, 32, 99, 34, 10, 55, 10] := by kernel_rfl
theorem light_of {l : List RI} (h : decide (l.length ≤ 1000) && (l.all fun r => decide (r.ws.length ≤ 1000) && r.ws.all fun w => decide (w.t.length ≤ 20000)) = true) : LightR l := by
  simp only [Bool.and_eq_true, List.all_eq_true, decide_eq_true_eq] at h
  exact ⟨h.1, fun r hr => ⟨(h.2 r hr).1, (h.2 r hr).2⟩⟩
theorem awake_pu : Pu Tryd.prog 10 [] (.bool true) := by
  have q1 : (((0 : Nat) : Int) == 0) = true := rfl
  have q2 : True := trivial
  have q3 : True := trivial
  have h1 := p25 exT (by decide)
  rw [ex_rows] at h1
  simp only [rowsV, faultV, toRI_flat] at h1
  have h2 := p14 (exR.map toRI) (light_of (by decide))
  have h3 := p23 [[97], [98, 32, 99]] (by decide) (by decide)
  have h4 := p23 [[55]] (by decide) (by decide)
  have h5 := p12 [mkR [[97], [98, 32, 99]], mkR [[55]]] (light_of (by decide))
  rw [ex_text] at h5
  simp only [textV, List.flatMap_cons, List.flatMap_nil, List.append_nil, cRI, mkR, List.map_cons, List.map_nil, List.cons_append, List.nil_append, List.length_cons, List.length_nil, Nat.zero_add] at h5
  simp only [cRI, mkR, List.map_cons, List.map_nil, List.flatMap_cons, List.flatMap_nil, List.append_nil, List.length_cons, List.length_nil, Nat.zero_add] at h3 h4 h5
  have hwk : wk (.sl true 2 [AV.int IntKind.i64 0, AV.sl true 2 [AV.bool false, AV.str [97], AV.int IntKind.i64 0, AV.bool true, AV.str [98, 32, 99], AV.int IntKind.i64 2], AV.int IntKind.i64 13, AV.sl true 1 [AV.bool false, AV.str [120], AV.int IntKind.i64 15]]) (.sl false (exR.map toRI).length ((exR.map toRI).flatMap cRI)) :=
    wk_trans (wk_full _ _) (wk_sl (.cons (wk_refl _) (.cons (wk_full _ _) (.cons (wk_refl _) (.cons (wk_full _ _) .nil)))))
  (refine Pu_intro c10 b10 (Nat.le_of_ble_eq_true rfl) fun σ => ?_; simp only [c10, ↓R1, R2, R3, R4, R5, Nat.reduceEqDiff, Nat.reduceAdd, Nat.reduceMul, Nat.reduceSub, Nat.reduceLeDiff, Nat.reduceLT, reduceIte, reduceCtorEq, Int.reduceBNe, Int.reduceBEq, q1, q2, q3, beq_self_eq_true])
  repeat' (first | (with_reducible rw [allocV_eq]) | (refine gdV_split (fun hc => ?_) (fun hc => ?_) <;> (try simp only [hc, ↓R1, R2, R3, R4, R5, Nat.reduceEqDiff, Nat.reduceAdd, Nat.reduceMul, Nat.reduceSub, Nat.reduceLeDiff, Nat.reduceLT, reduceIte, reduceCtorEq, Int.reduceBNe, Int.reduceBEq, q1, q2, q3, beq_self_eq_true])) | ((first | refine condV_split (fun hc => ?_) (fun hc => ?_) | (with_reducible intro β hβ; (try simp only [St.box_noneA, St.tip_noneA, St.tip_set, St.box_tip, St.box_lp, St.tip_lp] at hβ); (repeat (obtain ⟨⟨_, _⟩, hβ⟩ := hβ)); (try (have hbis := apart_is (by assumption) hβ; obtain ⟨_, _⟩ := hbis)))) <;> (try simp only [↓R1, R2, R3, R4, R5, Nat.reduceEqDiff, Nat.reduceAdd, Nat.reduceMul, Nat.reduceSub, Nat.reduceLeDiff, Nat.reduceLT, reduceIte, reduceCtorEq, Int.reduceBNe, Int.reduceBEq, q1, q2, q3, beq_self_eq_true])) | (with_reducible refine And.intro ?_ ?_; (focus (first | omega | (intros; (repeat' (with_reducible apply And.intro)) <;> first | omega | (simp only [List.length_map]; omega))))) | (with_reducible apply And.intro) | ((first | refine Pu.to (h1) (wkL_refl _) ?_ | refine callDV_pu (h1) (wkL_refl _) ?_ | refine Pu.to (p27 _ _ _) (wkL_refl _) ?_ | refine callDV_pu (p27 _ _ _) (wkL_refl _) ?_ | (refine Pu.to h2 (.cons (wk_refl _) (.cons hwk .nil)) ?_)); (try simp only [↓R1, R2, R3, R4, R5, Nat.reduceEqDiff, Nat.reduceAdd, Nat.reduceMul, Nat.reduceSub, Nat.reduceLeDiff, Nat.reduceLT, reduceIte, reduceCtorEq, Int.reduceBNe, Int.reduceBEq, q1, q2, q3, beq_self_eq_true])) | (refine Pu.to (h3) ?_ ?_; (focus ((repeat' (first | exact wk_refl _ | exact wk_nils | exact wk_tsl _ _ _ | exact wk_full _ _ | exact wkL.nil | exact wkL_refl _ | refine wk_tup ?_ | refine wk_agg ?_ | refine wkL.cons ?_ ?_)); done)); (try simp only [↓R1, R2, R3, R4, R5, Nat.reduceEqDiff, Nat.reduceAdd, Nat.reduceMul, Nat.reduceSub, Nat.reduceLeDiff, Nat.reduceLT, reduceIte, reduceCtorEq, Int.reduceBNe, Int.reduceBEq, q1, q2, q3, beq_self_eq_true])) | (refine Pu.to (h4) ?_ ?_; (focus ((repeat' (first | exact wk_refl _ | exact wk_nils | exact wk_tsl _ _ _ | exact wk_full _ _ | exact wkL.nil | exact wkL_refl _ | refine wk_tup ?_ | refine wk_agg ?_ | refine wkL.cons ?_ ?_)); done)); (try simp only [↓R1, R2, R3, R4, R5, Nat.reduceEqDiff, Nat.reduceAdd, Nat.reduceMul, Nat.reduceSub, Nat.reduceLeDiff, Nat.reduceLT, reduceIte, reduceCtorEq, Int.reduceBNe, Int.reduceBEq, q1, q2, q3, beq_self_eq_true])) | (refine Pu.to (h5) ?_ ?_; (focus ((repeat' (first | exact wk_refl _ | exact wk_nils | exact wk_tsl _ _ _ | exact wk_full _ _ | exact wkL.nil | exact wkL_refl _ | refine wk_tup ?_ | refine wk_agg ?_ | refine wkL.cons ?_ ?_)); done)); (try simp only [↓R1, R2, R3, R4, R5, Nat.reduceEqDiff, Nat.reduceAdd, Nat.reduceMul, Nat.reduceSub, Nat.reduceLeDiff, Nat.reduceLT, reduceIte, reduceCtorEq, Int.reduceBNe, Int.reduceBEq, q1, q2, q3, beq_self_eq_true])))
  (refine endP_pu (by simp) (by first | (simp [rvsS, rvS]; done) | (simp only [rvsS, rvS, ↓R1, R2, R3, R4, R5, Nat.reduceEqDiff, Nat.reduceAdd, Nat.reduceMul, Nat.reduceSub, Nat.reduceLeDiff, Nat.reduceLT, reduceIte, reduceCtorEq, Int.reduceBNe, Int.reduceBEq, q1, q2, q3, beq_self_eq_true]; try simp)) (wk_of_eq ?_) (by (repeat (first | exact St.le_refl _ | (refine St.le_new ?_ (by assumption)) | (refine St.le_newT ?_ (by assumption))))))
  (simp only [resAV, rvV, List.map_cons, List.map_nil, ↓R1, R2, R3, R4, R5, Nat.reduceEqDiff, Nat.reduceAdd, Nat.reduceMul, Nat.reduceSub, Nat.reduceLeDiff, Nat.reduceLT, reduceIte, reduceCtorEq, Int.reduceBNe, Int.reduceBEq, q1, q2, q3, beq_self_eq_true])
  all_goals rfl
end Go.Proofs.YtemddijemikleaaDoor
namespace Go.Proofs.YtemddijemikleaaDoor
open Go.Abs
set_option linter.all false
set_option maxRecDepth 100000
/-- Which of the names a word is: the first one. -/
def whichF (t : List UInt8) : List (List UInt8) → Nat → Option Nat
  | [], _ => none
  | n :: l, i => bif n == t then some i else whichF t l (i + 1)
def whichV (q : Bool) (t : List UInt8) (l : List (List UInt8)) : AV :=
  match (bif q then none else whichF t l 0) with
  | some i => .tup [.int .i64 (i : Nat), .int .i64 0]
  | none => .tup [.int .i64 0, .int .i64 7]
theorem whichF_drop (t : List UInt8) (l : List (List UInt8)) {k : Nat} (h : k < l.length) (j : Nat) : whichF t (l.drop k) j = bif l[k] == t then some j else whichF t (l.drop (k + 1)) (j + 1) := by
  rw [List.drop_eq_getElem_cons h]; rfl
set_option maxHeartbeats 2000000 in
theorem p19 (q : Bool) (t : List UInt8) (a : Int) (l : List (List UInt8)) (hl : l.length ≤ 1000) : Pu Tryd.prog 19 [.agg [.bool q, .str t, .int .i64 a], .sl false l.length (l.map AV.str)] (whichV q t l) := by
  have q1 : True := trivial
  have q2 : True := trivial
  have q3 : True := trivial
  have q4 : True := trivial
  have q5 : True := trivial
  have hw : True := trivial
  have hd : True := trivial
  (refine Pu_intro c19 b19 (Nat.le_of_ble_eq_true rfl) fun σ => ?_; simp only [c19, ↓R1, R2, R3, R4, R5, Nat.reduceEqDiff, Nat.reduceAdd, Nat.reduceMul, Nat.reduceSub, Nat.reduceLeDiff, Nat.reduceLT, reduceIte, reduceCtorEq, Int.reduceBNe, Int.reduceBEq, q1, q2, q3, q4, q5, hw, hd])
  intro β hβ
  refine loopV_for l.length (fun k => [(2, .ptr β 0), (8, .sl false l.length (l.map AV.str)), (9, .int .i64 (l.length : Nat)), (10, .int .i64 (k : Nat))]) (fun _ => σ.setBox β [.bool q, .str t, .int .i64 a]) (fun k => (bif q then none else whichF t l 0) = (bif q then none else whichF t (l.drop k) k)) (by simp [subF, slot, wk_refl]) (St.le_refl _) (by simp) (fun k hk hI => ?_)
  by_cases hlt : k < l.length
  · have q1 : decide ((k : Int) < (l.length : Int)) = true := by rw [decide_eq_true_eq]; omega
    have hd := strs_get l hlt
    have hw : IntKind.i64.wrap ((k : Int) + 1) = ((k + 1 : Nat) : Int) := by rw [wrap64 (by omega) (by omega)]; omega
    rw [whichF_drop t l hlt] at hI
    cases q with
    | true =>
      simp only [q1, ↓R1, R2, R3, R4, R5, Nat.reduceEqDiff, Nat.reduceAdd, Nat.reduceMul, Nat.reduceSub, Nat.reduceLeDiff, Nat.reduceLT, reduceIte, reduceCtorEq, Int.reduceBNe, Int.reduceBEq, q1, q2, q3, q4, q5, hw, hd]
      repeat' (first | (with_reducible rw [allocV_eq]) | (refine gdV_split (fun hc => ?_) (fun hc => ?_) <;> (try simp only [hc, ↓R1, R2, R3, R4, R5, Nat.reduceEqDiff, Nat.reduceAdd, Nat.reduceMul, Nat.reduceSub, Nat.reduceLeDiff, Nat.reduceLT, reduceIte, reduceCtorEq, Int.reduceBNe, Int.reduceBEq, q1, q2, q3, q4, q5, hw, hd])) | ((first | refine condV_split (fun hc => ?_) (fun hc => ?_) | (with_reducible intro β hβ; (try simp only [St.box_noneA, St.tip_noneA, St.tip_set, St.box_tip, St.box_lp, St.tip_lp] at hβ); (repeat (obtain ⟨⟨_, _⟩, hβ⟩ := hβ)); (try (have hbis := apart_is (by assumption) hβ; obtain ⟨_, _⟩ := hbis)))) <;> (try simp only [↓R1, R2, R3, R4, R5, Nat.reduceEqDiff, Nat.reduceAdd, Nat.reduceMul, Nat.reduceSub, Nat.reduceLeDiff, Nat.reduceLT, reduceIte, reduceCtorEq, Int.reduceBNe, Int.reduceBEq, q1, q2, q3, q4, q5, hw, hd])) | (with_reducible refine And.intro ?_ ?_; (focus (first | omega | (intros; (repeat' (with_reducible apply And.intro)) <;> first | omega | (simp only [List.length_map]; omega))))) | (with_reducible apply And.intro))
      all_goals first | (simp; done) | skip
      all_goals first | (rw [List.length_map]; omega) | skip
      · simp [subF, slot, wk_refl]
      · exact St.le_refl _
    | false =>
      cases he : l[k] == t with
      | true =>
        rw [he] at hI
        simp only [cond_true, cond_false] at hI
        have q2 := he
        rw [whichV]; simp only [cond_false]; rw [hI]
        simp only [q1, ↓R1, R2, R3, R4, R5, Nat.reduceEqDiff, Nat.reduceAdd, Nat.reduceMul, Nat.reduceSub, Nat.reduceLeDiff, Nat.reduceLT, reduceIte, reduceCtorEq, Int.reduceBNe, Int.reduceBEq, q1, q2, q3, q4, q5, hw, hd]
        repeat' (first | (with_reducible rw [allocV_eq]) | (refine gdV_split (fun hc => ?_) (fun hc => ?_) <;> (try simp only [hc, ↓R1, R2, R3, R4, R5, Nat.reduceEqDiff, Nat.reduceAdd, Nat.reduceMul, Nat.reduceSub, Nat.reduceLeDiff, Nat.reduceLT, reduceIte, reduceCtorEq, Int.reduceBNe, Int.reduceBEq, q1, q2, q3, q4, q5, hw, hd])) | ((first | refine condV_split (fun hc => ?_) (fun hc => ?_) | (with_reducible intro β hβ; (try simp only [St.box_noneA, St.tip_noneA, St.tip_set, St.box_tip, St.box_lp, St.tip_lp] at hβ); (repeat (obtain ⟨⟨_, _⟩, hβ⟩ := hβ)); (try (have hbis := apart_is (by assumption) hβ; obtain ⟨_, _⟩ := hbis)))) <;> (try simp only [↓R1, R2, R3, R4, R5, Nat.reduceEqDiff, Nat.reduceAdd, Nat.reduceMul, Nat.reduceSub, Nat.reduceLeDiff, Nat.reduceLT, reduceIte, reduceCtorEq, Int.reduceBNe, Int.reduceBEq, q1, q2, q3, q4, q5, hw, hd])) | (with_reducible refine And.intro ?_ ?_; (focus (first | omega | (intros; (repeat' (with_reducible apply And.intro)) <;> first | omega | (simp only [List.length_map]; omega))))) | (with_reducible apply And.intro))
        all_goals first | (rw [List.length_map]; omega) | skip
        refine endP_pu (by simp) (by first | (simp [rvsS, rvS]; done) | (simp only [rvsS, rvS, ↓R1, R2, R3, R4, R5, Nat.reduceEqDiff, Nat.reduceAdd, Nat.reduceMul, Nat.reduceSub, Nat.reduceLeDiff, Nat.reduceLT, reduceIte, reduceCtorEq, Int.reduceBNe, Int.reduceBEq, q1, q2, q3, q4, q5, hw, hd]; try simp)) (wk_of_eq (by (simp only [resAV, rvV, List.map_cons, List.map_nil, ↓R1, R2, R3, R4, R5, Nat.reduceEqDiff, Nat.reduceAdd, Nat.reduceMul, Nat.reduceSub, Nat.reduceLeDiff, Nat.reduceLT, reduceIte, reduceCtorEq, Int.reduceBNe, Int.reduceBEq, q1, q2, q3, q4, q5, hw, hd]))) (St.le_setBox (St.le_refl _) hβ)
      | false =>
        rw [he] at hI
        have q2 := he
        simp only [q1, ↓R1, R2, R3, R4, R5, Nat.reduceEqDiff, Nat.reduceAdd, Nat.reduceMul, Nat.reduceSub, Nat.reduceLeDiff, Nat.reduceLT, reduceIte, reduceCtorEq, Int.reduceBNe, Int.reduceBEq, q1, q2, q3, q4, q5, hw, hd]
        repeat' (first | (with_reducible rw [allocV_eq]) | (refine gdV_split (fun hc => ?_) (fun hc => ?_) <;> (try simp only [hc, ↓R1, R2, R3, R4, R5, Nat.reduceEqDiff, Nat.reduceAdd, Nat.reduceMul, Nat.reduceSub, Nat.reduceLeDiff, Nat.reduceLT, reduceIte, reduceCtorEq, Int.reduceBNe, Int.reduceBEq, q1, q2, q3, q4, q5, hw, hd])) | ((first | refine condV_split (fun hc => ?_) (fun hc => ?_) | (with_reducible intro β hβ; (try simp only [St.box_noneA, St.tip_noneA, St.tip_set, St.box_tip, St.box_lp, St.tip_lp] at hβ); (repeat (obtain ⟨⟨_, _⟩, hβ⟩ := hβ)); (try (have hbis := apart_is (by assumption) hβ; obtain ⟨_, _⟩ := hbis)))) <;> (try simp only [↓R1, R2, R3, R4, R5, Nat.reduceEqDiff, Nat.reduceAdd, Nat.reduceMul, Nat.reduceSub, Nat.reduceLeDiff, Nat.reduceLT, reduceIte, reduceCtorEq, Int.reduceBNe, Int.reduceBEq, q1, q2, q3, q4, q5, hw, hd])) | (with_reducible refine And.intro ?_ ?_; (focus (first | omega | (intros; (repeat' (with_reducible apply And.intro)) <;> first | omega | (simp only [List.length_map]; omega))))) | (with_reducible apply And.intro))
        all_goals first | (rw [List.length_map]; omega) | skip
        · simpa using hI
        · simp [subF, slot, wk_refl]
        · exact St.le_refl _
  · have hke : k = l.length := by omega
    subst hke
    have q1 : decide ((l.length : Int) < (l.length : Int)) = false := by simp
    rw [List.drop_length] at hI
    rw [whichV, hI]
    have e : (bif q then none else whichF t [] l.length) = none := by cases q <;> rfl
    rw [e]
    simp only [q1, ↓R1, R2, R3, R4, R5, Nat.reduceEqDiff, Nat.reduceAdd, Nat.reduceMul, Nat.reduceSub, Nat.reduceLeDiff, Nat.reduceLT, reduceIte, reduceCtorEq, Int.reduceBNe, Int.reduceBEq, q1, q2, q3, q4, q5, hw, hd]
    repeat' (first | (with_reducible rw [allocV_eq]) | (refine gdV_split (fun hc => ?_) (fun hc => ?_) <;> (try simp only [hc, ↓R1, R2, R3, R4, R5, Nat.reduceEqDiff, Nat.reduceAdd, Nat.reduceMul, Nat.reduceSub, Nat.reduceLeDiff, Nat.reduceLT, reduceIte, reduceCtorEq, Int.reduceBNe, Int.reduceBEq, q1, q2, q3, q4, q5, hw, hd])) | ((first | refine condV_split (fun hc => ?_) (fun hc => ?_) | (with_reducible intro β hβ; (try simp only [St.box_noneA, St.tip_noneA, St.tip_set, St.box_tip, St.box_lp, St.tip_lp] at hβ); (repeat (obtain ⟨⟨_, _⟩, hβ⟩ := hβ)); (try (have hbis := apart_is (by assumption) hβ; obtain ⟨_, _⟩ := hbis)))) <;> (try simp only [↓R1, R2, R3, R4, R5, Nat.reduceEqDiff, Nat.reduceAdd, Nat.reduceMul, Nat.reduceSub, Nat.reduceLeDiff, Nat.reduceLT, reduceIte, reduceCtorEq, Int.reduceBNe, Int.reduceBEq, q1, q2, q3, q4, q5, hw, hd])) | (with_reducible refine And.intro ?_ ?_; (focus (first | omega | (intros; (repeat' (with_reducible apply And.intro)) <;> first | omega | (simp only [List.length_map]; omega))))) | (with_reducible apply And.intro))
    refine endP_pu (by simp) (by first | (simp [rvsS, rvS]; done) | (simp only [rvsS, rvS, ↓R1, R2, R3, R4, R5, Nat.reduceEqDiff, Nat.reduceAdd, Nat.reduceMul, Nat.reduceSub, Nat.reduceLeDiff, Nat.reduceLT, reduceIte, reduceCtorEq, Int.reduceBNe, Int.reduceBEq, q1, q2, q3, q4, q5, hw, hd]; try simp)) (wk_of_eq (by (simp only [resAV, rvV, List.map_cons, List.map_nil, ↓R1, R2, R3, R4, R5, Nat.reduceEqDiff, Nat.reduceAdd, Nat.reduceMul, Nat.reduceSub, Nat.reduceLeDiff, Nat.reduceLT, reduceIte, reduceCtorEq, Int.reduceBNe, Int.reduceBEq, q1, q2, q3, q4, q5, hw, hd]))) (St.le_setBox (St.le_refl _) hβ)
end Go.Proofs.YtemddijemikleaaDoor
namespace Go.Proofs.YtemddijemikleaaDoor
open Go.Abs
set_option linter.all false
set_option maxRecDepth 100000
theorem signV_tup (q : Bool) (t : List UInt8) : ∃ x y, signV q t = .tup [.int .i64 x, .int .i64 y] := by
  unfold signV
  cases (q || !digOk (absS t)) || (negS t && decide (valN (absS t) = 0)) with
  | true => exact ⟨_, _, rfl⟩
  | false =>
    simp only [cond_false]
    cases (decide (18446744073709551616 ≤ valN (absS t)) || decide (9223372036854775808 < valN (absS t))) || (decide (valN (absS t) = 9223372036854775808) && !negS t) with
    | true => exact ⟨_, _, rfl⟩
    | false => exact ⟨_, _, rfl⟩
end Go.Proofs.YtemddijemikleaaDoor
namespace Go.Proofs.YtemddijemikleaaDoor
open Go.Abs
set_option linter.all false
set_option maxRecDepth 100000
theorem p26 {s : List UInt8} {q : Bool} {t : List UInt8} {a : Nat} (hl : s.length ≤ 1000000) (ht : t.length ≤ 20000) (h : rowsS s = .ok [⟨0, [⟨q, t, a⟩]⟩]) : Pu Tryd.prog 26 [.str s, .agg [.bool q, .str t, .int .i64 (a : Nat)]] (.bool true) := by
  have q1 : (((0 : Nat) : Int) == 0) = true := rfl
  have q2 : True := trivial
  have q3 : True := trivial
  have h1 := p25 s hl
  rw [h] at h1
  simp only [rowsV, faultV, toRI_flat] at h1
  have h2 := p14 [toRI ⟨0, [⟨q, t, a⟩]⟩] (light_of (by simp [toRI, toWI]; exact ht))
  have e : [toRI ⟨0, [⟨q, t, a⟩]⟩].flatMap cRI = [.int .i64 0, .sl false 1 [.bool q, .str t, .int .i64 (a : Nat)]] := rfl
  simp only [List.map_cons, List.map_nil, e, List.length_cons, List.length_nil, Nat.zero_add] at h1 h2
  have hwk : wk (.sl true 1 [AV.int IntKind.i64 0, AV.sl true 1 [AV.bool q, AV.str t, AV.int IntKind.i64 (a : Nat)]]) (.sl false 1 [AV.int IntKind.i64 0, AV.sl false 1 [AV.bool q, AV.str t, AV.int IntKind.i64 (a : Nat)]]) :=
    wk_trans (wk_full _ _) (wk_sl (.cons (wk_refl _) (.cons (wk_full _ _) .nil)))
  (refine Pu_intro c26 b26 (Nat.le_of_ble_eq_true rfl) fun σ => ?_; simp only [c26, ↓R1, R2, R3, R4, R5, Nat.reduceEqDiff, Nat.reduceAdd, Nat.reduceMul, Nat.reduceSub, Nat.reduceLeDiff, Nat.reduceLT, reduceIte, reduceCtorEq, Int.reduceBNe, Int.reduceBEq, q1, q2, q3, beq_self_eq_true])
  repeat' (first | (with_reducible rw [allocV_eq]) | (refine gdV_split (fun hc => ?_) (fun hc => ?_) <;> (try simp only [hc, ↓R1, R2, R3, R4, R5, Nat.reduceEqDiff, Nat.reduceAdd, Nat.reduceMul, Nat.reduceSub, Nat.reduceLeDiff, Nat.reduceLT, reduceIte, reduceCtorEq, Int.reduceBNe, Int.reduceBEq, q1, q2, q3, beq_self_eq_true])) | ((first | refine condV_split (fun hc => ?_) (fun hc => ?_) | (with_reducible intro β hβ; (try simp only [St.box_noneA, St.tip_noneA, St.tip_set, St.box_tip, St.box_lp, St.tip_lp] at hβ); (repeat (obtain ⟨⟨_, _⟩, hβ⟩ := hβ)); (try (have hbis := apart_is (by assumption) hβ; obtain ⟨_, _⟩ := hbis)))) <;> (try simp only [↓R1, R2, R3, R4, R5, Nat.reduceEqDiff, Nat.reduceAdd, Nat.reduceMul, Nat.reduceSub, Nat.reduceLeDiff, Nat.reduceLT, reduceIte, reduceCtorEq, Int.reduceBNe, Int.reduceBEq, q1, q2, q3, beq_self_eq_true])) | (with_reducible refine And.intro ?_ ?_; (focus (first | omega | (intros; (repeat' (with_reducible apply And.intro)) <;> first | omega | (simp only [List.length_map]; omega))))) | (with_reducible apply And.intro) | ((first | refine Pu.to (h1) (wkL_refl _) ?_ | refine callDV_pu (h1) (wkL_refl _) ?_ | (refine Pu.to h2 (.cons (wk_refl _) (.cons hwk .nil)) ?_)); (try simp only [↓R1, R2, R3, R4, R5, Nat.reduceEqDiff, Nat.reduceAdd, Nat.reduceMul, Nat.reduceSub, Nat.reduceLeDiff, Nat.reduceLT, reduceIte, reduceCtorEq, Int.reduceBNe, Int.reduceBEq, q1, q2, q3, beq_self_eq_true])))
  (refine endP_pu (by simp) (by first | (simp [rvsS, rvS]; done) | (simp only [rvsS, rvS, ↓R1, R2, R3, R4, R5, Nat.reduceEqDiff, Nat.reduceAdd, Nat.reduceMul, Nat.reduceSub, Nat.reduceLeDiff, Nat.reduceLT, reduceIte, reduceCtorEq, Int.reduceBNe, Int.reduceBEq, q1, q2, q3, beq_self_eq_true]; try simp)) (wk_of_eq ?_) (by (repeat (first | exact St.le_refl _ | (refine St.le_new ?_ (by assumption)) | (refine St.le_newT ?_ (by assumption))))))
  (simp only [resAV, rvV, List.map_cons, List.map_nil, ↓R1, R2, R3, R4, R5, Nat.reduceEqDiff, Nat.reduceAdd, Nat.reduceMul, Nat.reduceSub, Nat.reduceLeDiff, Nat.reduceLT, reduceIte, reduceCtorEq, Int.reduceBNe, Int.reduceBEq, q1, q2, q3, beq_self_eq_true])
theorem p28 {s : List UInt8} (hl : s.length ≤ 1000000) (h : rowsS s = .error (3, 0)) : Pu Tryd.prog 28 [.str s] (.bool true) := by
  have q1 : (((0 : Nat) : Int) == 0) = true := rfl
  have q2 : (((3 : Nat) : Int) == 3) = true := rfl
  have q3 : True := trivial
  have h1 := p25 s hl
  rw [h] at h1
  simp only [rowsV, faultV] at h1
  (refine Pu_intro c28 b28 (Nat.le_of_ble_eq_true rfl) fun σ => ?_; simp only [c28, ↓R1, R2, R3, R4, R5, Nat.reduceEqDiff, Nat.reduceAdd, Nat.reduceMul, Nat.reduceSub, Nat.reduceLeDiff, Nat.reduceLT, reduceIte, reduceCtorEq, Int.reduceBNe, Int.reduceBEq, q1, q2, q3, beq_self_eq_true])
  repeat' (first | (with_reducible rw [allocV_eq]) | (refine gdV_split (fun hc => ?_) (fun hc => ?_) <;> (try simp only [hc, ↓R1, R2, R3, R4, R5, Nat.reduceEqDiff, Nat.reduceAdd, Nat.reduceMul, Nat.reduceSub, Nat.reduceLeDiff, Nat.reduceLT, reduceIte, reduceCtorEq, Int.reduceBNe, Int.reduceBEq, q1, q2, q3, beq_self_eq_true])) | ((first | refine condV_split (fun hc => ?_) (fun hc => ?_) | (with_reducible intro β hβ; (try simp only [St.box_noneA, St.tip_noneA, St.tip_set, St.box_tip, St.box_lp, St.tip_lp] at hβ); (repeat (obtain ⟨⟨_, _⟩, hβ⟩ := hβ)); (try (have hbis := apart_is (by assumption) hβ; obtain ⟨_, _⟩ := hbis)))) <;> (try simp only [↓R1, R2, R3, R4, R5, Nat.reduceEqDiff, Nat.reduceAdd, Nat.reduceMul, Nat.reduceSub, Nat.reduceLeDiff, Nat.reduceLT, reduceIte, reduceCtorEq, Int.reduceBNe, Int.reduceBEq, q1, q2, q3, beq_self_eq_true])) | (with_reducible refine And.intro ?_ ?_; (focus (first | omega | (intros; (repeat' (with_reducible apply And.intro)) <;> first | omega | (simp only [List.length_map]; omega))))) | (with_reducible apply And.intro) | ((first | refine Pu.to (h1) (wkL_refl _) ?_ | refine callDV_pu (h1) (wkL_refl _) ?_); (try simp only [↓R1, R2, R3, R4, R5, Nat.reduceEqDiff, Nat.reduceAdd, Nat.reduceMul, Nat.reduceSub, Nat.reduceLeDiff, Nat.reduceLT, reduceIte, reduceCtorEq, Int.reduceBNe, Int.reduceBEq, q1, q2, q3, beq_self_eq_true])))
  (refine endP_pu (by simp) (by first | (simp [rvsS, rvS]; done) | (simp only [rvsS, rvS, ↓R1, R2, R3, R4, R5, Nat.reduceEqDiff, Nat.reduceAdd, Nat.reduceMul, Nat.reduceSub, Nat.reduceLeDiff, Nat.reduceLT, reduceIte, reduceCtorEq, Int.reduceBNe, Int.reduceBEq, q1, q2, q3, beq_self_eq_true]; try simp)) (wk_of_eq ?_) (by (repeat (first | exact St.le_refl _ | (refine St.le_new ?_ (by assumption)) | (refine St.le_newT ?_ (by assumption))))))
  (simp only [resAV, rvV, List.map_cons, List.map_nil, ↓R1, R2, R3, R4, R5, Nat.reduceEqDiff, Nat.reduceAdd, Nat.reduceMul, Nat.reduceSub, Nat.reduceLeDiff, Nat.reduceLT, reduceIte, reduceCtorEq, Int.reduceBNe, Int.reduceBEq, q1, q2, q3, beq_self_eq_true])
theorem p30 (q : Bool) (t : List UInt8) (a lo hi x y : Int) (hl : t.length ≤ 1000000) (h : numV q t lo hi = .tup [.int .u64 x, .int .i64 y]) : Pu Tryd.prog 30 [.agg [.bool q, .str t, .int .i64 a], .int .u64 lo, .int .u64 hi] (.int .i64 y) := by
  have q1 : True := trivial
  have q2 : True := trivial
  have q3 : True := trivial
  have h1 := p17 q t a lo hi hl
  rw [h] at h1
  (refine Pu_intro c30 b30 (Nat.le_of_ble_eq_true rfl) fun σ => ?_; simp only [c30, ↓R1, R2, R3, R4, R5, Nat.reduceEqDiff, Nat.reduceAdd, Nat.reduceMul, Nat.reduceSub, Nat.reduceLeDiff, Nat.reduceLT, reduceIte, reduceCtorEq, Int.reduceBNe, Int.reduceBEq, q1, q2, q3, beq_self_eq_true])
  repeat' (first | (with_reducible rw [allocV_eq]) | (refine gdV_split (fun hc => ?_) (fun hc => ?_) <;> (try simp only [hc, ↓R1, R2, R3, R4, R5, Nat.reduceEqDiff, Nat.reduceAdd, Nat.reduceMul, Nat.reduceSub, Nat.reduceLeDiff, Nat.reduceLT, reduceIte, reduceCtorEq, Int.reduceBNe, Int.reduceBEq, q1, q2, q3, beq_self_eq_true])) | ((first | refine condV_split (fun hc => ?_) (fun hc => ?_) | (with_reducible intro β hβ; (try simp only [St.box_noneA, St.tip_noneA, St.tip_set, St.box_tip, St.box_lp, St.tip_lp] at hβ); (repeat (obtain ⟨⟨_, _⟩, hβ⟩ := hβ)); (try (have hbis := apart_is (by assumption) hβ; obtain ⟨_, _⟩ := hbis)))) <;> (try simp only [↓R1, R2, R3, R4, R5, Nat.reduceEqDiff, Nat.reduceAdd, Nat.reduceMul, Nat.reduceSub, Nat.reduceLeDiff, Nat.reduceLT, reduceIte, reduceCtorEq, Int.reduceBNe, Int.reduceBEq, q1, q2, q3, beq_self_eq_true])) | (with_reducible refine And.intro ?_ ?_; (focus (first | omega | (intros; (repeat' (with_reducible apply And.intro)) <;> first | omega | (simp only [List.length_map]; omega))))) | (with_reducible apply And.intro) | ((first | refine Pu.to (h1) (wkL_refl _) ?_ | refine callDV_pu (h1) (wkL_refl _) ?_); (try simp only [↓R1, R2, R3, R4, R5, Nat.reduceEqDiff, Nat.reduceAdd, Nat.reduceMul, Nat.reduceSub, Nat.reduceLeDiff, Nat.reduceLT, reduceIte, reduceCtorEq, Int.reduceBNe, Int.reduceBEq, q1, q2, q3, beq_self_eq_true])))
  (refine endP_pu (by simp) (by first | (simp [rvsS, rvS]; done) | (simp only [rvsS, rvS, ↓R1, R2, R3, R4, R5, Nat.reduceEqDiff, Nat.reduceAdd, Nat.reduceMul, Nat.reduceSub, Nat.reduceLeDiff, Nat.reduceLT, reduceIte, reduceCtorEq, Int.reduceBNe, Int.reduceBEq, q1, q2, q3, beq_self_eq_true]; try simp)) (wk_of_eq ?_) (by (repeat (first | exact St.le_refl _ | (refine St.le_new ?_ (by assumption)) | (refine St.le_newT ?_ (by assumption))))))
  (simp only [resAV, rvV, List.map_cons, List.map_nil, ↓R1, R2, R3, R4, R5, Nat.reduceEqDiff, Nat.reduceAdd, Nat.reduceMul, Nat.reduceSub, Nat.reduceLeDiff, Nat.reduceLT, reduceIte, reduceCtorEq, Int.reduceBNe, Int.reduceBEq, q1, q2, q3, beq_self_eq_true])
theorem p31 (t : List UInt8) (hl : t.length ≤ 1000000) : Pu Tryd.prog 31 [.str t] (signV false t) := by
  have q1 : True := trivial
  have q2 : True := trivial
  have q3 : True := trivial
  have h1 := p21 false t 0 hl
  obtain ⟨x, y, h⟩ := signV_tup false t
  rw [h] at h1 ⊢
  (refine Pu_intro c31 b31 (Nat.le_of_ble_eq_true rfl) fun σ => ?_; simp only [c31, ↓R1, R2, R3, R4, R5, Nat.reduceEqDiff, Nat.reduceAdd, Nat.reduceMul, Nat.reduceSub, Nat.reduceLeDiff, Nat.reduceLT, reduceIte, reduceCtorEq, Int.reduceBNe, Int.reduceBEq, q1, q2, q3, beq_self_eq_true])
  repeat' (first | (with_reducible rw [allocV_eq]) | (refine gdV_split (fun hc => ?_) (fun hc => ?_) <;> (try simp only [hc, ↓R1, R2, R3, R4, R5, Nat.reduceEqDiff, Nat.reduceAdd, Nat.reduceMul, Nat.reduceSub, Nat.reduceLeDiff, Nat.reduceLT, reduceIte, reduceCtorEq, Int.reduceBNe, Int.reduceBEq, q1, q2, q3, beq_self_eq_true])) | ((first | refine condV_split (fun hc => ?_) (fun hc => ?_) | (with_reducible intro β hβ; (try simp only [St.box_noneA, St.tip_noneA, St.tip_set, St.box_tip, St.box_lp, St.tip_lp] at hβ); (repeat (obtain ⟨⟨_, _⟩, hβ⟩ := hβ)); (try (have hbis := apart_is (by assumption) hβ; obtain ⟨_, _⟩ := hbis)))) <;> (try simp only [↓R1, R2, R3, R4, R5, Nat.reduceEqDiff, Nat.reduceAdd, Nat.reduceMul, Nat.reduceSub, Nat.reduceLeDiff, Nat.reduceLT, reduceIte, reduceCtorEq, Int.reduceBNe, Int.reduceBEq, q1, q2, q3, beq_self_eq_true])) | (with_reducible refine And.intro ?_ ?_; (focus (first | omega | (intros; (repeat' (with_reducible apply And.intro)) <;> first | omega | (simp only [List.length_map]; omega))))) | (with_reducible apply And.intro) | ((first | refine Pu.to (p27 _ _ _) (wkL_refl _) ?_ | refine callDV_pu (p27 _ _ _) (wkL_refl _) ?_ | refine Pu.to (h1) (wkL_refl _) ?_ | refine callDV_pu (h1) (wkL_refl _) ?_); (try simp only [↓R1, R2, R3, R4, R5, Nat.reduceEqDiff, Nat.reduceAdd, Nat.reduceMul, Nat.reduceSub, Nat.reduceLeDiff, Nat.reduceLT, reduceIte, reduceCtorEq, Int.reduceBNe, Int.reduceBEq, q1, q2, q3, beq_self_eq_true])))
  (refine endP_pu (by simp) (by first | (simp [rvsS, rvS]; done) | (simp only [rvsS, rvS, ↓R1, R2, R3, R4, R5, Nat.reduceEqDiff, Nat.reduceAdd, Nat.reduceMul, Nat.reduceSub, Nat.reduceLeDiff, Nat.reduceLT, reduceIte, reduceCtorEq, Int.reduceBNe, Int.reduceBEq, q1, q2, q3, beq_self_eq_true]; try simp)) (wk_of_eq ?_) (by (repeat (first | exact St.le_refl _ | (refine St.le_new ?_ (by assumption)) | (refine St.le_newT ?_ (by assumption))))))
  (simp only [resAV, rvV, List.map_cons, List.map_nil, ↓R1, R2, R3, R4, R5, Nat.reduceEqDiff, Nat.reduceAdd, Nat.reduceMul, Nat.reduceSub, Nat.reduceLeDiff, Nat.reduceLT, reduceIte, reduceCtorEq, Int.reduceBNe, Int.reduceBEq, q1, q2, q3, beq_self_eq_true])
set_option maxHeartbeats 4000000 in
theorem known_pu : Pu Tryd.prog 5 [] (.bool true) := by
  have q1 : (((0 : Nat) : Int) == 0) = true := rfl
  have q2 : (((1 : Nat) : Int) == 1) = true := rfl
  have q3 : True := trivial
  have r1 := p25 [] (by decide)
  rw [show rowsS [] = .ok [] by kernel_rfl] at r1
  have r2 := p25 [35, 32, 111, 110, 108, 121] (by decide)
  rw [show rowsS [35, 32, 111, 110, 108, 121] = .ok [] by kernel_rfl] at r2
  simp only [rowsV, faultV, List.flatMap_nil, List.length_nil] at r1 r2
  have s1 := p26 (s := [34, 92, 120, 52, 49, 92, 34, 34]) (q := true) (t := [65, 34]) (a := 0) (by decide) (by decide) (by kernel_rfl)
  have f1 := p28 (s := [97, 34, 98]) (by decide) (by kernel_rfl)
  have f2 := p28 (s := [34, 97, 34, 98]) (by decide) (by kernel_rfl)
  have f3 := p28 (s := [34, 97]) (by decide) (by kernel_rfl)
  have f4 := p28 (s := [97, 92, 98]) (by decide) (by kernel_rfl)
  have f5 := p28 (s := [34, 92, 110, 34]) (by decide) (by kernel_rfl)
  have w1 := p15 true [255] 0 (by decide)
  rw [show wordV (wordT true [255]) = .tup [.str [34, 92, 120, 102, 102, 34], .int .i64 0] by kernel_rfl] at w1
  have w2 := p15 false [] 0 (by decide)
  rw [show wordV (wordT false []) = .tup [.str [], .int .i64 3] by kernel_rfl] at w2
  have b1 := p29 [97, 35] (by decide)
  rw [show bareS [97, 35] = true by kernel_rfl] at b1
  have b2 := p29 [35, 97] (by decide)
  rw [show bareS [35, 97] = false by kernel_rfl] at b2
  have n1 := p30 false [48, 55] 0 0 9 0 3 (by decide) (by kernel_rfl)
  have n2 := p30 false [49, 56, 52, 52, 54, 55, 52, 52, 48, 55, 51, 55, 48, 57, 53, 53, 49, 54, 49, 54] 0 0 18446744073709551615 0 2 (by decide) (by kernel_rfl)
  have n3 := p30 false [53] 0 6 9 0 2 (by decide) (by kernel_rfl)
  have n4 := p30 true [53] 0 0 9 0 3 (by decide) (by kernel_rfl)
  have g1 := p31 [45, 53] (by decide)
  rw [show signV false [45, 53] = .tup [.int .i64 (-5), .int .i64 0] by kernel_rfl] at g1
  have g2 := p31 [45, 48] (by decide)
  rw [show signV false [45, 48] = .tup [.int .i64 0, .int .i64 3] by kernel_rfl] at g2
  have g3 := p31 [45, 57, 50, 50, 51, 51, 55, 50, 48, 51, 54, 56, 53, 52, 55, 55, 53, 56, 48, 56] (by decide)
  rw [show signV false [45, 57, 50, 50, 51, 51, 55, 50, 48, 51, 54, 56, 53, 52, 55, 55, 53, 56, 48, 56] = .tup [.int .i64 (-9223372036854775808), .int .i64 0] by kernel_rfl] at g3
  have g4 := p31 [57, 50, 50, 51, 51, 55, 50, 48, 51, 54, 56, 53, 52, 55, 55, 53, 56, 48, 56] (by decide)
  rw [show signV false [57, 50, 50, 51, 51, 55, 50, 48, 51, 54, 56, 53, 52, 55, 55, 53, 56, 48, 56] = .tup [.int .i64 0, .int .i64 2] by kernel_rfl] at g4
  have i1 := p19 false [98] 0 [[97], [98], [98]] (by decide)
  rw [show whichV false [98] [[97], [98], [98]] = .tup [.int .i64 1, .int .i64 0] by kernel_rfl] at i1
  have i2 := p19 false [99] 0 [[97]] (by decide)
  rw [show whichV false [99] [[97]] = .tup [.int .i64 0, .int .i64 7] by kernel_rfl] at i2
  have i3 := p19 true [97] 0 [[97]] (by decide)
  rw [show whichV true [97] [[97]] = .tup [.int .i64 0, .int .i64 7] by kernel_rfl] at i3
  simp only [List.map_cons, List.map_nil, List.length_cons, List.length_nil, Nat.zero_add, Nat.reduceAdd] at i1 i2 i3
  (refine Pu_intro c5 b5 (Nat.le_of_ble_eq_true rfl) fun σ => ?_; simp only [c5, ↓R1, R2, R3, R4, R5, Nat.reduceEqDiff, Nat.reduceAdd, Nat.reduceMul, Nat.reduceSub, Nat.reduceLeDiff, Nat.reduceLT, reduceIte, reduceCtorEq, Int.reduceBNe, Int.reduceBEq, q1, q2, q3, beq_self_eq_true])
  repeat' (first | (with_reducible rw [allocV_eq]) | (refine gdV_split (fun hc => ?_) (fun hc => ?_) <;> (try simp only [hc, ↓R1, R2, R3, R4, R5, Nat.reduceEqDiff, Nat.reduceAdd, Nat.reduceMul, Nat.reduceSub, Nat.reduceLeDiff, Nat.reduceLT, reduceIte, reduceCtorEq, Int.reduceBNe, Int.reduceBEq, q1, q2, q3, beq_self_eq_true])) | ((first | refine condV_split (fun hc => ?_) (fun hc => ?_) | (with_reducible intro β hβ; (try simp only [St.box_noneA, St.tip_noneA, St.tip_set, St.box_tip, St.box_lp, St.tip_lp] at hβ); (repeat (obtain ⟨⟨_, _⟩, hβ⟩ := hβ)); (try (have hbis := apart_is (by assumption) hβ; obtain ⟨_, _⟩ := hbis)))) <;> (try simp only [↓R1, R2, R3, R4, R5, Nat.reduceEqDiff, Nat.reduceAdd, Nat.reduceMul, Nat.reduceSub, Nat.reduceLeDiff, Nat.reduceLT, reduceIte, reduceCtorEq, Int.reduceBNe, Int.reduceBEq, q1, q2, q3, beq_self_eq_true])) | (with_reducible refine And.intro ?_ ?_; (focus (first | omega | (intros; (repeat' (with_reducible apply And.intro)) <;> first | omega | (simp only [List.length_map]; omega))))) | (with_reducible apply And.intro) | ((first | refine Pu.to (r1) (wkL_refl _) ?_ | refine callDV_pu (r1) (wkL_refl _) ?_ | refine Pu.to (r2) (wkL_refl _) ?_ | refine callDV_pu (r2) (wkL_refl _) ?_ | refine Pu.to (s1) (wkL_refl _) ?_ | refine callDV_pu (s1) (wkL_refl _) ?_ | refine Pu.to (f1) (wkL_refl _) ?_ | refine callDV_pu (f1) (wkL_refl _) ?_ | refine Pu.to (f2) (wkL_refl _) ?_ | refine callDV_pu (f2) (wkL_refl _) ?_ | refine Pu.to (f3) (wkL_refl _) ?_ | refine callDV_pu (f3) (wkL_refl _) ?_ | refine Pu.to (f4) (wkL_refl _) ?_ | refine callDV_pu (f4) (wkL_refl _) ?_ | refine Pu.to (f5) (wkL_refl _) ?_ | refine callDV_pu (f5) (wkL_refl _) ?_ | refine Pu.to (w1) (wkL_refl _) ?_ | refine callDV_pu (w1) (wkL_refl _) ?_ | refine Pu.to (w2) (wkL_refl _) ?_ | refine callDV_pu (w2) (wkL_refl _) ?_ | refine Pu.to (b1) (wkL_refl _) ?_ | refine callDV_pu (b1) (wkL_refl _) ?_ | refine Pu.to (b2) (wkL_refl _) ?_ | refine callDV_pu (b2) (wkL_refl _) ?_ | refine Pu.to (n1) (wkL_refl _) ?_ | refine callDV_pu (n1) (wkL_refl _) ?_ | refine Pu.to (n2) (wkL_refl _) ?_ | refine callDV_pu (n2) (wkL_refl _) ?_ | refine Pu.to (n3) (wkL_refl _) ?_ | refine callDV_pu (n3) (wkL_refl _) ?_ | refine Pu.to (n4) (wkL_refl _) ?_ | refine callDV_pu (n4) (wkL_refl _) ?_ | refine Pu.to (g1) (wkL_refl _) ?_ | refine callDV_pu (g1) (wkL_refl _) ?_ | refine Pu.to (g2) (wkL_refl _) ?_ | refine callDV_pu (g2) (wkL_refl _) ?_ | refine Pu.to (g3) (wkL_refl _) ?_ | refine callDV_pu (g3) (wkL_refl _) ?_ | refine Pu.to (g4) (wkL_refl _) ?_ | refine callDV_pu (g4) (wkL_refl _) ?_ | refine Pu.to (awake_pu) (wkL_refl _) ?_ | refine callDV_pu (awake_pu) (wkL_refl _) ?_ | refine Pu.to (p27 _ _ _) (wkL_refl _) ?_ | refine callDV_pu (p27 _ _ _) (wkL_refl _) ?_); (try simp only [↓R1, R2, R3, R4, R5, Nat.reduceEqDiff, Nat.reduceAdd, Nat.reduceMul, Nat.reduceSub, Nat.reduceLeDiff, Nat.reduceLT, reduceIte, reduceCtorEq, Int.reduceBNe, Int.reduceBEq, q1, q2, q3, beq_self_eq_true])) | (refine Pu.to (i1) ?_ ?_; (focus ((repeat' (first | exact wk_refl _ | exact wk_nils | exact wk_tsl _ _ _ | exact wk_full _ _ | exact wkL.nil | exact wkL_refl _ | refine wk_tup ?_ | refine wk_agg ?_ | refine wkL.cons ?_ ?_)); done)); (try simp only [↓R1, R2, R3, R4, R5, Nat.reduceEqDiff, Nat.reduceAdd, Nat.reduceMul, Nat.reduceSub, Nat.reduceLeDiff, Nat.reduceLT, reduceIte, reduceCtorEq, Int.reduceBNe, Int.reduceBEq, q1, q2, q3, beq_self_eq_true])) | (refine Pu.to (i2) ?_ ?_; (focus ((repeat' (first | exact wk_refl _ | exact wk_nils | exact wk_tsl _ _ _ | exact wk_full _ _ | exact wkL.nil | exact wkL_refl _ | refine wk_tup ?_ | refine wk_agg ?_ | refine wkL.cons ?_ ?_)); done)); (try simp only [↓R1, R2, R3, R4, R5, Nat.reduceEqDiff, Nat.reduceAdd, Nat.reduceMul, Nat.reduceSub, Nat.reduceLeDiff, Nat.reduceLT, reduceIte, reduceCtorEq, Int.reduceBNe, Int.reduceBEq, q1, q2, q3, beq_self_eq_true])) | (refine Pu.to (i3) ?_ ?_; (focus ((repeat' (first | exact wk_refl _ | exact wk_nils | exact wk_tsl _ _ _ | exact wk_full _ _ | exact wkL.nil | exact wkL_refl _ | refine wk_tup ?_ | refine wk_agg ?_ | refine wkL.cons ?_ ?_)); done)); (try simp only [↓R1, R2, R3, R4, R5, Nat.reduceEqDiff, Nat.reduceAdd, Nat.reduceMul, Nat.reduceSub, Nat.reduceLeDiff, Nat.reduceLT, reduceIte, reduceCtorEq, Int.reduceBNe, Int.reduceBEq, q1, q2, q3, beq_self_eq_true])))
  (refine endP_pu (by simp) (by first | (simp [rvsS, rvS]; done) | (simp only [rvsS, rvS, ↓R1, R2, R3, R4, R5, Nat.reduceEqDiff, Nat.reduceAdd, Nat.reduceMul, Nat.reduceSub, Nat.reduceLeDiff, Nat.reduceLT, reduceIte, reduceCtorEq, Int.reduceBNe, Int.reduceBEq, q1, q2, q3, beq_self_eq_true]; try simp)) (wk_of_eq ?_) (by (repeat (first | exact St.le_refl _ | (refine St.le_new ?_ (by assumption)) | (refine St.le_newT ?_ (by assumption))))))
  (simp only [resAV, rvV, List.map_cons, List.map_nil, ↓R1, R2, R3, R4, R5, Nat.reduceEqDiff, Nat.reduceAdd, Nat.reduceMul, Nat.reduceSub, Nat.reduceLeDiff, Nat.reduceLT, reduceIte, reduceCtorEq, Int.reduceBNe, Int.reduceBEq, q1, q2, q3, beq_self_eq_true])
end Go.Proofs.YtemddijemikleaaDoor
namespace Go.Proofs.YtemddijemikleaaDoor
open Go.Abs
set_option linter.all false
set_option maxRecDepth 100000
set_option maxHeartbeats 4000000 in
theorem law_RowBytes (s : List UInt8) (n : Int) (hn : -9223372036854775808 ≤ n ∧ n ≤ 9223372036854775807) : Pu Tryd.prog 8 [.str s, .int .i64 n] (.bool true) := by
  have q1 : True := trivial
  have q2 : True := trivial
  have q3 : True := trivial
  have q4 : True := trivial
  have q5 : True := trivial
  have q6 : True := trivial
  by_cases h200 : 200 < s.length
  · have q1 : decide ((200 : Int) < (s.length : Int)) = true := by rw [decide_eq_true_eq]; omega
    (refine Pu_intro c8 b8 (Nat.le_of_ble_eq_true rfl) fun σ => ?_; simp only [c8, ↓R1, R2, R3, R4, R5, Nat.reduceEqDiff, Nat.reduceAdd, Nat.reduceMul, Nat.reduceSub, Nat.reduceLeDiff, Nat.reduceLT, reduceIte, reduceCtorEq, Int.reduceBNe, Int.reduceBEq, q1, q2, q3, q4, q5, q6, beq_self_eq_true])
    repeat' (first | (with_reducible rw [allocV_eq]) | (refine gdV_split (fun hc => ?_) (fun hc => ?_) <;> (try simp only [hc, ↓R1, R2, R3, R4, R5, Nat.reduceEqDiff, Nat.reduceAdd, Nat.reduceMul, Nat.reduceSub, Nat.reduceLeDiff, Nat.reduceLT, reduceIte, reduceCtorEq, Int.reduceBNe, Int.reduceBEq, q1, q2, q3, q4, q5, q6, beq_self_eq_true])) | ((first | refine condV_split (fun hc => ?_) (fun hc => ?_) | (with_reducible intro β hβ; (try simp only [St.box_noneA, St.tip_noneA, St.tip_set, St.box_tip, St.box_lp, St.tip_lp] at hβ); (repeat (obtain ⟨⟨_, _⟩, hβ⟩ := hβ)); (try (have hbis := apart_is (by assumption) hβ; obtain ⟨_, _⟩ := hbis)))) <;> (try simp only [↓R1, R2, R3, R4, R5, Nat.reduceEqDiff, Nat.reduceAdd, Nat.reduceMul, Nat.reduceSub, Nat.reduceLeDiff, Nat.reduceLT, reduceIte, reduceCtorEq, Int.reduceBNe, Int.reduceBEq, q1, q2, q3, q4, q5, q6, beq_self_eq_true])) | (with_reducible refine And.intro ?_ ?_; (focus (first | omega | (intros; (repeat' (with_reducible apply And.intro)) <;> first | omega | (simp only [List.length_map]; omega))))) | (with_reducible apply And.intro) | ((first | refine Pu.to (known_pu) (wkL_refl _) ?_ | refine callDV_pu (known_pu) (wkL_refl _) ?_); (try simp only [↓R1, R2, R3, R4, R5, Nat.reduceEqDiff, Nat.reduceAdd, Nat.reduceMul, Nat.reduceSub, Nat.reduceLeDiff, Nat.reduceLT, reduceIte, reduceCtorEq, Int.reduceBNe, Int.reduceBEq, q1, q2, q3, q4, q5, q6, beq_self_eq_true])))
    (refine endP_pu (by simp) (by first | (simp [rvsS, rvS]; done) | (simp only [rvsS, rvS, ↓R1, R2, R3, R4, R5, Nat.reduceEqDiff, Nat.reduceAdd, Nat.reduceMul, Nat.reduceSub, Nat.reduceLeDiff, Nat.reduceLT, reduceIte, reduceCtorEq, Int.reduceBNe, Int.reduceBEq, q1, q2, q3, q4, q5, q6, beq_self_eq_true]; try simp)) (wk_of_eq ?_) (by (repeat (first | exact St.le_refl _ | (refine St.le_new ?_ (by assumption)) | (refine St.le_newT ?_ (by assumption))))))
    (simp only [resAV, rvV, List.map_cons, List.map_nil, ↓R1, R2, R3, R4, R5, Nat.reduceEqDiff, Nat.reduceAdd, Nat.reduceMul, Nat.reduceSub, Nat.reduceLeDiff, Nat.reduceLT, reduceIte, reduceCtorEq, Int.reduceBNe, Int.reduceBEq, q1, q2, q3, q4, q5, q6, beq_self_eq_true])
  have q1 : decide ((200 : Int) < (s.length : Int)) = false := by rw [decide_eq_false_iff_not]; omega
  have hw := p15 true s 0 (by omega)
  obtain ⟨x, hx⟩ : ∃ x, wordT true s = some x := ⟨_, rfl⟩
  have hxl := wordT_len hx
  rw [hx] at hw
  simp only [wordV] at hw
  have hs1 := p26 (s := x) (q := true) (t := s) (a := 0) (by omega) (by omega) (rowsS_one hx (by omega))
  have hb := p29 s (by omega)
  have hs2 : bareS s = true → Pu Tryd.prog 26 [.str s, .agg [.bool false, .str s, .int .i64 ((0 : Nat) : Int)]] (.bool true) := fun h =>
    p26 (s := s) (q := false) (t := s) (a := 0) (by omega) (by omega) (rowsS_one (by unfold wordT; rw [if_neg (by decide), if_pos h]) (by omega))
  have z0 : (((0 : Nat) : Int)) = 0 := rfl
  rw [z0] at hs1 hs2
  obtain ⟨N, hN⟩ : ∃ N : Nat, N = n.natAbs := ⟨_, rfl⟩
  have main : ∀ b, bareS s = b → Pu Tryd.prog 8 [.str s, .int .i64 n] (.bool true) := fun b hbb => by
    by_cases hneg : n < 0
    · have q2 : decide (n < 0) = true := by rw [decide_eq_true_eq]; exact hneg
      have q3 : IntKind.u64.wrap (0 - IntKind.u64.wrap n) = (N : Int) := by rw [IntKind.wrap_u64, IntKind.wrap_u64]; omega
      have sgn := p31 (45 :: decS N) (by have := dec_len 19 N (by omega); simp; omega)
      rw [sign_neg (by omega) (by omega), show -(N : Int) = n by omega] at sgn
      have num := p17 false (45 :: decS N) 0 0 18446744073709551615 (by have := dec_len 19 N (by omega); simp; omega)
      rw [num_neg] at num
      cases b with
      | false =>
        rw [hbb] at hb
        (refine Pu_intro c8 b8 (Nat.le_of_ble_eq_true rfl) fun σ => ?_; simp only [c8, ↓R1, R2, R3, R4, R5, Nat.reduceEqDiff, Nat.reduceAdd, Nat.reduceMul, Nat.reduceSub, Nat.reduceLeDiff, Nat.reduceLT, reduceIte, reduceCtorEq, Int.reduceBNe, Int.reduceBEq, q1, q2, q3, q4, q5, q6, beq_self_eq_true])
        repeat' (first | (with_reducible rw [allocV_eq]) | (refine gdV_split (fun hc => ?_) (fun hc => ?_) <;> (try simp only [hc, ↓R1, R2, R3, R4, R5, Nat.reduceEqDiff, Nat.reduceAdd, Nat.reduceMul, Nat.reduceSub, Nat.reduceLeDiff, Nat.reduceLT, reduceIte, reduceCtorEq, Int.reduceBNe, Int.reduceBEq, q1, q2, q3, q4, q5, q6, beq_self_eq_true])) | ((first | refine condV_split (fun hc => ?_) (fun hc => ?_) | (with_reducible intro β hβ; (try simp only [St.box_noneA, St.tip_noneA, St.tip_set, St.box_tip, St.box_lp, St.tip_lp] at hβ); (repeat (obtain ⟨⟨_, _⟩, hβ⟩ := hβ)); (try (have hbis := apart_is (by assumption) hβ; obtain ⟨_, _⟩ := hbis)))) <;> (try simp only [↓R1, R2, R3, R4, R5, Nat.reduceEqDiff, Nat.reduceAdd, Nat.reduceMul, Nat.reduceSub, Nat.reduceLeDiff, Nat.reduceLT, reduceIte, reduceCtorEq, Int.reduceBNe, Int.reduceBEq, q1, q2, q3, q4, q5, q6, beq_self_eq_true])) | (with_reducible refine And.intro ?_ ?_; (focus (first | omega | (intros; (repeat' (with_reducible apply And.intro)) <;> first | omega | (simp only [List.length_map]; omega))))) | (with_reducible apply And.intro) | ((first | refine Pu.to (known_pu) (wkL_refl _) ?_ | refine callDV_pu (known_pu) (wkL_refl _) ?_ | refine Pu.to (p27 _ _ _) (wkL_refl _) ?_ | refine callDV_pu (p27 _ _ _) (wkL_refl _) ?_ | refine Pu.to (hw) (wkL_refl _) ?_ | refine callDV_pu (hw) (wkL_refl _) ?_ | refine Pu.to (hs1) (wkL_refl _) ?_ | refine callDV_pu (hs1) (wkL_refl _) ?_ | refine Pu.to (hb) (wkL_refl _) ?_ | refine callDV_pu (hb) (wkL_refl _) ?_); (try simp only [↓R1, R2, R3, R4, R5, Nat.reduceEqDiff, Nat.reduceAdd, Nat.reduceMul, Nat.reduceSub, Nat.reduceLeDiff, Nat.reduceLT, reduceIte, reduceCtorEq, Int.reduceBNe, Int.reduceBEq, q1, q2, q3, q4, q5, q6, beq_self_eq_true])))
        refine loopV_st (fun (a : Nat × List UInt8) => [(1, .int .i64 n), (5, .bool true), (8, .int .u64 (a.1 : Nat)), (9, .str a.2)]) (fun _ => σ) (digI N) (fun a => a.1 + (if a.2 = [] then 1 else 0)) (N, []) (by simp [subF, slot, wk_refl]) (St.le_refl _) (Or.inl ⟨rfl, rfl⟩) (fun a hI => ?_)
        obtain ⟨L, T⟩ := a
        have hLb : L ≤ N := digI_le hI
        have hr := dig_wrap L
        have hq := quo_wrap L (by omega)
        by_cases hL0 : 0 < L
        · have q5 : decide ((0 : Int) < (L : Int)) = true := by rw [decide_eq_true_eq]; omega
          simp only [q5, ↓R1, R2, R3, R4, R5, Nat.reduceEqDiff, Nat.reduceAdd, Nat.reduceMul, Nat.reduceSub, Nat.reduceLeDiff, Nat.reduceLT, reduceIte, reduceCtorEq, Int.reduceBNe, Int.reduceBEq, q1, q2, q3, q4, q5, q6, beq_self_eq_true]
          repeat' (first | (with_reducible rw [allocV_eq]) | (refine gdV_split (fun hc => ?_) (fun hc => ?_) <;> (try simp only [hc, ↓R1, R2, R3, R4, R5, Nat.reduceEqDiff, Nat.reduceAdd, Nat.reduceMul, Nat.reduceSub, Nat.reduceLeDiff, Nat.reduceLT, reduceIte, reduceCtorEq, Int.reduceBNe, Int.reduceBEq, q1, q2, q3, q4, q5, q6, beq_self_eq_true])) | ((first | refine condV_split (fun hc => ?_) (fun hc => ?_) | (with_reducible intro β hβ; (try simp only [St.box_noneA, St.tip_noneA, St.tip_set, St.box_tip, St.box_lp, St.tip_lp] at hβ); (repeat (obtain ⟨⟨_, _⟩, hβ⟩ := hβ)); (try (have hbis := apart_is (by assumption) hβ; obtain ⟨_, _⟩ := hbis)))) <;> (try simp only [↓R1, R2, R3, R4, R5, Nat.reduceEqDiff, Nat.reduceAdd, Nat.reduceMul, Nat.reduceSub, Nat.reduceLeDiff, Nat.reduceLT, reduceIte, reduceCtorEq, Int.reduceBNe, Int.reduceBEq, q1, q2, q3, q4, q5, q6, beq_self_eq_true])) | (with_reducible refine And.intro ?_ ?_; (focus (first | omega | (intros; (repeat' (with_reducible apply And.intro)) <;> first | omega | (simp only [List.length_map]; omega))))) | (with_reducible apply And.intro))
          all_goals first | (rw [hr]; simp [isByte]; done) | skip
          all_goals first | (have := digI_len hI (show N < 10 ^ 20 by omega); omega) | skip
          refine ⟨(L / 10, dch (L % 10) :: T), digI_step hI (by first | exact .inl (by omega) | exact .inr rfl), ?_, St.le_refl _, ?_⟩
          · rw [hr, hq, byte_dch]; simp [subF, slot, wk_refl]
          · simp; split <;> omega
        · have hLz : L = 0 := by omega
          subst hLz
          by_cases hT : T = []
          · subst hT
            have q5 : decide ((0 : Int) < ((0 : Nat) : Int)) = false := by decide
            simp only [q5, ↓R1, R2, R3, R4, R5, Nat.reduceEqDiff, Nat.reduceAdd, Nat.reduceMul, Nat.reduceSub, Nat.reduceLeDiff, Nat.reduceLT, reduceIte, reduceCtorEq, Int.reduceBNe, Int.reduceBEq, q1, q2, q3, q4, q5, q6, beq_self_eq_true]
            repeat' (first | (with_reducible rw [allocV_eq]) | (refine gdV_split (fun hc => ?_) (fun hc => ?_) <;> (try simp only [hc, ↓R1, R2, R3, R4, R5, Nat.reduceEqDiff, Nat.reduceAdd, Nat.reduceMul, Nat.reduceSub, Nat.reduceLeDiff, Nat.reduceLT, reduceIte, reduceCtorEq, Int.reduceBNe, Int.reduceBEq, q1, q2, q3, q4, q5, q6, beq_self_eq_true])) | ((first | refine condV_split (fun hc => ?_) (fun hc => ?_) | (with_reducible intro β hβ; (try simp only [St.box_noneA, St.tip_noneA, St.tip_set, St.box_tip, St.box_lp, St.tip_lp] at hβ); (repeat (obtain ⟨⟨_, _⟩, hβ⟩ := hβ)); (try (have hbis := apart_is (by assumption) hβ; obtain ⟨_, _⟩ := hbis)))) <;> (try simp only [↓R1, R2, R3, R4, R5, Nat.reduceEqDiff, Nat.reduceAdd, Nat.reduceMul, Nat.reduceSub, Nat.reduceLeDiff, Nat.reduceLT, reduceIte, reduceCtorEq, Int.reduceBNe, Int.reduceBEq, q1, q2, q3, q4, q5, q6, beq_self_eq_true])) | (with_reducible refine And.intro ?_ ?_; (focus (first | omega | (intros; (repeat' (with_reducible apply And.intro)) <;> first | omega | (simp only [List.length_map]; omega))))) | (with_reducible apply And.intro))
            all_goals first | (rw [hr]; simp [isByte]; done) | skip
            all_goals first | (have := digI_len hI (show N < 10 ^ 20 by omega); omega) | skip
            refine ⟨(0, [dch 0]), digI_step hI (by first | exact .inl (by omega) | exact .inr rfl), ?_, St.le_refl _, ?_⟩
            · rw [hr, hq, byte_dch]; simp [subF, slot, wk_refl]
            · simp
          · have q5 : decide ((0 : Int) < ((0 : Nat) : Int)) = false := by decide
            have q6 : (T == []) = false := by rw [beq_eq_false_iff_ne]; exact hT
            have hTd := digI_end hI rfl hT
            subst hTd
            simp only [q5, ↓R1, R2, R3, R4, R5, Nat.reduceEqDiff, Nat.reduceAdd, Nat.reduceMul, Nat.reduceSub, Nat.reduceLeDiff, Nat.reduceLT, reduceIte, reduceCtorEq, Int.reduceBNe, Int.reduceBEq, q1, q2, q3, q4, q5, q6, beq_self_eq_true]
            repeat' (first | (with_reducible rw [allocV_eq]) | (refine gdV_split (fun hc => ?_) (fun hc => ?_) <;> (try simp only [hc, ↓R1, R2, R3, R4, R5, Nat.reduceEqDiff, Nat.reduceAdd, Nat.reduceMul, Nat.reduceSub, Nat.reduceLeDiff, Nat.reduceLT, reduceIte, reduceCtorEq, Int.reduceBNe, Int.reduceBEq, q1, q2, q3, q4, q5, q6, beq_self_eq_true])) | ((first | refine condV_split (fun hc => ?_) (fun hc => ?_) | (with_reducible intro β hβ; (try simp only [St.box_noneA, St.tip_noneA, St.tip_set, St.box_tip, St.box_lp, St.tip_lp] at hβ); (repeat (obtain ⟨⟨_, _⟩, hβ⟩ := hβ)); (try (have hbis := apart_is (by assumption) hβ; obtain ⟨_, _⟩ := hbis)))) <;> (try simp only [↓R1, R2, R3, R4, R5, Nat.reduceEqDiff, Nat.reduceAdd, Nat.reduceMul, Nat.reduceSub, Nat.reduceLeDiff, Nat.reduceLT, reduceIte, reduceCtorEq, Int.reduceBNe, Int.reduceBEq, q1, q2, q3, q4, q5, q6, beq_self_eq_true])) | (with_reducible refine And.intro ?_ ?_; (focus (first | omega | (intros; (repeat' (with_reducible apply And.intro)) <;> first | omega | (simp only [List.length_map]; omega))))) | (with_reducible apply And.intro) | ((first | refine Pu.to (sgn) (wkL_refl _) ?_ | refine callDV_pu (sgn) (wkL_refl _) ?_ | refine Pu.to (p27 _ _ _) (wkL_refl _) ?_ | refine callDV_pu (p27 _ _ _) (wkL_refl _) ?_ | refine Pu.to (num) (wkL_refl _) ?_ | refine callDV_pu (num) (wkL_refl _) ?_); (try simp only [↓R1, R2, R3, R4, R5, Nat.reduceEqDiff, Nat.reduceAdd, Nat.reduceMul, Nat.reduceSub, Nat.reduceLeDiff, Nat.reduceLT, reduceIte, reduceCtorEq, Int.reduceBNe, Int.reduceBEq, q1, q2, q3, q4, q5, q6, beq_self_eq_true])))
            all_goals first | (have := dec_len 19 N (by omega); omega) | skip
            (refine endP_pu (by simp) (by first | (simp [rvsS, rvS]; done) | (simp only [rvsS, rvS, ↓R1, R2, R3, R4, R5, Nat.reduceEqDiff, Nat.reduceAdd, Nat.reduceMul, Nat.reduceSub, Nat.reduceLeDiff, Nat.reduceLT, reduceIte, reduceCtorEq, Int.reduceBNe, Int.reduceBEq, q1, q2, q3, q4, q5, q6, beq_self_eq_true]; try simp)) (wk_of_eq ?_) (by (repeat (first | exact St.le_refl _ | (refine St.le_new ?_ (by assumption)) | (refine St.le_newT ?_ (by assumption))))))
            (simp only [resAV, rvV, List.map_cons, List.map_nil, ↓R1, R2, R3, R4, R5, Nat.reduceEqDiff, Nat.reduceAdd, Nat.reduceMul, Nat.reduceSub, Nat.reduceLeDiff, Nat.reduceLT, reduceIte, reduceCtorEq, Int.reduceBNe, Int.reduceBEq, q1, q2, q3, q4, q5, q6, beq_self_eq_true])
      | true =>
        rw [hbb] at hb
        have hs3 := hs2 hbb
        (refine Pu_intro c8 b8 (Nat.le_of_ble_eq_true rfl) fun σ => ?_; simp only [c8, ↓R1, R2, R3, R4, R5, Nat.reduceEqDiff, Nat.reduceAdd, Nat.reduceMul, Nat.reduceSub, Nat.reduceLeDiff, Nat.reduceLT, reduceIte, reduceCtorEq, Int.reduceBNe, Int.reduceBEq, q1, q2, q3, q4, q5, q6, beq_self_eq_true])
        repeat' (first | (with_reducible rw [allocV_eq]) | (refine gdV_split (fun hc => ?_) (fun hc => ?_) <;> (try simp only [hc, ↓R1, R2, R3, R4, R5, Nat.reduceEqDiff, Nat.reduceAdd, Nat.reduceMul, Nat.reduceSub, Nat.reduceLeDiff, Nat.reduceLT, reduceIte, reduceCtorEq, Int.reduceBNe, Int.reduceBEq, q1, q2, q3, q4, q5, q6, beq_self_eq_true])) | ((first | refine condV_split (fun hc => ?_) (fun hc => ?_) | (with_reducible intro β hβ; (try simp only [St.box_noneA, St.tip_noneA, St.tip_set, St.box_tip, St.box_lp, St.tip_lp] at hβ); (repeat (obtain ⟨⟨_, _⟩, hβ⟩ := hβ)); (try (have hbis := apart_is (by assumption) hβ; obtain ⟨_, _⟩ := hbis)))) <;> (try simp only [↓R1, R2, R3, R4, R5, Nat.reduceEqDiff, Nat.reduceAdd, Nat.reduceMul, Nat.reduceSub, Nat.reduceLeDiff, Nat.reduceLT, reduceIte, reduceCtorEq, Int.reduceBNe, Int.reduceBEq, q1, q2, q3, q4, q5, q6, beq_self_eq_true])) | (with_reducible refine And.intro ?_ ?_; (focus (first | omega | (intros; (repeat' (with_reducible apply And.intro)) <;> first | omega | (simp only [List.length_map]; omega))))) | (with_reducible apply And.intro) | ((first | refine Pu.to (known_pu) (wkL_refl _) ?_ | refine callDV_pu (known_pu) (wkL_refl _) ?_ | refine Pu.to (p27 _ _ _) (wkL_refl _) ?_ | refine callDV_pu (p27 _ _ _) (wkL_refl _) ?_ | refine Pu.to (hw) (wkL_refl _) ?_ | refine callDV_pu (hw) (wkL_refl _) ?_ | refine Pu.to (hs1) (wkL_refl _) ?_ | refine callDV_pu (hs1) (wkL_refl _) ?_ | refine Pu.to (hb) (wkL_refl _) ?_ | refine callDV_pu (hb) (wkL_refl _) ?_ | refine Pu.to (hs3) (wkL_refl _) ?_ | refine callDV_pu (hs3) (wkL_refl _) ?_); (try simp only [↓R1, R2, R3, R4, R5, Nat.reduceEqDiff, Nat.reduceAdd, Nat.reduceMul, Nat.reduceSub, Nat.reduceLeDiff, Nat.reduceLT, reduceIte, reduceCtorEq, Int.reduceBNe, Int.reduceBEq, q1, q2, q3, q4, q5, q6, beq_self_eq_true])))
        refine loopV_st (fun (a : Nat × List UInt8) => [(1, .int .i64 n), (5, .bool true), (8, .int .u64 (a.1 : Nat)), (9, .str a.2)]) (fun _ => σ) (digI N) (fun a => a.1 + (if a.2 = [] then 1 else 0)) (N, []) (by simp [subF, slot, wk_refl]) (St.le_refl _) (Or.inl ⟨rfl, rfl⟩) (fun a hI => ?_)
        obtain ⟨L, T⟩ := a
        have hLb : L ≤ N := digI_le hI
        have hr := dig_wrap L
        have hq := quo_wrap L (by omega)
        by_cases hL0 : 0 < L
        · have q5 : decide ((0 : Int) < (L : Int)) = true := by rw [decide_eq_true_eq]; omega
          simp only [q5, ↓R1, R2, R3, R4, R5, Nat.reduceEqDiff, Nat.reduceAdd, Nat.reduceMul, Nat.reduceSub, Nat.reduceLeDiff, Nat.reduceLT, reduceIte, reduceCtorEq, Int.reduceBNe, Int.reduceBEq, q1, q2, q3, q4, q5, q6, beq_self_eq_true]
          repeat' (first | (with_reducible rw [allocV_eq]) | (refine gdV_split (fun hc => ?_) (fun hc => ?_) <;> (try simp only [hc, ↓R1, R2, R3, R4, R5, Nat.reduceEqDiff, Nat.reduceAdd, Nat.reduceMul, Nat.reduceSub, Nat.reduceLeDiff, Nat.reduceLT, reduceIte, reduceCtorEq, Int.reduceBNe, Int.reduceBEq, q1, q2, q3, q4, q5, q6, beq_self_eq_true])) | ((first | refine condV_split (fun hc => ?_) (fun hc => ?_) | (with_reducible intro β hβ; (try simp only [St.box_noneA, St.tip_noneA, St.tip_set, St.box_tip, St.box_lp, St.tip_lp] at hβ); (repeat (obtain ⟨⟨_, _⟩, hβ⟩ := hβ)); (try (have hbis := apart_is (by assumption) hβ; obtain ⟨_, _⟩ := hbis)))) <;> (try simp only [↓R1, R2, R3, R4, R5, Nat.reduceEqDiff, Nat.reduceAdd, Nat.reduceMul, Nat.reduceSub, Nat.reduceLeDiff, Nat.reduceLT, reduceIte, reduceCtorEq, Int.reduceBNe, Int.reduceBEq, q1, q2, q3, q4, q5, q6, beq_self_eq_true])) | (with_reducible refine And.intro ?_ ?_; (focus (first | omega | (intros; (repeat' (with_reducible apply And.intro)) <;> first | omega | (simp only [List.length_map]; omega))))) | (with_reducible apply And.intro))
          all_goals first | (rw [hr]; simp [isByte]; done) | skip
          all_goals first | (have := digI_len hI (show N < 10 ^ 20 by omega); omega) | skip
          refine ⟨(L / 10, dch (L % 10) :: T), digI_step hI (by first | exact .inl (by omega) | exact .inr rfl), ?_, St.le_refl _, ?_⟩
          · rw [hr, hq, byte_dch]; simp [subF, slot, wk_refl]
          · simp; split <;> omega
        · have hLz : L = 0 := by omega
          subst hLz
          by_cases hT : T = []
          · subst hT
            have q5 : decide ((0 : Int) < ((0 : Nat) : Int)) = false := by decide
            simp only [q5, ↓R1, R2, R3, R4, R5, Nat.reduceEqDiff, Nat.reduceAdd, Nat.reduceMul, Nat.reduceSub, Nat.reduceLeDiff, Nat.reduceLT, reduceIte, reduceCtorEq, Int.reduceBNe, Int.reduceBEq, q1, q2, q3, q4, q5, q6, beq_self_eq_true]
            repeat' (first | (with_reducible rw [allocV_eq]) | (refine gdV_split (fun hc => ?_) (fun hc => ?_) <;> (try simp only [hc, ↓R1, R2, R3, R4, R5, Nat.reduceEqDiff, Nat.reduceAdd, Nat.reduceMul, Nat.reduceSub, Nat.reduceLeDiff, Nat.reduceLT, reduceIte, reduceCtorEq, Int.reduceBNe, Int.reduceBEq, q1, q2, q3, q4, q5, q6, beq_self_eq_true])) | ((first | refine condV_split (fun hc => ?_) (fun hc => ?_) | (with_reducible intro β hβ; (try simp only [St.box_noneA, St.tip_noneA, St.tip_set, St.box_tip, St.box_lp, St.tip_lp] at hβ); (repeat (obtain ⟨⟨_, _⟩, hβ⟩ := hβ)); (try (have hbis := apart_is (by assumption) hβ; obtain ⟨_, _⟩ := hbis)))) <;> (try simp only [↓R1, R2, R3, R4, R5, Nat.reduceEqDiff, Nat.reduceAdd, Nat.reduceMul, Nat.reduceSub, Nat.reduceLeDiff, Nat.reduceLT, reduceIte, reduceCtorEq, Int.reduceBNe, Int.reduceBEq, q1, q2, q3, q4, q5, q6, beq_self_eq_true])) | (with_reducible refine And.intro ?_ ?_; (focus (first | omega | (intros; (repeat' (with_reducible apply And.intro)) <;> first | omega | (simp only [List.length_map]; omega))))) | (with_reducible apply And.intro))
            all_goals first | (rw [hr]; simp [isByte]; done) | skip
            all_goals first | (have := digI_len hI (show N < 10 ^ 20 by omega); omega) | skip
            refine ⟨(0, [dch 0]), digI_step hI (by first | exact .inl (by omega) | exact .inr rfl), ?_, St.le_refl _, ?_⟩
            · rw [hr, hq, byte_dch]; simp [subF, slot, wk_refl]
            · simp
          · have q5 : decide ((0 : Int) < ((0 : Nat) : Int)) = false := by decide
            have q6 : (T == []) = false := by rw [beq_eq_false_iff_ne]; exact hT
            have hTd := digI_end hI rfl hT
            subst hTd
            simp only [q5, ↓R1, R2, R3, R4, R5, Nat.reduceEqDiff, Nat.reduceAdd, Nat.reduceMul, Nat.reduceSub, Nat.reduceLeDiff, Nat.reduceLT, reduceIte, reduceCtorEq, Int.reduceBNe, Int.reduceBEq, q1, q2, q3, q4, q5, q6, beq_self_eq_true]
            repeat' (first | (with_reducible rw [allocV_eq]) | (refine gdV_split (fun hc => ?_) (fun hc => ?_) <;> (try simp only [hc, ↓R1, R2, R3, R4, R5, Nat.reduceEqDiff, Nat.reduceAdd, Nat.reduceMul, Nat.reduceSub, Nat.reduceLeDiff, Nat.reduceLT, reduceIte, reduceCtorEq, Int.reduceBNe, Int.reduceBEq, q1, q2, q3, q4, q5, q6, beq_self_eq_true])) | ((first | refine condV_split (fun hc => ?_) (fun hc => ?_) | (with_reducible intro β hβ; (try simp only [St.box_noneA, St.tip_noneA, St.tip_set, St.box_tip, St.box_lp, St.tip_lp] at hβ); (repeat (obtain ⟨⟨_, _⟩, hβ⟩ := hβ)); (try (have hbis := apart_is (by assumption) hβ; obtain ⟨_, _⟩ := hbis)))) <;> (try simp only [↓R1, R2, R3, R4, R5, Nat.reduceEqDiff, Nat.reduceAdd, Nat.reduceMul, Nat.reduceSub, Nat.reduceLeDiff, Nat.reduceLT, reduceIte, reduceCtorEq, Int.reduceBNe, Int.reduceBEq, q1, q2, q3, q4, q5, q6, beq_self_eq_true])) | (with_reducible refine And.intro ?_ ?_; (focus (first | omega | (intros; (repeat' (with_reducible apply And.intro)) <;> first | omega | (simp only [List.length_map]; omega))))) | (with_reducible apply And.intro) | ((first | refine Pu.to (sgn) (wkL_refl _) ?_ | refine callDV_pu (sgn) (wkL_refl _) ?_ | refine Pu.to (p27 _ _ _) (wkL_refl _) ?_ | refine callDV_pu (p27 _ _ _) (wkL_refl _) ?_ | refine Pu.to (num) (wkL_refl _) ?_ | refine callDV_pu (num) (wkL_refl _) ?_); (try simp only [↓R1, R2, R3, R4, R5, Nat.reduceEqDiff, Nat.reduceAdd, Nat.reduceMul, Nat.reduceSub, Nat.reduceLeDiff, Nat.reduceLT, reduceIte, reduceCtorEq, Int.reduceBNe, Int.reduceBEq, q1, q2, q3, q4, q5, q6, beq_self_eq_true])))
            all_goals first | (have := dec_len 19 N (by omega); omega) | skip
            (refine endP_pu (by simp) (by first | (simp [rvsS, rvS]; done) | (simp only [rvsS, rvS, ↓R1, R2, R3, R4, R5, Nat.reduceEqDiff, Nat.reduceAdd, Nat.reduceMul, Nat.reduceSub, Nat.reduceLeDiff, Nat.reduceLT, reduceIte, reduceCtorEq, Int.reduceBNe, Int.reduceBEq, q1, q2, q3, q4, q5, q6, beq_self_eq_true]; try simp)) (wk_of_eq ?_) (by (repeat (first | exact St.le_refl _ | (refine St.le_new ?_ (by assumption)) | (refine St.le_newT ?_ (by assumption))))))
            (simp only [resAV, rvV, List.map_cons, List.map_nil, ↓R1, R2, R3, R4, R5, Nat.reduceEqDiff, Nat.reduceAdd, Nat.reduceMul, Nat.reduceSub, Nat.reduceLeDiff, Nat.reduceLT, reduceIte, reduceCtorEq, Int.reduceBNe, Int.reduceBEq, q1, q2, q3, q4, q5, q6, beq_self_eq_true])
    · have q2 : decide (n < 0) = false := by rw [decide_eq_false_iff_not]; exact hneg
      have q3 : IntKind.u64.wrap n = (N : Int) := by rw [IntKind.wrap_u64]; omega
      have sgn := p31 (decS N) (by have := dec_len 19 N (by omega); omega)
      rw [sign_pos (by omega), show (N : Int) = n by omega] at sgn
      have num := p17 false (decS N) 0 0 18446744073709551615 (by have := dec_len 19 N (by omega); omega)
      rw [num_pos (by omega)] at num
      have q4 : decide (0 ≤ n) = true := by rw [decide_eq_true_eq]; omega
      cases b with
      | false =>
        rw [hbb] at hb
        (refine Pu_intro c8 b8 (Nat.le_of_ble_eq_true rfl) fun σ => ?_; simp only [c8, ↓R1, R2, R3, R4, R5, Nat.reduceEqDiff, Nat.reduceAdd, Nat.reduceMul, Nat.reduceSub, Nat.reduceLeDiff, Nat.reduceLT, reduceIte, reduceCtorEq, Int.reduceBNe, Int.reduceBEq, q1, q2, q3, q4, q5, q6, beq_self_eq_true])
        repeat' (first | (with_reducible rw [allocV_eq]) | (refine gdV_split (fun hc => ?_) (fun hc => ?_) <;> (try simp only [hc, ↓R1, R2, R3, R4, R5, Nat.reduceEqDiff, Nat.reduceAdd, Nat.reduceMul, Nat.reduceSub, Nat.reduceLeDiff, Nat.reduceLT, reduceIte, reduceCtorEq, Int.reduceBNe, Int.reduceBEq, q1, q2, q3, q4, q5, q6, beq_self_eq_true])) | ((first | refine condV_split (fun hc => ?_) (fun hc => ?_) | (with_reducible intro β hβ; (try simp only [St.box_noneA, St.tip_noneA, St.tip_set, St.box_tip, St.box_lp, St.tip_lp] at hβ); (repeat (obtain ⟨⟨_, _⟩, hβ⟩ := hβ)); (try (have hbis := apart_is (by assumption) hβ; obtain ⟨_, _⟩ := hbis)))) <;> (try simp only [↓R1, R2, R3, R4, R5, Nat.reduceEqDiff, Nat.reduceAdd, Nat.reduceMul, Nat.reduceSub, Nat.reduceLeDiff, Nat.reduceLT, reduceIte, reduceCtorEq, Int.reduceBNe, Int.reduceBEq, q1, q2, q3, q4, q5, q6, beq_self_eq_true])) | (with_reducible refine And.intro ?_ ?_; (focus (first | omega | (intros; (repeat' (with_reducible apply And.intro)) <;> first | omega | (simp only [List.length_map]; omega))))) | (with_reducible apply And.intro) | ((first | refine Pu.to (known_pu) (wkL_refl _) ?_ | refine callDV_pu (known_pu) (wkL_refl _) ?_ | refine Pu.to (p27 _ _ _) (wkL_refl _) ?_ | refine callDV_pu (p27 _ _ _) (wkL_refl _) ?_ | refine Pu.to (hw) (wkL_refl _) ?_ | refine callDV_pu (hw) (wkL_refl _) ?_ | refine Pu.to (hs1) (wkL_refl _) ?_ | refine callDV_pu (hs1) (wkL_refl _) ?_ | refine Pu.to (hb) (wkL_refl _) ?_ | refine callDV_pu (hb) (wkL_refl _) ?_); (try simp only [↓R1, R2, R3, R4, R5, Nat.reduceEqDiff, Nat.reduceAdd, Nat.reduceMul, Nat.reduceSub, Nat.reduceLeDiff, Nat.reduceLT, reduceIte, reduceCtorEq, Int.reduceBNe, Int.reduceBEq, q1, q2, q3, q4, q5, q6, beq_self_eq_true])))
        refine loopV_st (fun (a : Nat × List UInt8) => [(1, .int .i64 n), (5, .bool true), (8, .int .u64 (a.1 : Nat)), (9, .str a.2)]) (fun _ => σ) (digI N) (fun a => a.1 + (if a.2 = [] then 1 else 0)) (N, []) (by simp [subF, slot, wk_refl]) (St.le_refl _) (Or.inl ⟨rfl, rfl⟩) (fun a hI => ?_)
        obtain ⟨L, T⟩ := a
        have hLb : L ≤ N := digI_le hI
        have hr := dig_wrap L
        have hq := quo_wrap L (by omega)
        by_cases hL0 : 0 < L
        · have q5 : decide ((0 : Int) < (L : Int)) = true := by rw [decide_eq_true_eq]; omega
          simp only [q5, ↓R1, R2, R3, R4, R5, Nat.reduceEqDiff, Nat.reduceAdd, Nat.reduceMul, Nat.reduceSub, Nat.reduceLeDiff, Nat.reduceLT, reduceIte, reduceCtorEq, Int.reduceBNe, Int.reduceBEq, q1, q2, q3, q4, q5, q6, beq_self_eq_true]
          repeat' (first | (with_reducible rw [allocV_eq]) | (refine gdV_split (fun hc => ?_) (fun hc => ?_) <;> (try simp only [hc, ↓R1, R2, R3, R4, R5, Nat.reduceEqDiff, Nat.reduceAdd, Nat.reduceMul, Nat.reduceSub, Nat.reduceLeDiff, Nat.reduceLT, reduceIte, reduceCtorEq, Int.reduceBNe, Int.reduceBEq, q1, q2, q3, q4, q5, q6, beq_self_eq_true])) | ((first | refine condV_split (fun hc => ?_) (fun hc => ?_) | (with_reducible intro β hβ; (try simp only [St.box_noneA, St.tip_noneA, St.tip_set, St.box_tip, St.box_lp, St.tip_lp] at hβ); (repeat (obtain ⟨⟨_, _⟩, hβ⟩ := hβ)); (try (have hbis := apart_is (by assumption) hβ; obtain ⟨_, _⟩ := hbis)))) <;> (try simp only [↓R1, R2, R3, R4, R5, Nat.reduceEqDiff, Nat.reduceAdd, Nat.reduceMul, Nat.reduceSub, Nat.reduceLeDiff, Nat.reduceLT, reduceIte, reduceCtorEq, Int.reduceBNe, Int.reduceBEq, q1, q2, q3, q4, q5, q6, beq_self_eq_true])) | (with_reducible refine And.intro ?_ ?_; (focus (first | omega | (intros; (repeat' (with_reducible apply And.intro)) <;> first | omega | (simp only [List.length_map]; omega))))) | (with_reducible apply And.intro))
          all_goals first | (rw [hr]; simp [isByte]; done) | skip
          all_goals first | (have := digI_len hI (show N < 10 ^ 20 by omega); omega) | skip
          refine ⟨(L / 10, dch (L % 10) :: T), digI_step hI (by first | exact .inl (by omega) | exact .inr rfl), ?_, St.le_refl _, ?_⟩
          · rw [hr, hq, byte_dch]; simp [subF, slot, wk_refl]
          · simp; split <;> omega
        · have hLz : L = 0 := by omega
          subst hLz
          by_cases hT : T = []
          · subst hT
            have q5 : decide ((0 : Int) < ((0 : Nat) : Int)) = false := by decide
            simp only [q5, ↓R1, R2, R3, R4, R5, Nat.reduceEqDiff, Nat.reduceAdd, Nat.reduceMul, Nat.reduceSub, Nat.reduceLeDiff, Nat.reduceLT, reduceIte, reduceCtorEq, Int.reduceBNe, Int.reduceBEq, q1, q2, q3, q4, q5, q6, beq_self_eq_true]
            repeat' (first | (with_reducible rw [allocV_eq]) | (refine gdV_split (fun hc => ?_) (fun hc => ?_) <;> (try simp only [hc, ↓R1, R2, R3, R4, R5, Nat.reduceEqDiff, Nat.reduceAdd, Nat.reduceMul, Nat.reduceSub, Nat.reduceLeDiff, Nat.reduceLT, reduceIte, reduceCtorEq, Int.reduceBNe, Int.reduceBEq, q1, q2, q3, q4, q5, q6, beq_self_eq_true])) | ((first | refine condV_split (fun hc => ?_) (fun hc => ?_) | (with_reducible intro β hβ; (try simp only [St.box_noneA, St.tip_noneA, St.tip_set, St.box_tip, St.box_lp, St.tip_lp] at hβ); (repeat (obtain ⟨⟨_, _⟩, hβ⟩ := hβ)); (try (have hbis := apart_is (by assumption) hβ; obtain ⟨_, _⟩ := hbis)))) <;> (try simp only [↓R1, R2, R3, R4, R5, Nat.reduceEqDiff, Nat.reduceAdd, Nat.reduceMul, Nat.reduceSub, Nat.reduceLeDiff, Nat.reduceLT, reduceIte, reduceCtorEq, Int.reduceBNe, Int.reduceBEq, q1, q2, q3, q4, q5, q6, beq_self_eq_true])) | (with_reducible refine And.intro ?_ ?_; (focus (first | omega | (intros; (repeat' (with_reducible apply And.intro)) <;> first | omega | (simp only [List.length_map]; omega))))) | (with_reducible apply And.intro))
            all_goals first | (rw [hr]; simp [isByte]; done) | skip
            all_goals first | (have := digI_len hI (show N < 10 ^ 20 by omega); omega) | skip
            refine ⟨(0, [dch 0]), digI_step hI (by first | exact .inl (by omega) | exact .inr rfl), ?_, St.le_refl _, ?_⟩
            · rw [hr, hq, byte_dch]; simp [subF, slot, wk_refl]
            · simp
          · have q5 : decide ((0 : Int) < ((0 : Nat) : Int)) = false := by decide
            have q6 : (T == []) = false := by rw [beq_eq_false_iff_ne]; exact hT
            have hTd := digI_end hI rfl hT
            subst hTd
            simp only [q5, ↓R1, R2, R3, R4, R5, Nat.reduceEqDiff, Nat.reduceAdd, Nat.reduceMul, Nat.reduceSub, Nat.reduceLeDiff, Nat.reduceLT, reduceIte, reduceCtorEq, Int.reduceBNe, Int.reduceBEq, q1, q2, q3, q4, q5, q6, beq_self_eq_true]
            repeat' (first | (with_reducible rw [allocV_eq]) | (refine gdV_split (fun hc => ?_) (fun hc => ?_) <;> (try simp only [hc, ↓R1, R2, R3, R4, R5, Nat.reduceEqDiff, Nat.reduceAdd, Nat.reduceMul, Nat.reduceSub, Nat.reduceLeDiff, Nat.reduceLT, reduceIte, reduceCtorEq, Int.reduceBNe, Int.reduceBEq, q1, q2, q3, q4, q5, q6, beq_self_eq_true])) | ((first | refine condV_split (fun hc => ?_) (fun hc => ?_) | (with_reducible intro β hβ; (try simp only [St.box_noneA, St.tip_noneA, St.tip_set, St.box_tip, St.box_lp, St.tip_lp] at hβ); (repeat (obtain ⟨⟨_, _⟩, hβ⟩ := hβ)); (try (have hbis := apart_is (by assumption) hβ; obtain ⟨_, _⟩ := hbis)))) <;> (try simp only [↓R1, R2, R3, R4, R5, Nat.reduceEqDiff, Nat.reduceAdd, Nat.reduceMul, Nat.reduceSub, Nat.reduceLeDiff, Nat.reduceLT, reduceIte, reduceCtorEq, Int.reduceBNe, Int.reduceBEq, q1, q2, q3, q4, q5, q6, beq_self_eq_true])) | (with_reducible refine And.intro ?_ ?_; (focus (first | omega | (intros; (repeat' (with_reducible apply And.intro)) <;> first | omega | (simp only [List.length_map]; omega))))) | (with_reducible apply And.intro) | ((first | refine Pu.to (sgn) (wkL_refl _) ?_ | refine callDV_pu (sgn) (wkL_refl _) ?_ | refine Pu.to (p27 _ _ _) (wkL_refl _) ?_ | refine callDV_pu (p27 _ _ _) (wkL_refl _) ?_ | refine Pu.to (num) (wkL_refl _) ?_ | refine callDV_pu (num) (wkL_refl _) ?_); (try simp only [↓R1, R2, R3, R4, R5, Nat.reduceEqDiff, Nat.reduceAdd, Nat.reduceMul, Nat.reduceSub, Nat.reduceLeDiff, Nat.reduceLT, reduceIte, reduceCtorEq, Int.reduceBNe, Int.reduceBEq, q1, q2, q3, q4, q5, q6, beq_self_eq_true])))
            all_goals first | (have := dec_len 19 N (by omega); omega) | skip
            (refine endP_pu (by simp) (by first | (simp [rvsS, rvS]; done) | (simp only [rvsS, rvS, ↓R1, R2, R3, R4, R5, Nat.reduceEqDiff, Nat.reduceAdd, Nat.reduceMul, Nat.reduceSub, Nat.reduceLeDiff, Nat.reduceLT, reduceIte, reduceCtorEq, Int.reduceBNe, Int.reduceBEq, q1, q2, q3, q4, q5, q6, beq_self_eq_true]; try simp)) (wk_of_eq ?_) (by (repeat (first | exact St.le_refl _ | (refine St.le_new ?_ (by assumption)) | (refine St.le_newT ?_ (by assumption))))))
            (simp only [resAV, rvV, List.map_cons, List.map_nil, ↓R1, R2, R3, R4, R5, Nat.reduceEqDiff, Nat.reduceAdd, Nat.reduceMul, Nat.reduceSub, Nat.reduceLeDiff, Nat.reduceLT, reduceIte, reduceCtorEq, Int.reduceBNe, Int.reduceBEq, q1, q2, q3, q4, q5, q6, beq_self_eq_true])
      | true =>
        rw [hbb] at hb
        have hs3 := hs2 hbb
        (refine Pu_intro c8 b8 (Nat.le_of_ble_eq_true rfl) fun σ => ?_; simp only [c8, ↓R1, R2, R3, R4, R5, Nat.reduceEqDiff, Nat.reduceAdd, Nat.reduceMul, Nat.reduceSub, Nat.reduceLeDiff, Nat.reduceLT, reduceIte, reduceCtorEq, Int.reduceBNe, Int.reduceBEq, q1, q2, q3, q4, q5, q6, beq_self_eq_true])
        repeat' (first | (with_reducible rw [allocV_eq]) | (refine gdV_split (fun hc => ?_) (fun hc => ?_) <;> (try simp only [hc, ↓R1, R2, R3, R4, R5, Nat.reduceEqDiff, Nat.reduceAdd, Nat.reduceMul, Nat.reduceSub, Nat.reduceLeDiff, Nat.reduceLT, reduceIte, reduceCtorEq, Int.reduceBNe, Int.reduceBEq, q1, q2, q3, q4, q5, q6, beq_self_eq_true])) | ((first | refine condV_split (fun hc => ?_) (fun hc => ?_) | (with_reducible intro β hβ; (try simp only [St.box_noneA, St.tip_noneA, St.tip_set, St.box_tip, St.box_lp, St.tip_lp] at hβ); (repeat (obtain ⟨⟨_, _⟩, hβ⟩ := hβ)); (try (have hbis := apart_is (by assumption) hβ; obtain ⟨_, _⟩ := hbis)))) <;> (try simp only [↓R1, R2, R3, R4, R5, Nat.reduceEqDiff, Nat.reduceAdd, Nat.reduceMul, Nat.reduceSub, Nat.reduceLeDiff, Nat.reduceLT, reduceIte, reduceCtorEq, Int.reduceBNe, Int.reduceBEq, q1, q2, q3, q4, q5, q6, beq_self_eq_true])) | (with_reducible refine And.intro ?_ ?_; (focus (first | omega | (intros; (repeat' (with_reducible apply And.intro)) <;> first | omega | (simp only [List.length_map]; omega))))) | (with_reducible apply And.intro) | ((first | refine Pu.to (known_pu) (wkL_refl _) ?_ | refine callDV_pu (known_pu) (wkL_refl _) ?_ | refine Pu.to (p27 _ _ _) (wkL_refl _) ?_ | refine callDV_pu (p27 _ _ _) (wkL_refl _) ?_ | refine Pu.to (hw) (wkL_refl _) ?_ | refine callDV_pu (hw) (wkL_refl _) ?_ | refine Pu.to (hs1) (wkL_refl _) ?_ | refine callDV_pu (hs1) (wkL_refl _) ?_ | refine Pu.to (hb) (wkL_refl _) ?_ | refine callDV_pu (hb) (wkL_refl _) ?_ | refine Pu.to (hs3) (wkL_refl _) ?_ | refine callDV_pu (hs3) (wkL_refl _) ?_); (try simp only [↓R1, R2, R3, R4, R5, Nat.reduceEqDiff, Nat.reduceAdd, Nat.reduceMul, Nat.reduceSub, Nat.reduceLeDiff, Nat.reduceLT, reduceIte, reduceCtorEq, Int.reduceBNe, Int.reduceBEq, q1, q2, q3, q4, q5, q6, beq_self_eq_true])))
        refine loopV_st (fun (a : Nat × List UInt8) => [(1, .int .i64 n), (5, .bool true), (8, .int .u64 (a.1 : Nat)), (9, .str a.2)]) (fun _ => σ) (digI N) (fun a => a.1 + (if a.2 = [] then 1 else 0)) (N, []) (by simp [subF, slot, wk_refl]) (St.le_refl _) (Or.inl ⟨rfl, rfl⟩) (fun a hI => ?_)
        obtain ⟨L, T⟩ := a
        have hLb : L ≤ N := digI_le hI
        have hr := dig_wrap L
        have hq := quo_wrap L (by omega)
        by_cases hL0 : 0 < L
        · have q5 : decide ((0 : Int) < (L : Int)) = true := by rw [decide_eq_true_eq]; omega
          simp only [q5, ↓R1, R2, R3, R4, R5, Nat.reduceEqDiff, Nat.reduceAdd, Nat.reduceMul, Nat.reduceSub, Nat.reduceLeDiff, Nat.reduceLT, reduceIte, reduceCtorEq, Int.reduceBNe, Int.reduceBEq, q1, q2, q3, q4, q5, q6, beq_self_eq_true]
          repeat' (first | (with_reducible rw [allocV_eq]) | (refine gdV_split (fun hc => ?_) (fun hc => ?_) <;> (try simp only [hc, ↓R1, R2, R3, R4, R5, Nat.reduceEqDiff, Nat.reduceAdd, Nat.reduceMul, Nat.reduceSub, Nat.reduceLeDiff, Nat.reduceLT, reduceIte, reduceCtorEq, Int.reduceBNe, Int.reduceBEq, q1, q2, q3, q4, q5, q6, beq_self_eq_true])) | ((first | refine condV_split (fun hc => ?_) (fun hc => ?_) | (with_reducible intro β hβ; (try simp only [St.box_noneA, St.tip_noneA, St.tip_set, St.box_tip, St.box_lp, St.tip_lp] at hβ); (repeat (obtain ⟨⟨_, _⟩, hβ⟩ := hβ)); (try (have hbis := apart_is (by assumption) hβ; obtain ⟨_, _⟩ := hbis)))) <;> (try simp only [↓R1, R2, R3, R4, R5, Nat.reduceEqDiff, Nat.reduceAdd, Nat.reduceMul, Nat.reduceSub, Nat.reduceLeDiff, Nat.reduceLT, reduceIte, reduceCtorEq, Int.reduceBNe, Int.reduceBEq, q1, q2, q3, q4, q5, q6, beq_self_eq_true])) | (with_reducible refine And.intro ?_ ?_; (focus (first | omega | (intros; (repeat' (with_reducible apply And.intro)) <;> first | omega | (simp only [List.length_map]; omega))))) | (with_reducible apply And.intro))
          all_goals first | (rw [hr]; simp [isByte]; done) | skip
          all_goals first | (have := digI_len hI (show N < 10 ^ 20 by omega); omega) | skip
          refine ⟨(L / 10, dch (L % 10) :: T), digI_step hI (by first | exact .inl (by omega) | exact .inr rfl), ?_, St.le_refl _, ?_⟩
          · rw [hr, hq, byte_dch]; simp [subF, slot, wk_refl]
          · simp; split <;> omega
        · have hLz : L = 0 := by omega
          subst hLz
          by_cases hT : T = []
          · subst hT
            have q5 : decide ((0 : Int) < ((0 : Nat) : Int)) = false := by decide
            simp only [q5, ↓R1, R2, R3, R4, R5, Nat.reduceEqDiff, Nat.reduceAdd, Nat.reduceMul, Nat.reduceSub, Nat.reduceLeDiff, Nat.reduceLT, reduceIte, reduceCtorEq, Int.reduceBNe, Int.reduceBEq, q1, q2, q3, q4, q5, q6, beq_self_eq_true]
            repeat' (first | (with_reducible rw [allocV_eq]) | (refine gdV_split (fun hc => ?_) (fun hc => ?_) <;> (try simp only [hc, ↓R1, R2, R3, R4, R5, Nat.reduceEqDiff, Nat.reduceAdd, Nat.reduceMul, Nat.reduceSub, Nat.reduceLeDiff, Nat.reduceLT, reduceIte, reduceCtorEq, Int.reduceBNe, Int.reduceBEq, q1, q2, q3, q4, q5, q6, beq_self_eq_true])) | ((first | refine condV_split (fun hc => ?_) (fun hc => ?_) | (with_reducible intro β hβ; (try simp only [St.box_noneA, St.tip_noneA, St.tip_set, St.box_tip, St.box_lp, St.tip_lp] at hβ); (repeat (obtain ⟨⟨_, _⟩, hβ⟩ := hβ)); (try (have hbis := apart_is (by assumption) hβ; obtain ⟨_, _⟩ := hbis)))) <;> (try simp only [↓R1, R2, R3, R4, R5, Nat.reduceEqDiff, Nat.reduceAdd, Nat.reduceMul, Nat.reduceSub, Nat.reduceLeDiff, Nat.reduceLT, reduceIte, reduceCtorEq, Int.reduceBNe, Int.reduceBEq, q1, q2, q3, q4, q5, q6, beq_self_eq_true])) | (with_reducible refine And.intro ?_ ?_; (focus (first | omega | (intros; (repeat' (with_reducible apply And.intro)) <;> first | omega | (simp only [List.length_map]; omega))))) | (with_reducible apply And.intro))
            all_goals first | (rw [hr]; simp [isByte]; done) | skip
            all_goals first | (have := digI_len hI (show N < 10 ^ 20 by omega); omega) | skip
            refine ⟨(0, [dch 0]), digI_step hI (by first | exact .inl (by omega) | exact .inr rfl), ?_, St.le_refl _, ?_⟩
            · rw [hr, hq, byte_dch]; simp [subF, slot, wk_refl]
            · simp
          · have q5 : decide ((0 : Int) < ((0 : Nat) : Int)) = false := by decide
            have q6 : (T == []) = false := by rw [beq_eq_false_iff_ne]; exact hT
            have hTd := digI_end hI rfl hT
            subst hTd
            simp only [q5, ↓R1, R2, R3, R4, R5, Nat.reduceEqDiff, Nat.reduceAdd, Nat.reduceMul, Nat.reduceSub, Nat.reduceLeDiff, Nat.reduceLT, reduceIte, reduceCtorEq, Int.reduceBNe, Int.reduceBEq, q1, q2, q3, q4, q5, q6, beq_self_eq_true]
            repeat' (first | (with_reducible rw [allocV_eq]) | (refine gdV_split (fun hc => ?_) (fun hc => ?_) <;> (try simp only [hc, ↓R1, R2, R3, R4, R5, Nat.reduceEqDiff, Nat.reduceAdd, Nat.reduceMul, Nat.reduceSub, Nat.reduceLeDiff, Nat.reduceLT, reduceIte, reduceCtorEq, Int.reduceBNe, Int.reduceBEq, q1, q2, q3, q4, q5, q6, beq_self_eq_true])) | ((first | refine condV_split (fun hc => ?_) (fun hc => ?_) | (with_reducible intro β hβ; (try simp only [St.box_noneA, St.tip_noneA, St.tip_set, St.box_tip, St.box_lp, St.tip_lp] at hβ); (repeat (obtain ⟨⟨_, _⟩, hβ⟩ := hβ)); (try (have hbis := apart_is (by assumption) hβ; obtain ⟨_, _⟩ := hbis)))) <;> (try simp only [↓R1, R2, R3, R4, R5, Nat.reduceEqDiff, Nat.reduceAdd, Nat.reduceMul, Nat.reduceSub, Nat.reduceLeDiff, Nat.reduceLT, reduceIte, reduceCtorEq, Int.reduceBNe, Int.reduceBEq, q1, q2, q3, q4, q5, q6, beq_self_eq_true])) | (with_reducible refine And.intro ?_ ?_; (focus (first | omega | (intros; (repeat' (with_reducible apply And.intro)) <;> first | omega | (simp only [List.length_map]; omega))))) | (with_reducible apply And.intro) | ((first | refine Pu.to (sgn) (wkL_refl _) ?_ | refine callDV_pu (sgn) (wkL_refl _) ?_ | refine Pu.to (p27 _ _ _) (wkL_refl _) ?_ | refine callDV_pu (p27 _ _ _) (wkL_refl _) ?_ | refine Pu.to (num) (wkL_refl _) ?_ | refine callDV_pu (num) (wkL_refl _) ?_); (try simp only [↓R1, R2, R3, R4, R5, Nat.reduceEqDiff, Nat.reduceAdd, Nat.reduceMul, Nat.reduceSub, Nat.reduceLeDiff, Nat.reduceLT, reduceIte, reduceCtorEq, Int.reduceBNe, Int.reduceBEq, q1, q2, q3, q4, q5, q6, beq_self_eq_true])))
            all_goals first | (have := dec_len 19 N (by omega); omega) | skip
            (refine endP_pu (by simp) (by first | (simp [rvsS, rvS]; done) | (simp only [rvsS, rvS, ↓R1, R2, R3, R4, R5, Nat.reduceEqDiff, Nat.reduceAdd, Nat.reduceMul, Nat.reduceSub, Nat.reduceLeDiff, Nat.reduceLT, reduceIte, reduceCtorEq, Int.reduceBNe, Int.reduceBEq, q1, q2, q3, q4, q5, q6, beq_self_eq_true]; try simp)) (wk_of_eq ?_) (by (repeat (first | exact St.le_refl _ | (refine St.le_new ?_ (by assumption)) | (refine St.le_newT ?_ (by assumption))))))
            (simp only [resAV, rvV, List.map_cons, List.map_nil, ↓R1, R2, R3, R4, R5, Nat.reduceEqDiff, Nat.reduceAdd, Nat.reduceMul, Nat.reduceSub, Nat.reduceLeDiff, Nat.reduceLT, reduceIte, reduceCtorEq, Int.reduceBNe, Int.reduceBEq, q1, q2, q3, q4, q5, q6, beq_self_eq_true])
  exact main _ rfl
theorem arg_RowBytes (s : List UInt8) (n : Int) (hn : -9223372036854775808 ≤ n ∧ n ≤ 9223372036854775807) : PuG Tryd.prog [] 8 [.str s, .int .i64 n] (.bool true) := fun σ _ => law_RowBytes s n hn σ
end Go.Proofs.YtemddijemikleaaDoor
