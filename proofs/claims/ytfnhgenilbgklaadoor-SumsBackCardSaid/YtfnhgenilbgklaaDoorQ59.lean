/-
  Layer 5: running sums.
-/
import Derived.Test.YtfnhgenilbgklaaDoorQ53
import Derived.Test.YtfnhgenilbgklaaDoorQ52
namespace Go.Proofs.YtfnhgenilbgklaaDoor
open Go.Abs
set_option linter.all false
set_option maxRecDepth 100000

/-- A loop that appends to one slice of its own. -/
theorem loopV_tip {P : Program} {x : CC} {fr : Fr} {σ : St} {Q : Exit → Fr → St → Prop} {h : Hold (x, σ, Q)} {α : Type} (t e s n : Nat) (cs : List AV) (F : Nat → α → Fr) (S : Nat → α → St) (I : α → Prop) (μ : α → Nat) (a0 : α)
    (hf : fresh (slot t fr)) (hs : slv (slot t fr) = some (n, cs)) (h0 : I a0) (hF : ∀ τ, σ.tip τ = none → subF (F τ a0) ((t, .tsl τ n cs) :: fr)) (hS : ∀ τ, σ.tip τ = none → St.le (S τ a0) (σ.setTip τ (e, s, n)))
    (hr : ∀ τ, σ.tip τ = none → ∀ a, I a → aC P x (F τ a) (S τ a) (loopK (fun fr' σ' => ∃ b, I b ∧ subF (F τ b) fr' ∧ St.le (S τ b) σ' ∧ μ b < μ a) Q)) : loopV P x fr σ Q h := by
  refine ⟨[(false, t, 0, e, s)], ?_⟩
  simp only [startP]
  refine ⟨hf, ?_⟩
  rw [hs]
  intro τ hτ
  refine ⟨α, F τ, S τ, I, μ, a0, h0, hF τ hτ, hS τ hτ, fun a ha => ?_⟩
  have := hr τ hτ a ha
  unfold loopK at this
  exact this
theorem appV_tslK {σ : St} {K : AV → St → Prop} {tp : Bool} {e es bytes τ n m : Nat} {cs ds : List AV} {y : AV} {h : Hold (σ, K)} (hy : slv y = some (m, ds)) (ht : σ.tip τ = some (e, es, n)) (h1 : cs.length = n * es) (h2 : ds.length = m * es) (h3 : n + m ≤ maxLen) (h4 : (n + m) * bytes ≤ 140737488355328)
    (hK : K (.tsl τ (n + m) (cs ++ ds)) (σ.setTip τ (e, es, n + m))) : appV tp e es bytes (.tsl τ n cs) y σ K h := by
  rw [appV_tsl hy]; exact ⟨ht, h1, h2, h3, h4, hK⟩
theorem St.tip_same (σ : St) (τ : Nat) (x : Nat × Nat × Nat) : (σ.setTip τ x).tip τ = some x := by simp [St.setTip, upd]
theorem St.setTip_setTip (σ : St) (τ : Nat) (x y : Nat × Nat × Nat) : (σ.setTip τ x).setTip τ y = σ.setTip τ y := by
  simp only [St.setTip, St.mk.injEq, true_and, and_true]
  funext j; simp only [upd]; split <;> rfl
theorem St.le_newT {σ σ' : St} {τ : Nat} {c : Nat × Nat × Nat} (h : St.le σ σ') (hn : σ.tip τ = none) : St.le σ (σ'.setTip τ c) := St.le_setTip h hn

def ints (k : IntKind) (l : List Int) : List AV := l.map (AV.int k)
theorem ints_len (k : IntKind) (l : List Int) : (ints k l).length = l.length := by simp [ints]
theorem ints_get (k : IntKind) (l : List Int) (i : Nat) (h : i < l.length) : ((ints k l).drop (i * 1)).take 1 = [.int k l[i]] := by
  unfold ints
  rw [Nat.mul_one, ← List.map_drop, List.drop_eq_getElem_cons h, List.map_cons]
  simp
theorem ints_app (k : IntKind) (l m : List Int) : ints k l ++ ints k m = ints k (l ++ m) := by simp [ints]
def runA (n : Int) (acc : List Int) : List Int → List Int × Int
  | [] => (acc, 0)
  | x :: l => bif fit (n + x) then runA (n + x) (acc ++ [n + x]) l else (acc, 16)
def runV (l : List Int) : List Int × Int := runA 0 [] l
def All64 (l : List Int) : Prop := ∀ x ∈ l, I64 x
def slI (l : List Int) : AV := .sl false l.length (ints .i64 l)
theorem p14 (f : Bool) (l : List Int) (hl : l.length ≤ 1000000) (ha : All64 l) : Pu Tryd.prog 14 [.sl f l.length (ints .i64 l)] (.tup [slI (runV l).1, .int .i64 (runV l).2]) := by
  refine Pu_intro c14 b14 (Nat.le_of_ble_eq_true rfl) fun σ => ?_
  simp only [c14, ↓R1, R2, appV_tsl, keepF, initF, St.box_same, St.set_set, St.glob_set, Option.map_some, ps, pf, ev, slot, putF, guardC, CO.ods, optAll, evU, binV, binS, intV, intS, strV, strS, unV, unS, pickV, pickS, boolS, slv, intOfA, isIntA, isIntO, bnd, ldV, ldS, pcells, AV.fits, AV.one, AV.cells, putParts, partsS, fresh, nilOk, nilP, List.map_cons, List.map_nil, List.length_cons, List.length_nil, List.take_succ_cons, List.take_zero, List.drop_succ_cons, List.drop_zero, List.cons_append, List.nil_append, List.append_nil, List.getElem?_cons_zero, List.getElem?_cons_succ, Option.getD_some, Option.isSome_some, Option.isSome_none, Nat.reduceEqDiff, Nat.reduceAdd, Nat.reduceMul, Nat.reduceSub, Nat.reduceLeDiff, Nat.reduceLT, Nat.zero_add, Nat.add_zero, ite_true, ite_false, if_true, if_false, reduceIte, reduceCtorEq, true_and, and_true, implies_true, forall_const, cond_true, cond_false, beq_true, beq_false, Int.toNat_natCast, IntKind.max_i64, true_implies, false_implies, and_self, Bool.not_true, Bool.not_false, eq_self, Bool.cond_true_left, Bool.cond_false_left, Bool.cond_true_right, Bool.cond_false_right, imp_self, Bool.not_eq_true', pickE, isLd]
  refine loopV_tip (α := Nat × Int × List Int) 2 2 1 0 [] (fun τ a => [(2, .tsl τ a.1 (ints .i64 a.2.2)), (4, .int .i64 a.2.1), (9, .sl f l.length (ints .i64 l)), (10, .int .i64 l.length), (11, .int .i64 a.1)]) (fun τ a => σ.setTip τ (2, 1, a.1))
    (fun a => a.1 ≤ l.length ∧ runV l = runA a.2.1 a.2.2 (l.drop a.1) ∧ a.2.2.length = a.1 ∧ I64 a.2.1) (fun a => l.length - a.1) (0, 0, []) trivial rfl ⟨Nat.zero_le _, by simp [runV], rfl, by decide, by decide⟩ (fun τ hτ => ?_) (fun τ hτ => St.le_refl _) (fun τ hτ a ha' => ?_)
  · simp [subF, slot, wk_refl, ints]
  obtain ⟨k, n, acc⟩ := a
  obtain ⟨h1, h2, h3, h4⟩ := ha'
  simp only at h1 h2 h3 h4 ⊢
  simp only [↓R1, R2, appV_tsl, keepF, initF, St.box_same, St.set_set, St.glob_set, Option.map_some, ps, pf, ev, slot, putF, guardC, CO.ods, optAll, evU, binV, binS, intV, intS, strV, strS, unV, unS, pickV, pickS, boolS, slv, intOfA, isIntA, isIntO, bnd, ldV, ldS, pcells, AV.fits, AV.one, AV.cells, putParts, partsS, fresh, nilOk, nilP, List.map_cons, List.map_nil, List.length_cons, List.length_nil, List.take_succ_cons, List.take_zero, List.drop_succ_cons, List.drop_zero, List.cons_append, List.nil_append, List.append_nil, List.getElem?_cons_zero, List.getElem?_cons_succ, Option.getD_some, Option.isSome_some, Option.isSome_none, Nat.reduceEqDiff, Nat.reduceAdd, Nat.reduceMul, Nat.reduceSub, Nat.reduceLeDiff, Nat.reduceLT, Nat.zero_add, Nat.add_zero, ite_true, ite_false, if_true, if_false, reduceIte, reduceCtorEq, true_and, and_true, implies_true, forall_const, cond_true, cond_false, beq_true, beq_false, Int.toNat_natCast, IntKind.max_i64, true_implies, false_implies, and_self, Bool.not_true, Bool.not_false, eq_self, Bool.cond_true_left, Bool.cond_false_left, Bool.cond_true_right, Bool.cond_false_right, imp_self, Bool.not_eq_true', pickE, isLd]
  refine condV_split (fun h5 => ?_) (fun h5 => ?_) <;> simp at h5
  · rw [List.drop_eq_getElem_cons h5, runA] at h2
    have hx : I64 l[k] := ha _ (List.getElem_mem h5)
    simp only [ints_get .i64 l k h5, ↓R1, R2, appV_tsl, keepF, initF, St.box_same, St.set_set, St.glob_set, Option.map_some, ps, pf, ev, slot, putF, guardC, CO.ods, optAll, evU, binV, binS, intV, intS, strV, strS, unV, unS, pickV, pickS, boolS, slv, intOfA, isIntA, isIntO, bnd, ldV, ldS, pcells, AV.fits, AV.one, AV.cells, putParts, partsS, fresh, nilOk, nilP, List.map_cons, List.map_nil, List.length_cons, List.length_nil, List.take_succ_cons, List.take_zero, List.drop_succ_cons, List.drop_zero, List.cons_append, List.nil_append, List.append_nil, List.getElem?_cons_zero, List.getElem?_cons_succ, Option.getD_some, Option.isSome_some, Option.isSome_none, Nat.reduceEqDiff, Nat.reduceAdd, Nat.reduceMul, Nat.reduceSub, Nat.reduceLeDiff, Nat.reduceLT, Nat.zero_add, Nat.add_zero, ite_true, ite_false, if_true, if_false, reduceIte, reduceCtorEq, true_and, and_true, implies_true, forall_const, cond_true, cond_false, beq_true, beq_false, Int.toNat_natCast, IntKind.max_i64, true_implies, false_implies, and_self, Bool.not_true, Bool.not_false, eq_self, Bool.cond_true_left, Bool.cond_false_left, Bool.cond_true_right, Bool.cond_false_right, imp_self, Bool.not_eq_true', pickE, isLd]
    refine ⟨⟨by omega, by omega, by rw [ints_len]; omega⟩, ?_⟩
    refine (p22 n l[k] h4 hx).to (wkL_refl _) ?_
    cases hf : fit (n + l[k]) with
    | false =>
      rw [hf] at h2
      simp only [hf, chk, Int.reduceBNe, ↓R1, R2, appV_tsl, keepF, initF, St.box_same, St.set_set, St.glob_set, Option.map_some, ps, pf, ev, slot, putF, guardC, CO.ods, optAll, evU, binV, binS, intV, intS, strV, strS, unV, unS, pickV, pickS, boolS, slv, intOfA, isIntA, isIntO, bnd, ldV, ldS, pcells, AV.fits, AV.one, AV.cells, putParts, partsS, fresh, nilOk, nilP, List.map_cons, List.map_nil, List.length_cons, List.length_nil, List.take_succ_cons, List.take_zero, List.drop_succ_cons, List.drop_zero, List.cons_append, List.nil_append, List.append_nil, List.getElem?_cons_zero, List.getElem?_cons_succ, Option.getD_some, Option.isSome_some, Option.isSome_none, Nat.reduceEqDiff, Nat.reduceAdd, Nat.reduceMul, Nat.reduceSub, Nat.reduceLeDiff, Nat.reduceLT, Nat.zero_add, Nat.add_zero, ite_true, ite_false, if_true, if_false, reduceIte, reduceCtorEq, true_and, and_true, implies_true, forall_const, cond_true, cond_false, beq_true, beq_false, Int.toNat_natCast, IntKind.max_i64, true_implies, false_implies, and_self, Bool.not_true, Bool.not_false, eq_self, Bool.cond_true_left, Bool.cond_false_left, Bool.cond_true_right, Bool.cond_false_right, imp_self, Bool.not_eq_true', pickE, isLd]
      refine endP_intro (by simp) (by simp [rvsS, rvS]) ?_ (St.le_newT (St.le_refl _) hτ) ⟨rfl, rfl⟩
      simp only [resAV, rvV, List.map_cons, List.map_nil, ↓R1, R2, appV_tsl, keepF, initF, St.box_same, St.set_set, St.glob_set, Option.map_some, ps, pf, ev, slot, putF, guardC, CO.ods, optAll, evU, binV, binS, intV, intS, strV, strS, unV, unS, pickV, pickS, boolS, slv, intOfA, isIntA, isIntO, bnd, ldV, ldS, pcells, AV.fits, AV.one, AV.cells, putParts, partsS, fresh, nilOk, nilP, List.map_cons, List.map_nil, List.length_cons, List.length_nil, List.take_succ_cons, List.take_zero, List.drop_succ_cons, List.drop_zero, List.cons_append, List.nil_append, List.append_nil, List.getElem?_cons_zero, List.getElem?_cons_succ, Option.getD_some, Option.isSome_some, Option.isSome_none, Nat.reduceEqDiff, Nat.reduceAdd, Nat.reduceMul, Nat.reduceSub, Nat.reduceLeDiff, Nat.reduceLT, Nat.zero_add, Nat.add_zero, ite_true, ite_false, if_true, if_false, reduceIte, reduceCtorEq, true_and, and_true, implies_true, forall_const, cond_true, cond_false, beq_true, beq_false, Int.toNat_natCast, IntKind.max_i64, true_implies, false_implies, and_self, Bool.not_true, Bool.not_false, eq_self, Bool.cond_true_left, Bool.cond_false_left, Bool.cond_true_right, Bool.cond_false_right, imp_self, Bool.not_eq_true', pickE, isLd]
      rw [h2]
      simp only [cond_false]
      unfold slI
      rw [h3]
      exact wk_tup (.cons (wk_tsl _ _ _) (.cons (wk_refl _) .nil))
    | true =>
      rw [hf] at h2
      simp only [hf, chk, Int.reduceBNe, bne_self_eq_false, ↓R1, R2, appV_tsl, keepF, initF, St.box_same, St.set_set, St.glob_set, Option.map_some, ps, pf, ev, slot, putF, guardC, CO.ods, optAll, evU, binV, binS, intV, intS, strV, strS, unV, unS, pickV, pickS, boolS, slv, intOfA, isIntA, isIntO, bnd, ldV, ldS, pcells, AV.fits, AV.one, AV.cells, putParts, partsS, fresh, nilOk, nilP, List.map_cons, List.map_nil, List.length_cons, List.length_nil, List.take_succ_cons, List.take_zero, List.drop_succ_cons, List.drop_zero, List.cons_append, List.nil_append, List.append_nil, List.getElem?_cons_zero, List.getElem?_cons_succ, Option.getD_some, Option.isSome_some, Option.isSome_none, Nat.reduceEqDiff, Nat.reduceAdd, Nat.reduceMul, Nat.reduceSub, Nat.reduceLeDiff, Nat.reduceLT, Nat.zero_add, Nat.add_zero, ite_true, ite_false, if_true, if_false, reduceIte, reduceCtorEq, true_and, and_true, implies_true, forall_const, cond_true, cond_false, beq_true, beq_false, Int.toNat_natCast, IntKind.max_i64, true_implies, false_implies, and_self, Bool.not_true, Bool.not_false, eq_self, Bool.cond_true_left, Bool.cond_false_left, Bool.cond_true_right, Bool.cond_false_right, imp_self, Bool.not_eq_true', pickE, isLd]
      refine appV_tslK (m := 1) (ds := [.int .i64 (n + l[k])]) rfl (St.tip_same _ _ _) (by rw [ints_len, h3]; omega) rfl (by unfold maxLen; omega) (by omega) ?_
      simp only [St.setTip_setTip, ↓R1, R2, appV_tsl, keepF, initF, St.box_same, St.set_set, St.glob_set, Option.map_some, ps, pf, ev, slot, putF, guardC, CO.ods, optAll, evU, binV, binS, intV, intS, strV, strS, unV, unS, pickV, pickS, boolS, slv, intOfA, isIntA, isIntO, bnd, ldV, ldS, pcells, AV.fits, AV.one, AV.cells, putParts, partsS, fresh, nilOk, nilP, List.map_cons, List.map_nil, List.length_cons, List.length_nil, List.take_succ_cons, List.take_zero, List.drop_succ_cons, List.drop_zero, List.cons_append, List.nil_append, List.append_nil, List.getElem?_cons_zero, List.getElem?_cons_succ, Option.getD_some, Option.isSome_some, Option.isSome_none, Nat.reduceEqDiff, Nat.reduceAdd, Nat.reduceMul, Nat.reduceSub, Nat.reduceLeDiff, Nat.reduceLT, Nat.zero_add, Nat.add_zero, ite_true, ite_false, if_true, if_false, reduceIte, reduceCtorEq, true_and, and_true, implies_true, forall_const, cond_true, cond_false, beq_true, beq_false, Int.toNat_natCast, IntKind.max_i64, true_implies, false_implies, and_self, Bool.not_true, Bool.not_false, eq_self, Bool.cond_true_left, Bool.cond_false_left, Bool.cond_true_right, Bool.cond_false_right, imp_self, Bool.not_eq_true', pickE, isLd]
      refine ⟨(k + 1, n + l[k], acc ++ [n + l[k]]), ⟨h5, by rw [h2]; rfl, by simp [h3], (fit_iff _).1 hf⟩, ?_, St.le_refl _, by simp only; omega⟩
      simp only [subF, slot, wk_refl, ↓R1, R2, appV_tsl, keepF, initF, St.box_same, St.set_set, St.glob_set, Option.map_some, ps, pf, ev, slot, putF, guardC, CO.ods, optAll, evU, binV, binS, intV, intS, strV, strS, unV, unS, pickV, pickS, boolS, slv, intOfA, isIntA, isIntO, bnd, ldV, ldS, pcells, AV.fits, AV.one, AV.cells, putParts, partsS, fresh, nilOk, nilP, List.map_cons, List.map_nil, List.length_cons, List.length_nil, List.take_succ_cons, List.take_zero, List.drop_succ_cons, List.drop_zero, List.cons_append, List.nil_append, List.append_nil, List.getElem?_cons_zero, List.getElem?_cons_succ, Option.getD_some, Option.isSome_some, Option.isSome_none, Nat.reduceEqDiff, Nat.reduceAdd, Nat.reduceMul, Nat.reduceSub, Nat.reduceLeDiff, Nat.reduceLT, Nat.zero_add, Nat.add_zero, ite_true, ite_false, if_true, if_false, reduceIte, reduceCtorEq, true_and, and_true, implies_true, forall_const, cond_true, cond_false, beq_true, beq_false, Int.toNat_natCast, IntKind.max_i64, true_implies, false_implies, and_self, Bool.not_true, Bool.not_false, eq_self, Bool.cond_true_left, Bool.cond_false_left, Bool.cond_true_right, Bool.cond_false_right, imp_self, Bool.not_eq_true', pickE, isLd]
      refine ⟨wk_of_eq (by simp [ints]), wk_of_eq (by rw [wrap_succ h5 (by unfold maxLen; omega)])⟩
  · rw [List.drop_eq_nil_of_le h5, runA] at h2
    simp only [↓R1, R2, appV_tsl, keepF, initF, St.box_same, St.set_set, St.glob_set, Option.map_some, ps, pf, ev, slot, putF, guardC, CO.ods, optAll, evU, binV, binS, intV, intS, strV, strS, unV, unS, pickV, pickS, boolS, slv, intOfA, isIntA, isIntO, bnd, ldV, ldS, pcells, AV.fits, AV.one, AV.cells, putParts, partsS, fresh, nilOk, nilP, List.map_cons, List.map_nil, List.length_cons, List.length_nil, List.take_succ_cons, List.take_zero, List.drop_succ_cons, List.drop_zero, List.cons_append, List.nil_append, List.append_nil, List.getElem?_cons_zero, List.getElem?_cons_succ, Option.getD_some, Option.isSome_some, Option.isSome_none, Nat.reduceEqDiff, Nat.reduceAdd, Nat.reduceMul, Nat.reduceSub, Nat.reduceLeDiff, Nat.reduceLT, Nat.zero_add, Nat.add_zero, ite_true, ite_false, if_true, if_false, reduceIte, reduceCtorEq, true_and, and_true, implies_true, forall_const, cond_true, cond_false, beq_true, beq_false, Int.toNat_natCast, IntKind.max_i64, true_implies, false_implies, and_self, Bool.not_true, Bool.not_false, eq_self, Bool.cond_true_left, Bool.cond_false_left, Bool.cond_true_right, Bool.cond_false_right, imp_self, Bool.not_eq_true', pickE, isLd]
    refine endP_intro (by simp) (by simp [rvsS, rvS]) ?_ (St.le_newT (St.le_refl _) hτ) ⟨rfl, rfl⟩
    simp only [resAV, rvV, List.map_cons, List.map_nil, ↓R1, R2, appV_tsl, keepF, initF, St.box_same, St.set_set, St.glob_set, Option.map_some, ps, pf, ev, slot, putF, guardC, CO.ods, optAll, evU, binV, binS, intV, intS, strV, strS, unV, unS, pickV, pickS, boolS, slv, intOfA, isIntA, isIntO, bnd, ldV, ldS, pcells, AV.fits, AV.one, AV.cells, putParts, partsS, fresh, nilOk, nilP, List.map_cons, List.map_nil, List.length_cons, List.length_nil, List.take_succ_cons, List.take_zero, List.drop_succ_cons, List.drop_zero, List.cons_append, List.nil_append, List.append_nil, List.getElem?_cons_zero, List.getElem?_cons_succ, Option.getD_some, Option.isSome_some, Option.isSome_none, Nat.reduceEqDiff, Nat.reduceAdd, Nat.reduceMul, Nat.reduceSub, Nat.reduceLeDiff, Nat.reduceLT, Nat.zero_add, Nat.add_zero, ite_true, ite_false, if_true, if_false, reduceIte, reduceCtorEq, true_and, and_true, implies_true, forall_const, cond_true, cond_false, beq_true, beq_false, Int.toNat_natCast, IntKind.max_i64, true_implies, false_implies, and_self, Bool.not_true, Bool.not_false, eq_self, Bool.cond_true_left, Bool.cond_false_left, Bool.cond_true_right, Bool.cond_false_right, imp_self, Bool.not_eq_true', pickE, isLd]
    rw [h2]
    unfold slI
    rw [h3]
    exact wk_tup (.cons (wk_tsl _ _ _) (.cons (wk_refl _) .nil))
end Go.Proofs.YtfnhgenilbgklaaDoor
