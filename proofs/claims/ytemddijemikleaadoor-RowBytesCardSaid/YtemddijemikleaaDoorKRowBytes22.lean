/- Part 22 of the proof of RowBytes: an abstract semantics that is proved sound for the model, contracts of functions in it, and plain facts (SB SB2 SB3 SB4 RW1 RW2 RX1 RN1 RN2 RB1 RW3). No condition. -/
import Derived.Test.YtemddijemikleaaDoorKRowBytes21
import Derived.WalkKit
import Derived.Lib.Walk
import Derived.Lib.Builder
import Derived.Lib.UnsafeStr
import Derived.Shelf.RegionOpenPlain
import Derived.Shelf.Strings.BuilderX
import Derived.Laws.Externs
set_option linter.all false
namespace Go.Proofs.YtemddijemikleaaDoor
open Go.Abs Go.Lib Go.RowKit
set_option linter.all false
set_option maxRecDepth 100000
theorem bt_size : (Tryd.prog.info? 63).map (·.size) = some 2 := by kernel_rfl
theorem bt_lies : liesAt Tryd.prog Tryd.prog.depth 63 (2 / Tryd.prog.cellsOf 63) 0 63 1 = true := by kernel_rfl
theorem cc_used (b : Nat) (w : World) (h0 : w.cell? ⟨b, 0, none⟩ = some (.pointer (some ⟨b, 0, none⟩))) :
    Calls Tryd.prog 53 #[.pointer (some ⟨b, 0, none⟩)] w fun e w' => e = .returned (.tuple #[]) ∧ w' = w := by
  obtain ⟨j, hj, _⟩ := Option.map_eq_some_iff.1 bt_size
  go_enter Tryd.func53, Tryd.ntmps53
  go_wp2
  rw [Lib.run_neq_ptr_same w _ Tryd.underlying61 hj]
  go_wp2
  go_end0
  exact ⟨rfl, rfl⟩
theorem cc_fresh (b : Nat) (w : World) (h0 : w.cell? ⟨b, 0, none⟩ = some (.pointer none)) (hsh : w.shape? b = some (63, 2)) (hfz : w.frozen? ⟨b, 0, none⟩ = false) :
    Calls Tryd.prog 53 #[.pointer (some ⟨b, 0, none⟩)] w fun e w' => e = .returned (.tuple #[]) ∧ w' = w.setCell ⟨b, 0, none⟩ (.pointer (some ⟨b, 0, none⟩)) := by
  obtain ⟨j, hj, hjs⟩ := Option.map_eq_some_iff.1 bt_size
  go_enter Tryd.func53, Tryd.ntmps53
  go_wp2
  rw [Lib.run_to_unsafe w ⟨b, 0, none⟩ Tryd.underlying61 Tryd.underlying98 hj (by rw [hjs]; decide) hsh (Nat.zero_lt_succ 1)]
  simp only [Result.andThen]
  rw [Oper.upon_value]
  go_wp2
  rw [run_callFunc_extern Tryd.func63 (by kernel_rfl) (by kernel_rfl) (by kernel_rfl) (e := Extern.AbiNoEscape.same) (by kernel_rfl)]
  rw [Lib.run_noEscape]
  simp only [Result.andThen]
  rw [Oper.upon_value]
  go_wp2
  rw [Lib.run_from_unsafe w ⟨b, 0, none⟩ Tryd.underlying98 Tryd.underlying61 hj hsh bt_lies]
  simp only [Result.andThen]
  rw [Oper.upon_value]
  go_wp2
  go_end0
  exact ⟨rfl, rfl⟩
end Go.Proofs.YtemddijemikleaaDoor
namespace Go.Abs
open Go.RowKit Go.Lib
set_option linter.all false
section
variable {P : Program} {g : Gh} {σ : St} {w : World}
/-- A block that neither a variable nor a tip holds may be frozen. -/
theorem freeze_row (hI : Inv g σ w) {b F n : Nat} {cur : Array Value} {T : TypeId} {q : Nat × Nat} (hb : w.heap[b]? = some (.cells cur T q)) (hcl : g.cl b = some F) (hbox : ∀ β, g.box β ≠ some b)
    (htip : ∀ τ x v, σ.tip τ = some x → g.tip τ x.2.2 = some v → Held x.2.2 v → v.ownBlock ≠ some b) :
    Inv g σ (w.freeze ⟨b, 0, none⟩ n) ∧ Ext g w g (w.freeze ⟨b, 0, none⟩ n) := by
  have hother : ∀ k, k ≠ b → (w.freeze ⟨b, 0, none⟩ n).heap[k]? = w.heap[k]? := fun k hk => by
    unfold World.freeze
    split
    · rfl
    · simp only [Array.getElem?_modify]; rw [if_neg (fun e => hk e.symm)]
  have hcell : ∀ i, (w.freeze ⟨b, 0, none⟩ n).cell? ⟨b, i, none⟩ = w.cell? ⟨b, i, none⟩ := fun i => by
    unfold World.freeze
    split
    · rfl
    · simp only [World.cell?, Array.getElem?_modify, if_true, hb, Option.map_some]
  have hos : (w.freeze ⟨b, 0, none⟩ n).os = w.os := by unfold World.freeze; split <;> rfl
  have htp : (w.freeze ⟨b, 0, none⟩ n).tape = w.tape := by unfold World.freeze; split <;> rfl
  have hou : (w.freeze ⟨b, 0, none⟩ n).output = w.output := by unfold World.freeze; split <;> rfl
  have hsz : (w.freeze ⟨b, 0, none⟩ n).heap.size = w.heap.size := by unfold World.freeze; split <;> simp
  have he : Ext g w g (w.freeze ⟨b, 0, none⟩ n) := by
    refine ⟨hos, htp, hou, by omega, fun _ _ h => h, fun _ _ => rfl, Nat.le_refl _, Nat.le_refl _, fun _ _ _ h => h, fun k hk hc => ?_, fun k G hk hc => ?_, fun _ _ h => h⟩
    · have hkb : k ≠ b := by rintro rfl; rw [hcl] at hc; cases hc
      exact ⟨hc, hother k hkb⟩
    · by_cases hkb : k = b
      · subst hkb
        exact ⟨G, hc, Nat.le_refl _, fun i _ => hcell i⟩
      · exact ⟨G, hc, Nat.le_refl _, fun i _ => World.cell?_of_block (hother k hkb)⟩
  refine ⟨⟨fun β cs hβ => ?_, fun β k hβ => ?_, hI.boxinj, hI.boxfresh, fun τ e s n ht => ?_, hI.tipinj, hI.tipfresh, fun k cs hk => (hI.glob k cs hk).mono he, fun l r hl => by
    obtain ⟨q1, q2, q3⟩ := hI.lp l r hl
    have hlb : l ≠ b := fun e => by subst e; rw [hb] at q1; cases q1
    exact ⟨by rw [hother l hlb]; exact q1, q2, fun t => (q3 t).mono he⟩, fun β T2 hβ => by
    obtain ⟨k, vs, k1, k2⟩ := hI.bty β T2 hβ
    exact ⟨k, vs, k1, by rw [hother k (fun e => hbox β (e ▸ k1))]; exact k2⟩⟩, he⟩
  · obtain ⟨k, vs, T2, k1, k2, k3⟩ := hI.box β cs hβ
    exact ⟨k, vs, T2, k1, by rw [hother k (fun e => hbox β (e ▸ k1))]; exact k2, k3.mono he⟩
  · obtain ⟨k1, k2⟩ := hI.boxcl β k hβ
    exact ⟨by omega, k2⟩
  · obtain ⟨v, k1, k2, k4⟩ := hI.tip τ e s n ht
    refine ⟨v, k1, fun hs => ?_, k4⟩
    obtain ⟨xs, k2, k3⟩ := k2 hs
    have hvb := htip τ _ v ht k1 hs
    refine ⟨xs, k2.kept (row := some b) ⟨hos, htp, hou, by omega, fun k _ hk => hother k (fun e => hk (by rw [e]))⟩ (.inr hvb), fun k hk => ?_⟩
    obtain ⟨k5, k6⟩ := k3 k hk
    exact ⟨k5, k6.1, k6.2.same (hother k (fun e => hvb (e ▸ hk)))⟩
end
end Go.Abs
namespace Go.Proofs.YtemddijemikleaaDoor
open Go.Abs Go.Lib Go.RowKit
set_option linter.all false
set_option maxRecDepth 100000
theorem byte_cells : Tryd.prog.cellsOf 5 = 1 := by kernel_rfl
set_option maxHeartbeats 2000000 in
theorem bs_string (b g cap : Nat) (p : Value) (cur : Array Value) (l : List UInt8) (w : World) (hbk : w.heap[b]? = some (.cells #[p, .slice (some ⟨g, 0, none⟩) l.length cap] 63 (0, 0))) (hg : w.heap[g]? = some (.cells cur 5 (0, 0)))
    (hnc : l.length ≤ cap) (hcm : cap ≤ maxLen) (hcs : cur.size = cap) (htake : cur.toList.take l.length = byteCells l) (h0 : l ≠ []) :
    Calls Tryd.prog 37 #[.pointer (some ⟨b, 0, none⟩)] w fun e w' => e = .returned (.string ⟨l.toArray⟩) ∧ w' = w.drew.freeze ⟨g, 0, none⟩ l.length := by
  have hl0 : l.length ≠ 0 := by simpa using h0
  have c1 : w.drew.cell? ⟨b, 1, none⟩ = some (.slice (some ⟨g, 0, none⟩) l.length cap) := by
    have h : w.drew.heap[b]? = some (.cells #[p, .slice (some ⟨g, 0, none⟩) l.length cap] 63 (0, 0)) := hbk
    rw [Lib.cell_of_heap h]; rfl
  have hSD : (Builtin.unsafeSliceData_ #[59] 88 #[.slice (some ⟨g, 0, none⟩) l.length cap]).run Tryd.prog w.drew = .ok (.pointer (some ⟨g, 0, none⟩)) w.drew :=
    Lib.run_unsafeSliceData_row _ _ _ _ _ _ (by omega)
  have hUS : (Builtin.unsafeString_ #[88, 3] 9 #[.pointer (some ⟨g, 0, none⟩), .int .i64 l.length]).run Tryd.prog w.drew = .ok (.string ⟨l.toArray⟩) (w.drew.freeze ⟨g, 0, none⟩ l.length) := by
    refine Lib.run_unsafeString_row w.drew _ _ _ 5 Tryd.underlying88 byte_cells g cur.size (by have hg' : w.drew.heap[g]? = some (.cells cur 5 (0, 0)) := hg; simp [World.shape?, hg']) l h0 (by omega) (by unfold maxLen at hcm; omega) ?_
    intro j x hx
    have hg' : w.drew.heap[g]? = some (.cells cur 5 (0, 0)) := hg
    have hj : j < l.length := (List.getElem?_eq_some_iff.1 hx).1
    have : (cur.toList.take l.length)[j]? = some (.int .u8 x.toNat) := by rw [htake]; simp [Lib.byteCells, hx]
    rw [List.getElem?_take, if_pos hj] at this
    rw [addr_add]
    rw [Lib.cell_of_heap hg', Nat.zero_add, ← Array.getElem?_toList]
    exact this
  have mixed : Tryd.prog.follows .mixedOrders = true := by kernel_rfl
  go_enter Tryd.func37, Tryd.ntmps37
  go_wp2
  go_region_o
  all_goals (go_wp2; go_ret; exact ⟨rfl, rfl⟩)
end Go.Proofs.YtemddijemikleaaDoor
namespace Go.Proofs.YtemddijemikleaaDoor
open Go.Abs Go.Lib Go.RowKit
set_option linter.all false
set_option maxRecDepth 100000
def bytesA (l : List UInt8) : List AV := l.map fun b => .int .u8 b.toNat
theorem cc_enter : ∀ args w, (callFunc 53 args).run Tryd.prog w = .ok (.enter 53 args) w := enters_of Tryd.func53 (by kernel_rfl) rfl
theorem bs_enter : ∀ args w, (callFunc 37 args).run Tryd.prog w = .ok (.enter 37 args) w := enters_of Tryd.func37 (by kernel_rfl) rfl
theorem ptr_one {g : Gh} {w : World} {β : Nat} {vs : List Value} (hv : RelL g w [.ptr β 0] vs) : ∃ b, vs = [.pointer (some ⟨b, 0, none⟩)] ∧ g.box β = some b := by
  obtain ⟨v, vs', rfl, h1, h2⟩ := hv.cons_inv
  rw [h2.nil_inv]
  obtain ⟨b, rfl, hb⟩ := h1.ptr_inv
  exact ⟨b, rfl, hb⟩
theorem a_cc_used {σ : St} {β : Nat} {x : AV} (hb : σ.box β = some [.ptr β 0, x]) : AC Tryd.prog 53 [.ptr β 0] σ (fun r s => r = .tup [] ∧ s = σ) := by
  intro g w vs hI hv
  obtain ⟨b, rfl, hg⟩ := ptr_one hv
  obtain ⟨b', cs, T, h1, h2, h3⟩ := hI.box β _ hb
  rw [hg] at h1; cases h1
  obtain ⟨v0, r0, hl, hv0, _⟩ := h3.1.cons_inv
  obtain ⟨b2, rfl, hb2⟩ := hv0.ptr_inv
  rw [hg] at hb2; cases hb2
  have hc : w.cell? ⟨b, 0, none⟩ = some (.pointer (some ⟨b, 0, none⟩)) := by
    rw [Lib.cell_of_heap h2, ← Array.getElem?_toList, hl]; rfl
  refine .inl ⟨cc_enter _ _, (cc_used b w hc).mono ?_⟩
  rintro e w' ⟨rfl, rfl⟩
  exact ⟨_, .tup [], σ, g, rfl, ⟨rfl, rfl⟩, hI, .refl g w', .tup_mk .nil⟩
theorem a_cc_fresh {σ : St} {β : Nat} {x : AV} (hb : σ.box β = some [.nilp, x]) (ht : σ.bt β = some 63) : AC Tryd.prog 53 [.ptr β 0] σ (fun r s => r = .tup [] ∧ s = σ.setBox β [.ptr β 0, x]) := by
  intro g w vs hI hv
  obtain ⟨b, rfl, hg⟩ := ptr_one hv
  obtain ⟨b', cs, T, h1, h2, h3⟩ := hI.box β _ hb
  rw [hg] at h1; cases h1
  obtain ⟨b', cs', h1, h2'⟩ := hI.bty β _ ht
  rw [hg] at h1; cases h1
  rw [h2] at h2'; cases h2'
  obtain ⟨v0, r0, hl, hv0, hr0⟩ := h3.1.cons_inv
  obtain ⟨v1, r1, rfl, hv1, hr1⟩ := hr0.cons_inv
  rw [hr1.nil_inv] at hl
  have hv0' : v0 = .pointer none := by cases hv0; rfl
  subst hv0'
  have hc : w.cell? ⟨b, 0, none⟩ = some (.pointer none) := by
    rw [Lib.cell_of_heap h2, ← Array.getElem?_toList, hl]; rfl
  have hsz : cs.size = 2 := by rw [← Array.length_toList, hl]; rfl
  have hfz := Lib.frozen_of_heap h2 0
  refine .inl ⟨cc_enter _ _, (cc_fresh b w hc (by simp only [World.shape?, h2, hsz]) hfz).mono ?_⟩
  rintro e w' ⟨rfl, rfl⟩
  obtain ⟨w2, q1, q2, q3⟩ := store_sound (P := Tryd.prog) hI hb hg (off := 0) (us := [.pointer (some ⟨b, 0, none⟩)]) (cs' := [.ptr β 0]) ⟨.cons (.ptr β 0 b hg) .nil, by simp [Value.oneCell']⟩ (by simp)
  have hw : w2 = w.setCell ⟨b, 0, none⟩ (.pointer (some ⟨b, 0, none⟩)) := by
    have hfz' : w.frozen? ((⟨b, 0, none⟩ : Addr).add 0) = false := hfz
    have := run_storeCells_at Tryd.prog b 0 63 [.pointer (some ⟨b, 0, none⟩)] 0 cs w h2 (by simp; omega) (by simp [Value.oneCell'])
    rw [this] at q1
    simp only [Result.ok.injEq, true_and] at q1
    rw [← q1]
    have hcs : cs = #[.pointer none, v1] := by rw [← Array.toArray_toList (xs := cs), hl]
    subst hcs
    have hh : (w.setRow b ((List.take (0 + 0) (#[Value.pointer none, v1] : Array Value).toList ++ [Value.pointer (some ⟨b, 0, none⟩)] ++ List.drop (0 + 0 + [Value.pointer (some ⟨b, 0, none⟩)].length) (#[Value.pointer none, v1] : Array Value).toList).toArray)).heap = (w.setCell ⟨b, 0, none⟩ (.pointer (some ⟨b, 0, none⟩))).heap := by
      refine Array.ext_getElem? (fun i => ?_)
      simp only [World.setRow, World.setCell, Array.getElem?_modify]
      split
      · rename_i e; subst e; rw [h2]; simp
      · rfl
    show World.setRow w b _ = _
    calc w.setRow b _ = { w with heap := (w.setRow b ((List.take (0 + 0) (#[Value.pointer none, v1] : Array Value).toList ++ [Value.pointer (some ⟨b, 0, none⟩)] ++ List.drop (0 + 0 + [Value.pointer (some ⟨b, 0, none⟩)].length) (#[Value.pointer none, v1] : Array Value).toList).toArray)).heap } := rfl
      _ = { w with heap := (w.setCell ⟨b, 0, none⟩ (.pointer (some ⟨b, 0, none⟩))).heap } := by rw [hh]
      _ = _ := rfl
  subst hw
  exact ⟨_, .tup [], _, g, rfl, ⟨rfl, rfl⟩, by simpa using q2, q3, .tup_mk .nil⟩
end Go.Proofs.YtemddijemikleaaDoor
namespace Go.Proofs.YtemddijemikleaaDoor
open Go.Abs Go.Lib Go.RowKit
set_option linter.all false
set_option maxRecDepth 100000
def bB (β τ : Nat) (l : List UInt8) : List AV := match l with
  | [] => [.nilp, .nils]
  | _ :: _ => [.ptr β 0, .tsl τ l.length (bytesA l)]
def bT (σ : St) (τ : Nat) (l : List UInt8) : St := match l with
  | [] => σ
  | _ :: _ => σ.setTip τ (5, 1, l.length)
/-- A builder that holds l. -/
def bS (σ : St) (β τ : Nat) (l : List UInt8) : St := (bT σ τ l).setBox β (bB β τ l)
theorem bS_box (σ : St) (β τ : Nat) (l : List UInt8) : (bS σ β τ l).box β = some (bB β τ l) := by simp [bS, St.setBox, upd]
theorem bS_other (σ : St) {β γ : Nat} (τ : Nat) (l : List UInt8) [h : Apart γ β] : (bS σ β τ l).box γ = σ.box γ := by
  cases l <;> simp [bS, bT, St.setBox, St.setTip, upd, h.ne]
theorem bS_bt (σ : St) (β τ : Nat) (l : List UInt8) : (bS σ β τ l).bt = σ.bt := by cases l <;> rfl
theorem bS_glob (σ : St) (β τ : Nat) (l : List UInt8) : (bS σ β τ l).glob = σ.glob := by cases l <;> rfl
theorem bS_set (σ : St) {β γ : Nat} (τ : Nat) (l : List UInt8) (c : List AV) [h : Apart γ β] : (bS σ β τ l).setBox γ c = bS (σ.setBox γ c) β τ l := by
  have hc : ∀ (s : St) (d : List AV), (s.setBox β d).setBox γ c = (s.setBox γ c).setBox β d := fun s d => by
    simp only [St.setBox, St.mk.injEq, and_true]
    funext j
    simp only [upd]
    by_cases h1 : j = γ
    · subst h1; rw [if_pos rfl, if_neg h.ne, if_pos rfl]
    · rw [if_neg h1, if_neg h1]
  cases l <;> exact hc _ _
theorem bS_nil (σ : St) (β τ : Nat) : bS σ β τ [] = σ.setBox β [.nilp, .nils] := rfl
theorem setBox_same {σ : St} {β : Nat} {c : List AV} (h : σ.box β = some c) : σ.setBox β c = σ := by
  unfold St.setBox
  have : upd σ.box β c = σ.box := by
    funext j
    simp only [upd]
    split
    · rename_i e; subst e; exact h.symm
    · rfl
  rw [this]
theorem bS_none {σ : St} {β γ τ : Nat} {l : List UInt8} : (bS σ β τ l).box γ = none ↔ (Apart γ β ∧ Apart β γ) ∧ σ.box γ = none := by
  unfold bS
  rw [St.box_noneA]
  cases l <;> rfl
theorem bS_le {σ s : St} {β τ : Nat} {l : List UInt8} (h : St.le s σ) (hn : s.box β = none) (ht : l ≠ [] → s.tip τ = none) : St.le s (bS σ β τ l) := by
  cases l with
  | nil => exact St.le_setBox h hn
  | cons x l => exact St.le_setBox (St.le_setTip h (ht (by simp))) hn
def BW (f : Nat) (xs : List AV) (r : AV) (β : Nat) (m : List UInt8) : Prop := ∀ (σ : St) (τ : Nat) (l : List UInt8), (l ≠ [] → σ.tip τ = none) → σ.bt β = some 63 → l.length + m.length ≤ 1000000000000 →
  AC Tryd.prog f (.ptr β 0 :: xs) (bS σ β τ l) (fun v s => v = r ∧ ∃ τ', σ.tip τ' = none ∧ (l ≠ [] → τ' = τ) ∧ s = bS σ β τ' (l ++ m))
theorem a_WriteByte (β : Nat) (c : UInt8) : BW 39 [.int .u8 c.toNat] .nili β [c] := by
  intro σ τ l hτ hbt hl
  simp only [List.length_cons, List.length_nil] at hl
  refine AC_intro c39 b39 (Nat.le_of_ble_eq_true rfl) ?_
  simp only [c39, ↓R1, R2, R3, R4, R5, Nat.reduceEqDiff, Nat.reduceAdd, Nat.reduceMul, Nat.reduceSub, Nat.reduceLeDiff, Nat.reduceLT, reduceIte, reduceCtorEq, Int.reduceBNe, Int.reduceBEq]
  cases l with
  | nil =>
    rw [bS_nil]
    refine AC.mono (AC.wk (a_cc_fresh (β := β) (x := .nils) (by simp only [↓R1, R2, R3, R4, R5, Nat.reduceEqDiff, Nat.reduceAdd, Nat.reduceMul, Nat.reduceSub, Nat.reduceLeDiff, Nat.reduceLT, reduceIte, reduceCtorEq, Int.reduceBNe, Int.reduceBEq]) (by simpa [St.setBox] using hbt)) (wkL_refl _)) ?_
    rintro _ _ ⟨rfl, rfl⟩
    simp only [↓R1, R2, R3, R4, R5, Nat.reduceEqDiff, Nat.reduceAdd, Nat.reduceMul, Nat.reduceSub, Nat.reduceLeDiff, Nat.reduceLT, reduceIte, reduceCtorEq, Int.reduceBNe, Int.reduceBEq]
    refine appV_tip (n := 0) (cs := []) rfl trivial rfl rfl rfl ?_ ?_ (fun ρ hρ => ?_)
    · unfold maxLen; decide
    · decide
    simp only [↓R1, R2, R3, R4, R5, Nat.reduceEqDiff, Nat.reduceAdd, Nat.reduceMul, Nat.reduceSub, Nat.reduceLeDiff, Nat.reduceLT, reduceIte, reduceCtorEq, Int.reduceBNe, Int.reduceBEq]
    refine endP_id (by simp) (by first | (simp [rvsS, rvS]; done) | (simp only [rvsS, rvS, ↓R1, R2, R3, R4, R5, Nat.reduceEqDiff, Nat.reduceAdd, Nat.reduceMul, Nat.reduceSub, Nat.reduceLeDiff, Nat.reduceLT, reduceIte, reduceCtorEq, Int.reduceBNe, Int.reduceBEq]; try simp)) ⟨rfl, ρ, hρ, (fun h => absurd rfl h), ?_⟩
    simp [bS, bT, bB, bytesA]
    rfl
  | cons x l =>
    have hT : (bS σ β τ (x :: l)).box β = some [.ptr β 0, .tsl τ (l.length + 1) (bytesA (x :: l))] := bS_box _ _ _ _
    refine AC.mono (AC.wk (a_cc_used (β := β) hT) (wkL_refl _)) ?_
    rintro _ _ ⟨rfl, rfl⟩
    simp only [hT, ↓R1, R2, R3, R4, R5, Nat.reduceEqDiff, Nat.reduceAdd, Nat.reduceMul, Nat.reduceSub, Nat.reduceLeDiff, Nat.reduceLT, reduceIte, reduceCtorEq, Int.reduceBNe, Int.reduceBEq]
    simp only [List.length_cons] at hl
    refine appV_tslK rfl ?_ ?_ rfl ?_ ?_ ?_
    · simp [bS, bT, St.setBox, St.setTip, upd]
    · simp [bytesA]
    · unfold maxLen; omega
    · omega
    simp only [hT, ↓R1, R2, R3, R4, R5, Nat.reduceEqDiff, Nat.reduceAdd, Nat.reduceMul, Nat.reduceSub, Nat.reduceLeDiff, Nat.reduceLT, reduceIte, reduceCtorEq, Int.reduceBNe, Int.reduceBEq]
    refine endP_id (by simp) (by first | (simp [rvsS, rvS]; done) | (simp only [rvsS, rvS, ↓R1, R2, R3, R4, R5, Nat.reduceEqDiff, Nat.reduceAdd, Nat.reduceMul, Nat.reduceSub, Nat.reduceLeDiff, Nat.reduceLT, reduceIte, reduceCtorEq, Int.reduceBNe, Int.reduceBEq]; try simp)) ⟨rfl, τ, hτ (by simp), fun _ => rfl, ?_⟩
    simp [bS, bT, bB, bytesA, St.setBox, St.setTip]
    constructor <;> (funext j; simp only [upd]; split <;> rfl)
theorem a_WriteString (β : Nat) (m : List UInt8) (hm : m ≠ []) : BW 35 [.str m] (.tup [.int .i64 m.length, .nili]) β m := by
  intro σ τ l hτ hbt hl
  refine AC_intro c35 b35 (Nat.le_of_ble_eq_true rfl) ?_
  simp only [c35, aOp_appS, ↓R1, R2, R3, R4, R5, Nat.reduceEqDiff, Nat.reduceAdd, Nat.reduceMul, Nat.reduceSub, Nat.reduceLeDiff, Nat.reduceLT, reduceIte, reduceCtorEq, Int.reduceBNe, Int.reduceBEq]
  cases l with
  | nil =>
    rw [bS_nil]
    refine AC.mono (AC.wk (a_cc_fresh (β := β) (x := .nils) (by simp only [↓R1, R2, R3, R4, R5, Nat.reduceEqDiff, Nat.reduceAdd, Nat.reduceMul, Nat.reduceSub, Nat.reduceLeDiff, Nat.reduceLT, reduceIte, reduceCtorEq, Int.reduceBNe, Int.reduceBEq]) (by simpa [St.setBox] using hbt)) (wkL_refl _)) ?_
    rintro _ _ ⟨rfl, rfl⟩
    simp only [aOp_appS, ↓R1, R2, R3, R4, R5, Nat.reduceEqDiff, Nat.reduceAdd, Nat.reduceMul, Nat.reduceSub, Nat.reduceLeDiff, Nat.reduceLT, reduceIte, reduceCtorEq, Int.reduceBNe, Int.reduceBEq]
    simp only [List.length_nil] at hl
    refine appSV_nil hm ?_ ?_ (fun ρ hρ => ?_)
    · unfold maxLen; omega
    · omega
    simp only [aOp_appS, ↓R1, R2, R3, R4, R5, Nat.reduceEqDiff, Nat.reduceAdd, Nat.reduceMul, Nat.reduceSub, Nat.reduceLeDiff, Nat.reduceLT, reduceIte, reduceCtorEq, Int.reduceBNe, Int.reduceBEq]
    refine endP_id (by simp) (by first | (simp [rvsS, rvS]; done) | (simp only [rvsS, rvS, ↓R1, R2, R3, R4, R5, Nat.reduceEqDiff, Nat.reduceAdd, Nat.reduceMul, Nat.reduceSub, Nat.reduceLeDiff, Nat.reduceLT, reduceIte, reduceCtorEq, Int.reduceBNe, Int.reduceBEq]; try simp)) ⟨rfl, ρ, hρ, (fun h => absurd rfl h), ?_⟩
    cases m with
    | nil => exact (hm rfl).elim
    | cons y m => simp [bS, bT, bB, bytesA]; rfl
  | cons x l =>
    have hT : (bS σ β τ (x :: l)).box β = some [.ptr β 0, .tsl τ (l.length + 1) (bytesA (x :: l))] := bS_box _ _ _ _
    refine AC.mono (AC.wk (a_cc_used (β := β) hT) (wkL_refl _)) ?_
    rintro _ _ ⟨rfl, rfl⟩
    simp only [aOp_appS, hT, ↓R1, R2, R3, R4, R5, Nat.reduceEqDiff, Nat.reduceAdd, Nat.reduceMul, Nat.reduceSub, Nat.reduceLeDiff, Nat.reduceLT, reduceIte, reduceCtorEq, Int.reduceBNe, Int.reduceBEq]
    simp only [List.length_cons] at hl
    refine appSV_tsl hm ?_ ?_ ?_ ?_ ?_
    · simp [bS, bT, St.setBox, St.setTip, upd]
    · simp [bytesA]
    · unfold maxLen; omega
    · omega
    simp only [aOp_appS, hT, ↓R1, R2, R3, R4, R5, Nat.reduceEqDiff, Nat.reduceAdd, Nat.reduceMul, Nat.reduceSub, Nat.reduceLeDiff, Nat.reduceLT, reduceIte, reduceCtorEq, Int.reduceBNe, Int.reduceBEq]
    refine endP_id (by simp) (by first | (simp [rvsS, rvS]; done) | (simp only [rvsS, rvS, ↓R1, R2, R3, R4, R5, Nat.reduceEqDiff, Nat.reduceAdd, Nat.reduceMul, Nat.reduceSub, Nat.reduceLeDiff, Nat.reduceLT, reduceIte, reduceCtorEq, Int.reduceBNe, Int.reduceBEq]; try simp)) ⟨rfl, τ, hτ (by simp), fun _ => rfl, ?_⟩
    simp [bS, bT, bB, bytesA, St.setBox, St.setTip]
    (repeat' apply And.intro)
    all_goals first | omega | (funext j; simp only [upd]; split <;> simp [Nat.add_assoc, Nat.add_comm, Nat.add_left_comm])
theorem BW.used {f β τ : Nat} {xs : List AV} {r : AV} {m l : List UInt8} {σ : St} (h : BW f xs r β m) (h0 : l ≠ []) (hτ : σ.tip τ = none) (hb : σ.bt β = some 63) (hl : l.length + m.length ≤ 1000000000000) :
    AC Tryd.prog f (.ptr β 0 :: xs) (bS σ β τ l) (fun v s => v = r ∧ s = bS σ β τ (l ++ m)) :=
  (h σ τ l (fun _ => hτ) hb hl).mono (by rintro v s ⟨rfl, τ', _, h2, rfl⟩; rw [h2 h0]; exact ⟨rfl, rfl⟩)
theorem a_Len (σ : St) (β τ : Nat) (l : List UInt8) : AC Tryd.prog 36 [.ptr β 0] (bS σ β τ l) (fun v s => v = .int .i64 l.length ∧ s = bS σ β τ l) := by
  refine AC_intro c36 b36 (Nat.le_of_ble_eq_true rfl) ?_
  have hT : (bS σ β τ l).box β = some (bB β τ l) := bS_box _ _ _ _
  cases l with
  | nil =>
    simp only [c36, hT, bB, ↓R1, R2, R3, R4, R5, Nat.reduceEqDiff, Nat.reduceAdd, Nat.reduceMul, Nat.reduceSub, Nat.reduceLeDiff, Nat.reduceLT, reduceIte, reduceCtorEq, Int.reduceBNe, Int.reduceBEq]
    exact endP_id (by simp) (by simp [rvsS, rvS]) ⟨rfl, rfl⟩
  | cons x l =>
    simp only [c36, hT, bB, ↓R1, R2, R3, R4, R5, Nat.reduceEqDiff, Nat.reduceAdd, Nat.reduceMul, Nat.reduceSub, Nat.reduceLeDiff, Nat.reduceLT, reduceIte, reduceCtorEq, Int.reduceBNe, Int.reduceBEq]
    exact endP_id (by simp) (by simp [rvsS, rvS]) ⟨rfl, rfl⟩
theorem a_String {σ : St} {β τ : Nat} {l : List UInt8} (hτ : l ≠ [] → σ.tip τ = none) (hbt : σ.bt β = some 63) : AC Tryd.prog 37 [.ptr β 0] (bS σ β τ l) (fun v s => v = .str l ∧ s = σ.setBox β (bB β τ l)) := by
  intro g w vs hI hv
  obtain ⟨b, rfl, hg⟩ := ptr_one hv
  have hT : (bS σ β τ l).box β = some (bB β τ l) := bS_box _ _ _ _
  obtain ⟨b', cs, T, h1, h2, h3⟩ := hI.box β _ hT
  rw [hg] at h1; cases h1
  obtain ⟨b', cs', h1, h2'⟩ := hI.bty β _ (by rw [bS_bt]; exact hbt)
  rw [hg] at h1; cases h1
  rw [h2] at h2'; cases h2'
  refine .inl ⟨bs_enter _ _, ?_⟩
  cases l with
  | nil =>
    obtain ⟨v0, r0, hl, hv0, hr0⟩ := h3.1.cons_inv
    obtain ⟨v1, r1, rfl, hv1, hr1⟩ := hr0.cons_inv
    rw [hr1.nil_inv] at hl
    have hv1' : v1 = .slice none 0 0 := by cases hv1; rfl
    subst hv1'
    have hcs : cs = #[v0, .slice none 0 0] := by rw [← Array.toArray_toList (xs := cs), hl]
    subst hcs
    refine (Any.Builder_String_nil Tryd.lays169 Tryd.Builder_Extra_169 w.heap.size b v0 w h2).mono ?_
    rintro e w' ⟨rfl, hb⟩
    exact ⟨_, .str [], _, _, rfl, ⟨rfl, rfl⟩, hI.below hb, Ext.below g hb, .str []⟩
  | cons x m =>
    generalize hlx : x :: m = l at *
    have h0 : l ≠ [] := by rw [← hlx]; simp
    have hτ := hτ h0
    have hbB : bB β τ l = [.ptr β 0, .tsl τ l.length (bytesA l)] := by rw [← hlx]; rfl
    have hbSt : bS σ β τ l = (σ.setTip τ (5, 1, l.length)).setBox β (bB β τ l) := by rw [← hlx]; rfl
    rw [hbB] at h3
    obtain ⟨v0, r0, hl, hv0, hr0⟩ := h3.1.cons_inv
    obtain ⟨v1, r1, rfl, hv1, hr1⟩ := hr0.cons_inv
    rw [hr1.nil_inv] at hl
    have hcs : cs = #[v0, v1] := by rw [← Array.toArray_toList (xs := cs), hl]
    subst hcs
    have htip : (bS σ β τ l).tip τ = some (5, 1, l.length) := by rw [hbSt]; simp [St.setBox, St.setTip, upd]
    obtain ⟨v, k1, k2, k4⟩ := hI.tip τ _ _ _ htip
    have hv1t := hv1.tsl_inv
    rw [k1] at hv1t
    cases hv1t
    have hheld : Held l.length v1 := .inr (by simpa using h0)
    obtain ⟨xs, hown, hblk⟩ := k2 hheld
    obtain ⟨hxl, hown⟩ := hown
    rcases hown with ⟨rfl, hz⟩ | ⟨gb, cap, cur, rfl, _, hgb, hnc, hcm, hsz, htk⟩
    · exact absurd (List.length_eq_zero_iff.1 hz) h0
    obtain ⟨hcl, hnb, hrow⟩ := hblk gb rfl
    have hlies := hv1.slv_inv (n := l.length) (cs := bytesA l) rfl
    rcases hlies with ⟨x, hx, hx2, _⟩ | ⟨b2, off, cap2, u, hx, hx2, hL⟩
    · exact absurd (List.length_eq_zero_iff.1 hx2) h0
    cases hx
    have hcell : cur.toList.take l.length = byteCells l := by
      apply List.ext_getElem?
      intro i
      rw [List.getElem?_take]
      split
      · rename_i hi
        have hr := hL.rel.1
        have hc1 : (bytesA l)[i]? = some (.int .u8 (l[i]).toNat) := by simp [bytesA, hi]
        obtain ⟨v, hv, hrv⟩ := hr.get hc1
        have := hL.cell i v hv
        rw [Lib.cell_of_heap hgb, Nat.zero_add, ← Array.getElem?_toList] at this
        rw [this, hrv.int_inv]
        simp [byteCells, hi]
      · rename_i hi
        rw [List.getElem?_eq_none (by simp [byteCells]; omega)]
    refine (bs_string b gb cap v0 cur l w h2 hgb hnc hcm (by omega) hcell h0).mono ?_
    rintro e w' ⟨rfl, rfl⟩
    have hI2 := dropTip_inv hI τ
    have hI3 := drewInv hI2
    have hst : (bS σ β τ l).dropTip τ = σ.setBox β (bB β τ l) := by
      rw [hbSt]
      simp only [St.dropTip, St.setBox, St.setTip, St.mk.injEq, true_and, and_true]
      funext j
      simp only [upd]
      split
      · rename_i e; subst e; exact hτ.symm
      · rfl
    rw [hst] at hI3
    have htt : ∀ τ' x v, (σ.setBox β (bB β τ l)).tip τ' = some x → g.tip τ' x.2.2 = some v → Held x.2.2 v → v.ownBlock ≠ some gb := by
      intro τ' x v hx hv hh
      have hne : τ' ≠ τ := by
        rintro rfl
        rw [show (σ.setBox β (bB β τ' l)).tip = σ.tip from rfl, hτ] at hx
        cases hx
      have hx' : (bS σ β τ l).tip τ' = some x := by
        rw [hbSt]
        show upd σ.tip τ _ τ' = some x
        rw [upd, if_neg hne]; exact hx
      exact hI.tipinj τ τ' _ x _ v gb htip hx' (fun e => hne e.symm) k1 hv hheld hh rfl
    have hgd : w.drew.heap[gb]? = some (.cells cur 5 (0, 0)) := hgb
    obtain ⟨hI4, he4⟩ := freeze_row (n := l.length) hI3 hgd hcl hnb htt
    exact ⟨_, .str l, _, g, rfl, ⟨rfl, rfl⟩, hI4, (drewExt (g := g) (w := w)).trans he4, .str l⟩
end Go.Proofs.YtemddijemikleaaDoor
namespace Go.Proofs.YtemddijemikleaaDoor
open Go.Abs
set_option linter.all false
set_option maxRecDepth 100000
theorem p40 (b : UInt8) : Pu Tryd.prog 40 [.int .u8 b.toNat] (.bool (isPlain b)) := by
  (refine Pu_intro c40 b40 (Nat.le_of_ble_eq_true rfl) fun σ => ?_; simp only [c40, ↓R1, R2, R3, R4, R5, Nat.reduceEqDiff, Nat.reduceAdd, Nat.reduceMul, Nat.reduceSub, Nat.reduceLeDiff, Nat.reduceLT, reduceIte, reduceCtorEq, Int.reduceBNe, Int.reduceBEq])
  repeat' (first | (with_reducible rw [allocV_eq]) | (refine gdV_split (fun hc => ?_) (fun hc => ?_) <;> (try simp only [hc, ↓R1, R2, R3, R4, R5, Nat.reduceEqDiff, Nat.reduceAdd, Nat.reduceMul, Nat.reduceSub, Nat.reduceLeDiff, Nat.reduceLT, reduceIte, reduceCtorEq, Int.reduceBNe, Int.reduceBEq])) | ((first | refine condV_split (fun hc => ?_) (fun hc => ?_) | (with_reducible intro β hβ; (try simp only [St.box_noneA, St.tip_noneA, St.tip_set, St.box_tip, St.box_lp, St.tip_lp] at hβ); (repeat (obtain ⟨⟨_, _⟩, hβ⟩ := hβ)); (try (have hbis := apart_is (by assumption) hβ; obtain ⟨_, _⟩ := hbis)))) <;> (try simp only [↓R1, R2, R3, R4, R5, Nat.reduceEqDiff, Nat.reduceAdd, Nat.reduceMul, Nat.reduceSub, Nat.reduceLeDiff, Nat.reduceLT, reduceIte, reduceCtorEq, Int.reduceBNe, Int.reduceBEq])) | (with_reducible refine And.intro ?_ ?_; (focus (first | omega | (intros; (repeat' (with_reducible apply And.intro)) <;> first | omega | (simp only [List.length_map]; omega))))) | (with_reducible apply And.intro))
  all_goals (refine endP_pu (by simp) (by first | (simp [rvsS, rvS]; done) | (simp only [rvsS, rvS, ↓R1, R2, R3, R4, R5, Nat.reduceEqDiff, Nat.reduceAdd, Nat.reduceMul, Nat.reduceSub, Nat.reduceLeDiff, Nat.reduceLT, reduceIte, reduceCtorEq, Int.reduceBNe, Int.reduceBEq]; try simp)) (wk_of_eq ?_) (by (repeat (first | exact St.le_refl _ | (refine St.le_new ?_ (by assumption)) | (refine St.le_newT ?_ (by assumption))))))
  all_goals (simp only [resAV, rvV, List.map_cons, List.map_nil, ↓R1, R2, R3, R4, R5, Nat.reduceEqDiff, Nat.reduceAdd, Nat.reduceMul, Nat.reduceSub, Nat.reduceLeDiff, Nat.reduceLT, reduceIte, reduceCtorEq, Int.reduceBNe, Int.reduceBEq])
  all_goals rfl
theorem p49 (b : UInt8) : Pu Tryd.prog 49 [.int .u8 b.toNat] (.bool (isBare b)) := by
  (refine Pu_intro c49 b49 (Nat.le_of_ble_eq_true rfl) fun σ => ?_; simp only [c49, ↓R1, R2, R3, R4, R5, Nat.reduceEqDiff, Nat.reduceAdd, Nat.reduceMul, Nat.reduceSub, Nat.reduceLeDiff, Nat.reduceLT, reduceIte, reduceCtorEq, Int.reduceBNe, Int.reduceBEq])
  repeat' (first | (with_reducible rw [allocV_eq]) | (refine gdV_split (fun hc => ?_) (fun hc => ?_) <;> (try simp only [hc, ↓R1, R2, R3, R4, R5, Nat.reduceEqDiff, Nat.reduceAdd, Nat.reduceMul, Nat.reduceSub, Nat.reduceLeDiff, Nat.reduceLT, reduceIte, reduceCtorEq, Int.reduceBNe, Int.reduceBEq])) | ((first | refine condV_split (fun hc => ?_) (fun hc => ?_) | (with_reducible intro β hβ; (try simp only [St.box_noneA, St.tip_noneA, St.tip_set, St.box_tip, St.box_lp, St.tip_lp] at hβ); (repeat (obtain ⟨⟨_, _⟩, hβ⟩ := hβ)); (try (have hbis := apart_is (by assumption) hβ; obtain ⟨_, _⟩ := hbis)))) <;> (try simp only [↓R1, R2, R3, R4, R5, Nat.reduceEqDiff, Nat.reduceAdd, Nat.reduceMul, Nat.reduceSub, Nat.reduceLeDiff, Nat.reduceLT, reduceIte, reduceCtorEq, Int.reduceBNe, Int.reduceBEq])) | (with_reducible refine And.intro ?_ ?_; (focus (first | omega | (intros; (repeat' (with_reducible apply And.intro)) <;> first | omega | (simp only [List.length_map]; omega))))) | (with_reducible apply And.intro) | ((first | refine Pu.to (p40 b) (wkL_refl _) ?_ | refine callDV_pu (p40 b) (wkL_refl _) ?_); (try simp only [↓R1, R2, R3, R4, R5, Nat.reduceEqDiff, Nat.reduceAdd, Nat.reduceMul, Nat.reduceSub, Nat.reduceLeDiff, Nat.reduceLT, reduceIte, reduceCtorEq, Int.reduceBNe, Int.reduceBEq])))
  all_goals (refine endP_pu (by simp) (by first | (simp [rvsS, rvS]; done) | (simp only [rvsS, rvS, ↓R1, R2, R3, R4, R5, Nat.reduceEqDiff, Nat.reduceAdd, Nat.reduceMul, Nat.reduceSub, Nat.reduceLeDiff, Nat.reduceLT, reduceIte, reduceCtorEq, Int.reduceBNe, Int.reduceBEq]; try simp)) (wk_of_eq ?_) (by (repeat (first | exact St.le_refl _ | (refine St.le_new ?_ (by assumption)) | (refine St.le_newT ?_ (by assumption))))))
  all_goals (simp only [resAV, rvV, List.map_cons, List.map_nil, ↓R1, R2, R3, R4, R5, Nat.reduceEqDiff, Nat.reduceAdd, Nat.reduceMul, Nat.reduceSub, Nat.reduceLeDiff, Nat.reduceLT, reduceIte, reduceCtorEq, Int.reduceBNe, Int.reduceBEq])
  all_goals simp only [isBare, hc, Bool.true_and, Bool.false_and]
theorem p69 (b : UInt8) : Pu Tryd.prog 69 [.int .u8 b.toNat] (.bool (isBlank b)) := by
  (refine Pu_intro c69 b69 (Nat.le_of_ble_eq_true rfl) fun σ => ?_; simp only [c69, ↓R1, R2, R3, R4, R5, Nat.reduceEqDiff, Nat.reduceAdd, Nat.reduceMul, Nat.reduceSub, Nat.reduceLeDiff, Nat.reduceLT, reduceIte, reduceCtorEq, Int.reduceBNe, Int.reduceBEq])
  repeat' (first | (with_reducible rw [allocV_eq]) | (refine gdV_split (fun hc => ?_) (fun hc => ?_) <;> (try simp only [hc, ↓R1, R2, R3, R4, R5, Nat.reduceEqDiff, Nat.reduceAdd, Nat.reduceMul, Nat.reduceSub, Nat.reduceLeDiff, Nat.reduceLT, reduceIte, reduceCtorEq, Int.reduceBNe, Int.reduceBEq])) | ((first | refine condV_split (fun hc => ?_) (fun hc => ?_) | (with_reducible intro β hβ; (try simp only [St.box_noneA, St.tip_noneA, St.tip_set, St.box_tip, St.box_lp, St.tip_lp] at hβ); (repeat (obtain ⟨⟨_, _⟩, hβ⟩ := hβ)); (try (have hbis := apart_is (by assumption) hβ; obtain ⟨_, _⟩ := hbis)))) <;> (try simp only [↓R1, R2, R3, R4, R5, Nat.reduceEqDiff, Nat.reduceAdd, Nat.reduceMul, Nat.reduceSub, Nat.reduceLeDiff, Nat.reduceLT, reduceIte, reduceCtorEq, Int.reduceBNe, Int.reduceBEq])) | (with_reducible refine And.intro ?_ ?_; (focus (first | omega | (intros; (repeat' (with_reducible apply And.intro)) <;> first | omega | (simp only [List.length_map]; omega))))) | (with_reducible apply And.intro))
  all_goals (refine endP_pu (by simp) (by first | (simp [rvsS, rvS]; done) | (simp only [rvsS, rvS, ↓R1, R2, R3, R4, R5, Nat.reduceEqDiff, Nat.reduceAdd, Nat.reduceMul, Nat.reduceSub, Nat.reduceLeDiff, Nat.reduceLT, reduceIte, reduceCtorEq, Int.reduceBNe, Int.reduceBEq]; try simp)) (wk_of_eq ?_) (by (repeat (first | exact St.le_refl _ | (refine St.le_new ?_ (by assumption)) | (refine St.le_newT ?_ (by assumption))))))
  all_goals (simp only [resAV, rvV, List.map_cons, List.map_nil, ↓R1, R2, R3, R4, R5, Nat.reduceEqDiff, Nat.reduceAdd, Nat.reduceMul, Nat.reduceSub, Nat.reduceLeDiff, Nat.reduceLT, reduceIte, reduceCtorEq, Int.reduceBNe, Int.reduceBEq])
  all_goals rfl
theorem lt_u8 (b : UInt8) : b.toNat < 256 := b.toNat_lt
/-- What the program reckons for a digit. -/
def hexP (n : Nat) : Int :=
  bif decide ((48 : Int) ≤ n) && decide ((n : Int) ≤ 57) then IntKind.u8.wrap ((n : Int) - 48)
  else bif decide ((97 : Int) ≤ bits .or .u8 n 32) && decide (bits .or .u8 n 32 ≤ 102) then IntKind.u8.wrap (IntKind.u8.wrap (bits .or .u8 n 32 - 97) + 10) else 16
theorem hexP_all : ((List.range 256).all fun n => hexP n == ((if 48 ≤ n ∧ n ≤ 57 then n - 48 else if 97 ≤ n ∧ n ≤ 102 then n - 87 else if 65 ≤ n ∧ n ≤ 70 then n - 55 else 16 : Nat) : Int)) = true := by kernel_rfl
theorem hexP_eq (b : UInt8) : hexP b.toNat = hexV b := by
  have := List.all_eq_true.1 hexP_all b.toNat (List.mem_range.2 (lt_u8 b))
  exact beq_iff_eq.1 this
theorem p83 (b : UInt8) : Pu Tryd.prog 83 [.int .u8 b.toNat] (.int .u8 (hexV b)) := by
  rw [← hexP_eq]
  (refine Pu_intro c83 b83 (Nat.le_of_ble_eq_true rfl) fun σ => ?_; simp only [c83, ↓R1, R2, R3, R4, R5, Nat.reduceEqDiff, Nat.reduceAdd, Nat.reduceMul, Nat.reduceSub, Nat.reduceLeDiff, Nat.reduceLT, reduceIte, reduceCtorEq, Int.reduceBNe, Int.reduceBEq])
  repeat' (first | (with_reducible rw [allocV_eq]) | (refine gdV_split (fun hc => ?_) (fun hc => ?_) <;> (try simp only [hc, ↓R1, R2, R3, R4, R5, Nat.reduceEqDiff, Nat.reduceAdd, Nat.reduceMul, Nat.reduceSub, Nat.reduceLeDiff, Nat.reduceLT, reduceIte, reduceCtorEq, Int.reduceBNe, Int.reduceBEq])) | ((first | refine condV_split (fun hc => ?_) (fun hc => ?_) | (with_reducible intro β hβ; (try simp only [St.box_noneA, St.tip_noneA, St.tip_set, St.box_tip, St.box_lp, St.tip_lp] at hβ); (repeat (obtain ⟨⟨_, _⟩, hβ⟩ := hβ)); (try (have hbis := apart_is (by assumption) hβ; obtain ⟨_, _⟩ := hbis)))) <;> (try simp only [↓R1, R2, R3, R4, R5, Nat.reduceEqDiff, Nat.reduceAdd, Nat.reduceMul, Nat.reduceSub, Nat.reduceLeDiff, Nat.reduceLT, reduceIte, reduceCtorEq, Int.reduceBNe, Int.reduceBEq])) | (with_reducible refine And.intro ?_ ?_; (focus (first | omega | (intros; (repeat' (with_reducible apply And.intro)) <;> first | omega | (simp only [List.length_map]; omega))))) | (with_reducible apply And.intro))
  all_goals (refine endP_pu (by simp) (by first | (simp [rvsS, rvS]; done) | (simp only [rvsS, rvS, ↓R1, R2, R3, R4, R5, Nat.reduceEqDiff, Nat.reduceAdd, Nat.reduceMul, Nat.reduceSub, Nat.reduceLeDiff, Nat.reduceLT, reduceIte, reduceCtorEq, Int.reduceBNe, Int.reduceBEq]; try simp)) (wk_of_eq ?_) (by (repeat (first | exact St.le_refl _ | (refine St.le_new ?_ (by assumption)) | (refine St.le_newT ?_ (by assumption))))))
  all_goals (simp only [resAV, rvV, List.map_cons, List.map_nil, ↓R1, R2, R3, R4, R5, Nat.reduceEqDiff, Nat.reduceAdd, Nat.reduceMul, Nat.reduceSub, Nat.reduceLeDiff, Nat.reduceLT, reduceIte, reduceCtorEq, Int.reduceBNe, Int.reduceBEq])
  all_goals simp only [hexP, *, cond_true, cond_false]
theorem a_left {σ : St} {β k : Nat} {l : List UInt8} (hb : σ.box β = some [.str l, .int .i64 k]) : AC Tryd.prog 59 [.ptr β 0] σ (fun r s => r = .bool (decide ((k : Int) < l.length)) ∧ s = σ) := by
  haveI : BoxIs σ β [.str l, .int .i64 k] := ⟨hb⟩
  (refine AC_intro c59 b59 (Nat.le_of_ble_eq_true rfl) ?_; simp only [c59, ↓R1, R2, R3, R4, R5, Nat.reduceEqDiff, Nat.reduceAdd, Nat.reduceMul, Nat.reduceSub, Nat.reduceLeDiff, Nat.reduceLT, reduceIte, reduceCtorEq, Int.reduceBNe, Int.reduceBEq])
  repeat' (first | (with_reducible rw [allocV_eq]) | (refine gdV_split (fun hc => ?_) (fun hc => ?_) <;> (try simp only [hc, ↓R1, R2, R3, R4, R5, Nat.reduceEqDiff, Nat.reduceAdd, Nat.reduceMul, Nat.reduceSub, Nat.reduceLeDiff, Nat.reduceLT, reduceIte, reduceCtorEq, Int.reduceBNe, Int.reduceBEq])) | ((first | refine condV_split (fun hc => ?_) (fun hc => ?_) | (with_reducible intro β hβ; (try simp only [St.box_noneA, St.tip_noneA, St.tip_set, St.box_tip, St.box_lp, St.tip_lp] at hβ); (repeat (obtain ⟨⟨_, _⟩, hβ⟩ := hβ)); (try (have hbis := apart_is (by assumption) hβ; obtain ⟨_, _⟩ := hbis)))) <;> (try simp only [↓R1, R2, R3, R4, R5, Nat.reduceEqDiff, Nat.reduceAdd, Nat.reduceMul, Nat.reduceSub, Nat.reduceLeDiff, Nat.reduceLT, reduceIte, reduceCtorEq, Int.reduceBNe, Int.reduceBEq])) | (with_reducible refine And.intro ?_ ?_; (focus (first | omega | (intros; (repeat' (with_reducible apply And.intro)) <;> first | omega | (simp only [List.length_map]; omega))))) | (with_reducible apply And.intro))
  all_goals (refine endP_pu (by simp) (by first | (simp [rvsS, rvS]; done) | (simp only [rvsS, rvS, ↓R1, R2, R3, R4, R5, Nat.reduceEqDiff, Nat.reduceAdd, Nat.reduceMul, Nat.reduceSub, Nat.reduceLeDiff, Nat.reduceLT, reduceIte, reduceCtorEq, Int.reduceBNe, Int.reduceBEq]; try simp)) (wk_of_eq ?_) (by (repeat (first | exact St.le_refl _ | (refine St.le_new ?_ (by assumption)) | (refine St.le_newT ?_ (by assumption))))))
  all_goals (simp only [resAV, rvV, List.map_cons, List.map_nil, ↓R1, R2, R3, R4, R5, Nat.reduceEqDiff, Nat.reduceAdd, Nat.reduceMul, Nat.reduceSub, Nat.reduceLeDiff, Nat.reduceLT, reduceIte, reduceCtorEq, Int.reduceBNe, Int.reduceBEq])
theorem get_drop {l r : List UInt8} {k : Nat} {c : UInt8} (h : l.drop k = c :: r) : l[k]? = some c ∧ k < l.length ∧ l.drop (k + 1) = r := by
  have h1 : l[k]? = some c := by
    have := List.getElem?_drop (xs := l) (i := k) (j := 0)
    rw [h] at this; simpa using this.symm
  refine ⟨h1, (List.getElem?_eq_some_iff.1 h1).1, ?_⟩
  rw [← List.drop_drop, h]; rfl
theorem a_peek {σ : St} {β k : Nat} {l r : List UInt8} {c : UInt8} (hb : σ.box β = some [.str l, .int .i64 k]) (hr : l.drop k = c :: r) : AC Tryd.prog 60 [.ptr β 0] σ (fun r s => r = .int .u8 c.toNat ∧ s = σ) := by
  haveI : BoxIs σ β [.str l, .int .i64 k] := ⟨hb⟩
  obtain ⟨h1, h2, _⟩ := get_drop hr
  (refine AC_intro c60 b60 (Nat.le_of_ble_eq_true rfl) ?_; simp only [c60, ↓R1, R2, R3, R4, R5, Nat.reduceEqDiff, Nat.reduceAdd, Nat.reduceMul, Nat.reduceSub, Nat.reduceLeDiff, Nat.reduceLT, reduceIte, reduceCtorEq, Int.reduceBNe, Int.reduceBEq, h1])
  repeat' (first | (with_reducible rw [allocV_eq]) | (refine gdV_split (fun hc => ?_) (fun hc => ?_) <;> (try simp only [hc, ↓R1, R2, R3, R4, R5, Nat.reduceEqDiff, Nat.reduceAdd, Nat.reduceMul, Nat.reduceSub, Nat.reduceLeDiff, Nat.reduceLT, reduceIte, reduceCtorEq, Int.reduceBNe, Int.reduceBEq, h1])) | ((first | refine condV_split (fun hc => ?_) (fun hc => ?_) | (with_reducible intro β hβ; (try simp only [St.box_noneA, St.tip_noneA, St.tip_set, St.box_tip, St.box_lp, St.tip_lp] at hβ); (repeat (obtain ⟨⟨_, _⟩, hβ⟩ := hβ)); (try (have hbis := apart_is (by assumption) hβ; obtain ⟨_, _⟩ := hbis)))) <;> (try simp only [↓R1, R2, R3, R4, R5, Nat.reduceEqDiff, Nat.reduceAdd, Nat.reduceMul, Nat.reduceSub, Nat.reduceLeDiff, Nat.reduceLT, reduceIte, reduceCtorEq, Int.reduceBNe, Int.reduceBEq, h1])) | (with_reducible refine And.intro ?_ ?_; (focus (first | omega | (intros; (repeat' (with_reducible apply And.intro)) <;> first | omega | (simp only [List.length_map]; omega))))) | (with_reducible apply And.intro))
  (refine endP_pu (by simp) (by first | (simp [rvsS, rvS]; done) | (simp only [rvsS, rvS, ↓R1, R2, R3, R4, R5, Nat.reduceEqDiff, Nat.reduceAdd, Nat.reduceMul, Nat.reduceSub, Nat.reduceLeDiff, Nat.reduceLT, reduceIte, reduceCtorEq, Int.reduceBNe, Int.reduceBEq, h1]; try simp)) (wk_of_eq ?_) (by (repeat (first | exact St.le_refl _ | (refine St.le_new ?_ (by assumption)) | (refine St.le_newT ?_ (by assumption))))))
  (simp only [resAV, rvV, List.map_cons, List.map_nil, ↓R1, R2, R3, R4, R5, Nat.reduceEqDiff, Nat.reduceAdd, Nat.reduceMul, Nat.reduceSub, Nat.reduceLeDiff, Nat.reduceLT, reduceIte, reduceCtorEq, Int.reduceBNe, Int.reduceBEq, h1])
theorem a_next {σ : St} {β k : Nat} {l r : List UInt8} {c : UInt8} (hb : σ.box β = some [.str l, .int .i64 k]) (hr : l.drop k = c :: r) (hl : l.length ≤ 1000000) : AC Tryd.prog 74 [.ptr β 0] σ (fun r s => r = .int .u8 c.toNat ∧ s = σ.setBox β [.str l, .int .i64 (k + 1 : Nat)]) := by
  haveI : BoxIs σ β [.str l, .int .i64 k] := ⟨hb⟩
  obtain ⟨h1, h2, _⟩ := get_drop hr
  have hw : IntKind.i64.wrap ((k : Int) + 1) = ((k + 1 : Nat) : Int) := by rw [wrap64 (by omega) (by omega)]; omega
  have hw2 : IntKind.i64.wrap (((k + 1 : Nat) : Int) - 1) = (k : Nat) := by rw [wrap64 (by omega) (by omega)]; omega
  (refine AC_intro c74 b74 (Nat.le_of_ble_eq_true rfl) ?_; simp only [c74, ↓R1, R2, R3, R4, R5, Nat.reduceEqDiff, Nat.reduceAdd, Nat.reduceMul, Nat.reduceSub, Nat.reduceLeDiff, Nat.reduceLT, reduceIte, reduceCtorEq, Int.reduceBNe, Int.reduceBEq, h1, hw, hw2])
  repeat' (first | (with_reducible rw [allocV_eq]) | (refine gdV_split (fun hc => ?_) (fun hc => ?_) <;> (try simp only [hc, ↓R1, R2, R3, R4, R5, Nat.reduceEqDiff, Nat.reduceAdd, Nat.reduceMul, Nat.reduceSub, Nat.reduceLeDiff, Nat.reduceLT, reduceIte, reduceCtorEq, Int.reduceBNe, Int.reduceBEq, h1, hw, hw2])) | ((first | refine condV_split (fun hc => ?_) (fun hc => ?_) | (with_reducible intro β hβ; (try simp only [St.box_noneA, St.tip_noneA, St.tip_set, St.box_tip, St.box_lp, St.tip_lp] at hβ); (repeat (obtain ⟨⟨_, _⟩, hβ⟩ := hβ)); (try (have hbis := apart_is (by assumption) hβ; obtain ⟨_, _⟩ := hbis)))) <;> (try simp only [↓R1, R2, R3, R4, R5, Nat.reduceEqDiff, Nat.reduceAdd, Nat.reduceMul, Nat.reduceSub, Nat.reduceLeDiff, Nat.reduceLT, reduceIte, reduceCtorEq, Int.reduceBNe, Int.reduceBEq, h1, hw, hw2])) | (with_reducible refine And.intro ?_ ?_; (focus (first | omega | (intros; (repeat' (with_reducible apply And.intro)) <;> first | omega | (simp only [List.length_map]; omega))))) | (with_reducible apply And.intro))
  (refine endP_id (by simp) (by first | (simp [rvsS, rvS]; done) | (simp only [rvsS, rvS, ↓R1, R2, R3, R4, R5, Nat.reduceEqDiff, Nat.reduceAdd, Nat.reduceMul, Nat.reduceSub, Nat.reduceLeDiff, Nat.reduceLT, reduceIte, reduceCtorEq, Int.reduceBNe, Int.reduceBEq, h1, hw, hw2]; try simp)) ?_)
  exact ⟨rfl, rfl⟩
end Go.Proofs.YtemddijemikleaaDoor
namespace Go.Proofs.YtemddijemikleaaDoor
open Go.Abs
set_option linter.all false
set_option maxRecDepth 100000
/-- Where what is left begins. -/
def posOf (l r : List UInt8) : Nat := l.length - r.length
theorem drop_cases (l : List UInt8) (k : Nat) (h : k ≤ l.length) : (l.drop k = [] ∧ k = l.length) ∨ ∃ c r, l.drop k = c :: r ∧ k < l.length := by
  cases hd : l.drop k with
  | nil =>
    have := congrArg List.length hd
    simp at this
    exact .inl ⟨rfl, by omega⟩
  | cons c r => exact .inr ⟨c, r, rfl, (get_drop hd).2.1⟩
theorem pos_drop (l : List UInt8) (k : Nat) (h : k ≤ l.length) : posOf l (l.drop k) = k := by simp [posOf]; omega
theorem pos_cons {l r : List UInt8} {k : Nat} {c : UInt8} (h : l.drop k = c :: r) : posOf l r = k + 1 := by
  obtain ⟨_, h2, h3⟩ := get_drop h
  rw [← h3]; exact pos_drop l (k + 1) h2
theorem drop_pos {l r : List UInt8} (h : r <:+ l) : l.drop (posOf l r) = r ∧ posOf l r ≤ l.length := by
  obtain ⟨p, rfl⟩ := h
  have : posOf (p ++ r) r = p.length := by simp [posOf]
  rw [this]
  exact ⟨by simp, by simp⟩
theorem drop_suf (l : List UInt8) (k : Nat) : l.drop k <:+ l := List.drop_suffix k l
set_option maxHeartbeats 1000000 in
theorem a_skip {σ : St} {β k : Nat} {l : List UInt8} (hb : σ.box β = some [.str l, .int .i64 k]) (hk : k ≤ l.length) (hl : l.length ≤ 1000000) : AC Tryd.prog 58 [.ptr β 0] σ (fun r s => r = .tup [] ∧ s = σ.setBox β [.str l, .int .i64 (posOf l ((l.drop k).dropWhile isBlank) : Nat)]) := by
  have hc1 : True := trivial
  have hp : True := trivial
  have hw : True := trivial
  (refine AC_intro c58 b58 (Nat.le_of_ble_eq_true rfl) ?_; simp only [c58, ↓R1, R2, R3, R4, R5, Nat.reduceEqDiff, Nat.reduceAdd, Nat.reduceMul, Nat.reduceSub, Nat.reduceLeDiff, Nat.reduceLT, reduceIte, reduceCtorEq, Int.reduceBNe, Int.reduceBEq, hw, hc1, hp])
  refine loopV_st (α := Nat) (fun _ => [(0, .ptr β 0)]) (fun j => σ.setBox β [.str l, .int .i64 (j : Nat)]) (fun j => j ≤ l.length ∧ (l.drop j).dropWhile isBlank = (l.drop k).dropWhile isBlank) (fun j => l.length - j) k (by simp [subF, slot, wk_refl]) (by simp only [St.le, St.setBox, upd]; exact ⟨fun γ c h => by split at h <;> simp_all, fun _ _ h => h, fun _ _ h => h, fun _ _ h => h, fun _ _ h => h⟩) ⟨hk, rfl⟩ ?_
  rintro j ⟨hj, hI⟩
  simp only [↓R1, R2, R3, R4, R5, Nat.reduceEqDiff, Nat.reduceAdd, Nat.reduceMul, Nat.reduceSub, Nat.reduceLeDiff, Nat.reduceLT, reduceIte, reduceCtorEq, Int.reduceBNe, Int.reduceBEq, hw, hc1, hp]
  have a1 := a_left (σ := σ.setBox β [.str l, .int .i64 (j : Nat)]) (β := β) (k := j) (l := l) (by simp only [↓R1, R2, R3, R4, R5, Nat.reduceEqDiff, Nat.reduceAdd, Nat.reduceMul, Nat.reduceSub, Nat.reduceLeDiff, Nat.reduceLT, reduceIte, reduceCtorEq, Int.reduceBNe, Int.reduceBEq, hw, hc1, hp])
  rcases drop_cases l j hj with ⟨hd, rfl⟩ | ⟨c, r, hd, hlt⟩
  · have hc1 : decide ((l.length : Int) < (l.length : Int)) = false := by simp
    simp only [hc1] at a1
    repeat' (first | (with_reducible rw [allocV_eq]) | (refine gdV_split (fun hc => ?_) (fun hc => ?_) <;> (try simp only [hc, ↓R1, R2, R3, R4, R5, Nat.reduceEqDiff, Nat.reduceAdd, Nat.reduceMul, Nat.reduceSub, Nat.reduceLeDiff, Nat.reduceLT, reduceIte, reduceCtorEq, Int.reduceBNe, Int.reduceBEq, hw, hc1, hp])) | ((first | refine condV_split (fun hc => ?_) (fun hc => ?_) | (with_reducible intro β hβ; (try simp only [St.box_noneA, St.tip_noneA, St.tip_set, St.box_tip, St.box_lp, St.tip_lp] at hβ); (repeat (obtain ⟨⟨_, _⟩, hβ⟩ := hβ)); (try (have hbis := apart_is (by assumption) hβ; obtain ⟨_, _⟩ := hbis)))) <;> (try simp only [↓R1, R2, R3, R4, R5, Nat.reduceEqDiff, Nat.reduceAdd, Nat.reduceMul, Nat.reduceSub, Nat.reduceLeDiff, Nat.reduceLT, reduceIte, reduceCtorEq, Int.reduceBNe, Int.reduceBEq, hw, hc1, hp])) | (with_reducible refine And.intro ?_ ?_; (focus (first | omega | (intros; (repeat' (with_reducible apply And.intro)) <;> first | omega | (simp only [List.length_map]; omega))))) | (with_reducible apply And.intro) | ((first | (refine AC.mono (AC.wk (a1) (wkL_refl _)) ?_; (rintro _ _ ⟨rfl, rfl⟩))); (try simp only [↓R1, R2, R3, R4, R5, Nat.reduceEqDiff, Nat.reduceAdd, Nat.reduceMul, Nat.reduceSub, Nat.reduceLeDiff, Nat.reduceLT, reduceIte, reduceCtorEq, Int.reduceBNe, Int.reduceBEq, hw, hc1, hp])))
    (refine endP_id (by simp) (by first | (simp [rvsS, rvS]; done) | (simp only [rvsS, rvS, ↓R1, R2, R3, R4, R5, Nat.reduceEqDiff, Nat.reduceAdd, Nat.reduceMul, Nat.reduceSub, Nat.reduceLeDiff, Nat.reduceLT, reduceIte, reduceCtorEq, Int.reduceBNe, Int.reduceBEq, hw, hc1, hp]; try simp)) ?_)
    rw [← hI, hd]
    exact ⟨rfl, rfl⟩
  · have hc1 : decide ((j : Int) < (l.length : Int)) = true := by simpa using hlt
    have hw : IntKind.i64.wrap ((j : Int) + 1) = ((j + 1 : Nat) : Int) := by rw [wrap64 (by omega) (by omega)]; omega
    simp only [hc1] at a1
    have a2 := a_peek (σ := σ.setBox β [.str l, .int .i64 (j : Nat)]) (β := β) (k := j) (l := l) (by simp only [↓R1, R2, R3, R4, R5, Nat.reduceEqDiff, Nat.reduceAdd, Nat.reduceMul, Nat.reduceSub, Nat.reduceLeDiff, Nat.reduceLT, reduceIte, reduceCtorEq, Int.reduceBNe, Int.reduceBEq, hw, hc1, hp]) hd
    have a3 := p69 c
    cases hp : isBlank c with
    | true =>
      rw [hp] at a3
      repeat' (first | (with_reducible rw [allocV_eq]) | (refine gdV_split (fun hc => ?_) (fun hc => ?_) <;> (try simp only [hc, ↓R1, R2, R3, R4, R5, Nat.reduceEqDiff, Nat.reduceAdd, Nat.reduceMul, Nat.reduceSub, Nat.reduceLeDiff, Nat.reduceLT, reduceIte, reduceCtorEq, Int.reduceBNe, Int.reduceBEq, hw, hc1, hp])) | ((first | refine condV_split (fun hc => ?_) (fun hc => ?_) | (with_reducible intro β hβ; (try simp only [St.box_noneA, St.tip_noneA, St.tip_set, St.box_tip, St.box_lp, St.tip_lp] at hβ); (repeat (obtain ⟨⟨_, _⟩, hβ⟩ := hβ)); (try (have hbis := apart_is (by assumption) hβ; obtain ⟨_, _⟩ := hbis)))) <;> (try simp only [↓R1, R2, R3, R4, R5, Nat.reduceEqDiff, Nat.reduceAdd, Nat.reduceMul, Nat.reduceSub, Nat.reduceLeDiff, Nat.reduceLT, reduceIte, reduceCtorEq, Int.reduceBNe, Int.reduceBEq, hw, hc1, hp])) | (with_reducible refine And.intro ?_ ?_; (focus (first | omega | (intros; (repeat' (with_reducible apply And.intro)) <;> first | omega | (simp only [List.length_map]; omega))))) | (with_reducible apply And.intro) | ((first | (refine AC.mono (AC.wk (a1) (wkL_refl _)) ?_; (rintro _ _ ⟨rfl, rfl⟩)) | (refine AC.mono (AC.wk (a2) (wkL_refl _)) ?_; (rintro _ _ ⟨rfl, rfl⟩)) | refine Pu.to (a3) (wkL_refl _) ?_ | refine callDV_pu (a3) (wkL_refl _) ?_); (try simp only [↓R1, R2, R3, R4, R5, Nat.reduceEqDiff, Nat.reduceAdd, Nat.reduceMul, Nat.reduceSub, Nat.reduceLeDiff, Nat.reduceLT, reduceIte, reduceCtorEq, Int.reduceBNe, Int.reduceBEq, hw, hc1, hp])))
      refine ⟨j + 1, ⟨by omega, ?_⟩, by simp [subF, slot, wk_refl], St.le_refl _, by omega⟩
      rw [← hI, hd, (get_drop hd).2.2, List.dropWhile_cons, hp]; rfl
    | false =>
      rw [hp] at a3
      repeat' (first | (with_reducible rw [allocV_eq]) | (refine gdV_split (fun hc => ?_) (fun hc => ?_) <;> (try simp only [hc, ↓R1, R2, R3, R4, R5, Nat.reduceEqDiff, Nat.reduceAdd, Nat.reduceMul, Nat.reduceSub, Nat.reduceLeDiff, Nat.reduceLT, reduceIte, reduceCtorEq, Int.reduceBNe, Int.reduceBEq, hw, hc1, hp])) | ((first | refine condV_split (fun hc => ?_) (fun hc => ?_) | (with_reducible intro β hβ; (try simp only [St.box_noneA, St.tip_noneA, St.tip_set, St.box_tip, St.box_lp, St.tip_lp] at hβ); (repeat (obtain ⟨⟨_, _⟩, hβ⟩ := hβ)); (try (have hbis := apart_is (by assumption) hβ; obtain ⟨_, _⟩ := hbis)))) <;> (try simp only [↓R1, R2, R3, R4, R5, Nat.reduceEqDiff, Nat.reduceAdd, Nat.reduceMul, Nat.reduceSub, Nat.reduceLeDiff, Nat.reduceLT, reduceIte, reduceCtorEq, Int.reduceBNe, Int.reduceBEq, hw, hc1, hp])) | (with_reducible refine And.intro ?_ ?_; (focus (first | omega | (intros; (repeat' (with_reducible apply And.intro)) <;> first | omega | (simp only [List.length_map]; omega))))) | (with_reducible apply And.intro) | ((first | (refine AC.mono (AC.wk (a1) (wkL_refl _)) ?_; (rintro _ _ ⟨rfl, rfl⟩)) | (refine AC.mono (AC.wk (a2) (wkL_refl _)) ?_; (rintro _ _ ⟨rfl, rfl⟩)) | refine Pu.to (a3) (wkL_refl _) ?_ | refine callDV_pu (a3) (wkL_refl _) ?_); (try simp only [↓R1, R2, R3, R4, R5, Nat.reduceEqDiff, Nat.reduceAdd, Nat.reduceMul, Nat.reduceSub, Nat.reduceLeDiff, Nat.reduceLT, reduceIte, reduceCtorEq, Int.reduceBNe, Int.reduceBEq, hw, hc1, hp])))
      (refine endP_id (by simp) (by first | (simp [rvsS, rvS]; done) | (simp only [rvsS, rvS, ↓R1, R2, R3, R4, R5, Nat.reduceEqDiff, Nat.reduceAdd, Nat.reduceMul, Nat.reduceSub, Nat.reduceLeDiff, Nat.reduceLT, reduceIte, reduceCtorEq, Int.reduceBNe, Int.reduceBEq, hw, hc1, hp]; try simp)) ?_)
      rw [← hI, hd, List.dropWhile_cons, hp]
      refine ⟨rfl, ?_⟩
      rw [if_neg (by simp), ← hd, pos_drop l j hj]
theorem callSV_box {P : Program} {σ : St} {K : AV → St → Prop} {f β : Nat} {xs ys c d : List AV} {v : AV} {h : Hold (σ, K)} (hb : σ.box β = some d) (hp : AC P f ys σ (fun x s => x = v ∧ s = σ.setBox β c)) (hw : wkL xs ys) (hK : K v (σ.setBox β c)) : callSV P f xs σ K h :=
  callSV_i hp hw ⟨rfl, fun γ hγ => by
    simp only [St.setBox, upd]
    split
    · rename_i e; subst e; rw [hb] at hγ; cases hγ
    · exact hγ, fun _ h => h⟩ hK
theorem le_same {σ : St} {β : Nat} {c : List AV} (hb : σ.box β = some c) : St.le (σ.setBox β c) σ :=
  ⟨fun γ d h => by
    simp only [St.setBox, upd] at h
    split at h
    · rename_i e; subst e; rw [← h]; exact hb
    · exact h, fun _ _ h => h, fun _ _ h => h, fun _ _ h => h, fun _ _ h => h⟩
/-- What an attempt to read does to a cursor: either it is behind what was read, or anywhere. -/
def Took (σ : St) (β : Nat) (l : List UInt8) {α : Type} (o : Option (α × List UInt8)) (val : α → AV) (r : AV) (s : St) : Prop :=
  match o with
  | some (x, t) => r = .tup [val x, .bool true] ∧ s = σ.setBox β [.str l, .int .i64 (posOf l t : Nat)]
  | none => ∃ v j, r = .tup [v, .bool false] ∧ s = σ.setBox β [.str l, .int .i64 (j : Nat)]
def byteV (b : UInt8) : AV := .int .u8 b.toNat
theorem toNat8 {n : Nat} (h : n < 256) : (UInt8.ofNat n).toNat = n := by
  rw [UInt8.toNat_ofNat']; exact Nat.mod_eq_of_lt h
theorem nib_all : ((List.range 16).all fun a => (List.range 17).all fun b => (a == 16 || b == 16 || decide (IntKind.u8.wrap (bits .or .u8 (IntKind.u8.wrap ((a : Int) * 2 ^ min 4 IntKind.u8.bits)) (bits .and .u8 b 15)) = ((16 * a + b : Nat) : Int)) && decide (bits .or .u8 (IntKind.u8.wrap ((a : Int) * 2 ^ min 4 IntKind.u8.bits)) (bits .and .u8 b 15) = ((16 * a + b : Nat) : Int)))) = true := by kernel_rfl
theorem nib (a b : Nat) (ha : a < 16) (hb : b < 16) : bits .or .u8 (IntKind.u8.wrap ((a : Int) * 2 ^ min 4 IntKind.u8.bits)) (bits .and .u8 b 15) = ((16 * a + b : Nat) : Int) := by
  have h1 := List.all_eq_true.1 nib_all a (List.mem_range.2 ha)
  have h2 := List.all_eq_true.1 h1 b (List.mem_range.2 (by omega))
  have e1 : (a == 16) = false := by simp; omega
  have e2 : (b == 16) = false := by simp; omega
  simp only [e1, e2, Bool.false_or, Bool.and_eq_true, decide_eq_true_eq] at h2
  exact h2.2
theorem sub_wrap {k n : Nat} (h : k ≤ n) (hn : n ≤ 1000000) : IntKind.i64.wrap ((n : Int) - k) = ((n - k : Nat) : Int) := by
  rw [wrap64 (by omega) (by omega)]; omega
set_option maxHeartbeats 1000000 in
theorem a_pair {σ : St} {β k : Nat} {l : List UInt8} (hb : σ.box β = some [.str l, .int .i64 k]) (hk : k ≤ l.length) (hl : l.length ≤ 1000000) : AC Tryd.prog 80 [.ptr β 0] σ (Took σ β l (pairS (l.drop k)) byteV) := by
  haveI : BoxIs σ β [.str l, .int .i64 k] := ⟨hb⟩
  have hw := sub_wrap hk hl
  have hlen : (l.drop k).length = l.length - k := by simp
  cases hd : l.drop k with
  | nil =>
    rw [hd] at hlen
    have hc1 : decide (((l.length - k : Nat) : Int) < 2) = true := by simp at hlen; simp; omega
    (refine AC_intro c80 b80 (Nat.le_of_ble_eq_true rfl) ?_; simp only [c80, ↓R1, R2, R3, R4, R5, Nat.reduceEqDiff, Nat.reduceAdd, Nat.reduceMul, Nat.reduceSub, Nat.reduceLeDiff, Nat.reduceLT, reduceIte, reduceCtorEq, Int.reduceBNe, Int.reduceBEq, hw, hc1])
    repeat' (first | (with_reducible rw [allocV_eq]) | (refine gdV_split (fun hc => ?_) (fun hc => ?_) <;> (try simp only [hc, ↓R1, R2, R3, R4, R5, Nat.reduceEqDiff, Nat.reduceAdd, Nat.reduceMul, Nat.reduceSub, Nat.reduceLeDiff, Nat.reduceLT, reduceIte, reduceCtorEq, Int.reduceBNe, Int.reduceBEq, hw, hc1])) | ((first | refine condV_split (fun hc => ?_) (fun hc => ?_) | (with_reducible intro β hβ; (try simp only [St.box_noneA, St.tip_noneA, St.tip_set, St.box_tip, St.box_lp, St.tip_lp] at hβ); (repeat (obtain ⟨⟨_, _⟩, hβ⟩ := hβ)); (try (have hbis := apart_is (by assumption) hβ; obtain ⟨_, _⟩ := hbis)))) <;> (try simp only [↓R1, R2, R3, R4, R5, Nat.reduceEqDiff, Nat.reduceAdd, Nat.reduceMul, Nat.reduceSub, Nat.reduceLeDiff, Nat.reduceLT, reduceIte, reduceCtorEq, Int.reduceBNe, Int.reduceBEq, hw, hc1])) | (with_reducible refine And.intro ?_ ?_; (focus (first | omega | (intros; (repeat' (with_reducible apply And.intro)) <;> first | omega | (simp only [List.length_map]; omega))))) | (with_reducible apply And.intro))
    refine endP_intro (by simp) (by first | (simp [rvsS, rvS]; done) | (simp only [rvsS, rvS, ↓R1, R2, R3, R4, R5, Nat.reduceEqDiff, Nat.reduceAdd, Nat.reduceMul, Nat.reduceSub, Nat.reduceLeDiff, Nat.reduceLT, reduceIte, reduceCtorEq, Int.reduceBNe, Int.reduceBEq, hw, hc1]; try simp)) (wk_refl _) (le_same hb) ⟨_, k, rfl, rfl⟩
  | cons c r =>
    cases hr : r with
    | nil =>
      rw [hd, hr] at hlen
      have hc1 : decide (((l.length - k : Nat) : Int) < 2) = true := by simp at hlen; simp; omega
      (refine AC_intro c80 b80 (Nat.le_of_ble_eq_true rfl) ?_; simp only [c80, ↓R1, R2, R3, R4, R5, Nat.reduceEqDiff, Nat.reduceAdd, Nat.reduceMul, Nat.reduceSub, Nat.reduceLeDiff, Nat.reduceLT, reduceIte, reduceCtorEq, Int.reduceBNe, Int.reduceBEq, hw, hc1])
      repeat' (first | (with_reducible rw [allocV_eq]) | (refine gdV_split (fun hc => ?_) (fun hc => ?_) <;> (try simp only [hc, ↓R1, R2, R3, R4, R5, Nat.reduceEqDiff, Nat.reduceAdd, Nat.reduceMul, Nat.reduceSub, Nat.reduceLeDiff, Nat.reduceLT, reduceIte, reduceCtorEq, Int.reduceBNe, Int.reduceBEq, hw, hc1])) | ((first | refine condV_split (fun hc => ?_) (fun hc => ?_) | (with_reducible intro β hβ; (try simp only [St.box_noneA, St.tip_noneA, St.tip_set, St.box_tip, St.box_lp, St.tip_lp] at hβ); (repeat (obtain ⟨⟨_, _⟩, hβ⟩ := hβ)); (try (have hbis := apart_is (by assumption) hβ; obtain ⟨_, _⟩ := hbis)))) <;> (try simp only [↓R1, R2, R3, R4, R5, Nat.reduceEqDiff, Nat.reduceAdd, Nat.reduceMul, Nat.reduceSub, Nat.reduceLeDiff, Nat.reduceLT, reduceIte, reduceCtorEq, Int.reduceBNe, Int.reduceBEq, hw, hc1])) | (with_reducible refine And.intro ?_ ?_; (focus (first | omega | (intros; (repeat' (with_reducible apply And.intro)) <;> first | omega | (simp only [List.length_map]; omega))))) | (with_reducible apply And.intro))
      refine endP_intro (by simp) (by first | (simp [rvsS, rvS]; done) | (simp only [rvsS, rvS, ↓R1, R2, R3, R4, R5, Nat.reduceEqDiff, Nat.reduceAdd, Nat.reduceMul, Nat.reduceSub, Nat.reduceLeDiff, Nat.reduceLT, reduceIte, reduceCtorEq, Int.reduceBNe, Int.reduceBEq, hw, hc1]; try simp)) (wk_refl _) (le_same hb) ⟨_, k, rfl, rfl⟩
    | cons c2 r2 =>
      rw [hd, hr] at hlen
      have hc1 : decide (((l.length - k : Nat) : Int) < 2) = false := by simp at hlen; simp; omega
      have a1 := a_next hb hd hl
      have hd2 : l.drop (k + 1) = c2 :: r2 := by rw [(get_drop hd).2.2, hr]
      have hb2 : (σ.setBox β [.str l, .int .i64 (k + 1 : Nat)]).box β = some [.str l, .int .i64 (k + 1 : Nat)] := by simp only [↓R1, R2, R3, R4, R5, Nat.reduceEqDiff, Nat.reduceAdd, Nat.reduceMul, Nat.reduceSub, Nat.reduceLeDiff, Nat.reduceLT, reduceIte, reduceCtorEq, Int.reduceBNe, Int.reduceBEq, hw, hc1]
      have a2 := a_next hb2 hd2 hl
      have d1 := p83 c
      have d2 := p83 c2
      (refine AC_intro c80 b80 (Nat.le_of_ble_eq_true rfl) ?_; simp only [c80, ↓R1, R2, R3, R4, R5, Nat.reduceEqDiff, Nat.reduceAdd, Nat.reduceMul, Nat.reduceSub, Nat.reduceLeDiff, Nat.reduceLT, reduceIte, reduceCtorEq, Int.reduceBNe, Int.reduceBEq, hw, hc1])
      repeat' (first | (with_reducible rw [allocV_eq]) | (refine gdV_split (fun hc => ?_) (fun hc => ?_) <;> (try simp only [hc, ↓R1, R2, R3, R4, R5, Nat.reduceEqDiff, Nat.reduceAdd, Nat.reduceMul, Nat.reduceSub, Nat.reduceLeDiff, Nat.reduceLT, reduceIte, reduceCtorEq, Int.reduceBNe, Int.reduceBEq, hw, hc1])) | ((first | refine condV_split (fun hc => ?_) (fun hc => ?_) | (with_reducible intro β hβ; (try simp only [St.box_noneA, St.tip_noneA, St.tip_set, St.box_tip, St.box_lp, St.tip_lp] at hβ); (repeat (obtain ⟨⟨_, _⟩, hβ⟩ := hβ)); (try (have hbis := apart_is (by assumption) hβ; obtain ⟨_, _⟩ := hbis)))) <;> (try simp only [↓R1, R2, R3, R4, R5, Nat.reduceEqDiff, Nat.reduceAdd, Nat.reduceMul, Nat.reduceSub, Nat.reduceLeDiff, Nat.reduceLT, reduceIte, reduceCtorEq, Int.reduceBNe, Int.reduceBEq, hw, hc1])) | (with_reducible refine And.intro ?_ ?_; (focus (first | omega | (intros; (repeat' (with_reducible apply And.intro)) <;> first | omega | (simp only [List.length_map]; omega))))) | (with_reducible apply And.intro) | ((first | refine callSV_box hb a1 (wkL_refl _) ?_ | refine callSV_box hb2 a2 (wkL_refl _) ?_ | refine Pu.to (d1) (wkL_refl _) ?_ | refine callDV_pu (d1) (wkL_refl _) ?_ | refine Pu.to (d2) (wkL_refl _) ?_ | refine callDV_pu (d2) (wkL_refl _) ?_); (try simp only [↓R1, R2, R3, R4, R5, Nat.reduceEqDiff, Nat.reduceAdd, Nat.reduceMul, Nat.reduceSub, Nat.reduceLeDiff, Nat.reduceLT, reduceIte, reduceCtorEq, Int.reduceBNe, Int.reduceBEq, hw, hc1])))
      have hp1 : posOf l r2 = k + 1 + 1 := pos_cons hd2
      by_cases h : hexV c < 16 ∧ hexV c2 < 16
      · have hn := nib _ _ h.1 h.2
        refine endP_intro (r := .tup [byteV (UInt8.ofNat (16 * hexV c + hexV c2)), .bool true]) (by simp) (by first | (simp [rvsS, rvS]; done) | (simp only [rvsS, rvS, ↓R1, R2, R3, R4, R5, Nat.reduceEqDiff, Nat.reduceAdd, Nat.reduceMul, Nat.reduceSub, Nat.reduceLeDiff, Nat.reduceLT, reduceIte, reduceCtorEq, Int.reduceBNe, Int.reduceBEq, hw, hc1]; try simp)) (wk_of_eq ?_) (St.le_refl _) ?_
        · (simp only [resAV, rvV, List.map_cons, List.map_nil, ↓R1, R2, R3, R4, R5, Nat.reduceEqDiff, Nat.reduceAdd, Nat.reduceMul, Nat.reduceSub, Nat.reduceLeDiff, Nat.reduceLT, reduceIte, reduceCtorEq, Int.reduceBNe, Int.reduceBEq, hw, hc1])
          rw [show Int.toNat 4 = 4 from rfl, hn, byteV, toNat8 (by omega)]
          have e1 : decide ((hexV c : Int) < 16) = true := by simp; omega
          have e2 : decide ((hexV c2 : Int) < 16) = true := by simp; omega
          rw [e1, e2]; rfl
        · simp only [Took, pairS, if_pos h, hp1, true_and]
      · refine endP_intro (r := .tup [.int .u8 (bits .or .u8 (IntKind.u8.wrap ((hexV c : Int) * 2 ^ min (Int.toNat 4) IntKind.u8.bits)) (bits .and .u8 (hexV c2) 15)), .bool false]) (by simp) (by first | (simp [rvsS, rvS]; done) | (simp only [rvsS, rvS, ↓R1, R2, R3, R4, R5, Nat.reduceEqDiff, Nat.reduceAdd, Nat.reduceMul, Nat.reduceSub, Nat.reduceLeDiff, Nat.reduceLT, reduceIte, reduceCtorEq, Int.reduceBNe, Int.reduceBEq, hw, hc1]; try simp)) (wk_of_eq ?_) (St.le_refl _) ?_
        · (simp only [resAV, rvV, List.map_cons, List.map_nil, ↓R1, R2, R3, R4, R5, Nat.reduceEqDiff, Nat.reduceAdd, Nat.reduceMul, Nat.reduceSub, Nat.reduceLeDiff, Nat.reduceLT, reduceIte, reduceCtorEq, Int.reduceBNe, Int.reduceBEq, hw, hc1])
          have : (decide ((hexV c : Int) < 16) && decide ((hexV c2 : Int) < 16)) = false := by
            rw [← Bool.not_eq_true, Bool.and_eq_true, decide_eq_true_eq, decide_eq_true_eq]; omega
          rw [this]
        · simp only [Took, pairS, if_neg h]
          exact ⟨_, k + 1 + 1, rfl, rfl⟩
theorem u8_eq (b c : UInt8) : ((b.toNat : Int) == (c.toNat : Int)) = decide (b = c) := by
  rw [Bool.eq_iff_iff]; simp only [beq_iff_eq, decide_eq_true_eq, Int.natCast_inj, UInt8.toNat_inj]
theorem u8_120 (b : UInt8) : ((b.toNat : Int) == 120) = decide (b = 120) := u8_eq b 120
theorem u8_34 (b : UInt8) : ((b.toNat : Int) == 34) = decide (b = 34) := u8_eq b 34
theorem u8_92 (b : UInt8) : ((b.toNat : Int) == 92) = decide (b = 92) := u8_eq b 92
theorem u8_35 (b : UInt8) : ((b.toNat : Int) == 35) = decide (b = 35) := u8_eq b 35
set_option maxHeartbeats 1000000 in
theorem a_escaped {σ : St} {β k : Nat} {l : List UInt8} (hb : σ.box β = some [.str l, .int .i64 k]) (hk : k ≤ l.length) (hl : l.length ≤ 1000000) : AC Tryd.prog 75 [.ptr β 0] σ (Took σ β l (escS (l.drop k)) byteV) := by
  haveI : BoxIs σ β [.str l, .int .i64 k] := ⟨hb⟩
  have a1 := a_left hb
  rcases drop_cases l k hk with ⟨hd, he⟩ | ⟨c, r, hd, hlt⟩
  · have hc1 : decide ((k : Int) < (l.length : Int)) = false := by simp; omega
    rw [hd]
    (refine AC_intro c75 b75 (Nat.le_of_ble_eq_true rfl) ?_; simp only [c75, ↓R1, R2, R3, R4, R5, Nat.reduceEqDiff, Nat.reduceAdd, Nat.reduceMul, Nat.reduceSub, Nat.reduceLeDiff, Nat.reduceLT, reduceIte, reduceCtorEq, Int.reduceBNe, Int.reduceBEq, u8_120, u8_34, u8_92, hc1])
    repeat' (first | (with_reducible rw [allocV_eq]) | (refine gdV_split (fun hc => ?_) (fun hc => ?_) <;> (try simp only [hc, ↓R1, R2, R3, R4, R5, Nat.reduceEqDiff, Nat.reduceAdd, Nat.reduceMul, Nat.reduceSub, Nat.reduceLeDiff, Nat.reduceLT, reduceIte, reduceCtorEq, Int.reduceBNe, Int.reduceBEq, u8_120, u8_34, u8_92, hc1])) | ((first | refine condV_split (fun hc => ?_) (fun hc => ?_) | (with_reducible intro β hβ; (try simp only [St.box_noneA, St.tip_noneA, St.tip_set, St.box_tip, St.box_lp, St.tip_lp] at hβ); (repeat (obtain ⟨⟨_, _⟩, hβ⟩ := hβ)); (try (have hbis := apart_is (by assumption) hβ; obtain ⟨_, _⟩ := hbis)))) <;> (try simp only [↓R1, R2, R3, R4, R5, Nat.reduceEqDiff, Nat.reduceAdd, Nat.reduceMul, Nat.reduceSub, Nat.reduceLeDiff, Nat.reduceLT, reduceIte, reduceCtorEq, Int.reduceBNe, Int.reduceBEq, u8_120, u8_34, u8_92, hc1])) | (with_reducible refine And.intro ?_ ?_; (focus (first | omega | (intros; (repeat' (with_reducible apply And.intro)) <;> first | omega | (simp only [List.length_map]; omega))))) | (with_reducible apply And.intro) | ((first | (refine AC.mono (AC.wk (a1) (wkL_refl _)) ?_; (rintro _ _ ⟨rfl, rfl⟩))); (try simp only [↓R1, R2, R3, R4, R5, Nat.reduceEqDiff, Nat.reduceAdd, Nat.reduceMul, Nat.reduceSub, Nat.reduceLeDiff, Nat.reduceLT, reduceIte, reduceCtorEq, Int.reduceBNe, Int.reduceBEq, u8_120, u8_34, u8_92, hc1])))
    refine endP_intro (by simp) (by first | (simp [rvsS, rvS]; done) | (simp only [rvsS, rvS, ↓R1, R2, R3, R4, R5, Nat.reduceEqDiff, Nat.reduceAdd, Nat.reduceMul, Nat.reduceSub, Nat.reduceLeDiff, Nat.reduceLT, reduceIte, reduceCtorEq, Int.reduceBNe, Int.reduceBEq, u8_120, u8_34, u8_92, hc1]; try simp)) (wk_refl _) (le_same hb) ⟨_, k, rfl, rfl⟩
  · have hc1 : decide ((k : Int) < (l.length : Int)) = true := by simpa using hlt
    have a2 := a_next hb hd hl
    have hb2 : (σ.setBox β [.str l, .int .i64 (k + 1 : Nat)]).box β = some [.str l, .int .i64 (k + 1 : Nat)] := by simp only [↓R1, R2, R3, R4, R5, Nat.reduceEqDiff, Nat.reduceAdd, Nat.reduceMul, Nat.reduceSub, Nat.reduceLeDiff, Nat.reduceLT, reduceIte, reduceCtorEq, Int.reduceBNe, Int.reduceBEq, u8_120, u8_34, u8_92, hc1]
    have a3 := a_pair hb2 hlt hl
    rw [(get_drop hd).2.2] at a3
    have hp1 : posOf l r = k + 1 := pos_cons hd
    rw [hd]
    (refine AC_intro c75 b75 (Nat.le_of_ble_eq_true rfl) ?_; simp only [c75, ↓R1, R2, R3, R4, R5, Nat.reduceEqDiff, Nat.reduceAdd, Nat.reduceMul, Nat.reduceSub, Nat.reduceLeDiff, Nat.reduceLT, reduceIte, reduceCtorEq, Int.reduceBNe, Int.reduceBEq, u8_120, u8_34, u8_92, hc1])
    repeat' (first | (with_reducible rw [allocV_eq]) | (refine gdV_split (fun hc => ?_) (fun hc => ?_) <;> (try simp only [hc, ↓R1, R2, R3, R4, R5, Nat.reduceEqDiff, Nat.reduceAdd, Nat.reduceMul, Nat.reduceSub, Nat.reduceLeDiff, Nat.reduceLT, reduceIte, reduceCtorEq, Int.reduceBNe, Int.reduceBEq, u8_120, u8_34, u8_92, hc1])) | ((first | refine condV_split (fun hc => ?_) (fun hc => ?_) | (with_reducible intro β hβ; (try simp only [St.box_noneA, St.tip_noneA, St.tip_set, St.box_tip, St.box_lp, St.tip_lp] at hβ); (repeat (obtain ⟨⟨_, _⟩, hβ⟩ := hβ)); (try (have hbis := apart_is (by assumption) hβ; obtain ⟨_, _⟩ := hbis)))) <;> (try simp only [↓R1, R2, R3, R4, R5, Nat.reduceEqDiff, Nat.reduceAdd, Nat.reduceMul, Nat.reduceSub, Nat.reduceLeDiff, Nat.reduceLT, reduceIte, reduceCtorEq, Int.reduceBNe, Int.reduceBEq, u8_120, u8_34, u8_92, hc1])) | (with_reducible refine And.intro ?_ ?_; (focus (first | omega | (intros; (repeat' (with_reducible apply And.intro)) <;> first | omega | (simp only [List.length_map]; omega))))) | (with_reducible apply And.intro) | ((first | (refine AC.mono (AC.wk (a1) (wkL_refl _)) ?_; (rintro _ _ ⟨rfl, rfl⟩)) | (refine AC.mono (AC.wk (a2) (wkL_refl _)) ?_; (rintro _ _ ⟨rfl, rfl⟩))); (try simp only [↓R1, R2, R3, R4, R5, Nat.reduceEqDiff, Nat.reduceAdd, Nat.reduceMul, Nat.reduceSub, Nat.reduceLeDiff, Nat.reduceLT, reduceIte, reduceCtorEq, Int.reduceBNe, Int.reduceBEq, u8_120, u8_34, u8_92, hc1])))
    · have h : c = 120 := by simpa using hc
      cases hp : pairS r with
      | none =>
        rw [hp] at a3
        refine (AC.wk a3 (wkL_refl _)).mono ?_
        rintro _ _ ⟨v, j, rfl, rfl⟩
        simp only [↓R1, R2, R3, R4, R5, Nat.reduceEqDiff, Nat.reduceAdd, Nat.reduceMul, Nat.reduceSub, Nat.reduceLeDiff, Nat.reduceLT, reduceIte, reduceCtorEq, Int.reduceBNe, Int.reduceBEq, u8_120, u8_34, u8_92, hc1]
        (refine endP_id (by simp) (by first | (simp [rvsS, rvS]; done) | (simp only [rvsS, rvS, ↓R1, R2, R3, R4, R5, Nat.reduceEqDiff, Nat.reduceAdd, Nat.reduceMul, Nat.reduceSub, Nat.reduceLeDiff, Nat.reduceLT, reduceIte, reduceCtorEq, Int.reduceBNe, Int.reduceBEq, u8_120, u8_34, u8_92, hc1]; try simp)) ?_)
        simp only [Took, escS, if_pos h, hp]
        exact ⟨v, j, rfl, rfl⟩
      | some q =>
        rw [hp] at a3
        refine (AC.wk a3 (wkL_refl _)).mono ?_
        rintro _ _ ⟨rfl, rfl⟩
        simp only [↓R1, R2, R3, R4, R5, Nat.reduceEqDiff, Nat.reduceAdd, Nat.reduceMul, Nat.reduceSub, Nat.reduceLeDiff, Nat.reduceLT, reduceIte, reduceCtorEq, Int.reduceBNe, Int.reduceBEq, u8_120, u8_34, u8_92, hc1]
        (refine endP_id (by simp) (by first | (simp [rvsS, rvS]; done) | (simp only [rvsS, rvS, ↓R1, R2, R3, R4, R5, Nat.reduceEqDiff, Nat.reduceAdd, Nat.reduceMul, Nat.reduceSub, Nat.reduceLeDiff, Nat.reduceLT, reduceIte, reduceCtorEq, Int.reduceBNe, Int.reduceBEq, u8_120, u8_34, u8_92, hc1]; try simp)) ?_)
        simp only [Took, escS, if_pos h, hp]
        exact ⟨rfl, trivial⟩
    · have h : c ≠ 120 := by simpa using hc
      by_cases h2 : c = 34 ∨ c = 92
      · refine endP_intro (r := .tup [byteV c, .bool true]) (by simp) (by first | (simp [rvsS, rvS]; done) | (simp only [rvsS, rvS, ↓R1, R2, R3, R4, R5, Nat.reduceEqDiff, Nat.reduceAdd, Nat.reduceMul, Nat.reduceSub, Nat.reduceLeDiff, Nat.reduceLT, reduceIte, reduceCtorEq, Int.reduceBNe, Int.reduceBEq, u8_120, u8_34, u8_92, hc1]; try simp)) (wk_of_eq ?_) (St.le_refl _) ?_
        · (simp only [resAV, rvV, List.map_cons, List.map_nil, ↓R1, R2, R3, R4, R5, Nat.reduceEqDiff, Nat.reduceAdd, Nat.reduceMul, Nat.reduceSub, Nat.reduceLeDiff, Nat.reduceLT, reduceIte, reduceCtorEq, Int.reduceBNe, Int.reduceBEq, u8_120, u8_34, u8_92, hc1])
          rcases h2 with rfl | rfl <;> rfl
        · simp only [Took, escS, if_neg h, if_pos h2, hp1, true_and]
      · refine endP_intro (r := .tup [byteV c, .bool false]) (by simp) (by first | (simp [rvsS, rvS]; done) | (simp only [rvsS, rvS, ↓R1, R2, R3, R4, R5, Nat.reduceEqDiff, Nat.reduceAdd, Nat.reduceMul, Nat.reduceSub, Nat.reduceLeDiff, Nat.reduceLT, reduceIte, reduceCtorEq, Int.reduceBNe, Int.reduceBEq, u8_120, u8_34, u8_92, hc1]; try simp)) (wk_of_eq ?_) (St.le_refl _) ?_
        · (simp only [resAV, rvV, List.map_cons, List.map_nil, ↓R1, R2, R3, R4, R5, Nat.reduceEqDiff, Nat.reduceAdd, Nat.reduceMul, Nat.reduceSub, Nat.reduceLeDiff, Nat.reduceLT, reduceIte, reduceCtorEq, Int.reduceBNe, Int.reduceBEq, u8_120, u8_34, u8_92, hc1])
          have e1 : decide (c = 34) = false := decide_eq_false (fun e => h2 (.inl e))
          have e2 : decide (c = 92) = false := decide_eq_false (fun e => h2 (.inr e))
          rw [e1, e2]; rfl
        · simp only [Took, escS, if_neg h, if_neg h2]
          exact ⟨_, k + 1, rfl, rfl⟩
end Go.Proofs.YtemddijemikleaaDoor
namespace Go.Proofs.YtemddijemikleaaDoor
open Go.Abs
set_option linter.all false
set_option maxRecDepth 100000
theorem all_take (p : UInt8 → Bool) (l : List UInt8) {k : Nat} (h : k < l.length) : (l.take (k + 1)).all p = ((l.take k).all p && p l[k]) := by
  rw [← List.take_append_getElem h, List.all_append]; simp
theorem bytesL_get (l : List UInt8) {k : Nat} (h : k < l.length) : ((l.map fun b => AV.int .u8 b.toNat).drop (k * 1)).take 1 = [.int .u8 l[k].toNat] := by
  rw [Nat.mul_one, List.drop_eq_getElem_cons (by simpa using h)]
  simp
set_option maxHeartbeats 1000000 in
theorem p29 (l : List UInt8) (hl : l.length ≤ 1000000) : Pu Tryd.prog 29 [.str l] (.bool (bareS l)) := by
  have q1 : True := trivial
  have q2 : True := trivial
  have hw : True := trivial
  have hd : True := trivial
  (refine Pu_intro c29 b29 (Nat.le_of_ble_eq_true rfl) fun σ => ?_; simp only [c29, ↓R1, R2, R3, R4, R5, Nat.reduceEqDiff, Nat.reduceAdd, Nat.reduceMul, Nat.reduceSub, Nat.reduceLeDiff, Nat.reduceLT, reduceIte, reduceCtorEq, Int.reduceBNe, Int.reduceBEq, q1, q2, hw, hd])
  refine loopV_for l.length (fun k => [(0, .str l), (6, .sl false l.length (l.map fun b => .int .u8 b.toNat)), (7, .int .i64 (l.length : Nat)), (8, .int .i64 (k : Nat))]) (fun _ => σ) (fun k => (l.take k).all isBare = true) (by simp [subF, slot, wk_refl]) (St.le_refl _) (by simp) (fun k hk hI => ?_)
  by_cases hlt : k < l.length
  · have q1 : decide ((k : Int) < (l.length : Int)) = true := by rw [decide_eq_true_eq]; omega
    have hd := bytesL_get l hlt
    have hw : IntKind.i64.wrap ((k : Int) + 1) = ((k + 1 : Nat) : Int) := by rw [wrap64 (by omega) (by omega)]; omega
    have hp := p49 l[k]
    simp only [q1, ↓R1, R2, R3, R4, R5, Nat.reduceEqDiff, Nat.reduceAdd, Nat.reduceMul, Nat.reduceSub, Nat.reduceLeDiff, Nat.reduceLT, reduceIte, reduceCtorEq, Int.reduceBNe, Int.reduceBEq, q1, q2, hw, hd]
    cases hb : isBare l[k] with
    | true =>
      rw [hb] at hp
      repeat' (first | (with_reducible rw [allocV_eq]) | (refine gdV_split (fun hc => ?_) (fun hc => ?_) <;> (try simp only [hc, ↓R1, R2, R3, R4, R5, Nat.reduceEqDiff, Nat.reduceAdd, Nat.reduceMul, Nat.reduceSub, Nat.reduceLeDiff, Nat.reduceLT, reduceIte, reduceCtorEq, Int.reduceBNe, Int.reduceBEq, q1, q2, hw, hd])) | ((first | refine condV_split (fun hc => ?_) (fun hc => ?_) | (with_reducible intro β hβ; (try simp only [St.box_noneA, St.tip_noneA, St.tip_set, St.box_tip, St.box_lp, St.tip_lp] at hβ); (repeat (obtain ⟨⟨_, _⟩, hβ⟩ := hβ)); (try (have hbis := apart_is (by assumption) hβ; obtain ⟨_, _⟩ := hbis)))) <;> (try simp only [↓R1, R2, R3, R4, R5, Nat.reduceEqDiff, Nat.reduceAdd, Nat.reduceMul, Nat.reduceSub, Nat.reduceLeDiff, Nat.reduceLT, reduceIte, reduceCtorEq, Int.reduceBNe, Int.reduceBEq, q1, q2, hw, hd])) | (with_reducible refine And.intro ?_ ?_; (focus (first | omega | (intros; (repeat' (with_reducible apply And.intro)) <;> first | omega | (simp only [List.length_map]; omega))))) | (with_reducible apply And.intro) | ((first | refine Pu.to (hp) (wkL_refl _) ?_ | refine callDV_pu (hp) (wkL_refl _) ?_); (try simp only [↓R1, R2, R3, R4, R5, Nat.reduceEqDiff, Nat.reduceAdd, Nat.reduceMul, Nat.reduceSub, Nat.reduceLeDiff, Nat.reduceLT, reduceIte, reduceCtorEq, Int.reduceBNe, Int.reduceBEq, q1, q2, hw, hd])))
      all_goals first | (simp only [List.length_map]; omega) | skip
      all_goals first | (rw [all_take _ _ hlt, hI, hb]; rfl) | (simp [subF, slot, wk_refl]; done) | exact St.le_refl _
    | false =>
      rw [hb] at hp
      repeat' (first | (with_reducible rw [allocV_eq]) | (refine gdV_split (fun hc => ?_) (fun hc => ?_) <;> (try simp only [hc, ↓R1, R2, R3, R4, R5, Nat.reduceEqDiff, Nat.reduceAdd, Nat.reduceMul, Nat.reduceSub, Nat.reduceLeDiff, Nat.reduceLT, reduceIte, reduceCtorEq, Int.reduceBNe, Int.reduceBEq, q1, q2, hw, hd])) | ((first | refine condV_split (fun hc => ?_) (fun hc => ?_) | (with_reducible intro β hβ; (try simp only [St.box_noneA, St.tip_noneA, St.tip_set, St.box_tip, St.box_lp, St.tip_lp] at hβ); (repeat (obtain ⟨⟨_, _⟩, hβ⟩ := hβ)); (try (have hbis := apart_is (by assumption) hβ; obtain ⟨_, _⟩ := hbis)))) <;> (try simp only [↓R1, R2, R3, R4, R5, Nat.reduceEqDiff, Nat.reduceAdd, Nat.reduceMul, Nat.reduceSub, Nat.reduceLeDiff, Nat.reduceLT, reduceIte, reduceCtorEq, Int.reduceBNe, Int.reduceBEq, q1, q2, hw, hd])) | (with_reducible refine And.intro ?_ ?_; (focus (first | omega | (intros; (repeat' (with_reducible apply And.intro)) <;> first | omega | (simp only [List.length_map]; omega))))) | (with_reducible apply And.intro) | ((first | refine Pu.to (hp) (wkL_refl _) ?_ | refine callDV_pu (hp) (wkL_refl _) ?_); (try simp only [↓R1, R2, R3, R4, R5, Nat.reduceEqDiff, Nat.reduceAdd, Nat.reduceMul, Nat.reduceSub, Nat.reduceLeDiff, Nat.reduceLT, reduceIte, reduceCtorEq, Int.reduceBNe, Int.reduceBEq, q1, q2, hw, hd])))
      all_goals first | (simp only [List.length_map]; omega) | skip
      (refine endP_pu (by simp) (by first | (simp [rvsS, rvS]; done) | (simp only [rvsS, rvS, ↓R1, R2, R3, R4, R5, Nat.reduceEqDiff, Nat.reduceAdd, Nat.reduceMul, Nat.reduceSub, Nat.reduceLeDiff, Nat.reduceLT, reduceIte, reduceCtorEq, Int.reduceBNe, Int.reduceBEq, q1, q2, hw, hd]; try simp)) (wk_of_eq ?_) (by (repeat (first | exact St.le_refl _ | (refine St.le_new ?_ (by assumption)) | (refine St.le_newT ?_ (by assumption))))))
      (simp only [resAV, rvV, List.map_cons, List.map_nil, ↓R1, R2, R3, R4, R5, Nat.reduceEqDiff, Nat.reduceAdd, Nat.reduceMul, Nat.reduceSub, Nat.reduceLeDiff, Nat.reduceLT, reduceIte, reduceCtorEq, Int.reduceBNe, Int.reduceBEq, q1, q2, hw, hd])
      have : l.all isBare = false := by
        rw [← Bool.not_eq_true, List.all_eq_true]
        intro h
        have := h l[k] (List.getElem_mem hlt)
        rw [hb] at this; cases this
      simp only [bareS, this, Bool.false_and]
  · have hke : k = l.length := by omega
    subst hke
    have q1 : decide ((l.length : Int) < (l.length : Int)) = false := by simp
    rw [List.take_length] at hI
    by_cases hnil : l = []
    · have q2 : (l == []) = true := by rw [hnil]; rfl
      have e : bareS l = false := by rw [hnil]; rfl
      rw [e]
      simp only [q1, ↓R1, R2, R3, R4, R5, Nat.reduceEqDiff, Nat.reduceAdd, Nat.reduceMul, Nat.reduceSub, Nat.reduceLeDiff, Nat.reduceLT, reduceIte, reduceCtorEq, Int.reduceBNe, Int.reduceBEq, q1, q2, hw, hd]
      repeat' (first | (with_reducible rw [allocV_eq]) | (refine gdV_split (fun hc => ?_) (fun hc => ?_) <;> (try simp only [hc, ↓R1, R2, R3, R4, R5, Nat.reduceEqDiff, Nat.reduceAdd, Nat.reduceMul, Nat.reduceSub, Nat.reduceLeDiff, Nat.reduceLT, reduceIte, reduceCtorEq, Int.reduceBNe, Int.reduceBEq, q1, q2, hw, hd])) | ((first | refine condV_split (fun hc => ?_) (fun hc => ?_) | (with_reducible intro β hβ; (try simp only [St.box_noneA, St.tip_noneA, St.tip_set, St.box_tip, St.box_lp, St.tip_lp] at hβ); (repeat (obtain ⟨⟨_, _⟩, hβ⟩ := hβ)); (try (have hbis := apart_is (by assumption) hβ; obtain ⟨_, _⟩ := hbis)))) <;> (try simp only [↓R1, R2, R3, R4, R5, Nat.reduceEqDiff, Nat.reduceAdd, Nat.reduceMul, Nat.reduceSub, Nat.reduceLeDiff, Nat.reduceLT, reduceIte, reduceCtorEq, Int.reduceBNe, Int.reduceBEq, q1, q2, hw, hd])) | (with_reducible refine And.intro ?_ ?_; (focus (first | omega | (intros; (repeat' (with_reducible apply And.intro)) <;> first | omega | (simp only [List.length_map]; omega))))) | (with_reducible apply And.intro))
      (refine endP_pu (by simp) (by first | (simp [rvsS, rvS]; done) | (simp only [rvsS, rvS, ↓R1, R2, R3, R4, R5, Nat.reduceEqDiff, Nat.reduceAdd, Nat.reduceMul, Nat.reduceSub, Nat.reduceLeDiff, Nat.reduceLT, reduceIte, reduceCtorEq, Int.reduceBNe, Int.reduceBEq, q1, q2, hw, hd]; try simp)) (wk_of_eq ?_) (by (repeat (first | exact St.le_refl _ | (refine St.le_new ?_ (by assumption)) | (refine St.le_newT ?_ (by assumption))))))
      (simp only [resAV, rvV, List.map_cons, List.map_nil, ↓R1, R2, R3, R4, R5, Nat.reduceEqDiff, Nat.reduceAdd, Nat.reduceMul, Nat.reduceSub, Nat.reduceLeDiff, Nat.reduceLT, reduceIte, reduceCtorEq, Int.reduceBNe, Int.reduceBEq, q1, q2, hw, hd])
    · obtain ⟨c, m, e⟩ : ∃ c m, l = c :: m := by
        cases l with
        | nil => exact (hnil rfl).elim
        | cons c m => exact ⟨c, m, rfl⟩
      have q2 : (l == []) = false := by rw [e]; rfl
      have hd : l[0]? = some c := by rw [e]; rfl
      have e2 : bareS l = ((c.toNat : Int) != 35) := by
        unfold bareS
        rw [hI, Bool.true_and]
        subst e
        show (c != 35) = _
        rw [bne, bne, u8_35]
        congr 1
      have hl1 : 0 < l.length := by rw [e]; simp
      rw [e2]
      simp only [q1, ↓R1, R2, R3, R4, R5, Nat.reduceEqDiff, Nat.reduceAdd, Nat.reduceMul, Nat.reduceSub, Nat.reduceLeDiff, Nat.reduceLT, reduceIte, reduceCtorEq, Int.reduceBNe, Int.reduceBEq, q1, q2, hw, hd]
      repeat' (first | (with_reducible rw [allocV_eq]) | (refine gdV_split (fun hc => ?_) (fun hc => ?_) <;> (try simp only [hc, ↓R1, R2, R3, R4, R5, Nat.reduceEqDiff, Nat.reduceAdd, Nat.reduceMul, Nat.reduceSub, Nat.reduceLeDiff, Nat.reduceLT, reduceIte, reduceCtorEq, Int.reduceBNe, Int.reduceBEq, q1, q2, hw, hd])) | ((first | refine condV_split (fun hc => ?_) (fun hc => ?_) | (with_reducible intro β hβ; (try simp only [St.box_noneA, St.tip_noneA, St.tip_set, St.box_tip, St.box_lp, St.tip_lp] at hβ); (repeat (obtain ⟨⟨_, _⟩, hβ⟩ := hβ)); (try (have hbis := apart_is (by assumption) hβ; obtain ⟨_, _⟩ := hbis)))) <;> (try simp only [↓R1, R2, R3, R4, R5, Nat.reduceEqDiff, Nat.reduceAdd, Nat.reduceMul, Nat.reduceSub, Nat.reduceLeDiff, Nat.reduceLT, reduceIte, reduceCtorEq, Int.reduceBNe, Int.reduceBEq, q1, q2, hw, hd])) | (with_reducible refine And.intro ?_ ?_; (focus (first | omega | (intros; (repeat' (with_reducible apply And.intro)) <;> first | omega | (simp only [List.length_map]; omega))))) | (with_reducible apply And.intro))
      all_goals first | omega | skip
      (refine endP_pu (by simp) (by first | (simp [rvsS, rvS]; done) | (simp only [rvsS, rvS, ↓R1, R2, R3, R4, R5, Nat.reduceEqDiff, Nat.reduceAdd, Nat.reduceMul, Nat.reduceSub, Nat.reduceLeDiff, Nat.reduceLT, reduceIte, reduceCtorEq, Int.reduceBNe, Int.reduceBEq, q1, q2, hw, hd]; try simp)) (wk_of_eq ?_) (by (repeat (first | exact St.le_refl _ | (refine St.le_new ?_ (by assumption)) | (refine St.le_newT ?_ (by assumption))))))
      (simp only [resAV, rvV, List.map_cons, List.map_nil, ↓R1, R2, R3, R4, R5, Nat.reduceEqDiff, Nat.reduceAdd, Nat.reduceMul, Nat.reduceSub, Nat.reduceLeDiff, Nat.reduceLT, reduceIte, reduceCtorEq, Int.reduceBNe, Int.reduceBEq, q1, q2, hw, hd])
theorem hexc_get (n : Nat) (h : n < 16) : (([48, 49, 50, 51, 52, 53, 54, 55, 56, 57, 97, 98, 99, 100, 101, 102] : List UInt8).drop n).take 1 = [hexc n] := by
  have : ∀ n, n < 16 → (([48, 49, 50, 51, 52, 53, 54, 55, 56, 57, 97, 98, 99, 100, 101, 102] : List UInt8).drop n).take 1 = [hexc n] := by decide
  exact this n h
end Go.Proofs.YtemddijemikleaaDoor
namespace Go.Proofs.YtemddijemikleaaDoor
open Go.Abs
set_option linter.all false
set_option maxRecDepth 100000
def isDig (b : UInt8) : Bool := !(decide ((b.toNat : Int) < 48) || decide ((57 : Int) < b.toNat))
def valN (l : List UInt8) : Nat := l.foldl (fun v b => 10 * v + (b.toNat - 48)) 0
/-- Are they digits as they should be? -/
def digOk (l : List UInt8) : Bool := decide (l.length ≤ 20) && (match l with | [] => false | c :: r => !(c == 48 && !r.isEmpty)) && l.all isDig
def natV (l : List UInt8) : AV := bif digOk l then .tup [.int .u64 ((valN l % 18446744073709551616 : Nat) : Int), .bool (decide (18446744073709551616 ≤ valN l)), .bool true] else .tup [.int .u64 0, .bool false, .bool false]
theorem valN_take (l : List UInt8) {k : Nat} (h : k < l.length) : valN (l.take (k + 1)) = 10 * valN (l.take k) + (l[k].toNat - 48) := by
  rw [← List.take_append_getElem h, valN, List.foldl_append]; rfl
theorem wrapu (n : Nat) : IntKind.u64.wrap (n : Int) = ((n % 18446744073709551616 : Nat) : Int) := by
  rw [IntKind.wrap_u64]; omega
theorem isDig_iff {b : UInt8} : isDig b = true ↔ 48 ≤ b.toNat ∧ b.toNat ≤ 57 := by
  simp only [isDig, Bool.not_eq_true', Bool.or_eq_false_iff, decide_eq_false_iff_not]; omega
def firstOk : List UInt8 → Bool
  | [] => false
  | c :: r => !(c == 48 && !r.isEmpty)
theorem digOk_eq (l : List UInt8) : digOk l = (decide (l.length ≤ 20) && firstOk l && l.all isDig) := by
  cases l <;> rfl
theorem shl3 (n : Nat) : IntKind.u64.wrap ((n : Int) * 2 ^ min (Int.toNat 3) IntKind.u64.bits) = ((8 * n % 18446744073709551616 : Nat) : Int) := by
  rw [show ((n : Int) * 2 ^ min (Int.toNat 3) IntKind.u64.bits) = ((8 * n : Nat) : Int) by rw [show (2 : Int) ^ min (Int.toNat 3) IntKind.u64.bits = 8 from rfl]; omega, wrapu]
theorem shl1 (n : Nat) : IntKind.u64.wrap ((n : Int) * 2 ^ min (Int.toNat 1) IntKind.u64.bits) = ((2 * n % 18446744073709551616 : Nat) : Int) := by
  rw [show ((n : Int) * 2 ^ min (Int.toNat 1) IntKind.u64.bits) = ((2 * n : Nat) : Int) by rw [show (2 : Int) ^ min (Int.toNat 1) IntKind.u64.bits = 2 from rfl]; omega, wrapu]
theorem add_mod (n : Nat) : IntKind.u64.wrap (((8 * n % 18446744073709551616 : Nat) : Int) + ((2 * n % 18446744073709551616 : Nat) : Int)) = ((10 * n % 18446744073709551616 : Nat) : Int) := by
  rw [show (((8 * n % 18446744073709551616 : Nat) : Int) + ((2 * n % 18446744073709551616 : Nat) : Int)) = ((8 * n % 18446744073709551616 + 2 * n % 18446744073709551616 : Nat) : Int) by omega, wrapu]
  congr 1; omega
theorem next_mod (V d : Nat) : IntKind.u64.wrap (((10 * (V % 18446744073709551616) % 18446744073709551616 : Nat) : Int) + (d : Int)) = (((10 * V + d) % 18446744073709551616 : Nat) : Int) := by
  rw [show (((10 * (V % 18446744073709551616) % 18446744073709551616 : Nat) : Int) + (d : Int)) = ((10 * (V % 18446744073709551616) % 18446744073709551616 + d : Nat) : Int) by omega, wrapu]
  congr 1; omega
theorem great_next (V d : Nat) (hd : d ≤ 9) : ((decide (18446744073709551616 ≤ V) || decide ((1844674407370955161 : Int) < ((V % 18446744073709551616 : Nat) : Int))) || decide ((((10 * V + d) % 18446744073709551616 : Nat) : Int) < ((10 * (V % 18446744073709551616) % 18446744073709551616 : Nat) : Int))) = decide (18446744073709551616 ≤ 10 * V + d) := by
  rw [Bool.eq_iff_iff]
  simp only [Bool.or_eq_true, decide_eq_true_eq]
  by_cases hV : 18446744073709551616 ≤ V
  · simp only [hV, true_or, true_iff]; omega
  · rw [Nat.mod_eq_of_lt (show V < 18446744073709551616 by omega)]
    by_cases hb : 1844674407370955161 < V
    · have h1 : (1844674407370955161 : Int) < (V : Int) := by omega
      simp only [h1, or_true, true_or, true_iff]; omega
    · rw [Nat.mod_eq_of_lt (show 10 * V < 18446744073709551616 by omega)]
      omega
theorem dig_sub {b : UInt8} (h : isDig b = true) : IntKind.u8.wrap ((b.toNat : Int) - 48) = ((b.toNat - 48 : Nat) : Int) ∧ b.toNat - 48 ≤ 9 ∧ IntKind.u64.wrap ((b.toNat - 48 : Nat) : Int) = ((b.toNat - 48 : Nat) : Int) := by
  have := isDig_iff.1 h
  refine ⟨by simp [IntKind.wrap, IntKind.signed, IntKind.bits]; omega, by omega, by rw [wrapu]; congr 1; omega⟩
set_option maxHeartbeats 4000000 in
theorem p43 (l : List UInt8) (hl : l.length ≤ 1000000) : Pu Tryd.prog 43 [.str l] (natV l) := by
  have q1 : True := trivial
  have q2 : True := trivial
  have q3 : True := trivial
  have q4 : True := trivial
  have q5 : True := trivial
  have q6 : True := trivial
  have q7 : True := trivial
  have hw : True := trivial
  have hd : True := trivial
  have e1 : True := trivial
  have e2 : True := trivial
  have e3 : True := trivial
  have e4 : True := trivial
  have e5 : True := trivial
  by_cases hnil : l = []
  · subst hnil
    have q1 : (([] : List UInt8) == []) = true := rfl
    have e : natV [] = .tup [.int .u64 0, .bool false, .bool false] := rfl
    rw [e]
    (refine Pu_intro c43 b43 (Nat.le_of_ble_eq_true rfl) fun σ => ?_; simp only [c43, ↓R1, R2, R3, R4, R5, Nat.reduceEqDiff, Nat.reduceAdd, Nat.reduceMul, Nat.reduceSub, Nat.reduceLeDiff, Nat.reduceLT, reduceIte, reduceCtorEq, Int.reduceBNe, Int.reduceBEq, q1, q2, q3, q4, q5, q6, q7, hw, hd, e1, e2, e3, e4, e5])
    repeat' (first | (with_reducible rw [allocV_eq]) | (refine gdV_split (fun hc => ?_) (fun hc => ?_) <;> (try simp only [hc, ↓R1, R2, R3, R4, R5, Nat.reduceEqDiff, Nat.reduceAdd, Nat.reduceMul, Nat.reduceSub, Nat.reduceLeDiff, Nat.reduceLT, reduceIte, reduceCtorEq, Int.reduceBNe, Int.reduceBEq, q1, q2, q3, q4, q5, q6, q7, hw, hd, e1, e2, e3, e4, e5])) | ((first | refine condV_split (fun hc => ?_) (fun hc => ?_) | (with_reducible intro β hβ; (try simp only [St.box_noneA, St.tip_noneA, St.tip_set, St.box_tip, St.box_lp, St.tip_lp] at hβ); (repeat (obtain ⟨⟨_, _⟩, hβ⟩ := hβ)); (try (have hbis := apart_is (by assumption) hβ; obtain ⟨_, _⟩ := hbis)))) <;> (try simp only [↓R1, R2, R3, R4, R5, Nat.reduceEqDiff, Nat.reduceAdd, Nat.reduceMul, Nat.reduceSub, Nat.reduceLeDiff, Nat.reduceLT, reduceIte, reduceCtorEq, Int.reduceBNe, Int.reduceBEq, q1, q2, q3, q4, q5, q6, q7, hw, hd, e1, e2, e3, e4, e5])) | (with_reducible refine And.intro ?_ ?_; (focus (first | omega | (intros; (repeat' (with_reducible apply And.intro)) <;> first | omega | (simp only [List.length_map]; omega))))) | (with_reducible apply And.intro))
    (refine endP_pu (by simp) (by first | (simp [rvsS, rvS]; done) | (simp only [rvsS, rvS, ↓R1, R2, R3, R4, R5, Nat.reduceEqDiff, Nat.reduceAdd, Nat.reduceMul, Nat.reduceSub, Nat.reduceLeDiff, Nat.reduceLT, reduceIte, reduceCtorEq, Int.reduceBNe, Int.reduceBEq, q1, q2, q3, q4, q5, q6, q7, hw, hd, e1, e2, e3, e4, e5]; try simp)) (wk_of_eq ?_) (by (repeat (first | exact St.le_refl _ | (refine St.le_new ?_ (by assumption)) | (refine St.le_newT ?_ (by assumption))))))
    (simp only [resAV, rvV, List.map_cons, List.map_nil, ↓R1, R2, R3, R4, R5, Nat.reduceEqDiff, Nat.reduceAdd, Nat.reduceMul, Nat.reduceSub, Nat.reduceLeDiff, Nat.reduceLT, reduceIte, reduceCtorEq, Int.reduceBNe, Int.reduceBEq, q1, q2, q3, q4, q5, q6, q7, hw, hd, e1, e2, e3, e4, e5])
  · obtain ⟨c, m, e⟩ : ∃ c m, l = c :: m := by
      cases l with
      | nil => exact (hnil rfl).elim
      | cons c m => exact ⟨c, m, rfl⟩
    have q1 : (l == []) = false := by rw [e]; rfl
    have hd : l[0]? = some c := by rw [e]; rfl
    have hl1 : 0 < l.length := by rw [e]; simp
    by_cases h20 : 20 < l.length
    · have q2 : decide ((20 : Int) < (l.length : Int)) = true := by rw [decide_eq_true_eq]; omega
      have e : natV l = .tup [.int .u64 0, .bool false, .bool false] := by
        have : decide (l.length ≤ 20) = false := by rw [decide_eq_false_iff_not]; omega
        rw [natV, digOk_eq, this]; rfl
      rw [e]
      (refine Pu_intro c43 b43 (Nat.le_of_ble_eq_true rfl) fun σ => ?_; simp only [c43, ↓R1, R2, R3, R4, R5, Nat.reduceEqDiff, Nat.reduceAdd, Nat.reduceMul, Nat.reduceSub, Nat.reduceLeDiff, Nat.reduceLT, reduceIte, reduceCtorEq, Int.reduceBNe, Int.reduceBEq, q1, q2, q3, q4, q5, q6, q7, hw, hd, e1, e2, e3, e4, e5])
      repeat' (first | (with_reducible rw [allocV_eq]) | (refine gdV_split (fun hc => ?_) (fun hc => ?_) <;> (try simp only [hc, ↓R1, R2, R3, R4, R5, Nat.reduceEqDiff, Nat.reduceAdd, Nat.reduceMul, Nat.reduceSub, Nat.reduceLeDiff, Nat.reduceLT, reduceIte, reduceCtorEq, Int.reduceBNe, Int.reduceBEq, q1, q2, q3, q4, q5, q6, q7, hw, hd, e1, e2, e3, e4, e5])) | ((first | refine condV_split (fun hc => ?_) (fun hc => ?_) | (with_reducible intro β hβ; (try simp only [St.box_noneA, St.tip_noneA, St.tip_set, St.box_tip, St.box_lp, St.tip_lp] at hβ); (repeat (obtain ⟨⟨_, _⟩, hβ⟩ := hβ)); (try (have hbis := apart_is (by assumption) hβ; obtain ⟨_, _⟩ := hbis)))) <;> (try simp only [↓R1, R2, R3, R4, R5, Nat.reduceEqDiff, Nat.reduceAdd, Nat.reduceMul, Nat.reduceSub, Nat.reduceLeDiff, Nat.reduceLT, reduceIte, reduceCtorEq, Int.reduceBNe, Int.reduceBEq, q1, q2, q3, q4, q5, q6, q7, hw, hd, e1, e2, e3, e4, e5])) | (with_reducible refine And.intro ?_ ?_; (focus (first | omega | (intros; (repeat' (with_reducible apply And.intro)) <;> first | omega | (simp only [List.length_map]; omega))))) | (with_reducible apply And.intro))
      (refine endP_pu (by simp) (by first | (simp [rvsS, rvS]; done) | (simp only [rvsS, rvS, ↓R1, R2, R3, R4, R5, Nat.reduceEqDiff, Nat.reduceAdd, Nat.reduceMul, Nat.reduceSub, Nat.reduceLeDiff, Nat.reduceLT, reduceIte, reduceCtorEq, Int.reduceBNe, Int.reduceBEq, q1, q2, q3, q4, q5, q6, q7, hw, hd, e1, e2, e3, e4, e5]; try simp)) (wk_of_eq ?_) (by (repeat (first | exact St.le_refl _ | (refine St.le_new ?_ (by assumption)) | (refine St.le_newT ?_ (by assumption))))))
      (simp only [resAV, rvV, List.map_cons, List.map_nil, ↓R1, R2, R3, R4, R5, Nat.reduceEqDiff, Nat.reduceAdd, Nat.reduceMul, Nat.reduceSub, Nat.reduceLeDiff, Nat.reduceLT, reduceIte, reduceCtorEq, Int.reduceBNe, Int.reduceBEq, q1, q2, q3, q4, q5, q6, q7, hw, hd, e1, e2, e3, e4, e5])
    · have q2 : decide ((20 : Int) < (l.length : Int)) = false := by rw [decide_eq_false_iff_not]; omega
      have hd20 : decide (l.length ≤ 20) = true := by rw [decide_eq_true_eq]; omega
      have q3 : ((c.toNat : Int) == 48) = decide (c = 48) := u8_eq c 48
      have hfo : firstOk l = !(decide (c = 48) && decide ((1 : Int) < (l.length : Int))) := by
        rw [e]
        show (!(c == 48 && !m.isEmpty)) = _
        have h1 : (c == 48) = decide (c = 48) := by rw [Bool.eq_iff_iff]; simp
        have h2 : (!m.isEmpty) = decide ((1 : Int) < ((c :: m).length : Int)) := by
          cases m with
          | nil => rfl
          | cons x m => rw [Bool.eq_iff_iff]; simp; omega
        rw [h1, h2]
      by_cases hz : (decide (c = 48) && decide ((1 : Int) < (l.length : Int))) = true
      · have e : natV l = .tup [.int .u64 0, .bool false, .bool false] := by
          rw [natV, digOk_eq, hfo, hz]; simp
        rw [Bool.and_eq_true] at hz
        have q4 := hz.1
        have q5 := hz.2
        rw [e]
        (refine Pu_intro c43 b43 (Nat.le_of_ble_eq_true rfl) fun σ => ?_; simp only [c43, ↓R1, R2, R3, R4, R5, Nat.reduceEqDiff, Nat.reduceAdd, Nat.reduceMul, Nat.reduceSub, Nat.reduceLeDiff, Nat.reduceLT, reduceIte, reduceCtorEq, Int.reduceBNe, Int.reduceBEq, q1, q2, q3, q4, q5, q6, q7, hw, hd, e1, e2, e3, e4, e5])
        repeat' (first | (with_reducible rw [allocV_eq]) | (refine gdV_split (fun hc => ?_) (fun hc => ?_) <;> (try simp only [hc, ↓R1, R2, R3, R4, R5, Nat.reduceEqDiff, Nat.reduceAdd, Nat.reduceMul, Nat.reduceSub, Nat.reduceLeDiff, Nat.reduceLT, reduceIte, reduceCtorEq, Int.reduceBNe, Int.reduceBEq, q1, q2, q3, q4, q5, q6, q7, hw, hd, e1, e2, e3, e4, e5])) | ((first | refine condV_split (fun hc => ?_) (fun hc => ?_) | (with_reducible intro β hβ; (try simp only [St.box_noneA, St.tip_noneA, St.tip_set, St.box_tip, St.box_lp, St.tip_lp] at hβ); (repeat (obtain ⟨⟨_, _⟩, hβ⟩ := hβ)); (try (have hbis := apart_is (by assumption) hβ; obtain ⟨_, _⟩ := hbis)))) <;> (try simp only [↓R1, R2, R3, R4, R5, Nat.reduceEqDiff, Nat.reduceAdd, Nat.reduceMul, Nat.reduceSub, Nat.reduceLeDiff, Nat.reduceLT, reduceIte, reduceCtorEq, Int.reduceBNe, Int.reduceBEq, q1, q2, q3, q4, q5, q6, q7, hw, hd, e1, e2, e3, e4, e5])) | (with_reducible refine And.intro ?_ ?_; (focus (first | omega | (intros; (repeat' (with_reducible apply And.intro)) <;> first | omega | (simp only [List.length_map]; omega))))) | (with_reducible apply And.intro))
        all_goals first | omega | skip
        (refine endP_pu (by simp) (by first | (simp [rvsS, rvS]; done) | (simp only [rvsS, rvS, ↓R1, R2, R3, R4, R5, Nat.reduceEqDiff, Nat.reduceAdd, Nat.reduceMul, Nat.reduceSub, Nat.reduceLeDiff, Nat.reduceLT, reduceIte, reduceCtorEq, Int.reduceBNe, Int.reduceBEq, q1, q2, q3, q4, q5, q6, q7, hw, hd, e1, e2, e3, e4, e5]; try simp)) (wk_of_eq ?_) (by (repeat (first | exact St.le_refl _ | (refine St.le_new ?_ (by assumption)) | (refine St.le_newT ?_ (by assumption))))))
        (simp only [resAV, rvV, List.map_cons, List.map_nil, ↓R1, R2, R3, R4, R5, Nat.reduceEqDiff, Nat.reduceAdd, Nat.reduceMul, Nat.reduceSub, Nat.reduceLeDiff, Nat.reduceLT, reduceIte, reduceCtorEq, Int.reduceBNe, Int.reduceBEq, q1, q2, q3, q4, q5, q6, q7, hw, hd, e1, e2, e3, e4, e5])
      · have q4 : (decide (c = 48) && decide ((1 : Int) < (l.length : Int))) = false := by simpa using hz
        have hno : firstOk l = true := by rw [hfo, q4]; rfl
        have hnv : natV l = bif l.all isDig then .tup [.int .u64 ((valN l % 18446744073709551616 : Nat) : Int), .bool (decide (18446744073709551616 ≤ valN l)), .bool true] else .tup [.int .u64 0, .bool false, .bool false] := by
          rw [natV, digOk_eq, hno, hd20, Bool.true_and, Bool.true_and]
        rw [hnv]
        (refine Pu_intro c43 b43 (Nat.le_of_ble_eq_true rfl) fun σ => ?_; simp only [c43, ↓R1, R2, R3, R4, R5, Nat.reduceEqDiff, Nat.reduceAdd, Nat.reduceMul, Nat.reduceSub, Nat.reduceLeDiff, Nat.reduceLT, reduceIte, reduceCtorEq, Int.reduceBNe, Int.reduceBEq, q1, q2, q3, q4, q5, q6, q7, hw, hd, e1, e2, e3, e4, e5])
        repeat' (first | (with_reducible rw [allocV_eq]) | (refine gdV_split (fun hc => ?_) (fun hc => ?_) <;> (try simp only [hc, ↓R1, R2, R3, R4, R5, Nat.reduceEqDiff, Nat.reduceAdd, Nat.reduceMul, Nat.reduceSub, Nat.reduceLeDiff, Nat.reduceLT, reduceIte, reduceCtorEq, Int.reduceBNe, Int.reduceBEq, q1, q2, q3, q4, q5, q6, q7, hw, hd, e1, e2, e3, e4, e5])) | ((first | refine condV_split (fun hc => ?_) (fun hc => ?_) | (with_reducible intro β hβ; (try simp only [St.box_noneA, St.tip_noneA, St.tip_set, St.box_tip, St.box_lp, St.tip_lp] at hβ); (repeat (obtain ⟨⟨_, _⟩, hβ⟩ := hβ)); (try (have hbis := apart_is (by assumption) hβ; obtain ⟨_, _⟩ := hbis)))) <;> (try simp only [↓R1, R2, R3, R4, R5, Nat.reduceEqDiff, Nat.reduceAdd, Nat.reduceMul, Nat.reduceSub, Nat.reduceLeDiff, Nat.reduceLT, reduceIte, reduceCtorEq, Int.reduceBNe, Int.reduceBEq, q1, q2, q3, q4, q5, q6, q7, hw, hd, e1, e2, e3, e4, e5])) | (with_reducible refine And.intro ?_ ?_; (focus (first | omega | (intros; (repeat' (with_reducible apply And.intro)) <;> first | omega | (simp only [List.length_map]; omega))))) | (with_reducible apply And.intro))
        all_goals first | omega | (rw [q4]; done) | skip
        clear hd
        refine loopV_for l.length (fun k => [(2, .int .u64 ((valN (l.take k) % 18446744073709551616 : Nat) : Int)), (3, .bool (decide (18446744073709551616 ≤ valN (l.take k)))), (26, .sl false l.length (l.map fun b => .int .u8 b.toNat)), (27, .int .i64 (l.length : Nat)), (28, .int .i64 (k : Nat))]) (fun _ => σ) (fun k => (l.take k).all isDig = true) (by simp [subF, slot, wk_refl, valN]) (St.le_refl _) (by simp) (fun k hk hI => ?_)
        by_cases hlt : k < l.length
        · have q6 : decide ((k : Int) < (l.length : Int)) = true := by rw [decide_eq_true_eq]; omega
          have hd := bytesL_get l hlt
          have hw : IntKind.i64.wrap ((k : Int) + 1) = ((k + 1 : Nat) : Int) := by rw [wrap64 (by omega) (by omega)]; omega
          cases hb : isDig l[k] with
          | true =>
            have q7 : (decide ((l[k].toNat : Int) < 48) || decide ((57 : Int) < (l[k].toNat : Int))) = false := by
              simp only [isDig, Bool.not_eq_true'] at hb; exact hb
            obtain ⟨d1, d2, d3⟩ := dig_sub hb
            have e1 := shl3 (valN (l.take k) % 18446744073709551616)
            have e2 := shl1 (valN (l.take k) % 18446744073709551616)
            have e3 := add_mod (valN (l.take k) % 18446744073709551616)
            have e4 := next_mod (valN (l.take k)) (l[k].toNat - 48)
            have e5 := d1
            have q5 := d3
            have hg := great_next (valN (l.take k)) (l[k].toNat - 48) d2
            have hv := valN_take l hlt
            simp only [q6, ↓R1, R2, R3, R4, R5, Nat.reduceEqDiff, Nat.reduceAdd, Nat.reduceMul, Nat.reduceSub, Nat.reduceLeDiff, Nat.reduceLT, reduceIte, reduceCtorEq, Int.reduceBNe, Int.reduceBEq, q1, q2, q3, q4, q5, q6, q7, hw, hd, e1, e2, e3, e4, e5]
            repeat' (first | (with_reducible rw [allocV_eq]) | (refine gdV_split (fun hc => ?_) (fun hc => ?_) <;> (try simp only [hc, ↓R1, R2, R3, R4, R5, Nat.reduceEqDiff, Nat.reduceAdd, Nat.reduceMul, Nat.reduceSub, Nat.reduceLeDiff, Nat.reduceLT, reduceIte, reduceCtorEq, Int.reduceBNe, Int.reduceBEq, q1, q2, q3, q4, q5, q6, q7, hw, hd, e1, e2, e3, e4, e5])) | ((first | refine condV_split (fun hc => ?_) (fun hc => ?_) | (with_reducible intro β hβ; (try simp only [St.box_noneA, St.tip_noneA, St.tip_set, St.box_tip, St.box_lp, St.tip_lp] at hβ); (repeat (obtain ⟨⟨_, _⟩, hβ⟩ := hβ)); (try (have hbis := apart_is (by assumption) hβ; obtain ⟨_, _⟩ := hbis)))) <;> (try simp only [↓R1, R2, R3, R4, R5, Nat.reduceEqDiff, Nat.reduceAdd, Nat.reduceMul, Nat.reduceSub, Nat.reduceLeDiff, Nat.reduceLT, reduceIte, reduceCtorEq, Int.reduceBNe, Int.reduceBEq, q1, q2, q3, q4, q5, q6, q7, hw, hd, e1, e2, e3, e4, e5])) | (with_reducible refine And.intro ?_ ?_; (focus (first | omega | (intros; (repeat' (with_reducible apply And.intro)) <;> first | omega | (simp only [List.length_map]; omega))))) | (with_reducible apply And.intro))
            all_goals first | (simp only [List.length_map]; omega) | omega | skip
            · rw [all_take _ _ hlt, hI, hb]; rfl
            · rw [hv, ← hg]; simp [subF, slot, wk_refl]
            · exact St.le_refl _
          | false =>
            have q7 : (decide ((l[k].toNat : Int) < 48) || decide ((57 : Int) < (l[k].toNat : Int))) = true := by
              simp only [isDig, Bool.not_eq_false'] at hb; exact hb
            have hall : l.all isDig = false := by
              rw [← Bool.not_eq_true, List.all_eq_true]
              intro h
              have := h l[k] (List.getElem_mem hlt)
              rw [hb] at this; cases this
            rw [hall]
            simp only [q6, ↓R1, R2, R3, R4, R5, Nat.reduceEqDiff, Nat.reduceAdd, Nat.reduceMul, Nat.reduceSub, Nat.reduceLeDiff, Nat.reduceLT, reduceIte, reduceCtorEq, Int.reduceBNe, Int.reduceBEq, q1, q2, q3, q4, q5, q6, q7, hw, hd, e1, e2, e3, e4, e5]
            repeat' (first | (with_reducible rw [allocV_eq]) | (refine gdV_split (fun hc => ?_) (fun hc => ?_) <;> (try simp only [hc, ↓R1, R2, R3, R4, R5, Nat.reduceEqDiff, Nat.reduceAdd, Nat.reduceMul, Nat.reduceSub, Nat.reduceLeDiff, Nat.reduceLT, reduceIte, reduceCtorEq, Int.reduceBNe, Int.reduceBEq, q1, q2, q3, q4, q5, q6, q7, hw, hd, e1, e2, e3, e4, e5])) | ((first | refine condV_split (fun hc => ?_) (fun hc => ?_) | (with_reducible intro β hβ; (try simp only [St.box_noneA, St.tip_noneA, St.tip_set, St.box_tip, St.box_lp, St.tip_lp] at hβ); (repeat (obtain ⟨⟨_, _⟩, hβ⟩ := hβ)); (try (have hbis := apart_is (by assumption) hβ; obtain ⟨_, _⟩ := hbis)))) <;> (try simp only [↓R1, R2, R3, R4, R5, Nat.reduceEqDiff, Nat.reduceAdd, Nat.reduceMul, Nat.reduceSub, Nat.reduceLeDiff, Nat.reduceLT, reduceIte, reduceCtorEq, Int.reduceBNe, Int.reduceBEq, q1, q2, q3, q4, q5, q6, q7, hw, hd, e1, e2, e3, e4, e5])) | (with_reducible refine And.intro ?_ ?_; (focus (first | omega | (intros; (repeat' (with_reducible apply And.intro)) <;> first | omega | (simp only [List.length_map]; omega))))) | (with_reducible apply And.intro))
            all_goals first | (simp only [List.length_map]; omega) | omega | skip
            (refine endP_pu (by simp) (by first | (simp [rvsS, rvS]; done) | (simp only [rvsS, rvS, ↓R1, R2, R3, R4, R5, Nat.reduceEqDiff, Nat.reduceAdd, Nat.reduceMul, Nat.reduceSub, Nat.reduceLeDiff, Nat.reduceLT, reduceIte, reduceCtorEq, Int.reduceBNe, Int.reduceBEq, q1, q2, q3, q4, q5, q6, q7, hw, hd, e1, e2, e3, e4, e5]; try simp)) (wk_of_eq ?_) (by (repeat (first | exact St.le_refl _ | (refine St.le_new ?_ (by assumption)) | (refine St.le_newT ?_ (by assumption))))))
            (simp only [resAV, rvV, List.map_cons, List.map_nil, ↓R1, R2, R3, R4, R5, Nat.reduceEqDiff, Nat.reduceAdd, Nat.reduceMul, Nat.reduceSub, Nat.reduceLeDiff, Nat.reduceLT, reduceIte, reduceCtorEq, Int.reduceBNe, Int.reduceBEq, q1, q2, q3, q4, q5, q6, q7, hw, hd, e1, e2, e3, e4, e5])
            all_goals rfl
        · have hke : k = l.length := by omega
          subst hke
          have q6 : decide ((l.length : Int) < (l.length : Int)) = false := by simp
          rw [List.take_length] at hI ⊢
          rw [hI]
          simp only [q6, ↓R1, R2, R3, R4, R5, Nat.reduceEqDiff, Nat.reduceAdd, Nat.reduceMul, Nat.reduceSub, Nat.reduceLeDiff, Nat.reduceLT, reduceIte, reduceCtorEq, Int.reduceBNe, Int.reduceBEq, q1, q2, q3, q4, q5, q6, q7, hw, hd, e1, e2, e3, e4, e5]
          repeat' (first | (with_reducible rw [allocV_eq]) | (refine gdV_split (fun hc => ?_) (fun hc => ?_) <;> (try simp only [hc, ↓R1, R2, R3, R4, R5, Nat.reduceEqDiff, Nat.reduceAdd, Nat.reduceMul, Nat.reduceSub, Nat.reduceLeDiff, Nat.reduceLT, reduceIte, reduceCtorEq, Int.reduceBNe, Int.reduceBEq, q1, q2, q3, q4, q5, q6, q7, hw, hd, e1, e2, e3, e4, e5])) | ((first | refine condV_split (fun hc => ?_) (fun hc => ?_) | (with_reducible intro β hβ; (try simp only [St.box_noneA, St.tip_noneA, St.tip_set, St.box_tip, St.box_lp, St.tip_lp] at hβ); (repeat (obtain ⟨⟨_, _⟩, hβ⟩ := hβ)); (try (have hbis := apart_is (by assumption) hβ; obtain ⟨_, _⟩ := hbis)))) <;> (try simp only [↓R1, R2, R3, R4, R5, Nat.reduceEqDiff, Nat.reduceAdd, Nat.reduceMul, Nat.reduceSub, Nat.reduceLeDiff, Nat.reduceLT, reduceIte, reduceCtorEq, Int.reduceBNe, Int.reduceBEq, q1, q2, q3, q4, q5, q6, q7, hw, hd, e1, e2, e3, e4, e5])) | (with_reducible refine And.intro ?_ ?_; (focus (first | omega | (intros; (repeat' (with_reducible apply And.intro)) <;> first | omega | (simp only [List.length_map]; omega))))) | (with_reducible apply And.intro))
          (refine endP_pu (by simp) (by first | (simp [rvsS, rvS]; done) | (simp only [rvsS, rvS, ↓R1, R2, R3, R4, R5, Nat.reduceEqDiff, Nat.reduceAdd, Nat.reduceMul, Nat.reduceSub, Nat.reduceLeDiff, Nat.reduceLT, reduceIte, reduceCtorEq, Int.reduceBNe, Int.reduceBEq, q1, q2, q3, q4, q5, q6, q7, hw, hd, e1, e2, e3, e4, e5]; try simp)) (wk_of_eq ?_) (by (repeat (first | exact St.le_refl _ | (refine St.le_new ?_ (by assumption)) | (refine St.le_newT ?_ (by assumption))))))
          (simp only [resAV, rvV, List.map_cons, List.map_nil, ↓R1, R2, R3, R4, R5, Nat.reduceEqDiff, Nat.reduceAdd, Nat.reduceMul, Nat.reduceSub, Nat.reduceLeDiff, Nat.reduceLT, reduceIte, reduceCtorEq, Int.reduceBNe, Int.reduceBEq, q1, q2, q3, q4, q5, q6, q7, hw, hd, e1, e2, e3, e4, e5])
          all_goals rfl
end Go.Proofs.YtemddijemikleaaDoor
namespace Go.Proofs.YtemddijemikleaaDoor
open Go.Abs
set_option linter.all false
set_option maxRecDepth 100000
def numV (q : Bool) (t : List UInt8) (lo hi : Int) : AV :=
  bif q || !digOk t then .tup [.int .u64 0, .int .i64 3]
  else bif (decide (18446744073709551616 ≤ valN t) || decide (((valN t % 18446744073709551616 : Nat) : Int) < lo)) || decide (hi < ((valN t % 18446744073709551616 : Nat) : Int)) then .tup [.int .u64 0, .int .i64 2]
  else .tup [.int .u64 ((valN t % 18446744073709551616 : Nat) : Int), .int .i64 0]
set_option maxHeartbeats 2000000 in
theorem p17 (q : Bool) (t : List UInt8) (a lo hi : Int) (hl : t.length ≤ 1000000) : Pu Tryd.prog 17 [.agg [.bool q, .str t, .int .i64 a], .int .u64 lo, .int .u64 hi] (numV q t lo hi) := by
  have q1 : True := trivial
  have q2 : True := trivial
  have q3 : True := trivial
  have q4 : True := trivial
  have q5 : True := trivial
  have q6 : True := trivial
  have q7 : True := trivial
  have hp := p43 t hl
  cases hd : digOk t with
  | false =>
    simp only [natV, hd, cond_false] at hp
    simp only [numV, hd, Bool.not_false, Bool.or_true, cond_true]
    (refine Pu_intro c17 b17 (Nat.le_of_ble_eq_true rfl) fun σ => ?_; simp only [c17, ↓R1, R2, R3, R4, R5, Nat.reduceEqDiff, Nat.reduceAdd, Nat.reduceMul, Nat.reduceSub, Nat.reduceLeDiff, Nat.reduceLT, reduceIte, reduceCtorEq, Int.reduceBNe, Int.reduceBEq, q1, q2, q3, q4, q5, q6, q7])
    repeat' (first | (with_reducible rw [allocV_eq]) | (refine gdV_split (fun hc => ?_) (fun hc => ?_) <;> (try simp only [hc, ↓R1, R2, R3, R4, R5, Nat.reduceEqDiff, Nat.reduceAdd, Nat.reduceMul, Nat.reduceSub, Nat.reduceLeDiff, Nat.reduceLT, reduceIte, reduceCtorEq, Int.reduceBNe, Int.reduceBEq, q1, q2, q3, q4, q5, q6, q7])) | ((first | refine condV_split (fun hc => ?_) (fun hc => ?_) | (with_reducible intro β hβ; (try simp only [St.box_noneA, St.tip_noneA, St.tip_set, St.box_tip, St.box_lp, St.tip_lp] at hβ); (repeat (obtain ⟨⟨_, _⟩, hβ⟩ := hβ)); (try (have hbis := apart_is (by assumption) hβ; obtain ⟨_, _⟩ := hbis)))) <;> (try simp only [↓R1, R2, R3, R4, R5, Nat.reduceEqDiff, Nat.reduceAdd, Nat.reduceMul, Nat.reduceSub, Nat.reduceLeDiff, Nat.reduceLT, reduceIte, reduceCtorEq, Int.reduceBNe, Int.reduceBEq, q1, q2, q3, q4, q5, q6, q7])) | (with_reducible refine And.intro ?_ ?_; (focus (first | omega | (intros; (repeat' (with_reducible apply And.intro)) <;> first | omega | (simp only [List.length_map]; omega))))) | (with_reducible apply And.intro) | ((first | refine Pu.to (hp) (wkL_refl _) ?_ | refine callDV_pu (hp) (wkL_refl _) ?_); (try simp only [↓R1, R2, R3, R4, R5, Nat.reduceEqDiff, Nat.reduceAdd, Nat.reduceMul, Nat.reduceSub, Nat.reduceLeDiff, Nat.reduceLT, reduceIte, reduceCtorEq, Int.reduceBNe, Int.reduceBEq, q1, q2, q3, q4, q5, q6, q7])))
    (refine endP_pu (by simp) (by first | (simp [rvsS, rvS]; done) | (simp only [rvsS, rvS, ↓R1, R2, R3, R4, R5, Nat.reduceEqDiff, Nat.reduceAdd, Nat.reduceMul, Nat.reduceSub, Nat.reduceLeDiff, Nat.reduceLT, reduceIte, reduceCtorEq, Int.reduceBNe, Int.reduceBEq, q1, q2, q3, q4, q5, q6, q7]; try simp)) (wk_of_eq ?_) (by (repeat (first | exact St.le_refl _ | (refine St.le_new ?_ (by assumption)) | (refine St.le_newT ?_ (by assumption))))))
    (simp only [resAV, rvV, List.map_cons, List.map_nil, ↓R1, R2, R3, R4, R5, Nat.reduceEqDiff, Nat.reduceAdd, Nat.reduceMul, Nat.reduceSub, Nat.reduceLeDiff, Nat.reduceLT, reduceIte, reduceCtorEq, Int.reduceBNe, Int.reduceBEq, q1, q2, q3, q4, q5, q6, q7])
  | true =>
    simp only [natV, hd, cond_true] at hp
    cases q with
    | true =>
      simp only [numV, Bool.true_or, cond_true]
      (refine Pu_intro c17 b17 (Nat.le_of_ble_eq_true rfl) fun σ => ?_; simp only [c17, ↓R1, R2, R3, R4, R5, Nat.reduceEqDiff, Nat.reduceAdd, Nat.reduceMul, Nat.reduceSub, Nat.reduceLeDiff, Nat.reduceLT, reduceIte, reduceCtorEq, Int.reduceBNe, Int.reduceBEq, q1, q2, q3, q4, q5, q6, q7])
      repeat' (first | (with_reducible rw [allocV_eq]) | (refine gdV_split (fun hc => ?_) (fun hc => ?_) <;> (try simp only [hc, ↓R1, R2, R3, R4, R5, Nat.reduceEqDiff, Nat.reduceAdd, Nat.reduceMul, Nat.reduceSub, Nat.reduceLeDiff, Nat.reduceLT, reduceIte, reduceCtorEq, Int.reduceBNe, Int.reduceBEq, q1, q2, q3, q4, q5, q6, q7])) | ((first | refine condV_split (fun hc => ?_) (fun hc => ?_) | (with_reducible intro β hβ; (try simp only [St.box_noneA, St.tip_noneA, St.tip_set, St.box_tip, St.box_lp, St.tip_lp] at hβ); (repeat (obtain ⟨⟨_, _⟩, hβ⟩ := hβ)); (try (have hbis := apart_is (by assumption) hβ; obtain ⟨_, _⟩ := hbis)))) <;> (try simp only [↓R1, R2, R3, R4, R5, Nat.reduceEqDiff, Nat.reduceAdd, Nat.reduceMul, Nat.reduceSub, Nat.reduceLeDiff, Nat.reduceLT, reduceIte, reduceCtorEq, Int.reduceBNe, Int.reduceBEq, q1, q2, q3, q4, q5, q6, q7])) | (with_reducible refine And.intro ?_ ?_; (focus (first | omega | (intros; (repeat' (with_reducible apply And.intro)) <;> first | omega | (simp only [List.length_map]; omega))))) | (with_reducible apply And.intro) | ((first | refine Pu.to (hp) (wkL_refl _) ?_ | refine callDV_pu (hp) (wkL_refl _) ?_); (try simp only [↓R1, R2, R3, R4, R5, Nat.reduceEqDiff, Nat.reduceAdd, Nat.reduceMul, Nat.reduceSub, Nat.reduceLeDiff, Nat.reduceLT, reduceIte, reduceCtorEq, Int.reduceBNe, Int.reduceBEq, q1, q2, q3, q4, q5, q6, q7])))
      (refine endP_pu (by simp) (by first | (simp [rvsS, rvS]; done) | (simp only [rvsS, rvS, ↓R1, R2, R3, R4, R5, Nat.reduceEqDiff, Nat.reduceAdd, Nat.reduceMul, Nat.reduceSub, Nat.reduceLeDiff, Nat.reduceLT, reduceIte, reduceCtorEq, Int.reduceBNe, Int.reduceBEq, q1, q2, q3, q4, q5, q6, q7]; try simp)) (wk_of_eq ?_) (by (repeat (first | exact St.le_refl _ | (refine St.le_new ?_ (by assumption)) | (refine St.le_newT ?_ (by assumption))))))
      (simp only [resAV, rvV, List.map_cons, List.map_nil, ↓R1, R2, R3, R4, R5, Nat.reduceEqDiff, Nat.reduceAdd, Nat.reduceMul, Nat.reduceSub, Nat.reduceLeDiff, Nat.reduceLT, reduceIte, reduceCtorEq, Int.reduceBNe, Int.reduceBEq, q1, q2, q3, q4, q5, q6, q7])
    | false =>
      simp only [numV, hd, Bool.not_true, Bool.or_false, cond_false]
      cases hb : (decide (18446744073709551616 ≤ valN t) || decide (((valN t % 18446744073709551616 : Nat) : Int) < lo)) || decide (hi < ((valN t % 18446744073709551616 : Nat) : Int)) with
      | true =>
        have q1 := hb
        (refine Pu_intro c17 b17 (Nat.le_of_ble_eq_true rfl) fun σ => ?_; simp only [c17, ↓R1, R2, R3, R4, R5, Nat.reduceEqDiff, Nat.reduceAdd, Nat.reduceMul, Nat.reduceSub, Nat.reduceLeDiff, Nat.reduceLT, reduceIte, reduceCtorEq, Int.reduceBNe, Int.reduceBEq, q1, q2, q3, q4, q5, q6, q7])
        repeat' (first | (with_reducible rw [allocV_eq]) | (refine gdV_split (fun hc => ?_) (fun hc => ?_) <;> (try simp only [hc, ↓R1, R2, R3, R4, R5, Nat.reduceEqDiff, Nat.reduceAdd, Nat.reduceMul, Nat.reduceSub, Nat.reduceLeDiff, Nat.reduceLT, reduceIte, reduceCtorEq, Int.reduceBNe, Int.reduceBEq, q1, q2, q3, q4, q5, q6, q7])) | ((first | refine condV_split (fun hc => ?_) (fun hc => ?_) | (with_reducible intro β hβ; (try simp only [St.box_noneA, St.tip_noneA, St.tip_set, St.box_tip, St.box_lp, St.tip_lp] at hβ); (repeat (obtain ⟨⟨_, _⟩, hβ⟩ := hβ)); (try (have hbis := apart_is (by assumption) hβ; obtain ⟨_, _⟩ := hbis)))) <;> (try simp only [↓R1, R2, R3, R4, R5, Nat.reduceEqDiff, Nat.reduceAdd, Nat.reduceMul, Nat.reduceSub, Nat.reduceLeDiff, Nat.reduceLT, reduceIte, reduceCtorEq, Int.reduceBNe, Int.reduceBEq, q1, q2, q3, q4, q5, q6, q7])) | (with_reducible refine And.intro ?_ ?_; (focus (first | omega | (intros; (repeat' (with_reducible apply And.intro)) <;> first | omega | (simp only [List.length_map]; omega))))) | (with_reducible apply And.intro) | ((first | refine Pu.to (hp) (wkL_refl _) ?_ | refine callDV_pu (hp) (wkL_refl _) ?_); (try simp only [↓R1, R2, R3, R4, R5, Nat.reduceEqDiff, Nat.reduceAdd, Nat.reduceMul, Nat.reduceSub, Nat.reduceLeDiff, Nat.reduceLT, reduceIte, reduceCtorEq, Int.reduceBNe, Int.reduceBEq, q1, q2, q3, q4, q5, q6, q7])))
        (refine endP_pu (by simp) (by first | (simp [rvsS, rvS]; done) | (simp only [rvsS, rvS, ↓R1, R2, R3, R4, R5, Nat.reduceEqDiff, Nat.reduceAdd, Nat.reduceMul, Nat.reduceSub, Nat.reduceLeDiff, Nat.reduceLT, reduceIte, reduceCtorEq, Int.reduceBNe, Int.reduceBEq, q1, q2, q3, q4, q5, q6, q7]; try simp)) (wk_of_eq ?_) (by (repeat (first | exact St.le_refl _ | (refine St.le_new ?_ (by assumption)) | (refine St.le_newT ?_ (by assumption))))))
        (simp only [resAV, rvV, List.map_cons, List.map_nil, ↓R1, R2, R3, R4, R5, Nat.reduceEqDiff, Nat.reduceAdd, Nat.reduceMul, Nat.reduceSub, Nat.reduceLeDiff, Nat.reduceLT, reduceIte, reduceCtorEq, Int.reduceBNe, Int.reduceBEq, q1, q2, q3, q4, q5, q6, q7])
        all_goals rfl
      | false =>
        have q1 := hb
        (refine Pu_intro c17 b17 (Nat.le_of_ble_eq_true rfl) fun σ => ?_; simp only [c17, ↓R1, R2, R3, R4, R5, Nat.reduceEqDiff, Nat.reduceAdd, Nat.reduceMul, Nat.reduceSub, Nat.reduceLeDiff, Nat.reduceLT, reduceIte, reduceCtorEq, Int.reduceBNe, Int.reduceBEq, q1, q2, q3, q4, q5, q6, q7])
        repeat' (first | (with_reducible rw [allocV_eq]) | (refine gdV_split (fun hc => ?_) (fun hc => ?_) <;> (try simp only [hc, ↓R1, R2, R3, R4, R5, Nat.reduceEqDiff, Nat.reduceAdd, Nat.reduceMul, Nat.reduceSub, Nat.reduceLeDiff, Nat.reduceLT, reduceIte, reduceCtorEq, Int.reduceBNe, Int.reduceBEq, q1, q2, q3, q4, q5, q6, q7])) | ((first | refine condV_split (fun hc => ?_) (fun hc => ?_) | (with_reducible intro β hβ; (try simp only [St.box_noneA, St.tip_noneA, St.tip_set, St.box_tip, St.box_lp, St.tip_lp] at hβ); (repeat (obtain ⟨⟨_, _⟩, hβ⟩ := hβ)); (try (have hbis := apart_is (by assumption) hβ; obtain ⟨_, _⟩ := hbis)))) <;> (try simp only [↓R1, R2, R3, R4, R5, Nat.reduceEqDiff, Nat.reduceAdd, Nat.reduceMul, Nat.reduceSub, Nat.reduceLeDiff, Nat.reduceLT, reduceIte, reduceCtorEq, Int.reduceBNe, Int.reduceBEq, q1, q2, q3, q4, q5, q6, q7])) | (with_reducible refine And.intro ?_ ?_; (focus (first | omega | (intros; (repeat' (with_reducible apply And.intro)) <;> first | omega | (simp only [List.length_map]; omega))))) | (with_reducible apply And.intro) | ((first | refine Pu.to (hp) (wkL_refl _) ?_ | refine callDV_pu (hp) (wkL_refl _) ?_); (try simp only [↓R1, R2, R3, R4, R5, Nat.reduceEqDiff, Nat.reduceAdd, Nat.reduceMul, Nat.reduceSub, Nat.reduceLeDiff, Nat.reduceLT, reduceIte, reduceCtorEq, Int.reduceBNe, Int.reduceBEq, q1, q2, q3, q4, q5, q6, q7])))
        (refine endP_pu (by simp) (by first | (simp [rvsS, rvS]; done) | (simp only [rvsS, rvS, ↓R1, R2, R3, R4, R5, Nat.reduceEqDiff, Nat.reduceAdd, Nat.reduceMul, Nat.reduceSub, Nat.reduceLeDiff, Nat.reduceLT, reduceIte, reduceCtorEq, Int.reduceBNe, Int.reduceBEq, q1, q2, q3, q4, q5, q6, q7]; try simp)) (wk_of_eq ?_) (by (repeat (first | exact St.le_refl _ | (refine St.le_new ?_ (by assumption)) | (refine St.le_newT ?_ (by assumption))))))
        (simp only [resAV, rvV, List.map_cons, List.map_nil, ↓R1, R2, R3, R4, R5, Nat.reduceEqDiff, Nat.reduceAdd, Nat.reduceMul, Nat.reduceSub, Nat.reduceLeDiff, Nat.reduceLT, reduceIte, reduceCtorEq, Int.reduceBNe, Int.reduceBEq, q1, q2, q3, q4, q5, q6, q7])
        all_goals rfl
def negS (t : List UInt8) : Bool := match t with
  | c :: _ => decide (c = 45)
  | [] => false
def absS (t : List UInt8) : List UInt8 := bif negS t then t.drop 1 else t
theorem p64 (t : List UInt8) (hl : t.length ≤ 1000000) : Pu Tryd.prog 64 [.str t, .str [45]] (.bool (negS t)) := by
  have q1 : True := trivial
  have q2 : True := trivial
  have q3 : True := trivial
  have q4 : True := trivial
  have q5 : True := trivial
  have q6 : True := trivial
  have q7 : True := trivial
  cases t with
  | nil =>
    (refine Pu_intro c64 b64 (Nat.le_of_ble_eq_true rfl) fun σ => ?_; simp only [c64, ↓R1, R2, R3, R4, R5, Nat.reduceEqDiff, Nat.reduceAdd, Nat.reduceMul, Nat.reduceSub, Nat.reduceLeDiff, Nat.reduceLT, reduceIte, reduceCtorEq, Int.reduceBNe, Int.reduceBEq, q1, q2, q3, q4, q5, q6, q7])
    repeat' (first | (with_reducible rw [allocV_eq]) | (refine gdV_split (fun hc => ?_) (fun hc => ?_) <;> (try simp only [hc, ↓R1, R2, R3, R4, R5, Nat.reduceEqDiff, Nat.reduceAdd, Nat.reduceMul, Nat.reduceSub, Nat.reduceLeDiff, Nat.reduceLT, reduceIte, reduceCtorEq, Int.reduceBNe, Int.reduceBEq, q1, q2, q3, q4, q5, q6, q7])) | ((first | refine condV_split (fun hc => ?_) (fun hc => ?_) | (with_reducible intro β hβ; (try simp only [St.box_noneA, St.tip_noneA, St.tip_set, St.box_tip, St.box_lp, St.tip_lp] at hβ); (repeat (obtain ⟨⟨_, _⟩, hβ⟩ := hβ)); (try (have hbis := apart_is (by assumption) hβ; obtain ⟨_, _⟩ := hbis)))) <;> (try simp only [↓R1, R2, R3, R4, R5, Nat.reduceEqDiff, Nat.reduceAdd, Nat.reduceMul, Nat.reduceSub, Nat.reduceLeDiff, Nat.reduceLT, reduceIte, reduceCtorEq, Int.reduceBNe, Int.reduceBEq, q1, q2, q3, q4, q5, q6, q7])) | (with_reducible refine And.intro ?_ ?_; (focus (first | omega | (intros; (repeat' (with_reducible apply And.intro)) <;> first | omega | (simp only [List.length_map]; omega))))) | (with_reducible apply And.intro))
    all_goals first | (intro h; simp at h; done) | skip
    (refine endP_pu (by simp) (by first | (simp [rvsS, rvS]; done) | (simp only [rvsS, rvS, ↓R1, R2, R3, R4, R5, Nat.reduceEqDiff, Nat.reduceAdd, Nat.reduceMul, Nat.reduceSub, Nat.reduceLeDiff, Nat.reduceLT, reduceIte, reduceCtorEq, Int.reduceBNe, Int.reduceBEq, q1, q2, q3, q4, q5, q6, q7]; try simp)) (wk_of_eq ?_) (by (repeat (first | exact St.le_refl _ | (refine St.le_new ?_ (by assumption)) | (refine St.le_newT ?_ (by assumption))))))
    (simp only [resAV, rvV, List.map_cons, List.map_nil, ↓R1, R2, R3, R4, R5, Nat.reduceEqDiff, Nat.reduceAdd, Nat.reduceMul, Nat.reduceSub, Nat.reduceLeDiff, Nat.reduceLT, reduceIte, reduceCtorEq, Int.reduceBNe, Int.reduceBEq, q1, q2, q3, q4, q5, q6, q7])
    rfl
  | cons c r =>
    (refine Pu_intro c64 b64 (Nat.le_of_ble_eq_true rfl) fun σ => ?_; simp only [c64, ↓R1, R2, R3, R4, R5, Nat.reduceEqDiff, Nat.reduceAdd, Nat.reduceMul, Nat.reduceSub, Nat.reduceLeDiff, Nat.reduceLT, reduceIte, reduceCtorEq, Int.reduceBNe, Int.reduceBEq, q1, q2, q3, q4, q5, q6, q7])
    repeat' (first | (with_reducible rw [allocV_eq]) | (refine gdV_split (fun hc => ?_) (fun hc => ?_) <;> (try simp only [hc, ↓R1, R2, R3, R4, R5, Nat.reduceEqDiff, Nat.reduceAdd, Nat.reduceMul, Nat.reduceSub, Nat.reduceLeDiff, Nat.reduceLT, reduceIte, reduceCtorEq, Int.reduceBNe, Int.reduceBEq, q1, q2, q3, q4, q5, q6, q7])) | ((first | refine condV_split (fun hc => ?_) (fun hc => ?_) | (with_reducible intro β hβ; (try simp only [St.box_noneA, St.tip_noneA, St.tip_set, St.box_tip, St.box_lp, St.tip_lp] at hβ); (repeat (obtain ⟨⟨_, _⟩, hβ⟩ := hβ)); (try (have hbis := apart_is (by assumption) hβ; obtain ⟨_, _⟩ := hbis)))) <;> (try simp only [↓R1, R2, R3, R4, R5, Nat.reduceEqDiff, Nat.reduceAdd, Nat.reduceMul, Nat.reduceSub, Nat.reduceLeDiff, Nat.reduceLT, reduceIte, reduceCtorEq, Int.reduceBNe, Int.reduceBEq, q1, q2, q3, q4, q5, q6, q7])) | (with_reducible refine And.intro ?_ ?_; (focus (first | omega | (intros; (repeat' (with_reducible apply And.intro)) <;> first | omega | (simp only [List.length_map]; omega))))) | (with_reducible apply And.intro))
    all_goals first | (intro h; simp at h; done) | skip
    (refine endP_pu (by simp) (by first | (simp [rvsS, rvS]; done) | (simp only [rvsS, rvS, ↓R1, R2, R3, R4, R5, Nat.reduceEqDiff, Nat.reduceAdd, Nat.reduceMul, Nat.reduceSub, Nat.reduceLeDiff, Nat.reduceLT, reduceIte, reduceCtorEq, Int.reduceBNe, Int.reduceBEq, q1, q2, q3, q4, q5, q6, q7]; try simp)) (wk_of_eq ?_) (by (repeat (first | exact St.le_refl _ | (refine St.le_new ?_ (by assumption)) | (refine St.le_newT ?_ (by assumption))))))
    (simp only [resAV, rvV, List.map_cons, List.map_nil, ↓R1, R2, R3, R4, R5, Nat.reduceEqDiff, Nat.reduceAdd, Nat.reduceMul, Nat.reduceSub, Nat.reduceLeDiff, Nat.reduceLT, reduceIte, reduceCtorEq, Int.reduceBNe, Int.reduceBEq, q1, q2, q3, q4, q5, q6, q7])
    refine congrArg AV.bool ?_
    rw [Bool.eq_iff_iff]
    simp [negS]
    omega
theorem p55 (t : List UInt8) (hl : t.length ≤ 1000000) : Pu Tryd.prog 55 [.str t, .str [45]] (.tup [.str (absS t), .bool (negS t)]) := by
  have q1 : True := trivial
  have q2 : True := trivial
  have q3 : True := trivial
  have q4 : True := trivial
  have q5 : True := trivial
  have q6 : True := trivial
  have q7 : True := trivial
  have hp := p64 t hl
  cases hn : negS t with
  | false =>
    rw [hn] at hp
    (refine Pu_intro c55 b55 (Nat.le_of_ble_eq_true rfl) fun σ => ?_; simp only [c55, ↓R1, R2, R3, R4, R5, Nat.reduceEqDiff, Nat.reduceAdd, Nat.reduceMul, Nat.reduceSub, Nat.reduceLeDiff, Nat.reduceLT, reduceIte, reduceCtorEq, Int.reduceBNe, Int.reduceBEq, q1, q2, q3, q4, q5, q6, q7])
    repeat' (first | (with_reducible rw [allocV_eq]) | (refine gdV_split (fun hc => ?_) (fun hc => ?_) <;> (try simp only [hc, ↓R1, R2, R3, R4, R5, Nat.reduceEqDiff, Nat.reduceAdd, Nat.reduceMul, Nat.reduceSub, Nat.reduceLeDiff, Nat.reduceLT, reduceIte, reduceCtorEq, Int.reduceBNe, Int.reduceBEq, q1, q2, q3, q4, q5, q6, q7])) | ((first | refine condV_split (fun hc => ?_) (fun hc => ?_) | (with_reducible intro β hβ; (try simp only [St.box_noneA, St.tip_noneA, St.tip_set, St.box_tip, St.box_lp, St.tip_lp] at hβ); (repeat (obtain ⟨⟨_, _⟩, hβ⟩ := hβ)); (try (have hbis := apart_is (by assumption) hβ; obtain ⟨_, _⟩ := hbis)))) <;> (try simp only [↓R1, R2, R3, R4, R5, Nat.reduceEqDiff, Nat.reduceAdd, Nat.reduceMul, Nat.reduceSub, Nat.reduceLeDiff, Nat.reduceLT, reduceIte, reduceCtorEq, Int.reduceBNe, Int.reduceBEq, q1, q2, q3, q4, q5, q6, q7])) | (with_reducible refine And.intro ?_ ?_; (focus (first | omega | (intros; (repeat' (with_reducible apply And.intro)) <;> first | omega | (simp only [List.length_map]; omega))))) | (with_reducible apply And.intro) | ((first | refine Pu.to (hp) (wkL_refl _) ?_ | refine callDV_pu (hp) (wkL_refl _) ?_); (try simp only [↓R1, R2, R3, R4, R5, Nat.reduceEqDiff, Nat.reduceAdd, Nat.reduceMul, Nat.reduceSub, Nat.reduceLeDiff, Nat.reduceLT, reduceIte, reduceCtorEq, Int.reduceBNe, Int.reduceBEq, q1, q2, q3, q4, q5, q6, q7])))
    (refine endP_pu (by simp) (by first | (simp [rvsS, rvS]; done) | (simp only [rvsS, rvS, ↓R1, R2, R3, R4, R5, Nat.reduceEqDiff, Nat.reduceAdd, Nat.reduceMul, Nat.reduceSub, Nat.reduceLeDiff, Nat.reduceLT, reduceIte, reduceCtorEq, Int.reduceBNe, Int.reduceBEq, q1, q2, q3, q4, q5, q6, q7]; try simp)) (wk_of_eq ?_) (by (repeat (first | exact St.le_refl _ | (refine St.le_new ?_ (by assumption)) | (refine St.le_newT ?_ (by assumption))))))
    (simp only [resAV, rvV, List.map_cons, List.map_nil, ↓R1, R2, R3, R4, R5, Nat.reduceEqDiff, Nat.reduceAdd, Nat.reduceMul, Nat.reduceSub, Nat.reduceLeDiff, Nat.reduceLT, reduceIte, reduceCtorEq, Int.reduceBNe, Int.reduceBEq, q1, q2, q3, q4, q5, q6, q7])
    simp [absS, hn]
  | true =>
    rw [hn] at hp
    have hl1 : 1 ≤ t.length := by
      cases t with
      | nil => simp [negS] at hn
      | cons c r => simp
    (refine Pu_intro c55 b55 (Nat.le_of_ble_eq_true rfl) fun σ => ?_; simp only [c55, ↓R1, R2, R3, R4, R5, Nat.reduceEqDiff, Nat.reduceAdd, Nat.reduceMul, Nat.reduceSub, Nat.reduceLeDiff, Nat.reduceLT, reduceIte, reduceCtorEq, Int.reduceBNe, Int.reduceBEq, q1, q2, q3, q4, q5, q6, q7])
    repeat' (first | (with_reducible rw [allocV_eq]) | (refine gdV_split (fun hc => ?_) (fun hc => ?_) <;> (try simp only [hc, ↓R1, R2, R3, R4, R5, Nat.reduceEqDiff, Nat.reduceAdd, Nat.reduceMul, Nat.reduceSub, Nat.reduceLeDiff, Nat.reduceLT, reduceIte, reduceCtorEq, Int.reduceBNe, Int.reduceBEq, q1, q2, q3, q4, q5, q6, q7])) | ((first | refine condV_split (fun hc => ?_) (fun hc => ?_) | (with_reducible intro β hβ; (try simp only [St.box_noneA, St.tip_noneA, St.tip_set, St.box_tip, St.box_lp, St.tip_lp] at hβ); (repeat (obtain ⟨⟨_, _⟩, hβ⟩ := hβ)); (try (have hbis := apart_is (by assumption) hβ; obtain ⟨_, _⟩ := hbis)))) <;> (try simp only [↓R1, R2, R3, R4, R5, Nat.reduceEqDiff, Nat.reduceAdd, Nat.reduceMul, Nat.reduceSub, Nat.reduceLeDiff, Nat.reduceLT, reduceIte, reduceCtorEq, Int.reduceBNe, Int.reduceBEq, q1, q2, q3, q4, q5, q6, q7])) | (with_reducible refine And.intro ?_ ?_; (focus (first | omega | (intros; (repeat' (with_reducible apply And.intro)) <;> first | omega | (simp only [List.length_map]; omega))))) | (with_reducible apply And.intro) | ((first | refine Pu.to (hp) (wkL_refl _) ?_ | refine callDV_pu (hp) (wkL_refl _) ?_); (try simp only [↓R1, R2, R3, R4, R5, Nat.reduceEqDiff, Nat.reduceAdd, Nat.reduceMul, Nat.reduceSub, Nat.reduceLeDiff, Nat.reduceLT, reduceIte, reduceCtorEq, Int.reduceBNe, Int.reduceBEq, q1, q2, q3, q4, q5, q6, q7])))
    all_goals first | omega | skip
    (refine endP_pu (by simp) (by first | (simp [rvsS, rvS]; done) | (simp only [rvsS, rvS, ↓R1, R2, R3, R4, R5, Nat.reduceEqDiff, Nat.reduceAdd, Nat.reduceMul, Nat.reduceSub, Nat.reduceLeDiff, Nat.reduceLT, reduceIte, reduceCtorEq, Int.reduceBNe, Int.reduceBEq, q1, q2, q3, q4, q5, q6, q7]; try simp)) (wk_of_eq ?_) (by (repeat (first | exact St.le_refl _ | (refine St.le_new ?_ (by assumption)) | (refine St.le_newT ?_ (by assumption))))))
    (simp only [resAV, rvV, List.map_cons, List.map_nil, ↓R1, R2, R3, R4, R5, Nat.reduceEqDiff, Nat.reduceAdd, Nat.reduceMul, Nat.reduceSub, Nat.reduceLeDiff, Nat.reduceLT, reduceIte, reduceCtorEq, Int.reduceBNe, Int.reduceBEq, q1, q2, q3, q4, q5, q6, q7])
    have e : (t.drop 1).take (t.length - 1) = t.drop 1 := List.take_of_length_le (by simp)
    simp only [e, absS, hn, cond_true]
theorem p45 (t : List UInt8) (hl : t.length ≤ 1000000) : Pu Tryd.prog 45 [.str t, .str [45]] (.tup [.str (absS t), .bool (negS t)]) := by
  have q1 : True := trivial
  have q2 : True := trivial
  have q3 : True := trivial
  have q4 : True := trivial
  have q5 : True := trivial
  have q6 : True := trivial
  have q7 : True := trivial
  (refine Pu_intro c45 b45 (Nat.le_of_ble_eq_true rfl) fun σ => ?_; simp only [c45, ↓R1, R2, R3, R4, R5, Nat.reduceEqDiff, Nat.reduceAdd, Nat.reduceMul, Nat.reduceSub, Nat.reduceLeDiff, Nat.reduceLT, reduceIte, reduceCtorEq, Int.reduceBNe, Int.reduceBEq, q1, q2, q3, q4, q5, q6, q7])
  repeat' (first | (with_reducible rw [allocV_eq]) | (refine gdV_split (fun hc => ?_) (fun hc => ?_) <;> (try simp only [hc, ↓R1, R2, R3, R4, R5, Nat.reduceEqDiff, Nat.reduceAdd, Nat.reduceMul, Nat.reduceSub, Nat.reduceLeDiff, Nat.reduceLT, reduceIte, reduceCtorEq, Int.reduceBNe, Int.reduceBEq, q1, q2, q3, q4, q5, q6, q7])) | ((first | refine condV_split (fun hc => ?_) (fun hc => ?_) | (with_reducible intro β hβ; (try simp only [St.box_noneA, St.tip_noneA, St.tip_set, St.box_tip, St.box_lp, St.tip_lp] at hβ); (repeat (obtain ⟨⟨_, _⟩, hβ⟩ := hβ)); (try (have hbis := apart_is (by assumption) hβ; obtain ⟨_, _⟩ := hbis)))) <;> (try simp only [↓R1, R2, R3, R4, R5, Nat.reduceEqDiff, Nat.reduceAdd, Nat.reduceMul, Nat.reduceSub, Nat.reduceLeDiff, Nat.reduceLT, reduceIte, reduceCtorEq, Int.reduceBNe, Int.reduceBEq, q1, q2, q3, q4, q5, q6, q7])) | (with_reducible refine And.intro ?_ ?_; (focus (first | omega | (intros; (repeat' (with_reducible apply And.intro)) <;> first | omega | (simp only [List.length_map]; omega))))) | (with_reducible apply And.intro) | ((first | refine Pu.to (p55 t hl) (wkL_refl _) ?_ | refine callDV_pu (p55 t hl) (wkL_refl _) ?_); (try simp only [↓R1, R2, R3, R4, R5, Nat.reduceEqDiff, Nat.reduceAdd, Nat.reduceMul, Nat.reduceSub, Nat.reduceLeDiff, Nat.reduceLT, reduceIte, reduceCtorEq, Int.reduceBNe, Int.reduceBEq, q1, q2, q3, q4, q5, q6, q7])))
  (refine endP_pu (by simp) (by first | (simp [rvsS, rvS]; done) | (simp only [rvsS, rvS, ↓R1, R2, R3, R4, R5, Nat.reduceEqDiff, Nat.reduceAdd, Nat.reduceMul, Nat.reduceSub, Nat.reduceLeDiff, Nat.reduceLT, reduceIte, reduceCtorEq, Int.reduceBNe, Int.reduceBEq, q1, q2, q3, q4, q5, q6, q7]; try simp)) (wk_of_eq ?_) (by (repeat (first | exact St.le_refl _ | (refine St.le_new ?_ (by assumption)) | (refine St.le_newT ?_ (by assumption))))))
  (simp only [resAV, rvV, List.map_cons, List.map_nil, ↓R1, R2, R3, R4, R5, Nat.reduceEqDiff, Nat.reduceAdd, Nat.reduceMul, Nat.reduceSub, Nat.reduceLeDiff, Nat.reduceLT, reduceIte, reduceCtorEq, Int.reduceBNe, Int.reduceBEq, q1, q2, q3, q4, q5, q6, q7])
/-- Are the digits behind a sign nothing but 0? -/
theorem foldl_ge (l : List UInt8) (v : Nat) : v ≤ l.foldl (fun v b => 10 * v + (b.toNat - 48)) v := by
  induction l generalizing v with
  | nil => exact Nat.le_refl _
  | cons b l ih => exact Nat.le_trans (by omega) (ih (10 * v + (b.toNat - 48)))
def signV (q : Bool) (t : List UInt8) : AV :=
  bif (q || !digOk (absS t)) || (negS t && decide (valN (absS t) = 0)) then .tup [.int .i64 0, .int .i64 3]
  else bif (decide (18446744073709551616 ≤ valN (absS t)) || decide (9223372036854775808 < valN (absS t))) || (decide (valN (absS t) = 9223372036854775808) && !negS t) then .tup [.int .i64 0, .int .i64 2]
  else .tup [.int .i64 (bif negS t then -((valN (absS t) : Nat) : Int) else ((valN (absS t) : Nat) : Int)), .int .i64 0]
set_option maxHeartbeats 4000000 in
theorem p21 (q : Bool) (t : List UInt8) (a : Int) (hl : t.length ≤ 1000000) : Pu Tryd.prog 21 [.agg [.bool q, .str t, .int .i64 a]] (signV q t) := by
  have q1 : True := trivial
  have q2 : True := trivial
  have q3 : True := trivial
  have q4 : True := trivial
  have q5 : True := trivial
  have q6 : True := trivial
  have q7 : True := trivial
  have hal : (absS t).length ≤ 1000000 := by
    unfold absS
    cases negS t <;> simp <;> omega
  have hcp := p45 t hl
  have hp := p43 (absS t) hal
  cases hd : digOk (absS t) with
  | false =>
    simp only [natV, hd, cond_false] at hp
    simp only [signV, hd, Bool.not_false, Bool.or_true, Bool.true_or, cond_true]
    (refine Pu_intro c21 b21 (Nat.le_of_ble_eq_true rfl) fun σ => ?_; simp only [c21, ↓R1, R2, R3, R4, R5, Nat.reduceEqDiff, Nat.reduceAdd, Nat.reduceMul, Nat.reduceSub, Nat.reduceLeDiff, Nat.reduceLT, reduceIte, reduceCtorEq, Int.reduceBNe, Int.reduceBEq, q1, q2, q3, q4, q5, q6, q7])
    repeat' (first | (with_reducible rw [allocV_eq]) | (refine gdV_split (fun hc => ?_) (fun hc => ?_) <;> (try simp only [hc, ↓R1, R2, R3, R4, R5, Nat.reduceEqDiff, Nat.reduceAdd, Nat.reduceMul, Nat.reduceSub, Nat.reduceLeDiff, Nat.reduceLT, reduceIte, reduceCtorEq, Int.reduceBNe, Int.reduceBEq, q1, q2, q3, q4, q5, q6, q7])) | ((first | refine condV_split (fun hc => ?_) (fun hc => ?_) | (with_reducible intro β hβ; (try simp only [St.box_noneA, St.tip_noneA, St.tip_set, St.box_tip, St.box_lp, St.tip_lp] at hβ); (repeat (obtain ⟨⟨_, _⟩, hβ⟩ := hβ)); (try (have hbis := apart_is (by assumption) hβ; obtain ⟨_, _⟩ := hbis)))) <;> (try simp only [↓R1, R2, R3, R4, R5, Nat.reduceEqDiff, Nat.reduceAdd, Nat.reduceMul, Nat.reduceSub, Nat.reduceLeDiff, Nat.reduceLT, reduceIte, reduceCtorEq, Int.reduceBNe, Int.reduceBEq, q1, q2, q3, q4, q5, q6, q7])) | (with_reducible refine And.intro ?_ ?_; (focus (first | omega | (intros; (repeat' (with_reducible apply And.intro)) <;> first | omega | (simp only [List.length_map]; omega))))) | (with_reducible apply And.intro) | ((first | refine Pu.to (hcp) (wkL_refl _) ?_ | refine callDV_pu (hcp) (wkL_refl _) ?_ | refine Pu.to (hp) (wkL_refl _) ?_ | refine callDV_pu (hp) (wkL_refl _) ?_); (try simp only [↓R1, R2, R3, R4, R5, Nat.reduceEqDiff, Nat.reduceAdd, Nat.reduceMul, Nat.reduceSub, Nat.reduceLeDiff, Nat.reduceLT, reduceIte, reduceCtorEq, Int.reduceBNe, Int.reduceBEq, q1, q2, q3, q4, q5, q6, q7])))
    (refine endP_pu (by simp) (by first | (simp [rvsS, rvS]; done) | (simp only [rvsS, rvS, ↓R1, R2, R3, R4, R5, Nat.reduceEqDiff, Nat.reduceAdd, Nat.reduceMul, Nat.reduceSub, Nat.reduceLeDiff, Nat.reduceLT, reduceIte, reduceCtorEq, Int.reduceBNe, Int.reduceBEq, q1, q2, q3, q4, q5, q6, q7]; try simp)) (wk_of_eq ?_) (by (repeat (first | exact St.le_refl _ | (refine St.le_new ?_ (by assumption)) | (refine St.le_newT ?_ (by assumption))))))
    (simp only [resAV, rvV, List.map_cons, List.map_nil, ↓R1, R2, R3, R4, R5, Nat.reduceEqDiff, Nat.reduceAdd, Nat.reduceMul, Nat.reduceSub, Nat.reduceLeDiff, Nat.reduceLT, reduceIte, reduceCtorEq, Int.reduceBNe, Int.reduceBEq, q1, q2, q3, q4, q5, q6, q7])
  | true =>
    simp only [natV, hd, cond_true] at hp
    cases q with
    | true =>
      simp only [signV, Bool.true_or, cond_true]
      (refine Pu_intro c21 b21 (Nat.le_of_ble_eq_true rfl) fun σ => ?_; simp only [c21, ↓R1, R2, R3, R4, R5, Nat.reduceEqDiff, Nat.reduceAdd, Nat.reduceMul, Nat.reduceSub, Nat.reduceLeDiff, Nat.reduceLT, reduceIte, reduceCtorEq, Int.reduceBNe, Int.reduceBEq, q1, q2, q3, q4, q5, q6, q7])
      repeat' (first | (with_reducible rw [allocV_eq]) | (refine gdV_split (fun hc => ?_) (fun hc => ?_) <;> (try simp only [hc, ↓R1, R2, R3, R4, R5, Nat.reduceEqDiff, Nat.reduceAdd, Nat.reduceMul, Nat.reduceSub, Nat.reduceLeDiff, Nat.reduceLT, reduceIte, reduceCtorEq, Int.reduceBNe, Int.reduceBEq, q1, q2, q3, q4, q5, q6, q7])) | ((first | refine condV_split (fun hc => ?_) (fun hc => ?_) | (with_reducible intro β hβ; (try simp only [St.box_noneA, St.tip_noneA, St.tip_set, St.box_tip, St.box_lp, St.tip_lp] at hβ); (repeat (obtain ⟨⟨_, _⟩, hβ⟩ := hβ)); (try (have hbis := apart_is (by assumption) hβ; obtain ⟨_, _⟩ := hbis)))) <;> (try simp only [↓R1, R2, R3, R4, R5, Nat.reduceEqDiff, Nat.reduceAdd, Nat.reduceMul, Nat.reduceSub, Nat.reduceLeDiff, Nat.reduceLT, reduceIte, reduceCtorEq, Int.reduceBNe, Int.reduceBEq, q1, q2, q3, q4, q5, q6, q7])) | (with_reducible refine And.intro ?_ ?_; (focus (first | omega | (intros; (repeat' (with_reducible apply And.intro)) <;> first | omega | (simp only [List.length_map]; omega))))) | (with_reducible apply And.intro) | ((first | refine Pu.to (hcp) (wkL_refl _) ?_ | refine callDV_pu (hcp) (wkL_refl _) ?_ | refine Pu.to (hp) (wkL_refl _) ?_ | refine callDV_pu (hp) (wkL_refl _) ?_); (try simp only [↓R1, R2, R3, R4, R5, Nat.reduceEqDiff, Nat.reduceAdd, Nat.reduceMul, Nat.reduceSub, Nat.reduceLeDiff, Nat.reduceLT, reduceIte, reduceCtorEq, Int.reduceBNe, Int.reduceBEq, q1, q2, q3, q4, q5, q6, q7])))
      (refine endP_pu (by simp) (by first | (simp [rvsS, rvS]; done) | (simp only [rvsS, rvS, ↓R1, R2, R3, R4, R5, Nat.reduceEqDiff, Nat.reduceAdd, Nat.reduceMul, Nat.reduceSub, Nat.reduceLeDiff, Nat.reduceLT, reduceIte, reduceCtorEq, Int.reduceBNe, Int.reduceBEq, q1, q2, q3, q4, q5, q6, q7]; try simp)) (wk_of_eq ?_) (by (repeat (first | exact St.le_refl _ | (refine St.le_new ?_ (by assumption)) | (refine St.le_newT ?_ (by assumption))))))
      (simp only [resAV, rvV, List.map_cons, List.map_nil, ↓R1, R2, R3, R4, R5, Nat.reduceEqDiff, Nat.reduceAdd, Nat.reduceMul, Nat.reduceSub, Nat.reduceLeDiff, Nat.reduceLT, reduceIte, reduceCtorEq, Int.reduceBNe, Int.reduceBEq, q1, q2, q3, q4, q5, q6, q7])
    | false =>
      simp only [signV, hd, Bool.not_true, Bool.or_false, Bool.false_or]
      obtain ⟨V, hV⟩ : ∃ V, valN (absS t) = V := ⟨_, rfl⟩
      rw [hV] at hp ⊢
      by_cases hg : 18446744073709551616 ≤ V
      · have h0 : decide (V = 0) = false := by rw [decide_eq_false_iff_not]; omega
        have q1 : decide (18446744073709551616 ≤ V) = true := by rw [decide_eq_true_eq]; omega
        rw [q1] at hp
        rw [h0, q1]
        simp only [Bool.and_false, Bool.true_or, cond_false, cond_true]
        (refine Pu_intro c21 b21 (Nat.le_of_ble_eq_true rfl) fun σ => ?_; simp only [c21, ↓R1, R2, R3, R4, R5, Nat.reduceEqDiff, Nat.reduceAdd, Nat.reduceMul, Nat.reduceSub, Nat.reduceLeDiff, Nat.reduceLT, reduceIte, reduceCtorEq, Int.reduceBNe, Int.reduceBEq, q1, q2, q3, q4, q5, q6, q7])
        repeat' (first | (with_reducible rw [allocV_eq]) | (refine gdV_split (fun hc => ?_) (fun hc => ?_) <;> (try simp only [hc, ↓R1, R2, R3, R4, R5, Nat.reduceEqDiff, Nat.reduceAdd, Nat.reduceMul, Nat.reduceSub, Nat.reduceLeDiff, Nat.reduceLT, reduceIte, reduceCtorEq, Int.reduceBNe, Int.reduceBEq, q1, q2, q3, q4, q5, q6, q7])) | ((first | refine condV_split (fun hc => ?_) (fun hc => ?_) | (with_reducible intro β hβ; (try simp only [St.box_noneA, St.tip_noneA, St.tip_set, St.box_tip, St.box_lp, St.tip_lp] at hβ); (repeat (obtain ⟨⟨_, _⟩, hβ⟩ := hβ)); (try (have hbis := apart_is (by assumption) hβ; obtain ⟨_, _⟩ := hbis)))) <;> (try simp only [↓R1, R2, R3, R4, R5, Nat.reduceEqDiff, Nat.reduceAdd, Nat.reduceMul, Nat.reduceSub, Nat.reduceLeDiff, Nat.reduceLT, reduceIte, reduceCtorEq, Int.reduceBNe, Int.reduceBEq, q1, q2, q3, q4, q5, q6, q7])) | (with_reducible refine And.intro ?_ ?_; (focus (first | omega | (intros; (repeat' (with_reducible apply And.intro)) <;> first | omega | (simp only [List.length_map]; omega))))) | (with_reducible apply And.intro) | ((first | refine Pu.to (hcp) (wkL_refl _) ?_ | refine callDV_pu (hcp) (wkL_refl _) ?_ | refine Pu.to (hp) (wkL_refl _) ?_ | refine callDV_pu (hp) (wkL_refl _) ?_); (try simp only [↓R1, R2, R3, R4, R5, Nat.reduceEqDiff, Nat.reduceAdd, Nat.reduceMul, Nat.reduceSub, Nat.reduceLeDiff, Nat.reduceLT, reduceIte, reduceCtorEq, Int.reduceBNe, Int.reduceBEq, q1, q2, q3, q4, q5, q6, q7])))
        refine endP_pu (by simp) (by first | (simp [rvsS, rvS]; done) | (simp only [rvsS, rvS, ↓R1, R2, R3, R4, R5, Nat.reduceEqDiff, Nat.reduceAdd, Nat.reduceMul, Nat.reduceSub, Nat.reduceLeDiff, Nat.reduceLT, reduceIte, reduceCtorEq, Int.reduceBNe, Int.reduceBEq, q1, q2, q3, q4, q5, q6, q7]; try simp)) (wk_of_eq (by (simp only [resAV, rvV, List.map_cons, List.map_nil, ↓R1, R2, R3, R4, R5, Nat.reduceEqDiff, Nat.reduceAdd, Nat.reduceMul, Nat.reduceSub, Nat.reduceLeDiff, Nat.reduceLT, reduceIte, reduceCtorEq, Int.reduceBNe, Int.reduceBEq, q1, q2, q3, q4, q5, q6, q7]))) (St.le_setBox (St.le_refl _) hβ)
      · have q1 : decide (18446744073709551616 ≤ V) = false := by rw [decide_eq_false_iff_not]; omega
        rw [q1, Nat.mod_eq_of_lt (by omega)] at hp
        rw [q1]
        have h0 : ((V : Int) == 0) = decide (V = 0) := by rw [Bool.eq_iff_iff]; simp
        have h1 : decide ((9223372036854775808 : Int) < (V : Int)) = decide (9223372036854775808 < V) := by rw [Bool.eq_iff_iff]; simp; omega
        have h2 : ((V : Int) == 9223372036854775808) = decide (V = 9223372036854775808) := by rw [Bool.eq_iff_iff]; simp; omega
        cases hn : negS t with
        | true =>
          rw [hn] at hcp
          have h3 : ∀ (hv : V ≤ 9223372036854775808), IntKind.i64.wrap (0 - IntKind.i64.wrap (V : Int)) = -(V : Int) := fun hv => by
            simp [IntKind.wrap, IntKind.signed, IntKind.bits]; omega
          by_cases hz : V = 0
          · have q2 : ((V : Int) == 0) = true := by rw [h0, decide_eq_true_eq]; exact hz
            have z : decide (V = 0) = true := by rw [decide_eq_true_eq]; exact hz
            rw [z]
            simp only [Bool.and_true, cond_true]
            (refine Pu_intro c21 b21 (Nat.le_of_ble_eq_true rfl) fun σ => ?_; simp only [c21, ↓R1, R2, R3, R4, R5, Nat.reduceEqDiff, Nat.reduceAdd, Nat.reduceMul, Nat.reduceSub, Nat.reduceLeDiff, Nat.reduceLT, reduceIte, reduceCtorEq, Int.reduceBNe, Int.reduceBEq, q1, q2, q3, q4, q5, q6, q7])
            repeat' (first | (with_reducible rw [allocV_eq]) | (refine gdV_split (fun hc => ?_) (fun hc => ?_) <;> (try simp only [hc, ↓R1, R2, R3, R4, R5, Nat.reduceEqDiff, Nat.reduceAdd, Nat.reduceMul, Nat.reduceSub, Nat.reduceLeDiff, Nat.reduceLT, reduceIte, reduceCtorEq, Int.reduceBNe, Int.reduceBEq, q1, q2, q3, q4, q5, q6, q7])) | ((first | refine condV_split (fun hc => ?_) (fun hc => ?_) | (with_reducible intro β hβ; (try simp only [St.box_noneA, St.tip_noneA, St.tip_set, St.box_tip, St.box_lp, St.tip_lp] at hβ); (repeat (obtain ⟨⟨_, _⟩, hβ⟩ := hβ)); (try (have hbis := apart_is (by assumption) hβ; obtain ⟨_, _⟩ := hbis)))) <;> (try simp only [↓R1, R2, R3, R4, R5, Nat.reduceEqDiff, Nat.reduceAdd, Nat.reduceMul, Nat.reduceSub, Nat.reduceLeDiff, Nat.reduceLT, reduceIte, reduceCtorEq, Int.reduceBNe, Int.reduceBEq, q1, q2, q3, q4, q5, q6, q7])) | (with_reducible refine And.intro ?_ ?_; (focus (first | omega | (intros; (repeat' (with_reducible apply And.intro)) <;> first | omega | (simp only [List.length_map]; omega))))) | (with_reducible apply And.intro) | ((first | refine Pu.to (hcp) (wkL_refl _) ?_ | refine callDV_pu (hcp) (wkL_refl _) ?_ | refine Pu.to (hp) (wkL_refl _) ?_ | refine callDV_pu (hp) (wkL_refl _) ?_); (try simp only [↓R1, R2, R3, R4, R5, Nat.reduceEqDiff, Nat.reduceAdd, Nat.reduceMul, Nat.reduceSub, Nat.reduceLeDiff, Nat.reduceLT, reduceIte, reduceCtorEq, Int.reduceBNe, Int.reduceBEq, q1, q2, q3, q4, q5, q6, q7])))
            refine endP_pu (by simp) (by first | (simp [rvsS, rvS]; done) | (simp only [rvsS, rvS, ↓R1, R2, R3, R4, R5, Nat.reduceEqDiff, Nat.reduceAdd, Nat.reduceMul, Nat.reduceSub, Nat.reduceLeDiff, Nat.reduceLT, reduceIte, reduceCtorEq, Int.reduceBNe, Int.reduceBEq, q1, q2, q3, q4, q5, q6, q7]; try simp)) (wk_of_eq (by (simp only [resAV, rvV, List.map_cons, List.map_nil, ↓R1, R2, R3, R4, R5, Nat.reduceEqDiff, Nat.reduceAdd, Nat.reduceMul, Nat.reduceSub, Nat.reduceLeDiff, Nat.reduceLT, reduceIte, reduceCtorEq, Int.reduceBNe, Int.reduceBEq, q1, q2, q3, q4, q5, q6, q7]))) (St.le_setBox (St.le_refl _) hβ)
          · have q2 : ((V : Int) == 0) = false := by rw [h0, decide_eq_false_iff_not]; exact hz
            have z : decide (V = 0) = false := by rw [decide_eq_false_iff_not]; exact hz
            rw [z]
            simp only [Bool.and_false, cond_false, Bool.not_true, Bool.or_false, Bool.false_or]
            by_cases hb : 9223372036854775808 < V
            · have q3 : decide ((9223372036854775808 : Int) < (V : Int)) = true := by rw [h1, decide_eq_true_eq]; exact hb
              have z2 : decide (9223372036854775808 < V) = true := by rw [decide_eq_true_eq]; exact hb
              rw [z2]
              simp only [cond_true]
              (refine Pu_intro c21 b21 (Nat.le_of_ble_eq_true rfl) fun σ => ?_; simp only [c21, ↓R1, R2, R3, R4, R5, Nat.reduceEqDiff, Nat.reduceAdd, Nat.reduceMul, Nat.reduceSub, Nat.reduceLeDiff, Nat.reduceLT, reduceIte, reduceCtorEq, Int.reduceBNe, Int.reduceBEq, q1, q2, q3, q4, q5, q6, q7])
              repeat' (first | (with_reducible rw [allocV_eq]) | (refine gdV_split (fun hc => ?_) (fun hc => ?_) <;> (try simp only [hc, ↓R1, R2, R3, R4, R5, Nat.reduceEqDiff, Nat.reduceAdd, Nat.reduceMul, Nat.reduceSub, Nat.reduceLeDiff, Nat.reduceLT, reduceIte, reduceCtorEq, Int.reduceBNe, Int.reduceBEq, q1, q2, q3, q4, q5, q6, q7])) | ((first | refine condV_split (fun hc => ?_) (fun hc => ?_) | (with_reducible intro β hβ; (try simp only [St.box_noneA, St.tip_noneA, St.tip_set, St.box_tip, St.box_lp, St.tip_lp] at hβ); (repeat (obtain ⟨⟨_, _⟩, hβ⟩ := hβ)); (try (have hbis := apart_is (by assumption) hβ; obtain ⟨_, _⟩ := hbis)))) <;> (try simp only [↓R1, R2, R3, R4, R5, Nat.reduceEqDiff, Nat.reduceAdd, Nat.reduceMul, Nat.reduceSub, Nat.reduceLeDiff, Nat.reduceLT, reduceIte, reduceCtorEq, Int.reduceBNe, Int.reduceBEq, q1, q2, q3, q4, q5, q6, q7])) | (with_reducible refine And.intro ?_ ?_; (focus (first | omega | (intros; (repeat' (with_reducible apply And.intro)) <;> first | omega | (simp only [List.length_map]; omega))))) | (with_reducible apply And.intro) | ((first | refine Pu.to (hcp) (wkL_refl _) ?_ | refine callDV_pu (hcp) (wkL_refl _) ?_ | refine Pu.to (hp) (wkL_refl _) ?_ | refine callDV_pu (hp) (wkL_refl _) ?_); (try simp only [↓R1, R2, R3, R4, R5, Nat.reduceEqDiff, Nat.reduceAdd, Nat.reduceMul, Nat.reduceSub, Nat.reduceLeDiff, Nat.reduceLT, reduceIte, reduceCtorEq, Int.reduceBNe, Int.reduceBEq, q1, q2, q3, q4, q5, q6, q7])))
              refine endP_pu (by simp) (by first | (simp [rvsS, rvS]; done) | (simp only [rvsS, rvS, ↓R1, R2, R3, R4, R5, Nat.reduceEqDiff, Nat.reduceAdd, Nat.reduceMul, Nat.reduceSub, Nat.reduceLeDiff, Nat.reduceLT, reduceIte, reduceCtorEq, Int.reduceBNe, Int.reduceBEq, q1, q2, q3, q4, q5, q6, q7]; try simp)) (wk_of_eq (by (simp only [resAV, rvV, List.map_cons, List.map_nil, ↓R1, R2, R3, R4, R5, Nat.reduceEqDiff, Nat.reduceAdd, Nat.reduceMul, Nat.reduceSub, Nat.reduceLeDiff, Nat.reduceLT, reduceIte, reduceCtorEq, Int.reduceBNe, Int.reduceBEq, q1, q2, q3, q4, q5, q6, q7]))) (St.le_setBox (St.le_refl _) hβ)
            · have q3 : decide ((9223372036854775808 : Int) < (V : Int)) = false := by rw [h1, decide_eq_false_iff_not]; exact hb
              have z2 : decide (9223372036854775808 < V) = false := by rw [decide_eq_false_iff_not]; exact hb
              have q4 := h3 (by omega)
              rw [z2]
              simp only [cond_false, cond_true]
              (refine Pu_intro c21 b21 (Nat.le_of_ble_eq_true rfl) fun σ => ?_; simp only [c21, ↓R1, R2, R3, R4, R5, Nat.reduceEqDiff, Nat.reduceAdd, Nat.reduceMul, Nat.reduceSub, Nat.reduceLeDiff, Nat.reduceLT, reduceIte, reduceCtorEq, Int.reduceBNe, Int.reduceBEq, q1, q2, q3, q4, q5, q6, q7])
              repeat' (first | (with_reducible rw [allocV_eq]) | (refine gdV_split (fun hc => ?_) (fun hc => ?_) <;> (try simp only [hc, ↓R1, R2, R3, R4, R5, Nat.reduceEqDiff, Nat.reduceAdd, Nat.reduceMul, Nat.reduceSub, Nat.reduceLeDiff, Nat.reduceLT, reduceIte, reduceCtorEq, Int.reduceBNe, Int.reduceBEq, q1, q2, q3, q4, q5, q6, q7])) | ((first | refine condV_split (fun hc => ?_) (fun hc => ?_) | (with_reducible intro β hβ; (try simp only [St.box_noneA, St.tip_noneA, St.tip_set, St.box_tip, St.box_lp, St.tip_lp] at hβ); (repeat (obtain ⟨⟨_, _⟩, hβ⟩ := hβ)); (try (have hbis := apart_is (by assumption) hβ; obtain ⟨_, _⟩ := hbis)))) <;> (try simp only [↓R1, R2, R3, R4, R5, Nat.reduceEqDiff, Nat.reduceAdd, Nat.reduceMul, Nat.reduceSub, Nat.reduceLeDiff, Nat.reduceLT, reduceIte, reduceCtorEq, Int.reduceBNe, Int.reduceBEq, q1, q2, q3, q4, q5, q6, q7])) | (with_reducible refine And.intro ?_ ?_; (focus (first | omega | (intros; (repeat' (with_reducible apply And.intro)) <;> first | omega | (simp only [List.length_map]; omega))))) | (with_reducible apply And.intro) | ((first | refine Pu.to (hcp) (wkL_refl _) ?_ | refine callDV_pu (hcp) (wkL_refl _) ?_ | refine Pu.to (hp) (wkL_refl _) ?_ | refine callDV_pu (hp) (wkL_refl _) ?_); (try simp only [↓R1, R2, R3, R4, R5, Nat.reduceEqDiff, Nat.reduceAdd, Nat.reduceMul, Nat.reduceSub, Nat.reduceLeDiff, Nat.reduceLT, reduceIte, reduceCtorEq, Int.reduceBNe, Int.reduceBEq, q1, q2, q3, q4, q5, q6, q7])))
              refine endP_pu (by simp) (by first | (simp [rvsS, rvS]; done) | (simp only [rvsS, rvS, ↓R1, R2, R3, R4, R5, Nat.reduceEqDiff, Nat.reduceAdd, Nat.reduceMul, Nat.reduceSub, Nat.reduceLeDiff, Nat.reduceLT, reduceIte, reduceCtorEq, Int.reduceBNe, Int.reduceBEq, q1, q2, q3, q4, q5, q6, q7]; try simp)) (wk_of_eq (by (simp only [resAV, rvV, List.map_cons, List.map_nil, ↓R1, R2, R3, R4, R5, Nat.reduceEqDiff, Nat.reduceAdd, Nat.reduceMul, Nat.reduceSub, Nat.reduceLeDiff, Nat.reduceLT, reduceIte, reduceCtorEq, Int.reduceBNe, Int.reduceBEq, q1, q2, q3, q4, q5, q6, q7]))) (St.le_setBox (St.le_refl _) hβ)
        | false =>
          rw [hn] at hcp
          have h3 : ∀ (hv : V < 9223372036854775808), IntKind.i64.wrap (V : Int) = (V : Int) := fun hv => by
            simp [IntKind.wrap, IntKind.signed, IntKind.bits]; omega
          simp only [Bool.false_and, cond_false, Bool.not_false, Bool.and_true, Bool.false_or]
          by_cases hb : 9223372036854775808 < V
          · have q3 : decide ((9223372036854775808 : Int) < (V : Int)) = true := by rw [h1, decide_eq_true_eq]; exact hb
            have z2 : decide (9223372036854775808 < V) = true := by rw [decide_eq_true_eq]; exact hb
            rw [z2]
            simp only [Bool.true_or, cond_true]
            (refine Pu_intro c21 b21 (Nat.le_of_ble_eq_true rfl) fun σ => ?_; simp only [c21, ↓R1, R2, R3, R4, R5, Nat.reduceEqDiff, Nat.reduceAdd, Nat.reduceMul, Nat.reduceSub, Nat.reduceLeDiff, Nat.reduceLT, reduceIte, reduceCtorEq, Int.reduceBNe, Int.reduceBEq, q1, q2, q3, q4, q5, q6, q7])
            repeat' (first | (with_reducible rw [allocV_eq]) | (refine gdV_split (fun hc => ?_) (fun hc => ?_) <;> (try simp only [hc, ↓R1, R2, R3, R4, R5, Nat.reduceEqDiff, Nat.reduceAdd, Nat.reduceMul, Nat.reduceSub, Nat.reduceLeDiff, Nat.reduceLT, reduceIte, reduceCtorEq, Int.reduceBNe, Int.reduceBEq, q1, q2, q3, q4, q5, q6, q7])) | ((first | refine condV_split (fun hc => ?_) (fun hc => ?_) | (with_reducible intro β hβ; (try simp only [St.box_noneA, St.tip_noneA, St.tip_set, St.box_tip, St.box_lp, St.tip_lp] at hβ); (repeat (obtain ⟨⟨_, _⟩, hβ⟩ := hβ)); (try (have hbis := apart_is (by assumption) hβ; obtain ⟨_, _⟩ := hbis)))) <;> (try simp only [↓R1, R2, R3, R4, R5, Nat.reduceEqDiff, Nat.reduceAdd, Nat.reduceMul, Nat.reduceSub, Nat.reduceLeDiff, Nat.reduceLT, reduceIte, reduceCtorEq, Int.reduceBNe, Int.reduceBEq, q1, q2, q3, q4, q5, q6, q7])) | (with_reducible refine And.intro ?_ ?_; (focus (first | omega | (intros; (repeat' (with_reducible apply And.intro)) <;> first | omega | (simp only [List.length_map]; omega))))) | (with_reducible apply And.intro) | ((first | refine Pu.to (hcp) (wkL_refl _) ?_ | refine callDV_pu (hcp) (wkL_refl _) ?_ | refine Pu.to (hp) (wkL_refl _) ?_ | refine callDV_pu (hp) (wkL_refl _) ?_); (try simp only [↓R1, R2, R3, R4, R5, Nat.reduceEqDiff, Nat.reduceAdd, Nat.reduceMul, Nat.reduceSub, Nat.reduceLeDiff, Nat.reduceLT, reduceIte, reduceCtorEq, Int.reduceBNe, Int.reduceBEq, q1, q2, q3, q4, q5, q6, q7])))
            refine endP_pu (by simp) (by first | (simp [rvsS, rvS]; done) | (simp only [rvsS, rvS, ↓R1, R2, R3, R4, R5, Nat.reduceEqDiff, Nat.reduceAdd, Nat.reduceMul, Nat.reduceSub, Nat.reduceLeDiff, Nat.reduceLT, reduceIte, reduceCtorEq, Int.reduceBNe, Int.reduceBEq, q1, q2, q3, q4, q5, q6, q7]; try simp)) (wk_of_eq (by (simp only [resAV, rvV, List.map_cons, List.map_nil, ↓R1, R2, R3, R4, R5, Nat.reduceEqDiff, Nat.reduceAdd, Nat.reduceMul, Nat.reduceSub, Nat.reduceLeDiff, Nat.reduceLT, reduceIte, reduceCtorEq, Int.reduceBNe, Int.reduceBEq, q1, q2, q3, q4, q5, q6, q7]))) (St.le_setBox (St.le_refl _) hβ)
          · have q3 : decide ((9223372036854775808 : Int) < (V : Int)) = false := by rw [h1, decide_eq_false_iff_not]; exact hb
            have z2 : decide (9223372036854775808 < V) = false := by rw [decide_eq_false_iff_not]; exact hb
            rw [z2]
            simp only [Bool.false_or]
            by_cases he : V = 9223372036854775808
            · have q5 : ((V : Int) == 9223372036854775808) = true := by rw [h2, decide_eq_true_eq]; exact he
              have z3 : decide (V = 9223372036854775808) = true := by rw [decide_eq_true_eq]; exact he
              rw [z3]
              simp only [cond_true]
              (refine Pu_intro c21 b21 (Nat.le_of_ble_eq_true rfl) fun σ => ?_; simp only [c21, ↓R1, R2, R3, R4, R5, Nat.reduceEqDiff, Nat.reduceAdd, Nat.reduceMul, Nat.reduceSub, Nat.reduceLeDiff, Nat.reduceLT, reduceIte, reduceCtorEq, Int.reduceBNe, Int.reduceBEq, q1, q2, q3, q4, q5, q6, q7])
              repeat' (first | (with_reducible rw [allocV_eq]) | (refine gdV_split (fun hc => ?_) (fun hc => ?_) <;> (try simp only [hc, ↓R1, R2, R3, R4, R5, Nat.reduceEqDiff, Nat.reduceAdd, Nat.reduceMul, Nat.reduceSub, Nat.reduceLeDiff, Nat.reduceLT, reduceIte, reduceCtorEq, Int.reduceBNe, Int.reduceBEq, q1, q2, q3, q4, q5, q6, q7])) | ((first | refine condV_split (fun hc => ?_) (fun hc => ?_) | (with_reducible intro β hβ; (try simp only [St.box_noneA, St.tip_noneA, St.tip_set, St.box_tip, St.box_lp, St.tip_lp] at hβ); (repeat (obtain ⟨⟨_, _⟩, hβ⟩ := hβ)); (try (have hbis := apart_is (by assumption) hβ; obtain ⟨_, _⟩ := hbis)))) <;> (try simp only [↓R1, R2, R3, R4, R5, Nat.reduceEqDiff, Nat.reduceAdd, Nat.reduceMul, Nat.reduceSub, Nat.reduceLeDiff, Nat.reduceLT, reduceIte, reduceCtorEq, Int.reduceBNe, Int.reduceBEq, q1, q2, q3, q4, q5, q6, q7])) | (with_reducible refine And.intro ?_ ?_; (focus (first | omega | (intros; (repeat' (with_reducible apply And.intro)) <;> first | omega | (simp only [List.length_map]; omega))))) | (with_reducible apply And.intro) | ((first | refine Pu.to (hcp) (wkL_refl _) ?_ | refine callDV_pu (hcp) (wkL_refl _) ?_ | refine Pu.to (hp) (wkL_refl _) ?_ | refine callDV_pu (hp) (wkL_refl _) ?_); (try simp only [↓R1, R2, R3, R4, R5, Nat.reduceEqDiff, Nat.reduceAdd, Nat.reduceMul, Nat.reduceSub, Nat.reduceLeDiff, Nat.reduceLT, reduceIte, reduceCtorEq, Int.reduceBNe, Int.reduceBEq, q1, q2, q3, q4, q5, q6, q7])))
              refine endP_pu (by simp) (by first | (simp [rvsS, rvS]; done) | (simp only [rvsS, rvS, ↓R1, R2, R3, R4, R5, Nat.reduceEqDiff, Nat.reduceAdd, Nat.reduceMul, Nat.reduceSub, Nat.reduceLeDiff, Nat.reduceLT, reduceIte, reduceCtorEq, Int.reduceBNe, Int.reduceBEq, q1, q2, q3, q4, q5, q6, q7]; try simp)) (wk_of_eq (by (simp only [resAV, rvV, List.map_cons, List.map_nil, ↓R1, R2, R3, R4, R5, Nat.reduceEqDiff, Nat.reduceAdd, Nat.reduceMul, Nat.reduceSub, Nat.reduceLeDiff, Nat.reduceLT, reduceIte, reduceCtorEq, Int.reduceBNe, Int.reduceBEq, q1, q2, q3, q4, q5, q6, q7]))) (St.le_setBox (St.le_refl _) hβ)
            · have q5 : ((V : Int) == 9223372036854775808) = false := by rw [h2, decide_eq_false_iff_not]; exact he
              have z3 : decide (V = 9223372036854775808) = false := by rw [decide_eq_false_iff_not]; exact he
              have q4 := h3 (by omega)
              rw [z3]
              simp only [cond_false]
              (refine Pu_intro c21 b21 (Nat.le_of_ble_eq_true rfl) fun σ => ?_; simp only [c21, ↓R1, R2, R3, R4, R5, Nat.reduceEqDiff, Nat.reduceAdd, Nat.reduceMul, Nat.reduceSub, Nat.reduceLeDiff, Nat.reduceLT, reduceIte, reduceCtorEq, Int.reduceBNe, Int.reduceBEq, q1, q2, q3, q4, q5, q6, q7])
              repeat' (first | (with_reducible rw [allocV_eq]) | (refine gdV_split (fun hc => ?_) (fun hc => ?_) <;> (try simp only [hc, ↓R1, R2, R3, R4, R5, Nat.reduceEqDiff, Nat.reduceAdd, Nat.reduceMul, Nat.reduceSub, Nat.reduceLeDiff, Nat.reduceLT, reduceIte, reduceCtorEq, Int.reduceBNe, Int.reduceBEq, q1, q2, q3, q4, q5, q6, q7])) | ((first | refine condV_split (fun hc => ?_) (fun hc => ?_) | (with_reducible intro β hβ; (try simp only [St.box_noneA, St.tip_noneA, St.tip_set, St.box_tip, St.box_lp, St.tip_lp] at hβ); (repeat (obtain ⟨⟨_, _⟩, hβ⟩ := hβ)); (try (have hbis := apart_is (by assumption) hβ; obtain ⟨_, _⟩ := hbis)))) <;> (try simp only [↓R1, R2, R3, R4, R5, Nat.reduceEqDiff, Nat.reduceAdd, Nat.reduceMul, Nat.reduceSub, Nat.reduceLeDiff, Nat.reduceLT, reduceIte, reduceCtorEq, Int.reduceBNe, Int.reduceBEq, q1, q2, q3, q4, q5, q6, q7])) | (with_reducible refine And.intro ?_ ?_; (focus (first | omega | (intros; (repeat' (with_reducible apply And.intro)) <;> first | omega | (simp only [List.length_map]; omega))))) | (with_reducible apply And.intro) | ((first | refine Pu.to (hcp) (wkL_refl _) ?_ | refine callDV_pu (hcp) (wkL_refl _) ?_ | refine Pu.to (hp) (wkL_refl _) ?_ | refine callDV_pu (hp) (wkL_refl _) ?_); (try simp only [↓R1, R2, R3, R4, R5, Nat.reduceEqDiff, Nat.reduceAdd, Nat.reduceMul, Nat.reduceSub, Nat.reduceLeDiff, Nat.reduceLT, reduceIte, reduceCtorEq, Int.reduceBNe, Int.reduceBEq, q1, q2, q3, q4, q5, q6, q7])))
              refine endP_pu (by simp) (by first | (simp [rvsS, rvS]; done) | (simp only [rvsS, rvS, ↓R1, R2, R3, R4, R5, Nat.reduceEqDiff, Nat.reduceAdd, Nat.reduceMul, Nat.reduceSub, Nat.reduceLeDiff, Nat.reduceLT, reduceIte, reduceCtorEq, Int.reduceBNe, Int.reduceBEq, q1, q2, q3, q4, q5, q6, q7]; try simp)) (wk_of_eq (by (simp only [resAV, rvV, List.map_cons, List.map_nil, ↓R1, R2, R3, R4, R5, Nat.reduceEqDiff, Nat.reduceAdd, Nat.reduceMul, Nat.reduceSub, Nat.reduceLeDiff, Nat.reduceLT, reduceIte, reduceCtorEq, Int.reduceBNe, Int.reduceBEq, q1, q2, q3, q4, q5, q6, q7]))) (St.le_setBox (St.le_refl _) hβ)
end Go.Proofs.YtemddijemikleaaDoor
namespace Go.Proofs.YtemddijemikleaaDoor
open Go.Abs
set_option linter.all false
set_option maxRecDepth 100000
def dch (d : Nat) : UInt8 := UInt8.ofNat (48 + d)
def decS (n : Nat) : List UInt8 := if h : n < 10 then [dch n] else decS (n / 10) ++ [dch (n % 10)]
termination_by n
decreasing_by omega
theorem decS_lt {n : Nat} (h : n < 10) : decS n = [dch n] := by rw [decS, dif_pos h]
theorem decS_ge {n : Nat} (h : ¬ n < 10) : decS n = decS (n / 10) ++ [dch (n % 10)] := by rw [decS, dif_neg h]
theorem dch_nat {d : Nat} (h : d < 10) : (dch d).toNat = 48 + d := by
  simp only [dch, UInt8.toNat_ofNat']; omega
theorem valN_snoc (l : List UInt8) (c : UInt8) : valN (l ++ [c]) = 10 * valN l + (c.toNat - 48) := by
  rw [valN, List.foldl_append]; rfl
theorem valN_dec (n : Nat) : valN (decS n) = n := by
  induction n using Nat.strongRecOn with
  | ind n ih =>
    by_cases h : n < 10
    · rw [decS_lt h]
      show 10 * 0 + ((dch n).toNat - 48) = n
      rw [dch_nat h]; omega
    · rw [decS_ge h, valN_snoc, ih _ (by omega), dch_nat (by omega)]; omega
theorem dec_dig (n : Nat) : (decS n).all isDig = true := by
  have hd : ∀ d, d < 10 → isDig (dch d) = true := fun d h => isDig_iff.2 (by rw [dch_nat h]; omega)
  induction n using Nat.strongRecOn with
  | ind n ih =>
    by_cases h : n < 10
    · rw [decS_lt h]; simp [hd n h]
    · rw [decS_ge h, List.all_append, ih _ (by omega)]; simp [hd (n % 10) (by omega)]
theorem dec_len : ∀ (k n : Nat), n < 10 ^ (k + 1) → (decS n).length ≤ k + 1
  | 0, n, h => by rw [decS_lt (by omega)]; simp
  | k + 1, n, h => by
    by_cases h10 : n < 10
    · rw [decS_lt h10]; simp
    · rw [decS_ge h10, List.length_append]
      have := dec_len k (n / 10) (by rw [Nat.pow_succ] at h; omega)
      simp; omega
theorem dec_head (n : Nat) : ∃ c r, decS n = c :: r ∧ isDig c = true ∧ (0 < n → c ≠ 48) := by
  induction n using Nat.strongRecOn with
  | ind n ih =>
    have hall := dec_dig n
    by_cases h : n < 10
    · rw [decS_lt h] at hall ⊢
      simp only [List.all_cons, List.all_nil, Bool.and_true] at hall
      refine ⟨_, _, rfl, hall, fun h0 e => ?_⟩
      have := congrArg UInt8.toNat e
      rw [dch_nat h] at this
      have e48 : (48 : UInt8).toNat = 48 := rfl
      omega
    · obtain ⟨c, r, e, h1, h2⟩ := ih (n / 10) (by omega)
      rw [decS_ge h, e]
      exact ⟨c, _, rfl, h1, fun _ => h2 (by omega)⟩
theorem dec_ok {n : Nat} (h : n < 18446744073709551616) : digOk (decS n) = true := by
  obtain ⟨c, r, e, h1, h2⟩ := dec_head n
  have hl := dec_len 19 n (by omega)
  have hd := dec_dig n
  rw [digOk_eq, hd]
  have e1 : decide ((decS n).length ≤ 20) = true := by rw [decide_eq_true_eq]; exact hl
  have e2 : firstOk (decS n) = true := by
    by_cases h0 : 0 < n
    · rw [e]
      have : (c == 48) = false := by simpa using h2 h0
      simp only [firstOk, this, Bool.false_and]; rfl
    · have : n = 0 := by omega
      subst this
      rw [decS_lt (by omega)]; rfl
  rw [e1, e2]; rfl
theorem dec_neg (n : Nat) : negS (decS n) = false := by
  obtain ⟨c, r, e, h1, _⟩ := dec_head n
  rw [e]
  have : c ≠ 45 := by rintro rfl; revert h1; decide
  simp [negS, this]
theorem dec_abs (n : Nat) : absS (decS n) = decS n := by rw [absS, dec_neg]; rfl
theorem neg_abs (l : List UInt8) : negS (45 :: l) = true ∧ absS (45 :: l) = l := ⟨rfl, rfl⟩
theorem sign_pos {n : Nat} (h : n < 9223372036854775808) : signV false (decS n) = .tup [.int .i64 (n : Nat), .int .i64 0] := by
  have h1 : decide (18446744073709551616 ≤ n) = false := by rw [decide_eq_false_iff_not]; omega
  have h2 : decide (9223372036854775808 < n) = false := by rw [decide_eq_false_iff_not]; omega
  have h3 : decide (n = 9223372036854775808) = false := by rw [decide_eq_false_iff_not]; omega
  simp only [signV, dec_abs, dec_neg, dec_ok (show n < 18446744073709551616 by omega), valN_dec, h1, h2, h3, Bool.false_or, Bool.false_and, Bool.not_true, cond_false]
theorem sign_neg {n : Nat} (h0 : 0 < n) (h : n ≤ 9223372036854775808) : signV false (45 :: decS n) = .tup [.int .i64 (-(n : Nat)), .int .i64 0] := by
  have h1 : decide (18446744073709551616 ≤ n) = false := by rw [decide_eq_false_iff_not]; omega
  have h2 : decide (9223372036854775808 < n) = false := by rw [decide_eq_false_iff_not]; omega
  have h3 : decide (n = 0) = false := by rw [decide_eq_false_iff_not]; omega
  simp only [signV, (neg_abs _).1, (neg_abs _).2, dec_ok (show n < 18446744073709551616 by omega), valN_dec, h1, h2, h3, Bool.false_or, Bool.and_false, Bool.not_true, cond_false, cond_true]
theorem num_pos {n : Nat} (h : n < 18446744073709551616) : numV false (decS n) 0 18446744073709551615 = .tup [.int .u64 (n : Nat), .int .i64 0] := by
  have h1 : decide (18446744073709551616 ≤ n) = false := by rw [decide_eq_false_iff_not]; omega
  have h2 : decide (((n : Nat) : Int) < 0) = false := by rw [decide_eq_false_iff_not]; omega
  have h3 : decide ((18446744073709551615 : Int) < (n : Nat)) = false := by rw [decide_eq_false_iff_not]; omega
  simp only [numV, dec_ok h, valN_dec, Nat.mod_eq_of_lt h, h1, h2, h3, Bool.false_or, Bool.not_true, cond_false]
theorem num_neg (l : List UInt8) : numV false (45 :: l) 0 18446744073709551615 = .tup [.int .u64 0, .int .i64 3] := by
  have : digOk (45 :: l) = false := by
    rw [digOk_eq]
    have : (45 :: l : List UInt8).all isDig = false := by rw [List.all_cons, show isDig 45 = false from rfl]; rfl
    rw [this, Bool.and_false]
  simp only [numV, this, Bool.not_false, Bool.or_true, cond_true]
theorem valN_ge (l T : List UInt8) : valN l ≤ valN (l ++ T) := by
  rw [valN, valN, List.foldl_append]; exact foldl_ge T _
/-- What holds while the digits are written. -/
def digI (N : Nat) (a : Nat × List UInt8) : Prop := (a.2 = [] ∧ a.1 = N) ∨ (a.2 ≠ [] ∧ ((a.1 = 0 ∧ a.2 = decS N) ∨ (0 < a.1 ∧ decS a.1 ++ a.2 = decS N)))
theorem digI_step {N L : Nat} {T : List UInt8} (h : digI N (L, T)) (hg : 0 < L ∨ T = []) : digI N (L / 10, dch (L % 10) :: T) := by
  refine Or.inr ⟨by simp, ?_⟩
  have key : decS L ++ T = decS N := by
    rcases h with ⟨h1, h2⟩ | ⟨h1, h2⟩
    · simp only at h1 h2; subst h1; subst h2; simp
    · rcases hg with hg | hg
      · rcases h2 with h2 | h2
        · simp only at h2; omega
        · exact h2.2
      · exact absurd hg h1
  by_cases h10 : L < 10
  · left
    refine ⟨by simp only; omega, ?_⟩
    rw [decS_lt h10] at key
    rw [Nat.mod_eq_of_lt h10]; exact key
  · right
    refine ⟨by simp only; omega, ?_⟩
    rw [decS_ge h10, List.append_assoc] at key
    exact key
theorem digI_end {N L : Nat} {T : List UInt8} (h : digI N (L, T)) (h0 : L = 0) (hT : T ≠ []) : T = decS N := by
  rcases h with ⟨h1, h2⟩ | ⟨h1, h2⟩
  · exact absurd h1 hT
  · rcases h2 with h2 | h2
    · exact h2.2
    · simp only at h2; omega
theorem digI_le {N L : Nat} {T : List UInt8} (h : digI N (L, T)) : L ≤ N := by
  rcases h with ⟨_, h2⟩ | ⟨h1, h2⟩
  · simp only at h2; omega
  · rcases h2 with h2 | h2
    · simp only at h2; omega
    · have e := congrArg valN h2.2
      simp only at e
      rw [valN_dec] at e
      have := valN_ge (decS L) T
      rw [valN_dec] at this
      omega
theorem digI_len {N L : Nat} {T : List UInt8} (h : digI N (L, T)) (hN : N < 10 ^ 20) : T.length ≤ 20 := by
  rcases h with ⟨h1, _⟩ | ⟨_, h2⟩
  · simp only at h1; rw [h1]; simp
  · have := dec_len 19 N hN
    rcases h2 with h2 | h2
    · simp only at h2; rw [h2.2]; exact this
    · have e := congrArg List.length h2.2
      rw [List.length_append] at e
      simp only at e; omega
theorem dig_wrap (L : Nat) : IntKind.u8.wrap (IntKind.u64.wrap (48 + (L : Int).tmod 10)) = ((dch (L % 10)).toNat : Nat) := by
  rw [dch_nat (by omega), IntKind.wrap_u64, Int.tmod_eq_emod_of_nonneg (by omega)]
  simp [IntKind.wrap, IntKind.signed, IntKind.bits]; omega
theorem quo_wrap (L : Nat) (h : L < 18446744073709551616) : IntKind.u64.wrap ((L : Int).tdiv 10) = ((L / 10 : Nat) : Int) := by
  rw [IntKind.wrap_u64, Int.tdiv_eq_ediv_of_nonneg (by omega)]; omega
theorem byte_dch (d : Nat) : Abs.byteOf (.int .u8 ((dch d).toNat : Nat)) = dch d := by
  simp [Abs.byteOf]
end Go.Proofs.YtemddijemikleaaDoor
namespace Go.Proofs.YtemddijemikleaaDoor
open Go.Abs
set_option linter.all false
set_option maxRecDepth 100000
def QTook (σ : St) (β : Nat) (l : List UInt8) (o : Option (List UInt8 × List UInt8)) (r : AV) (s : St) : Prop :=
  match o with
  | some (x, t) => r = .tup [.str x, .bool true] ∧ s = σ.setBox β [.str l, .int .i64 (posOf l t : Nat)]
  | none => ∃ j, r = .tup [.str [], .bool false] ∧ s = σ.setBox β [.str l, .int .i64 (j : Nat)]
set_option maxHeartbeats 4000000 in
theorem a_quoted {σ : St} {β k : Nat} {l : List UInt8} (hb : σ.box β = some [.str l, .int .i64 k]) (hk : k ≤ l.length) (hl : l.length ≤ 1000000) : AC Tryd.prog 70 [.ptr β 0] σ (QTook σ β l (quotS (l.drop k))) := by
  have hc1 : True := trivial
  have q1 : True := trivial
  have q2 : True := trivial
  have q3 : True := trivial
  haveI hbi : BoxIs σ β [.str l, .int .i64 k] := ⟨hb⟩
  (refine AC_intro c70 b70 (Nat.le_of_ble_eq_true rfl) ?_; simp only [c70, ↓R1, R2, R3, R4, R5, Nat.reduceEqDiff, Nat.reduceAdd, Nat.reduceMul, Nat.reduceSub, Nat.reduceLeDiff, Nat.reduceLT, reduceIte, reduceCtorEq, Int.reduceBNe, Int.reduceBEq, u8_120, u8_34, u8_92, hc1, q1, q2, q3])
  refine allocTV_i (fun γ hγ hγt => ?_)
  obtain ⟨_, _⟩ := apart_is hbi hγ
  simp only [↓R1, R2, R3, R4, R5, Nat.reduceEqDiff, Nat.reduceAdd, Nat.reduceMul, Nat.reduceSub, Nat.reduceLeDiff, Nat.reduceLT, reduceIte, reduceCtorEq, Int.reduceBNe, Int.reduceBEq, u8_120, u8_34, u8_92, hc1, q1, q2, q3]
  refine loopV_st (α := Nat × Nat × List UInt8) (fun _ => [(0, .ptr β 0), (4, .ptr γ 0)]) (fun z => bS ((σ.setBt γ 63).setBox β [.str l, .int .i64 (z.1 : Nat)]) γ z.2.1 z.2.2)
    (fun z => z.1 ≤ l.length ∧ (z.2.2 ≠ [] → σ.tip z.2.1 = none) ∧ z.2.2.length ≤ z.1 ∧ quotS (l.drop k) = (quotS (l.drop z.1)).map fun q => (z.2.2 ++ q.1, q.2)) (fun z => l.length - z.1) (k, 0, []) (by simp [subF, slot, wk_refl])
    (by rw [setBox_same (show (σ.setBt γ 63).box β = _ from hb)]; exact St.le_refl _) ⟨hk, (fun h => absurd rfl h), Nat.zero_le _, (by cases quotS (l.drop k) <;> simp)⟩ ?_
  rintro ⟨j, τ, out⟩ ⟨hj, hτ, hlen, hI⟩
  simp only at hj hτ hlen hI
  have hbS : ∀ (j : Nat) τ out, (bS ((σ.setBt γ 63).setBox β [.str l, .int .i64 j]) γ τ out).box β = some [.str l, .int .i64 j] := fun j τ out => by
    rw [bS_other]; simp only [↓R1, R2, R3, R4, R5, Nat.reduceEqDiff, Nat.reduceAdd, Nat.reduceMul, Nat.reduceSub, Nat.reduceLeDiff, Nat.reduceLT, reduceIte, reduceCtorEq, Int.reduceBNe, Int.reduceBEq, u8_120, u8_34, u8_92, hc1, q1, q2, q3]
  have hset : ∀ (i j : Nat) τ out, (bS ((σ.setBt γ 63).setBox β [.str l, .int .i64 i]) γ τ out).setBox β [.str l, .int .i64 j] = bS ((σ.setBt γ 63).setBox β [.str l, .int .i64 j]) γ τ out := fun i j τ out => by
    rw [bS_set]; simp only [↓R1, R2, R3, R4, R5, Nat.reduceEqDiff, Nat.reduceAdd, Nat.reduceMul, Nat.reduceSub, Nat.reduceLeDiff, Nat.reduceLT, reduceIte, reduceCtorEq, Int.reduceBNe, Int.reduceBEq, u8_120, u8_34, u8_92, hc1, q1, q2, q3]
  have hbt : ∀ j : Nat, ((σ.setBt γ 63).setBox β [.str l, .int .i64 j]).bt γ = some 63 := fun j => St.bt_same _ _ _
  have hle : ∀ (j : Nat) τ out, (out ≠ [] → σ.tip τ = none) → St.le (σ.setBox β [.str l, .int .i64 j]) (bS ((σ.setBt γ 63).setBox β [.str l, .int .i64 j]) γ τ out) := fun j τ out h => by
    refine bS_le (St.le_newBt (St.le_refl _) hγt) ?_ h
    rw [St.box_noneA]; exact ⟨⟨by assumption, by assumption⟩, hγ⟩
  have a1 := a_left (hbS j τ out)
  simp only [↓R1, R2, R3, R4, R5, Nat.reduceEqDiff, Nat.reduceAdd, Nat.reduceMul, Nat.reduceSub, Nat.reduceLeDiff, Nat.reduceLT, reduceIte, reduceCtorEq, Int.reduceBNe, Int.reduceBEq, u8_120, u8_34, u8_92, hc1, q1, q2, q3]
  rcases drop_cases l j hj with ⟨hd, he⟩ | ⟨c, r, hd, hlt⟩
  · have hc1 : decide ((j : Int) < (l.length : Int)) = false := by simp; omega
    repeat' (first | (with_reducible rw [allocV_eq]) | (refine gdV_split (fun hc => ?_) (fun hc => ?_) <;> (try simp only [hc, ↓R1, R2, R3, R4, R5, Nat.reduceEqDiff, Nat.reduceAdd, Nat.reduceMul, Nat.reduceSub, Nat.reduceLeDiff, Nat.reduceLT, reduceIte, reduceCtorEq, Int.reduceBNe, Int.reduceBEq, u8_120, u8_34, u8_92, hc1, q1, q2, q3])) | ((first | refine condV_split (fun hc => ?_) (fun hc => ?_) | (with_reducible intro β hβ; (try simp only [St.box_noneA, St.tip_noneA, St.tip_set, St.box_tip, St.box_lp, St.tip_lp] at hβ); (repeat (obtain ⟨⟨_, _⟩, hβ⟩ := hβ)); (try (have hbis := apart_is (by assumption) hβ; obtain ⟨_, _⟩ := hbis)))) <;> (try simp only [↓R1, R2, R3, R4, R5, Nat.reduceEqDiff, Nat.reduceAdd, Nat.reduceMul, Nat.reduceSub, Nat.reduceLeDiff, Nat.reduceLT, reduceIte, reduceCtorEq, Int.reduceBNe, Int.reduceBEq, u8_120, u8_34, u8_92, hc1, q1, q2, q3])) | (with_reducible refine And.intro ?_ ?_; (focus (first | omega | (intros; (repeat' (with_reducible apply And.intro)) <;> first | omega | (simp only [List.length_map]; omega))))) | (with_reducible apply And.intro) | ((first | (refine AC.mono (AC.wk (a1) (wkL_refl _)) ?_; (rintro _ _ ⟨rfl, rfl⟩))); (try simp only [↓R1, R2, R3, R4, R5, Nat.reduceEqDiff, Nat.reduceAdd, Nat.reduceMul, Nat.reduceSub, Nat.reduceLeDiff, Nat.reduceLT, reduceIte, reduceCtorEq, Int.reduceBNe, Int.reduceBEq, u8_120, u8_34, u8_92, hc1, q1, q2, q3])))
    rw [hd, quotS_nil, Option.map_none] at hI
    refine endP_intro (by simp) (by first | (simp [rvsS, rvS]; done) | (simp only [rvsS, rvS, ↓R1, R2, R3, R4, R5, Nat.reduceEqDiff, Nat.reduceAdd, Nat.reduceMul, Nat.reduceSub, Nat.reduceLeDiff, Nat.reduceLT, reduceIte, reduceCtorEq, Int.reduceBNe, Int.reduceBEq, u8_120, u8_34, u8_92, hc1, q1, q2, q3]; try simp)) (wk_refl _) (hle j τ out hτ) ?_
    rw [hI]
    exact ⟨j, rfl, rfl⟩
  · have hc1 : decide ((j : Int) < (l.length : Int)) = true := by simpa using hlt
    have a2 := a_next (hbS j τ out) hd hl
    rw [hset] at a2
    have a3 := a_String (β := γ) (τ := τ) (l := out) (σ := (σ.setBt γ 63).setBox β [.str l, .int .i64 (j + 1 : Nat)]) hτ (hbt _)
    have a4 := a_escaped (hbS (j + 1) τ out) hlt hl
    rw [(get_drop hd).2.2] at a4
    have a5 := p40 c
    have hp1 : posOf l r = j + 1 := pos_cons hd
    rw [hd, quotS_cons] at hI
    have hsf : ∀ {m : List UInt8}, m <:+ r → l.drop (posOf l m) = m ∧ posOf l m ≤ l.length := fun hm => drop_pos (hm.trans (by rw [← (get_drop hd).2.2]; exact drop_suf _ _))
    have hgrow : ∀ (i : Nat) (x : UInt8), AC Tryd.prog 39 (.ptr γ 0 :: [.int .u8 x.toNat]) (bS ((σ.setBt γ 63).setBox β [.str l, .int .i64 i]) γ τ out) (fun v s => v = .nili ∧ ∃ τ', σ.tip τ' = none ∧ s = bS ((σ.setBt γ 63).setBox β [.str l, .int .i64 i]) γ τ' (out ++ [x])) := fun i x =>
      (a_WriteByte γ x ((σ.setBt γ 63).setBox β [.str l, .int .i64 i]) τ out hτ (hbt i) (by simp; omega)).mono (by rintro v s ⟨rfl, τ', h1, _, h2⟩; exact ⟨rfl, τ', h1, h2⟩)
    by_cases h34 : c = 34
    · have q1 : decide (c = 34) = true := by simpa using h34
      rw [if_pos h34] at hI
      repeat' (first | (with_reducible rw [allocV_eq]) | (refine gdV_split (fun hc => ?_) (fun hc => ?_) <;> (try simp only [hc, ↓R1, R2, R3, R4, R5, Nat.reduceEqDiff, Nat.reduceAdd, Nat.reduceMul, Nat.reduceSub, Nat.reduceLeDiff, Nat.reduceLT, reduceIte, reduceCtorEq, Int.reduceBNe, Int.reduceBEq, u8_120, u8_34, u8_92, hc1, q1, q2, q3])) | ((first | refine condV_split (fun hc => ?_) (fun hc => ?_) | (with_reducible intro β hβ; (try simp only [St.box_noneA, St.tip_noneA, St.tip_set, St.box_tip, St.box_lp, St.tip_lp] at hβ); (repeat (obtain ⟨⟨_, _⟩, hβ⟩ := hβ)); (try (have hbis := apart_is (by assumption) hβ; obtain ⟨_, _⟩ := hbis)))) <;> (try simp only [↓R1, R2, R3, R4, R5, Nat.reduceEqDiff, Nat.reduceAdd, Nat.reduceMul, Nat.reduceSub, Nat.reduceLeDiff, Nat.reduceLT, reduceIte, reduceCtorEq, Int.reduceBNe, Int.reduceBEq, u8_120, u8_34, u8_92, hc1, q1, q2, q3])) | (with_reducible refine And.intro ?_ ?_; (focus (first | omega | (intros; (repeat' (with_reducible apply And.intro)) <;> first | omega | (simp only [List.length_map]; omega))))) | (with_reducible apply And.intro) | ((first | (refine AC.mono (AC.wk (a1) (wkL_refl _)) ?_; (rintro _ _ ⟨rfl, rfl⟩)) | (refine AC.mono (AC.wk (a2) (wkL_refl _)) ?_; (rintro _ _ ⟨rfl, rfl⟩)) | (refine AC.mono (AC.wk (a3) (wkL_refl _)) ?_; (rintro _ _ ⟨rfl, rfl⟩))); (try simp only [↓R1, R2, R3, R4, R5, Nat.reduceEqDiff, Nat.reduceAdd, Nat.reduceMul, Nat.reduceSub, Nat.reduceLeDiff, Nat.reduceLT, reduceIte, reduceCtorEq, Int.reduceBNe, Int.reduceBEq, u8_120, u8_34, u8_92, hc1, q1, q2, q3])))
      refine endP_intro (r := .tup [.str out, .bool true]) (by simp) (by first | (simp [rvsS, rvS]; done) | (simp only [rvsS, rvS, ↓R1, R2, R3, R4, R5, Nat.reduceEqDiff, Nat.reduceAdd, Nat.reduceMul, Nat.reduceSub, Nat.reduceLeDiff, Nat.reduceLT, reduceIte, reduceCtorEq, Int.reduceBNe, Int.reduceBEq, u8_120, u8_34, u8_92, hc1, q1, q2, q3]; try simp)) (wk_of_eq (by (simp only [resAV, rvV, List.map_cons, List.map_nil, ↓R1, R2, R3, R4, R5, Nat.reduceEqDiff, Nat.reduceAdd, Nat.reduceMul, Nat.reduceSub, Nat.reduceLeDiff, Nat.reduceLT, reduceIte, reduceCtorEq, Int.reduceBNe, Int.reduceBEq, u8_120, u8_34, u8_92, hc1, q1, q2, q3]))) (σ' := σ.setBox β [.str l, .int .i64 (j + 1 : Nat)]) ?_ ?_
      · refine St.le_setBox (St.le_newBt (St.le_refl _) hγt) ?_
        rw [St.box_noneA]; exact ⟨⟨by assumption, by assumption⟩, hγ⟩
      · rw [hI]
        simp only [QTook, Option.map_some, List.append_nil, hp1, and_self]
    · have q1 : decide (c = 34) = false := by simpa using h34
      rw [if_neg h34] at hI
      by_cases h92 : c = 92
      · have q2 : decide (c = 92) = true := by simpa using h92
        rw [if_pos h92] at hI
        cases he : escS r with
        | none =>
          rw [he] at a4 hI
          repeat' (first | (with_reducible rw [allocV_eq]) | (refine gdV_split (fun hc => ?_) (fun hc => ?_) <;> (try simp only [hc, ↓R1, R2, R3, R4, R5, Nat.reduceEqDiff, Nat.reduceAdd, Nat.reduceMul, Nat.reduceSub, Nat.reduceLeDiff, Nat.reduceLT, reduceIte, reduceCtorEq, Int.reduceBNe, Int.reduceBEq, u8_120, u8_34, u8_92, hc1, q1, q2, q3])) | ((first | refine condV_split (fun hc => ?_) (fun hc => ?_) | (with_reducible intro β hβ; (try simp only [St.box_noneA, St.tip_noneA, St.tip_set, St.box_tip, St.box_lp, St.tip_lp] at hβ); (repeat (obtain ⟨⟨_, _⟩, hβ⟩ := hβ)); (try (have hbis := apart_is (by assumption) hβ; obtain ⟨_, _⟩ := hbis)))) <;> (try simp only [↓R1, R2, R3, R4, R5, Nat.reduceEqDiff, Nat.reduceAdd, Nat.reduceMul, Nat.reduceSub, Nat.reduceLeDiff, Nat.reduceLT, reduceIte, reduceCtorEq, Int.reduceBNe, Int.reduceBEq, u8_120, u8_34, u8_92, hc1, q1, q2, q3])) | (with_reducible refine And.intro ?_ ?_; (focus (first | omega | (intros; (repeat' (with_reducible apply And.intro)) <;> first | omega | (simp only [List.length_map]; omega))))) | (with_reducible apply And.intro) | ((first | (refine AC.mono (AC.wk (a1) (wkL_refl _)) ?_; (rintro _ _ ⟨rfl, rfl⟩)) | (refine AC.mono (AC.wk (a2) (wkL_refl _)) ?_; (rintro _ _ ⟨rfl, rfl⟩))); (try simp only [↓R1, R2, R3, R4, R5, Nat.reduceEqDiff, Nat.reduceAdd, Nat.reduceMul, Nat.reduceSub, Nat.reduceLeDiff, Nat.reduceLT, reduceIte, reduceCtorEq, Int.reduceBNe, Int.reduceBEq, u8_120, u8_34, u8_92, hc1, q1, q2, q3])))
          refine (AC.wk a4 (wkL_refl _)).mono ?_
          rintro _ _ ⟨v, i, rfl, rfl⟩
          rw [hset]
          simp only [↓R1, R2, R3, R4, R5, Nat.reduceEqDiff, Nat.reduceAdd, Nat.reduceMul, Nat.reduceSub, Nat.reduceLeDiff, Nat.reduceLT, reduceIte, reduceCtorEq, Int.reduceBNe, Int.reduceBEq, u8_120, u8_34, u8_92, hc1, q1, q2, q3]
          refine endP_intro (r := .tup [.str [], .bool false]) (by simp) (by first | (simp [rvsS, rvS]; done) | (simp only [rvsS, rvS, ↓R1, R2, R3, R4, R5, Nat.reduceEqDiff, Nat.reduceAdd, Nat.reduceMul, Nat.reduceSub, Nat.reduceLeDiff, Nat.reduceLT, reduceIte, reduceCtorEq, Int.reduceBNe, Int.reduceBEq, u8_120, u8_34, u8_92, hc1, q1, q2, q3]; try simp)) (wk_of_eq (by (simp only [resAV, rvV, List.map_cons, List.map_nil, ↓R1, R2, R3, R4, R5, Nat.reduceEqDiff, Nat.reduceAdd, Nat.reduceMul, Nat.reduceSub, Nat.reduceLeDiff, Nat.reduceLT, reduceIte, reduceCtorEq, Int.reduceBNe, Int.reduceBEq, u8_120, u8_34, u8_92, hc1, q1, q2, q3]))) (hle i τ out hτ) ?_
          rw [hI]
          exact ⟨i, rfl, rfl⟩
        | some q =>
          rw [he] at a4 hI
          obtain ⟨hd1, hd2⟩ := hsf (escS_suf (x := q.1) he)
          have hql := escS_len (x := q.1) he
          have hrl : r.length = l.length - (j + 1) := by rw [← (get_drop hd).2.2]; simp
          have hpq : posOf l q.2 = l.length - q.2.length := rfl
          repeat' (first | (with_reducible rw [allocV_eq]) | (refine gdV_split (fun hc => ?_) (fun hc => ?_) <;> (try simp only [hc, ↓R1, R2, R3, R4, R5, Nat.reduceEqDiff, Nat.reduceAdd, Nat.reduceMul, Nat.reduceSub, Nat.reduceLeDiff, Nat.reduceLT, reduceIte, reduceCtorEq, Int.reduceBNe, Int.reduceBEq, u8_120, u8_34, u8_92, hc1, q1, q2, q3])) | ((first | refine condV_split (fun hc => ?_) (fun hc => ?_) | (with_reducible intro β hβ; (try simp only [St.box_noneA, St.tip_noneA, St.tip_set, St.box_tip, St.box_lp, St.tip_lp] at hβ); (repeat (obtain ⟨⟨_, _⟩, hβ⟩ := hβ)); (try (have hbis := apart_is (by assumption) hβ; obtain ⟨_, _⟩ := hbis)))) <;> (try simp only [↓R1, R2, R3, R4, R5, Nat.reduceEqDiff, Nat.reduceAdd, Nat.reduceMul, Nat.reduceSub, Nat.reduceLeDiff, Nat.reduceLT, reduceIte, reduceCtorEq, Int.reduceBNe, Int.reduceBEq, u8_120, u8_34, u8_92, hc1, q1, q2, q3])) | (with_reducible refine And.intro ?_ ?_; (focus (first | omega | (intros; (repeat' (with_reducible apply And.intro)) <;> first | omega | (simp only [List.length_map]; omega))))) | (with_reducible apply And.intro) | ((first | (refine AC.mono (AC.wk (a1) (wkL_refl _)) ?_; (rintro _ _ ⟨rfl, rfl⟩)) | (refine AC.mono (AC.wk (a2) (wkL_refl _)) ?_; (rintro _ _ ⟨rfl, rfl⟩))); (try simp only [↓R1, R2, R3, R4, R5, Nat.reduceEqDiff, Nat.reduceAdd, Nat.reduceMul, Nat.reduceSub, Nat.reduceLeDiff, Nat.reduceLT, reduceIte, reduceCtorEq, Int.reduceBNe, Int.reduceBEq, u8_120, u8_34, u8_92, hc1, q1, q2, q3])))
          refine (AC.wk a4 (wkL_refl _)).mono ?_
          rintro _ _ ⟨rfl, rfl⟩
          rw [hset]
          simp only [byteV, ↓R1, R2, R3, R4, R5, Nat.reduceEqDiff, Nat.reduceAdd, Nat.reduceMul, Nat.reduceSub, Nat.reduceLeDiff, Nat.reduceLT, reduceIte, reduceCtorEq, Int.reduceBNe, Int.reduceBEq, u8_120, u8_34, u8_92, hc1, q1, q2, q3]
          refine (AC.wk (hgrow _ q.1) (wkL_refl _)).mono ?_
          rintro _ _ ⟨rfl, τ', hτ', rfl⟩
          simp only [↓R1, R2, R3, R4, R5, Nat.reduceEqDiff, Nat.reduceAdd, Nat.reduceMul, Nat.reduceSub, Nat.reduceLeDiff, Nat.reduceLT, reduceIte, reduceCtorEq, Int.reduceBNe, Int.reduceBEq, u8_120, u8_34, u8_92, hc1, q1, q2, q3]
          refine ⟨(posOf l q.2, τ', out ++ [q.1]), ⟨hd2, fun _ => hτ', ?_, ?_⟩, by simp [subF, slot, wk_refl], St.le_refl _, ?_⟩
          · simp only [List.length_append, List.length_cons, List.length_nil]; omega
          · rw [hI]
            simp only [hd1, Option.map_map]
            congr 1
            funext z
            simp
          · simp only; omega
      · have q2 : decide (c = 92) = false := by simpa using h92
        rw [if_neg h92] at hI
        cases hpl : isPlain c with
        | true =>
          rw [hpl] at a5
          rw [hpl, if_pos rfl] at hI
          repeat' (first | (with_reducible rw [allocV_eq]) | (refine gdV_split (fun hc => ?_) (fun hc => ?_) <;> (try simp only [hc, ↓R1, R2, R3, R4, R5, Nat.reduceEqDiff, Nat.reduceAdd, Nat.reduceMul, Nat.reduceSub, Nat.reduceLeDiff, Nat.reduceLT, reduceIte, reduceCtorEq, Int.reduceBNe, Int.reduceBEq, u8_120, u8_34, u8_92, hc1, q1, q2, q3])) | ((first | refine condV_split (fun hc => ?_) (fun hc => ?_) | (with_reducible intro β hβ; (try simp only [St.box_noneA, St.tip_noneA, St.tip_set, St.box_tip, St.box_lp, St.tip_lp] at hβ); (repeat (obtain ⟨⟨_, _⟩, hβ⟩ := hβ)); (try (have hbis := apart_is (by assumption) hβ; obtain ⟨_, _⟩ := hbis)))) <;> (try simp only [↓R1, R2, R3, R4, R5, Nat.reduceEqDiff, Nat.reduceAdd, Nat.reduceMul, Nat.reduceSub, Nat.reduceLeDiff, Nat.reduceLT, reduceIte, reduceCtorEq, Int.reduceBNe, Int.reduceBEq, u8_120, u8_34, u8_92, hc1, q1, q2, q3])) | (with_reducible refine And.intro ?_ ?_; (focus (first | omega | (intros; (repeat' (with_reducible apply And.intro)) <;> first | omega | (simp only [List.length_map]; omega))))) | (with_reducible apply And.intro) | ((first | (refine AC.mono (AC.wk (a1) (wkL_refl _)) ?_; (rintro _ _ ⟨rfl, rfl⟩)) | (refine AC.mono (AC.wk (a2) (wkL_refl _)) ?_; (rintro _ _ ⟨rfl, rfl⟩)) | refine Pu.to (a5) (wkL_refl _) ?_ | refine callDV_pu (a5) (wkL_refl _) ?_); (try simp only [↓R1, R2, R3, R4, R5, Nat.reduceEqDiff, Nat.reduceAdd, Nat.reduceMul, Nat.reduceSub, Nat.reduceLeDiff, Nat.reduceLT, reduceIte, reduceCtorEq, Int.reduceBNe, Int.reduceBEq, u8_120, u8_34, u8_92, hc1, q1, q2, q3])))
          refine (AC.wk (hgrow _ c) (wkL_refl _)).mono ?_
          rintro _ _ ⟨rfl, τ', hτ', rfl⟩
          simp only [↓R1, R2, R3, R4, R5, Nat.reduceEqDiff, Nat.reduceAdd, Nat.reduceMul, Nat.reduceSub, Nat.reduceLeDiff, Nat.reduceLT, reduceIte, reduceCtorEq, Int.reduceBNe, Int.reduceBEq, u8_120, u8_34, u8_92, hc1, q1, q2, q3]
          refine ⟨(j + 1, τ', out ++ [c]), ⟨hlt, fun _ => hτ', ?_, ?_⟩, by simp [subF, slot, wk_refl], St.le_refl _, ?_⟩
          · simp only [List.length_append, List.length_cons, List.length_nil]; omega
          · rw [hI]
            simp only [(get_drop hd).2.2, Option.map_map]
            congr 1
            funext z
            simp
          · simp only; omega
        | false =>
          rw [hpl] at a5
          rw [hpl, if_neg (by simp)] at hI
          repeat' (first | (with_reducible rw [allocV_eq]) | (refine gdV_split (fun hc => ?_) (fun hc => ?_) <;> (try simp only [hc, ↓R1, R2, R3, R4, R5, Nat.reduceEqDiff, Nat.reduceAdd, Nat.reduceMul, Nat.reduceSub, Nat.reduceLeDiff, Nat.reduceLT, reduceIte, reduceCtorEq, Int.reduceBNe, Int.reduceBEq, u8_120, u8_34, u8_92, hc1, q1, q2, q3])) | ((first | refine condV_split (fun hc => ?_) (fun hc => ?_) | (with_reducible intro β hβ; (try simp only [St.box_noneA, St.tip_noneA, St.tip_set, St.box_tip, St.box_lp, St.tip_lp] at hβ); (repeat (obtain ⟨⟨_, _⟩, hβ⟩ := hβ)); (try (have hbis := apart_is (by assumption) hβ; obtain ⟨_, _⟩ := hbis)))) <;> (try simp only [↓R1, R2, R3, R4, R5, Nat.reduceEqDiff, Nat.reduceAdd, Nat.reduceMul, Nat.reduceSub, Nat.reduceLeDiff, Nat.reduceLT, reduceIte, reduceCtorEq, Int.reduceBNe, Int.reduceBEq, u8_120, u8_34, u8_92, hc1, q1, q2, q3])) | (with_reducible refine And.intro ?_ ?_; (focus (first | omega | (intros; (repeat' (with_reducible apply And.intro)) <;> first | omega | (simp only [List.length_map]; omega))))) | (with_reducible apply And.intro) | ((first | (refine AC.mono (AC.wk (a1) (wkL_refl _)) ?_; (rintro _ _ ⟨rfl, rfl⟩)) | (refine AC.mono (AC.wk (a2) (wkL_refl _)) ?_; (rintro _ _ ⟨rfl, rfl⟩)) | refine Pu.to (a5) (wkL_refl _) ?_ | refine callDV_pu (a5) (wkL_refl _) ?_); (try simp only [↓R1, R2, R3, R4, R5, Nat.reduceEqDiff, Nat.reduceAdd, Nat.reduceMul, Nat.reduceSub, Nat.reduceLeDiff, Nat.reduceLT, reduceIte, reduceCtorEq, Int.reduceBNe, Int.reduceBEq, u8_120, u8_34, u8_92, hc1, q1, q2, q3])))
          refine endP_intro (r := .tup [.str [], .bool false]) (by simp) (by first | (simp [rvsS, rvS]; done) | (simp only [rvsS, rvS, ↓R1, R2, R3, R4, R5, Nat.reduceEqDiff, Nat.reduceAdd, Nat.reduceMul, Nat.reduceSub, Nat.reduceLeDiff, Nat.reduceLT, reduceIte, reduceCtorEq, Int.reduceBNe, Int.reduceBEq, u8_120, u8_34, u8_92, hc1, q1, q2, q3]; try simp)) (wk_of_eq (by (simp only [resAV, rvV, List.map_cons, List.map_nil, ↓R1, R2, R3, R4, R5, Nat.reduceEqDiff, Nat.reduceAdd, Nat.reduceMul, Nat.reduceSub, Nat.reduceLeDiff, Nat.reduceLT, reduceIte, reduceCtorEq, Int.reduceBNe, Int.reduceBEq, u8_120, u8_34, u8_92, hc1, q1, q2, q3]))) (hle (j + 1) τ out hτ) ?_
          rw [hI]
          exact ⟨j + 1, rfl, rfl⟩
end Go.Proofs.YtemddijemikleaaDoor
