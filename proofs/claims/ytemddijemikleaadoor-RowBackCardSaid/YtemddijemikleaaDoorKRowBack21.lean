/- Part 21 of the proof of RowBack: an abstract semantics that is proved sound for the model, contracts of functions in it, and plain facts (SB SB2 SB3 SB4 RW1 RW2 RX1 RW3 RW4 RX2 RX3 RX5 RD2 RX4 RD1). No condition. -/
import Derived.Test.YtemddijemikleaaDoorKRowBack20
import Derived.WalkKit
import Derived.Lib.Walk
import Derived.Lib.Builder
import Derived.Lib.UnsafeStr
import Derived.Shelf.RegionOpenPlain
import Derived.Shelf.Strings.BuilderX
import Derived.Laws.Externs
set_option linter.all false
namespace Go.Proofs.YtemddijemikleaaDoor
open Go.Abs Go.Lib Go.RowKit
set_option linter.all false
set_option maxRecDepth 100000
theorem bt_size : (Tryd.prog.info? 63).map (·.size) = some 2 := by kernel_rfl
theorem bt_lies : liesAt Tryd.prog Tryd.prog.depth 63 (2 / Tryd.prog.cellsOf 63) 0 63 1 = true := by kernel_rfl
theorem cc_used (b : Nat) (w : World) (h0 : w.cell? ⟨b, 0, none⟩ = some (.pointer (some ⟨b, 0, none⟩))) :
    Calls Tryd.prog 53 #[.pointer (some ⟨b, 0, none⟩)] w fun e w' => e = .returned (.tuple #[]) ∧ w' = w := by
  obtain ⟨j, hj, _⟩ := Option.map_eq_some_iff.1 bt_size
  go_enter Tryd.func53, Tryd.ntmps53
  go_wp2
  rw [Lib.run_neq_ptr_same w _ Tryd.underlying61 hj]
  go_wp2
  go_end0
  exact ⟨rfl, rfl⟩
theorem cc_fresh (b : Nat) (w : World) (h0 : w.cell? ⟨b, 0, none⟩ = some (.pointer none)) (hsh : w.shape? b = some (63, 2)) (hfz : w.frozen? ⟨b, 0, none⟩ = false) :
    Calls Tryd.prog 53 #[.pointer (some ⟨b, 0, none⟩)] w fun e w' => e = .returned (.tuple #[]) ∧ w' = w.setCell ⟨b, 0, none⟩ (.pointer (some ⟨b, 0, none⟩)) := by
  obtain ⟨j, hj, hjs⟩ := Option.map_eq_some_iff.1 bt_size
  go_enter Tryd.func53, Tryd.ntmps53
  go_wp2
  rw [Lib.run_to_unsafe w ⟨b, 0, none⟩ Tryd.underlying61 Tryd.underlying98 hj (by rw [hjs]; decide) hsh (Nat.zero_lt_succ 1)]
  simp only [Result.andThen]
  rw [Oper.upon_value]
  go_wp2
  rw [run_callFunc_extern Tryd.func63 (by kernel_rfl) (by kernel_rfl) (by kernel_rfl) (e := Extern.AbiNoEscape.same) (by kernel_rfl)]
  rw [Lib.run_noEscape]
  simp only [Result.andThen]
  rw [Oper.upon_value]
  go_wp2
  rw [Lib.run_from_unsafe w ⟨b, 0, none⟩ Tryd.underlying98 Tryd.underlying61 hj hsh bt_lies]
  simp only [Result.andThen]
  rw [Oper.upon_value]
  go_wp2
  go_end0
  exact ⟨rfl, rfl⟩
end Go.Proofs.YtemddijemikleaaDoor
namespace Go.Abs
open Go.RowKit Go.Lib
set_option linter.all false
section
variable {P : Program} {g : Gh} {σ : St} {w : World}
theorem freeze_row (hI : Inv g σ w) {b F n : Nat} {cur : Array Value} {T : TypeId} {q : Nat × Nat} (hb : w.heap[b]? = some (.cells cur T q)) (hcl : g.cl b = some F) (hbox : ∀ β, g.box β ≠ some b)
    (htip : ∀ τ x v, σ.tip τ = some x → g.tip τ x.2.2 = some v → Held x.2.2 v → v.ownBlock ≠ some b) :
    Inv g σ (w.freeze ⟨b, 0, none⟩ n) ∧ Ext g w g (w.freeze ⟨b, 0, none⟩ n) := by
  have hother : ∀ k, k ≠ b → (w.freeze ⟨b, 0, none⟩ n).heap[k]? = w.heap[k]? := fun k hk => by
    unfold World.freeze
    split
    · rfl
    · simp only [Array.getElem?_modify]; rw [if_neg (fun e => hk e.symm)]
  have hcell : ∀ i, (w.freeze ⟨b, 0, none⟩ n).cell? ⟨b, i, none⟩ = w.cell? ⟨b, i, none⟩ := fun i => by
    unfold World.freeze
    split
    · rfl
    · simp only [World.cell?, Array.getElem?_modify, if_true, hb, Option.map_some]
  have hos : (w.freeze ⟨b, 0, none⟩ n).os = w.os := by unfold World.freeze; split <;> rfl
  have htp : (w.freeze ⟨b, 0, none⟩ n).tape = w.tape := by unfold World.freeze; split <;> rfl
  have hou : (w.freeze ⟨b, 0, none⟩ n).output = w.output := by unfold World.freeze; split <;> rfl
  have hsz : (w.freeze ⟨b, 0, none⟩ n).heap.size = w.heap.size := by unfold World.freeze; split <;> simp
  have he : Ext g w g (w.freeze ⟨b, 0, none⟩ n) := by
    refine ⟨hos, htp, hou, by omega, fun _ _ h => h, fun _ _ => rfl, Nat.le_refl _, Nat.le_refl _, fun _ _ _ h => h, fun k hk hc => ?_, fun k G hk hc => ?_, fun _ _ h => h, fun k us T' hx h => by
      obtain ⟨β, hβ⟩ := hx
      exact ⟨us, by rw [hother k (fun e => hbox β (e ▸ hβ))]; exact h, rfl⟩⟩
    · have hkb : k ≠ b := by rintro rfl; rw [hcl] at hc; cases hc
      exact ⟨hc, hother k hkb⟩
    · by_cases hkb : k = b
      · subst hkb
        exact ⟨G, hc, Nat.le_refl _, fun i _ => hcell i⟩
      · exact ⟨G, hc, Nat.le_refl _, fun i _ => World.cell?_of_block (hother k hkb)⟩
  refine ⟨⟨fun β cs hβ => ?_, fun β k hβ => ?_, hI.boxinj, hI.boxfresh, fun τ e s n ht => ?_, hI.tipinj, hI.tipfresh, fun k cs hk => (hI.glob k cs hk).mono he, fun l r hl => by
    obtain ⟨q1, q2, q3⟩ := hI.lp l r hl
    have hlb : l ≠ b := fun e => by subst e; rw [hb] at q1; cases q1
    exact ⟨by rw [hother l hlb]; exact q1, q2, fun t => (q3 t).mono he⟩, fun β T2 hβ => by
    obtain ⟨k, vs, k1, k2⟩ := hI.bty β T2 hβ
    exact ⟨k, vs, k1, by rw [hother k (fun e => hbox β (e ▸ k1))]; exact k2⟩⟩, he⟩
  · obtain ⟨k, vs, T2, k1, k2, k3⟩ := hI.box β cs hβ
    exact ⟨k, vs, T2, k1, by rw [hother k (fun e => hbox β (e ▸ k1))]; exact k2, k3.mono he⟩
  · obtain ⟨k1, k2⟩ := hI.boxcl β k hβ
    exact ⟨by omega, k2⟩
  · obtain ⟨v, k1, k2, k4⟩ := hI.tip τ e s n ht
    refine ⟨v, k1, fun hs => ?_, k4⟩
    obtain ⟨xs, k2, k3⟩ := k2 hs
    have hvb := htip τ _ v ht k1 hs
    refine ⟨xs, k2.kept (row := some b) ⟨hos, htp, hou, by omega, fun k _ hk => hother k (fun e => hk (by rw [e]))⟩ (.inr hvb), fun k hk => ?_⟩
    obtain ⟨k5, k6⟩ := k3 k hk
    exact ⟨k5, k6.1, k6.2.same (hother k (fun e => hvb (e ▸ hk)))⟩
end
end Go.Abs
namespace Go.Proofs.YtemddijemikleaaDoor
open Go.Abs Go.Lib Go.RowKit
set_option linter.all false
set_option maxRecDepth 100000
theorem byte_cells : Tryd.prog.cellsOf 5 = 1 := by kernel_rfl
set_option maxHeartbeats 2000000 in
theorem bs_string (b g cap : Nat) (p : Value) (cur : Array Value) (l : List UInt8) (w : World) (hbk : w.heap[b]? = some (.cells #[p, .slice (some ⟨g, 0, none⟩) l.length cap] 63 (0, 0))) (hg : w.heap[g]? = some (.cells cur 5 (0, 0)))
    (hnc : l.length ≤ cap) (hcm : cap ≤ maxLen) (hcs : cur.size = cap) (htake : cur.toList.take l.length = byteCells l) (h0 : l ≠ []) :
    Calls Tryd.prog 37 #[.pointer (some ⟨b, 0, none⟩)] w fun e w' => e = .returned (.string ⟨l.toArray⟩) ∧ w' = w.drew.freeze ⟨g, 0, none⟩ l.length := by
  have hl0 : l.length ≠ 0 := by simpa using h0
  have c1 : w.drew.cell? ⟨b, 1, none⟩ = some (.slice (some ⟨g, 0, none⟩) l.length cap) := by
    have h : w.drew.heap[b]? = some (.cells #[p, .slice (some ⟨g, 0, none⟩) l.length cap] 63 (0, 0)) := hbk
    rw [Lib.cell_of_heap h]; rfl
  have hSD : (Builtin.unsafeSliceData_ #[59] 88 #[.slice (some ⟨g, 0, none⟩) l.length cap]).run Tryd.prog w.drew = .ok (.pointer (some ⟨g, 0, none⟩)) w.drew :=
    Lib.run_unsafeSliceData_row _ _ _ _ _ _ (by omega)
  have hUS : (Builtin.unsafeString_ #[88, 3] 9 #[.pointer (some ⟨g, 0, none⟩), .int .i64 l.length]).run Tryd.prog w.drew = .ok (.string ⟨l.toArray⟩) (w.drew.freeze ⟨g, 0, none⟩ l.length) := by
    refine Lib.run_unsafeString_row w.drew _ _ _ 5 Tryd.underlying88 byte_cells g cur.size (by have hg' : w.drew.heap[g]? = some (.cells cur 5 (0, 0)) := hg; simp [World.shape?, hg']) l h0 (by omega) (by unfold maxLen at hcm; omega) ?_
    intro j x hx
    have hg' : w.drew.heap[g]? = some (.cells cur 5 (0, 0)) := hg
    have hj : j < l.length := (List.getElem?_eq_some_iff.1 hx).1
    have : (cur.toList.take l.length)[j]? = some (.int .u8 x.toNat) := by rw [htake]; simp [Lib.byteCells, hx]
    rw [List.getElem?_take, if_pos hj] at this
    rw [addr_add]
    rw [Lib.cell_of_heap hg', Nat.zero_add, ← Array.getElem?_toList]
    exact this
  have mixed : Tryd.prog.follows .mixedOrders = true := by kernel_rfl
  go_enter Tryd.func37, Tryd.ntmps37
  go_wp2
  go_region_o
  all_goals (go_wp2; go_ret; exact ⟨rfl, rfl⟩)
end Go.Proofs.YtemddijemikleaaDoor
namespace Go.Proofs.YtemddijemikleaaDoor
open Go.Abs Go.Lib Go.RowKit
set_option linter.all false
set_option maxRecDepth 100000
def bytesA (l : List UInt8) : List AV := l.map fun b => .int .u8 b.toNat
theorem cc_enter : ∀ args w, (callFunc 53 args).run Tryd.prog w = .ok (.enter 53 args) w := enters_of Tryd.func53 (by kernel_rfl) rfl
theorem bs_enter : ∀ args w, (callFunc 37 args).run Tryd.prog w = .ok (.enter 37 args) w := enters_of Tryd.func37 (by kernel_rfl) rfl
theorem ptr_one {g : Gh} {w : World} {β : Nat} {vs : List Value} (hv : RelL g w [.ptr β 0] vs) : ∃ b, vs = [.pointer (some ⟨b, 0, none⟩)] ∧ g.box β = some b := by
  obtain ⟨v, vs', rfl, h1, h2⟩ := hv.cons_inv
  rw [h2.nil_inv]
  obtain ⟨b, rfl, hb⟩ := h1.ptr_inv
  exact ⟨b, rfl, hb⟩
theorem a_cc_used {σ : St} {β : Nat} {x : AV} (hb : σ.box β = some [.ptr β 0, x]) : AC Tryd.prog 53 [.ptr β 0] σ (fun r s => r = .tup [] ∧ s = σ) := by
  intro g w vs hI hv
  obtain ⟨b, rfl, hg⟩ := ptr_one hv
  obtain ⟨b', cs, T, h1, h2, h3⟩ := hI.box β _ hb
  rw [hg] at h1; cases h1
  obtain ⟨v0, r0, hl, hv0, _⟩ := h3.1.cons_inv
  obtain ⟨b2, rfl, hb2⟩ := hv0.ptr_inv
  rw [hg] at hb2; cases hb2
  have hc : w.cell? ⟨b, 0, none⟩ = some (.pointer (some ⟨b, 0, none⟩)) := by
    rw [Lib.cell_of_heap h2, ← Array.getElem?_toList, hl]; rfl
  refine .inl ⟨cc_enter _ _, (cc_used b w hc).mono ?_⟩
  rintro e w' ⟨rfl, rfl⟩
  exact ⟨_, .tup [], σ, g, rfl, ⟨rfl, rfl⟩, hI, .refl g w', .tup_mk .nil⟩
theorem a_cc_fresh {σ : St} {β : Nat} {x : AV} (hb : σ.box β = some [.nilp, x]) (ht : σ.bt β = some 63) : AC Tryd.prog 53 [.ptr β 0] σ (fun r s => r = .tup [] ∧ s = σ.setBox β [.ptr β 0, x]) := by
  intro g w vs hI hv
  obtain ⟨b, rfl, hg⟩ := ptr_one hv
  obtain ⟨b', cs, T, h1, h2, h3⟩ := hI.box β _ hb
  rw [hg] at h1; cases h1
  obtain ⟨b', cs', h1, h2'⟩ := hI.bty β _ ht
  rw [hg] at h1; cases h1
  rw [h2] at h2'; cases h2'
  obtain ⟨v0, r0, hl, hv0, hr0⟩ := h3.1.cons_inv
  obtain ⟨v1, r1, rfl, hv1, hr1⟩ := hr0.cons_inv
  rw [hr1.nil_inv] at hl
  have hv0' : v0 = .pointer none := by cases hv0; rfl
  subst hv0'
  have hc : w.cell? ⟨b, 0, none⟩ = some (.pointer none) := by
    rw [Lib.cell_of_heap h2, ← Array.getElem?_toList, hl]; rfl
  have hsz : cs.size = 2 := by rw [← Array.length_toList, hl]; rfl
  have hfz := Lib.frozen_of_heap h2 0
  refine .inl ⟨cc_enter _ _, (cc_fresh b w hc (by simp only [World.shape?, h2, hsz]) hfz).mono ?_⟩
  rintro e w' ⟨rfl, rfl⟩
  obtain ⟨w2, q1, q2, q3⟩ := store_sound (P := Tryd.prog) hI hb hg (off := 0) (us := [.pointer (some ⟨b, 0, none⟩)]) (cs' := [.ptr β 0]) ⟨.cons (.ptr β 0 b hg) .nil, by simp [Value.oneCell']⟩ (by simp)
  have hw : w2 = w.setCell ⟨b, 0, none⟩ (.pointer (some ⟨b, 0, none⟩)) := by
    have hfz' : w.frozen? ((⟨b, 0, none⟩ : Addr).add 0) = false := hfz
    have := run_storeCells_at Tryd.prog b 0 63 [.pointer (some ⟨b, 0, none⟩)] 0 cs w h2 (by simp; omega) (by simp [Value.oneCell'])
    rw [this] at q1
    simp only [Result.ok.injEq, true_and] at q1
    rw [← q1]
    have hcs : cs = #[.pointer none, v1] := by rw [← Array.toArray_toList (xs := cs), hl]
    subst hcs
    have hh : (w.setRow b ((List.take (0 + 0) (#[Value.pointer none, v1] : Array Value).toList ++ [Value.pointer (some ⟨b, 0, none⟩)] ++ List.drop (0 + 0 + [Value.pointer (some ⟨b, 0, none⟩)].length) (#[Value.pointer none, v1] : Array Value).toList).toArray)).heap = (w.setCell ⟨b, 0, none⟩ (.pointer (some ⟨b, 0, none⟩))).heap := by
      refine Array.ext_getElem? (fun i => ?_)
      simp only [World.setRow, World.setCell, Array.getElem?_modify]
      split
      · rename_i e; subst e; rw [h2]; simp
      · rfl
    show World.setRow w b _ = _
    calc w.setRow b _ = { w with heap := (w.setRow b ((List.take (0 + 0) (#[Value.pointer none, v1] : Array Value).toList ++ [Value.pointer (some ⟨b, 0, none⟩)] ++ List.drop (0 + 0 + [Value.pointer (some ⟨b, 0, none⟩)].length) (#[Value.pointer none, v1] : Array Value).toList).toArray)).heap } := rfl
      _ = { w with heap := (w.setCell ⟨b, 0, none⟩ (.pointer (some ⟨b, 0, none⟩))).heap } := by rw [hh]
      _ = _ := rfl
  subst hw
  exact ⟨_, .tup [], _, g, rfl, ⟨rfl, rfl⟩, by simpa using q2, q3, .tup_mk .nil⟩
end Go.Proofs.YtemddijemikleaaDoor
namespace Go.Proofs.YtemddijemikleaaDoor
open Go.Abs Go.Lib Go.RowKit
set_option linter.all false
set_option maxRecDepth 100000
def bB (β τ : Nat) (l : List UInt8) : List AV := match l with
  | [] => [.nilp, .nils]
  | _ :: _ => [.ptr β 0, .tsl τ l.length (bytesA l)]
def bT (σ : St) (τ : Nat) (l : List UInt8) : St := match l with
  | [] => σ
  | _ :: _ => σ.setTip τ (5, 1, l.length)
def bS (σ : St) (β τ : Nat) (l : List UInt8) : St := (bT σ τ l).setBox β (bB β τ l)
theorem bS_box (σ : St) (β τ : Nat) (l : List UInt8) : (bS σ β τ l).box β = some (bB β τ l) := by simp [bS, St.setBox, upd]
theorem bS_other (σ : St) {β γ : Nat} (τ : Nat) (l : List UInt8) [h : Apart γ β] : (bS σ β τ l).box γ = σ.box γ := by
  cases l <;> simp [bS, bT, St.setBox, St.setTip, upd, h.ne]
theorem bS_bt (σ : St) (β τ : Nat) (l : List UInt8) : (bS σ β τ l).bt = σ.bt := by cases l <;> rfl
theorem bS_glob (σ : St) (β τ : Nat) (l : List UInt8) : (bS σ β τ l).glob = σ.glob := by cases l <;> rfl
theorem bS_set (σ : St) {β γ : Nat} (τ : Nat) (l : List UInt8) (c : List AV) [h : Apart γ β] : (bS σ β τ l).setBox γ c = bS (σ.setBox γ c) β τ l := by
  have hc : ∀ (s : St) (d : List AV), (s.setBox β d).setBox γ c = (s.setBox γ c).setBox β d := fun s d => by
    simp only [St.setBox, St.mk.injEq, and_true]
    funext j
    simp only [upd]
    by_cases h1 : j = γ
    · subst h1; rw [if_pos rfl, if_neg h.ne, if_pos rfl]
    · rw [if_neg h1, if_neg h1]
  cases l <;> exact hc _ _
theorem bS_nil (σ : St) (β τ : Nat) : bS σ β τ [] = σ.setBox β [.nilp, .nils] := rfl
theorem setBox_same {σ : St} {β : Nat} {c : List AV} (h : σ.box β = some c) : σ.setBox β c = σ := by
  unfold St.setBox
  have : upd σ.box β c = σ.box := by
    funext j
    simp only [upd]
    split
    · rename_i e; subst e; exact h.symm
    · rfl
  rw [this]
theorem bS_none {σ : St} {β γ τ : Nat} {l : List UInt8} : (bS σ β τ l).box γ = none ↔ (Apart γ β ∧ Apart β γ) ∧ σ.box γ = none := by
  unfold bS
  rw [St.box_noneA]
  cases l <;> rfl
theorem bS_le {σ s : St} {β τ : Nat} {l : List UInt8} (h : St.le s σ) (hn : s.box β = none) (ht : l ≠ [] → s.tip τ = none) : St.le s (bS σ β τ l) := by
  cases l with
  | nil => exact St.le_setBox h hn
  | cons x l => exact St.le_setBox (St.le_setTip h (ht (by simp))) hn
def BW (f : Nat) (xs : List AV) (r : AV) (β : Nat) (m : List UInt8) : Prop := ∀ (σ : St) (τ : Nat) (l : List UInt8), (l ≠ [] → σ.tip τ = none) → σ.bt β = some 63 → l.length + m.length ≤ 1000000000000 →
  AC Tryd.prog f (.ptr β 0 :: xs) (bS σ β τ l) (fun v s => v = r ∧ ∃ τ', σ.tip τ' = none ∧ (l ≠ [] → τ' = τ) ∧ s = bS σ β τ' (l ++ m))
theorem a_WriteByte (β : Nat) (c : UInt8) : BW 39 [.int .u8 c.toNat] .nili β [c] := by
  intro σ τ l hτ hbt hl
  simp only [List.length_cons, List.length_nil] at hl
  refine AC_intro c39 b39 (Nat.le_of_ble_eq_true rfl) ?_
  simp only [c39, ↓R1, RR, seval]
  cases l with
  | nil =>
    rw [bS_nil]
    refine AC.mono (AC.wk (a_cc_fresh (β := β) (x := .nils) (by simp only [↓R1, RR, seval]) (by simpa [St.setBox] using hbt)) (wkL_refl _)) ?_
    rintro _ _ ⟨rfl, rfl⟩
    simp only [↓R1, RR, seval]
    refine appV_tip (n := 0) (cs := []) rfl trivial rfl rfl rfl ?_ ?_ (fun ρ hρ => ?_)
    · unfold maxLen; decide
    · decide
    simp only [↓R1, RR, seval]
    refine endP_id (by simp) (by first | (simp [rvsS, rvS]; done) | (simp only [rvsS, rvS, ↓R1, RR, seval]; try simp)) ⟨rfl, ρ, hρ, (fun h => absurd rfl h), ?_⟩
    simp [bS, bT, bB, bytesA]
    rfl
  | cons x l =>
    have hT : (bS σ β τ (x :: l)).box β = some [.ptr β 0, .tsl τ (l.length + 1) (bytesA (x :: l))] := bS_box _ _ _ _
    refine AC.mono (AC.wk (a_cc_used (β := β) hT) (wkL_refl _)) ?_
    rintro _ _ ⟨rfl, rfl⟩
    simp only [hT, ↓R1, RR, seval]
    simp only [List.length_cons] at hl
    refine appV_tslK rfl ?_ ?_ rfl ?_ ?_ ?_
    · simp [bS, bT, St.setBox, St.setTip, upd]
    · simp [bytesA]
    · unfold maxLen; omega
    · omega
    simp only [hT, ↓R1, RR, seval]
    refine endP_id (by simp) (by first | (simp [rvsS, rvS]; done) | (simp only [rvsS, rvS, ↓R1, RR, seval]; try simp)) ⟨rfl, τ, hτ (by simp), fun _ => rfl, ?_⟩
    simp [bS, bT, bB, bytesA, St.setBox, St.setTip]
    constructor <;> (funext j; simp only [upd]; split <;> rfl)
theorem a_WriteString (β : Nat) (m : List UInt8) (hm : m ≠ []) : BW 35 [.str m] (.tup [.int .i64 m.length, .nili]) β m := by
  intro σ τ l hτ hbt hl
  refine AC_intro c35 b35 (Nat.le_of_ble_eq_true rfl) ?_
  simp only [c35, aOp_appS, ↓R1, RR, seval]
  cases l with
  | nil =>
    rw [bS_nil]
    refine AC.mono (AC.wk (a_cc_fresh (β := β) (x := .nils) (by simp only [↓R1, RR, seval]) (by simpa [St.setBox] using hbt)) (wkL_refl _)) ?_
    rintro _ _ ⟨rfl, rfl⟩
    simp only [aOp_appS, ↓R1, RR, seval]
    simp only [List.length_nil] at hl
    refine appSV_nil hm ?_ ?_ (fun ρ hρ => ?_)
    · unfold maxLen; omega
    · omega
    simp only [aOp_appS, ↓R1, RR, seval]
    refine endP_id (by simp) (by first | (simp [rvsS, rvS]; done) | (simp only [rvsS, rvS, ↓R1, RR, seval]; try simp)) ⟨rfl, ρ, hρ, (fun h => absurd rfl h), ?_⟩
    cases m with
    | nil => exact (hm rfl).elim
    | cons y m => simp [bS, bT, bB, bytesA]; rfl
  | cons x l =>
    have hT : (bS σ β τ (x :: l)).box β = some [.ptr β 0, .tsl τ (l.length + 1) (bytesA (x :: l))] := bS_box _ _ _ _
    refine AC.mono (AC.wk (a_cc_used (β := β) hT) (wkL_refl _)) ?_
    rintro _ _ ⟨rfl, rfl⟩
    simp only [aOp_appS, hT, ↓R1, RR, seval]
    simp only [List.length_cons] at hl
    refine appSV_tsl hm ?_ ?_ ?_ ?_ ?_
    · simp [bS, bT, St.setBox, St.setTip, upd]
    · simp [bytesA]
    · unfold maxLen; omega
    · omega
    simp only [aOp_appS, hT, ↓R1, RR, seval]
    refine endP_id (by simp) (by first | (simp [rvsS, rvS]; done) | (simp only [rvsS, rvS, ↓R1, RR, seval]; try simp)) ⟨rfl, τ, hτ (by simp), fun _ => rfl, ?_⟩
    simp [bS, bT, bB, bytesA, St.setBox, St.setTip]
    (repeat' apply And.intro)
    all_goals first | omega | (funext j; simp only [upd]; split <;> simp [Nat.add_assoc, Nat.add_comm, Nat.add_left_comm])
theorem BW.used {f β τ : Nat} {xs : List AV} {r : AV} {m l : List UInt8} {σ : St} (h : BW f xs r β m) (h0 : l ≠ []) (hτ : σ.tip τ = none) (hb : σ.bt β = some 63) (hl : l.length + m.length ≤ 1000000000000) :
    AC Tryd.prog f (.ptr β 0 :: xs) (bS σ β τ l) (fun v s => v = r ∧ s = bS σ β τ (l ++ m)) :=
  (h σ τ l (fun _ => hτ) hb hl).mono (by rintro v s ⟨rfl, τ', _, h2, rfl⟩; rw [h2 h0]; exact ⟨rfl, rfl⟩)
theorem a_Len (σ : St) (β τ : Nat) (l : List UInt8) : AC Tryd.prog 36 [.ptr β 0] (bS σ β τ l) (fun v s => v = .int .i64 l.length ∧ s = bS σ β τ l) := by
  refine AC_intro c36 b36 (Nat.le_of_ble_eq_true rfl) ?_
  have hT : (bS σ β τ l).box β = some (bB β τ l) := bS_box _ _ _ _
  cases l with
  | nil =>
    simp only [c36, hT, bB, ↓R1, RR, seval]
    exact endP_id (by simp) (by simp [rvsS, rvS]) ⟨rfl, rfl⟩
  | cons x l =>
    simp only [c36, hT, bB, ↓R1, RR, seval]
    exact endP_id (by simp) (by simp [rvsS, rvS]) ⟨rfl, rfl⟩
theorem a_String {σ : St} {β τ : Nat} {l : List UInt8} (hτ : l ≠ [] → σ.tip τ = none) (hbt : σ.bt β = some 63) : AC Tryd.prog 37 [.ptr β 0] (bS σ β τ l) (fun v s => v = .str l ∧ s = σ.setBox β (bB β τ l)) := by
  intro g w vs hI hv
  obtain ⟨b, rfl, hg⟩ := ptr_one hv
  have hT : (bS σ β τ l).box β = some (bB β τ l) := bS_box _ _ _ _
  obtain ⟨b', cs, T, h1, h2, h3⟩ := hI.box β _ hT
  rw [hg] at h1; cases h1
  obtain ⟨b', cs', h1, h2'⟩ := hI.bty β _ (by rw [bS_bt]; exact hbt)
  rw [hg] at h1; cases h1
  rw [h2] at h2'; cases h2'
  refine .inl ⟨bs_enter _ _, ?_⟩
  cases l with
  | nil =>
    obtain ⟨v0, r0, hl, hv0, hr0⟩ := h3.1.cons_inv
    obtain ⟨v1, r1, rfl, hv1, hr1⟩ := hr0.cons_inv
    rw [hr1.nil_inv] at hl
    have hv1' : v1 = .slice none 0 0 := by cases hv1; rfl
    subst hv1'
    have hcs : cs = #[v0, .slice none 0 0] := by rw [← Array.toArray_toList (xs := cs), hl]
    subst hcs
    refine (Any.Builder_String_nil Tryd.lays169 Tryd.Builder_Extra_169 w.heap.size b v0 w h2).mono ?_
    rintro e w' ⟨rfl, hb⟩
    exact ⟨_, .str [], _, _, rfl, ⟨rfl, rfl⟩, hI.below hb, Ext.below g hb, .str []⟩
  | cons x m =>
    generalize hlx : x :: m = l at *
    have h0 : l ≠ [] := by rw [← hlx]; simp
    have hτ := hτ h0
    have hbB : bB β τ l = [.ptr β 0, .tsl τ l.length (bytesA l)] := by rw [← hlx]; rfl
    have hbSt : bS σ β τ l = (σ.setTip τ (5, 1, l.length)).setBox β (bB β τ l) := by rw [← hlx]; rfl
    rw [hbB] at h3
    obtain ⟨v0, r0, hl, hv0, hr0⟩ := h3.1.cons_inv
    obtain ⟨v1, r1, rfl, hv1, hr1⟩ := hr0.cons_inv
    rw [hr1.nil_inv] at hl
    have hcs : cs = #[v0, v1] := by rw [← Array.toArray_toList (xs := cs), hl]
    subst hcs
    have htip : (bS σ β τ l).tip τ = some (5, 1, l.length) := by rw [hbSt]; simp [St.setBox, St.setTip, upd]
    obtain ⟨v, k1, k2, k4⟩ := hI.tip τ _ _ _ htip
    have hv1t := hv1.tsl_inv
    rw [k1] at hv1t
    cases hv1t
    have hheld : Held l.length v1 := .inr (by simpa using h0)
    obtain ⟨xs, hown, hblk⟩ := k2 hheld
    obtain ⟨hxl, hown⟩ := hown
    rcases hown with ⟨rfl, hz⟩ | ⟨gb, cap, cur, rfl, _, hgb, hnc, hcm, hsz, htk⟩
    · exact absurd (List.length_eq_zero_iff.1 hz) h0
    obtain ⟨hcl, hnb, hrow⟩ := hblk gb rfl
    have hlies := hv1.slv_inv (n := l.length) (cs := bytesA l) rfl
    rcases hlies with ⟨x, hx, hx2, _⟩ | ⟨b2, off, cap2, u, hx, hx2, hL⟩
    · exact absurd (List.length_eq_zero_iff.1 hx2) h0
    cases hx
    have hcell : cur.toList.take l.length = byteCells l := by
      apply List.ext_getElem?
      intro i
      rw [List.getElem?_take]
      split
      · rename_i hi
        have hr := hL.rel.1
        have hc1 : (bytesA l)[i]? = some (.int .u8 (l[i]).toNat) := by simp [bytesA, hi]
        obtain ⟨v, hv, hrv⟩ := hr.get hc1
        have := hL.cell i v hv
        rw [Lib.cell_of_heap hgb, Nat.zero_add, ← Array.getElem?_toList] at this
        rw [this, hrv.int_inv]
        simp [byteCells, hi]
      · rename_i hi
        rw [List.getElem?_eq_none (by simp [byteCells]; omega)]
    refine (bs_string b gb cap v0 cur l w h2 hgb hnc hcm (by omega) hcell h0).mono ?_
    rintro e w' ⟨rfl, rfl⟩
    have hI2 := dropTip_inv hI τ
    have hI3 := drewInv hI2
    have hst : (bS σ β τ l).dropTip τ = σ.setBox β (bB β τ l) := by
      rw [hbSt]
      simp only [St.dropTip, St.setBox, St.setTip, St.mk.injEq, true_and, and_true]
      funext j
      simp only [upd]
      split
      · rename_i e; subst e; exact hτ.symm
      · rfl
    rw [hst] at hI3
    have htt : ∀ τ' x v, (σ.setBox β (bB β τ l)).tip τ' = some x → g.tip τ' x.2.2 = some v → Held x.2.2 v → v.ownBlock ≠ some gb := by
      intro τ' x v hx hv hh
      have hne : τ' ≠ τ := by
        rintro rfl
        rw [show (σ.setBox β (bB β τ' l)).tip = σ.tip from rfl, hτ] at hx
        cases hx
      have hx' : (bS σ β τ l).tip τ' = some x := by
        rw [hbSt]
        show upd σ.tip τ _ τ' = some x
        rw [upd, if_neg hne]; exact hx
      exact hI.tipinj τ τ' _ x _ v gb htip hx' (fun e => hne e.symm) k1 hv hheld hh rfl
    have hgd : w.drew.heap[gb]? = some (.cells cur 5 (0, 0)) := hgb
    obtain ⟨hI4, he4⟩ := freeze_row (n := l.length) hI3 hgd hcl hnb htt
    exact ⟨_, .str l, _, g, rfl, ⟨rfl, rfl⟩, hI4, (drewExt (g := g) (w := w)).trans he4, .str l⟩
end Go.Proofs.YtemddijemikleaaDoor
namespace Go.Proofs.YtemddijemikleaaDoor
open Go.Abs
set_option linter.all false
set_option maxRecDepth 100000
theorem p40 (b : UInt8) : Pu Tryd.prog 40 [.int .u8 b.toNat] (.bool (isPlain b)) := by
  (refine Pu_intro c40 b40 (Nat.le_of_ble_eq_true rfl) fun σ => ?_; simp only [c40, ↓R1, RR, seval])
  repeat' (first | (with_reducible rw [allocV_eq]) | (with_reducible refine And.intro ?_ ?_; focus (intros; (repeat' (with_reducible apply And.intro)) <;> first | omega | (simp only [RZ]; omega))) | (with_reducible apply And.intro) | ((first | (refine gdV_split (fun hc => ?_) (fun hc => ?_) <;> (try simp only [hc, ↓R1, RR, seval])) | refine condV_split (fun hc => ?_) (fun hc => ?_) | (with_reducible intro β hβ; (try simp only [RB] at hβ); (repeat (obtain ⟨⟨_, _⟩, hβ⟩ := hβ)); (try (have hbis := apart_is (by assumption) hβ; obtain ⟨_, _⟩ := hbis)))) <;> (try simp only [↓R1, RR, seval])))
  all_goals (refine endP_pu (by simp) (by first | (simp [rvsS, rvS]; done) | (simp only [rvsS, rvS, ↓R1, RR, seval]; try simp)) (wk_of_eq ?_) (by (repeat (first | exact St.le_refl _ | (refine St.le_new ?_ (by assumption)) | (refine St.le_newT ?_ (by assumption))))))
  all_goals (simp only [resAV, rvV, List.map_cons, List.map_nil, ↓R1, RR, seval])
  all_goals rfl
theorem p49 (b : UInt8) : Pu Tryd.prog 49 [.int .u8 b.toNat] (.bool (isBare b)) := by
  (refine Pu_intro c49 b49 (Nat.le_of_ble_eq_true rfl) fun σ => ?_; simp only [c49, ↓R1, RR, seval])
  repeat' (first | (with_reducible rw [allocV_eq]) | (with_reducible refine And.intro ?_ ?_; focus (intros; (repeat' (with_reducible apply And.intro)) <;> first | omega | (simp only [RZ]; omega))) | (with_reducible apply And.intro) | ((first | (refine gdV_split (fun hc => ?_) (fun hc => ?_) <;> (try simp only [hc, ↓R1, RR, seval])) | refine condV_split (fun hc => ?_) (fun hc => ?_) | (with_reducible intro β hβ; (try simp only [RB] at hβ); (repeat (obtain ⟨⟨_, _⟩, hβ⟩ := hβ)); (try (have hbis := apart_is (by assumption) hβ; obtain ⟨_, _⟩ := hbis))) | refine Pt (p40 b) ?_ | refine Ct (p40 b) ?_) <;> (try simp only [↓R1, RR, seval])))
  all_goals (refine endP_pu (by simp) (by first | (simp [rvsS, rvS]; done) | (simp only [rvsS, rvS, ↓R1, RR, seval]; try simp)) (wk_of_eq ?_) (by (repeat (first | exact St.le_refl _ | (refine St.le_new ?_ (by assumption)) | (refine St.le_newT ?_ (by assumption))))))
  all_goals (simp only [resAV, rvV, List.map_cons, List.map_nil, ↓R1, RR, seval])
  all_goals simp only [isBare, hc, Bool.true_and, Bool.false_and]
theorem p69 (b : UInt8) : Pu Tryd.prog 69 [.int .u8 b.toNat] (.bool (isBlank b)) := by
  (refine Pu_intro c69 b69 (Nat.le_of_ble_eq_true rfl) fun σ => ?_; simp only [c69, ↓R1, RR, seval])
  repeat' (first | (with_reducible rw [allocV_eq]) | (with_reducible refine And.intro ?_ ?_; focus (intros; (repeat' (with_reducible apply And.intro)) <;> first | omega | (simp only [RZ]; omega))) | (with_reducible apply And.intro) | ((first | (refine gdV_split (fun hc => ?_) (fun hc => ?_) <;> (try simp only [hc, ↓R1, RR, seval])) | refine condV_split (fun hc => ?_) (fun hc => ?_) | (with_reducible intro β hβ; (try simp only [RB] at hβ); (repeat (obtain ⟨⟨_, _⟩, hβ⟩ := hβ)); (try (have hbis := apart_is (by assumption) hβ; obtain ⟨_, _⟩ := hbis)))) <;> (try simp only [↓R1, RR, seval])))
  all_goals (refine endP_pu (by simp) (by first | (simp [rvsS, rvS]; done) | (simp only [rvsS, rvS, ↓R1, RR, seval]; try simp)) (wk_of_eq ?_) (by (repeat (first | exact St.le_refl _ | (refine St.le_new ?_ (by assumption)) | (refine St.le_newT ?_ (by assumption))))))
  all_goals (simp only [resAV, rvV, List.map_cons, List.map_nil, ↓R1, RR, seval])
  all_goals rfl
theorem lt_u8 (b : UInt8) : b.toNat < 256 := b.toNat_lt
def hexP (n : Nat) : Int :=
  bif decide ((48 : Int) ≤ n) && decide ((n : Int) ≤ 57) then IntKind.u8.wrap ((n : Int) - 48)
  else bif decide ((97 : Int) ≤ bits .or .u8 n 32) && decide (bits .or .u8 n 32 ≤ 102) then IntKind.u8.wrap (IntKind.u8.wrap (bits .or .u8 n 32 - 97) + 10) else 16
theorem hexP_all : ((List.range 256).all fun n => hexP n == ((if 48 ≤ n ∧ n ≤ 57 then n - 48 else if 97 ≤ n ∧ n ≤ 102 then n - 87 else if 65 ≤ n ∧ n ≤ 70 then n - 55 else 16 : Nat) : Int)) = true := by kernel_rfl
theorem hexP_eq (b : UInt8) : hexP b.toNat = hexV b := by
  have := List.all_eq_true.1 hexP_all b.toNat (List.mem_range.2 (lt_u8 b))
  exact beq_iff_eq.1 this
theorem p83 (b : UInt8) : Pu Tryd.prog 83 [.int .u8 b.toNat] (.int .u8 (hexV b)) := by
  rw [← hexP_eq]
  (refine Pu_intro c83 b83 (Nat.le_of_ble_eq_true rfl) fun σ => ?_; simp only [c83, ↓R1, RR, seval])
  repeat' (first | (with_reducible rw [allocV_eq]) | (with_reducible refine And.intro ?_ ?_; focus (intros; (repeat' (with_reducible apply And.intro)) <;> first | omega | (simp only [RZ]; omega))) | (with_reducible apply And.intro) | ((first | (refine gdV_split (fun hc => ?_) (fun hc => ?_) <;> (try simp only [hc, ↓R1, RR, seval])) | refine condV_split (fun hc => ?_) (fun hc => ?_) | (with_reducible intro β hβ; (try simp only [RB] at hβ); (repeat (obtain ⟨⟨_, _⟩, hβ⟩ := hβ)); (try (have hbis := apart_is (by assumption) hβ; obtain ⟨_, _⟩ := hbis)))) <;> (try simp only [↓R1, RR, seval])))
  all_goals (refine endP_pu (by simp) (by first | (simp [rvsS, rvS]; done) | (simp only [rvsS, rvS, ↓R1, RR, seval]; try simp)) (wk_of_eq ?_) (by (repeat (first | exact St.le_refl _ | (refine St.le_new ?_ (by assumption)) | (refine St.le_newT ?_ (by assumption))))))
  all_goals (simp only [resAV, rvV, List.map_cons, List.map_nil, ↓R1, RR, seval])
  all_goals simp only [hexP, *, cond_true, cond_false]
theorem a_left {σ : St} {β k : Nat} {l : List UInt8} (hb : σ.box β = some [.str l, .int .i64 k]) : AC Tryd.prog 59 [.ptr β 0] σ (fun r s => r = .bool (decide ((k : Int) < l.length)) ∧ s = σ) := by
  haveI : BoxIs σ β [.str l, .int .i64 k] := ⟨hb⟩
  (refine AC_intro c59 b59 (Nat.le_of_ble_eq_true rfl) ?_; simp only [c59, ↓R1, RR, seval])
  repeat' (first | (with_reducible rw [allocV_eq]) | (with_reducible refine And.intro ?_ ?_; focus (intros; (repeat' (with_reducible apply And.intro)) <;> first | omega | (simp only [RZ]; omega))) | (with_reducible apply And.intro) | ((first | (refine gdV_split (fun hc => ?_) (fun hc => ?_) <;> (try simp only [hc, ↓R1, RR, seval])) | refine condV_split (fun hc => ?_) (fun hc => ?_) | (with_reducible intro β hβ; (try simp only [RB] at hβ); (repeat (obtain ⟨⟨_, _⟩, hβ⟩ := hβ)); (try (have hbis := apart_is (by assumption) hβ; obtain ⟨_, _⟩ := hbis)))) <;> (try simp only [↓R1, RR, seval])))
  all_goals (refine endP_pu (by simp) (by first | (simp [rvsS, rvS]; done) | (simp only [rvsS, rvS, ↓R1, RR, seval]; try simp)) (wk_of_eq ?_) (by (repeat (first | exact St.le_refl _ | (refine St.le_new ?_ (by assumption)) | (refine St.le_newT ?_ (by assumption))))))
  all_goals (simp only [resAV, rvV, List.map_cons, List.map_nil, ↓R1, RR, seval])
theorem get_drop {l r : List UInt8} {k : Nat} {c : UInt8} (h : l.drop k = c :: r) : l[k]? = some c ∧ k < l.length ∧ l.drop (k + 1) = r := by
  have h1 : l[k]? = some c := by
    have := List.getElem?_drop (xs := l) (i := k) (j := 0)
    rw [h] at this; simpa using this.symm
  refine ⟨h1, (List.getElem?_eq_some_iff.1 h1).1, ?_⟩
  rw [← List.drop_drop, h]; rfl
theorem a_peek {σ : St} {β k : Nat} {l r : List UInt8} {c : UInt8} (hb : σ.box β = some [.str l, .int .i64 k]) (hr : l.drop k = c :: r) : AC Tryd.prog 60 [.ptr β 0] σ (fun r s => r = .int .u8 c.toNat ∧ s = σ) := by
  haveI : BoxIs σ β [.str l, .int .i64 k] := ⟨hb⟩
  obtain ⟨h1, h2, _⟩ := get_drop hr
  (refine AC_intro c60 b60 (Nat.le_of_ble_eq_true rfl) ?_; simp only [c60, ↓R1, RR, seval, h1])
  repeat' (first | (with_reducible rw [allocV_eq]) | (with_reducible refine And.intro ?_ ?_; focus (intros; (repeat' (with_reducible apply And.intro)) <;> first | omega | (simp only [RZ]; omega))) | (with_reducible apply And.intro) | ((first | (refine gdV_split (fun hc => ?_) (fun hc => ?_) <;> (try simp only [hc, ↓R1, RR, seval, h1])) | refine condV_split (fun hc => ?_) (fun hc => ?_) | (with_reducible intro β hβ; (try simp only [RB] at hβ); (repeat (obtain ⟨⟨_, _⟩, hβ⟩ := hβ)); (try (have hbis := apart_is (by assumption) hβ; obtain ⟨_, _⟩ := hbis)))) <;> (try simp only [↓R1, RR, seval, h1])))
  (refine endP_pu (by simp) (by first | (simp [rvsS, rvS]; done) | (simp only [rvsS, rvS, ↓R1, RR, seval, h1]; try simp)) (wk_of_eq ?_) (by (repeat (first | exact St.le_refl _ | (refine St.le_new ?_ (by assumption)) | (refine St.le_newT ?_ (by assumption))))))
  (simp only [resAV, rvV, List.map_cons, List.map_nil, ↓R1, RR, seval, h1])
theorem a_next {σ : St} {β k : Nat} {l r : List UInt8} {c : UInt8} (hb : σ.box β = some [.str l, .int .i64 k]) (hr : l.drop k = c :: r) (hl : l.length ≤ 1000000) : AC Tryd.prog 74 [.ptr β 0] σ (fun r s => r = .int .u8 c.toNat ∧ s = σ.setBox β [.str l, .int .i64 (k + 1 : Nat)]) := by
  haveI : BoxIs σ β [.str l, .int .i64 k] := ⟨hb⟩
  obtain ⟨h1, h2, _⟩ := get_drop hr
  have hw : IntKind.i64.wrap ((k : Int) + 1) = ((k + 1 : Nat) : Int) := by rw [wrap64 (by omega) (by omega)]; omega
  have hw2 : IntKind.i64.wrap (((k + 1 : Nat) : Int) - 1) = (k : Nat) := by rw [wrap64 (by omega) (by omega)]; omega
  (refine AC_intro c74 b74 (Nat.le_of_ble_eq_true rfl) ?_; simp only [c74, ↓R1, RR, seval, h1, hw, hw2])
  repeat' (first | (with_reducible rw [allocV_eq]) | (with_reducible refine And.intro ?_ ?_; focus (intros; (repeat' (with_reducible apply And.intro)) <;> first | omega | (simp only [RZ]; omega))) | (with_reducible apply And.intro) | ((first | (refine gdV_split (fun hc => ?_) (fun hc => ?_) <;> (try simp only [hc, ↓R1, RR, seval, h1, hw, hw2])) | refine condV_split (fun hc => ?_) (fun hc => ?_) | (with_reducible intro β hβ; (try simp only [RB] at hβ); (repeat (obtain ⟨⟨_, _⟩, hβ⟩ := hβ)); (try (have hbis := apart_is (by assumption) hβ; obtain ⟨_, _⟩ := hbis)))) <;> (try simp only [↓R1, RR, seval, h1, hw, hw2])))
  (refine endP_id (by simp) (by first | (simp [rvsS, rvS]; done) | (simp only [rvsS, rvS, ↓R1, RR, seval, h1, hw, hw2]; try simp)) ?_)
  exact ⟨rfl, rfl⟩
end Go.Proofs.YtemddijemikleaaDoor
namespace Go.Proofs.YtemddijemikleaaDoor
open Go.Abs
set_option linter.all false
set_option maxRecDepth 100000
def posOf (l r : List UInt8) : Nat := l.length - r.length
theorem drop_cases (l : List UInt8) (k : Nat) (h : k ≤ l.length) : (l.drop k = [] ∧ k = l.length) ∨ ∃ c r, l.drop k = c :: r ∧ k < l.length := by
  cases hd : l.drop k with
  | nil =>
    have := congrArg List.length hd
    simp at this
    exact .inl ⟨rfl, by omega⟩
  | cons c r => exact .inr ⟨c, r, rfl, (get_drop hd).2.1⟩
theorem pos_drop (l : List UInt8) (k : Nat) (h : k ≤ l.length) : posOf l (l.drop k) = k := by simp [posOf]; omega
theorem pos_cons {l r : List UInt8} {k : Nat} {c : UInt8} (h : l.drop k = c :: r) : posOf l r = k + 1 := by
  obtain ⟨_, h2, h3⟩ := get_drop h
  rw [← h3]; exact pos_drop l (k + 1) h2
theorem drop_pos {l r : List UInt8} (h : r <:+ l) : l.drop (posOf l r) = r ∧ posOf l r ≤ l.length := by
  obtain ⟨p, rfl⟩ := h
  have : posOf (p ++ r) r = p.length := by simp [posOf]
  rw [this]
  exact ⟨by simp, by simp⟩
theorem drop_suf (l : List UInt8) (k : Nat) : l.drop k <:+ l := List.drop_suffix k l
set_option maxHeartbeats 1000000 in
theorem a_skip {σ : St} {β k : Nat} {l : List UInt8} (hb : σ.box β = some [.str l, .int .i64 k]) (hk : k ≤ l.length) (hl : l.length ≤ 1000000) : AC Tryd.prog 58 [.ptr β 0] σ (fun r s => r = .tup [] ∧ s = σ.setBox β [.str l, .int .i64 (posOf l ((l.drop k).dropWhile isBlank) : Nat)]) := by
  have hc1 : True := trivial
  have hp : True := trivial
  have hw : True := trivial
  (refine AC_intro c58 b58 (Nat.le_of_ble_eq_true rfl) ?_; simp only [c58, ↓R1, RR, Nat.reduceEqDiff, Nat.reduceAdd, Nat.reduceMul, Nat.reduceSub, Nat.reduceLeDiff, Nat.reduceLT, reduceIte, reduceCtorEq, Int.reduceBNe, Int.reduceBEq, hw, hc1, hp])
  refine loopV_st (α := Nat) (fun _ => [(0, .ptr β 0)]) (fun j => σ.setBox β [.str l, .int .i64 (j : Nat)]) (fun j => j ≤ l.length ∧ (l.drop j).dropWhile isBlank = (l.drop k).dropWhile isBlank) (fun j => l.length - j) k (by simp [subF, slot, wk_refl]) (by simp only [St.le, St.setBox, upd]; exact ⟨fun γ c h => by split at h <;> simp_all, fun _ _ h => h, fun _ _ h => h, fun _ _ h => h, fun _ _ h => h⟩) ⟨hk, rfl⟩ ?_
  rintro j ⟨hj, hI⟩
  simp only [↓R1, RR, Nat.reduceEqDiff, Nat.reduceAdd, Nat.reduceMul, Nat.reduceSub, Nat.reduceLeDiff, Nat.reduceLT, reduceIte, reduceCtorEq, Int.reduceBNe, Int.reduceBEq, hw, hc1, hp]
  have a1 := a_left (σ := σ.setBox β [.str l, .int .i64 (j : Nat)]) (β := β) (k := j) (l := l) (by simp only [↓R1, RR, Nat.reduceEqDiff, Nat.reduceAdd, Nat.reduceMul, Nat.reduceSub, Nat.reduceLeDiff, Nat.reduceLT, reduceIte, reduceCtorEq, Int.reduceBNe, Int.reduceBEq, hw, hc1, hp])
  rcases drop_cases l j hj with ⟨hd, rfl⟩ | ⟨c, r, hd, hlt⟩
  · have hc1 : decide ((l.length : Int) < (l.length : Int)) = false := by simp
    simp only [hc1] at a1
    repeat' (first | (with_reducible rw [allocV_eq]) | (with_reducible refine And.intro ?_ ?_; focus (intros; (repeat' (with_reducible apply And.intro)) <;> first | omega | (simp only [RZ]; omega))) | (with_reducible apply And.intro) | ((first | (refine gdV_split (fun hc => ?_) (fun hc => ?_) <;> (try simp only [hc, ↓R1, RR, Nat.reduceEqDiff, Nat.reduceAdd, Nat.reduceMul, Nat.reduceSub, Nat.reduceLeDiff, Nat.reduceLT, reduceIte, reduceCtorEq, Int.reduceBNe, Int.reduceBEq, hw, hc1, hp])) | refine condV_split (fun hc => ?_) (fun hc => ?_) | (with_reducible intro β hβ; (try simp only [RB] at hβ); (repeat (obtain ⟨⟨_, _⟩, hβ⟩ := hβ)); (try (have hbis := apart_is (by assumption) hβ; obtain ⟨_, _⟩ := hbis))) | (refine AC.mono (AC.wk (a1) (wkL_refl _)) ?_; (rintro _ _ ⟨rfl, rfl⟩))) <;> (try simp only [↓R1, RR, Nat.reduceEqDiff, Nat.reduceAdd, Nat.reduceMul, Nat.reduceSub, Nat.reduceLeDiff, Nat.reduceLT, reduceIte, reduceCtorEq, Int.reduceBNe, Int.reduceBEq, hw, hc1, hp])))
    (refine endP_id (by simp) (by first | (simp [rvsS, rvS]; done) | (simp only [rvsS, rvS, ↓R1, RR, Nat.reduceEqDiff, Nat.reduceAdd, Nat.reduceMul, Nat.reduceSub, Nat.reduceLeDiff, Nat.reduceLT, reduceIte, reduceCtorEq, Int.reduceBNe, Int.reduceBEq, hw, hc1, hp]; try simp)) ?_)
    rw [← hI, hd]
    exact ⟨rfl, rfl⟩
  · have hc1 : decide ((j : Int) < (l.length : Int)) = true := by simpa using hlt
    have hw : IntKind.i64.wrap ((j : Int) + 1) = ((j + 1 : Nat) : Int) := by rw [wrap64 (by omega) (by omega)]; omega
    simp only [hc1] at a1
    have a2 := a_peek (σ := σ.setBox β [.str l, .int .i64 (j : Nat)]) (β := β) (k := j) (l := l) (by simp only [↓R1, RR, Nat.reduceEqDiff, Nat.reduceAdd, Nat.reduceMul, Nat.reduceSub, Nat.reduceLeDiff, Nat.reduceLT, reduceIte, reduceCtorEq, Int.reduceBNe, Int.reduceBEq, hw, hc1, hp]) hd
    have a3 := p69 c
    cases hp : isBlank c with
    | true =>
      rw [hp] at a3
      repeat' (first | (with_reducible rw [allocV_eq]) | (with_reducible refine And.intro ?_ ?_; focus (intros; (repeat' (with_reducible apply And.intro)) <;> first | omega | (simp only [RZ]; omega))) | (with_reducible apply And.intro) | ((first | (refine gdV_split (fun hc => ?_) (fun hc => ?_) <;> (try simp only [hc, ↓R1, RR, Nat.reduceEqDiff, Nat.reduceAdd, Nat.reduceMul, Nat.reduceSub, Nat.reduceLeDiff, Nat.reduceLT, reduceIte, reduceCtorEq, Int.reduceBNe, Int.reduceBEq, hw, hc1, hp])) | refine condV_split (fun hc => ?_) (fun hc => ?_) | (with_reducible intro β hβ; (try simp only [RB] at hβ); (repeat (obtain ⟨⟨_, _⟩, hβ⟩ := hβ)); (try (have hbis := apart_is (by assumption) hβ; obtain ⟨_, _⟩ := hbis))) | (refine AC.mono (AC.wk (a1) (wkL_refl _)) ?_; (rintro _ _ ⟨rfl, rfl⟩)) | (refine AC.mono (AC.wk (a2) (wkL_refl _)) ?_; (rintro _ _ ⟨rfl, rfl⟩)) | refine Pt (a3) ?_ | refine Ct (a3) ?_) <;> (try simp only [↓R1, RR, Nat.reduceEqDiff, Nat.reduceAdd, Nat.reduceMul, Nat.reduceSub, Nat.reduceLeDiff, Nat.reduceLT, reduceIte, reduceCtorEq, Int.reduceBNe, Int.reduceBEq, hw, hc1, hp])))
      refine ⟨j + 1, ⟨by omega, ?_⟩, by simp [subF, slot, wk_refl], St.le_refl _, by omega⟩
      rw [← hI, hd, (get_drop hd).2.2, List.dropWhile_cons, hp]; rfl
    | false =>
      rw [hp] at a3
      repeat' (first | (with_reducible rw [allocV_eq]) | (with_reducible refine And.intro ?_ ?_; focus (intros; (repeat' (with_reducible apply And.intro)) <;> first | omega | (simp only [RZ]; omega))) | (with_reducible apply And.intro) | ((first | (refine gdV_split (fun hc => ?_) (fun hc => ?_) <;> (try simp only [hc, ↓R1, RR, Nat.reduceEqDiff, Nat.reduceAdd, Nat.reduceMul, Nat.reduceSub, Nat.reduceLeDiff, Nat.reduceLT, reduceIte, reduceCtorEq, Int.reduceBNe, Int.reduceBEq, hw, hc1, hp])) | refine condV_split (fun hc => ?_) (fun hc => ?_) | (with_reducible intro β hβ; (try simp only [RB] at hβ); (repeat (obtain ⟨⟨_, _⟩, hβ⟩ := hβ)); (try (have hbis := apart_is (by assumption) hβ; obtain ⟨_, _⟩ := hbis))) | (refine AC.mono (AC.wk (a1) (wkL_refl _)) ?_; (rintro _ _ ⟨rfl, rfl⟩)) | (refine AC.mono (AC.wk (a2) (wkL_refl _)) ?_; (rintro _ _ ⟨rfl, rfl⟩)) | refine Pt (a3) ?_ | refine Ct (a3) ?_) <;> (try simp only [↓R1, RR, Nat.reduceEqDiff, Nat.reduceAdd, Nat.reduceMul, Nat.reduceSub, Nat.reduceLeDiff, Nat.reduceLT, reduceIte, reduceCtorEq, Int.reduceBNe, Int.reduceBEq, hw, hc1, hp])))
      (refine endP_id (by simp) (by first | (simp [rvsS, rvS]; done) | (simp only [rvsS, rvS, ↓R1, RR, Nat.reduceEqDiff, Nat.reduceAdd, Nat.reduceMul, Nat.reduceSub, Nat.reduceLeDiff, Nat.reduceLT, reduceIte, reduceCtorEq, Int.reduceBNe, Int.reduceBEq, hw, hc1, hp]; try simp)) ?_)
      rw [← hI, hd, List.dropWhile_cons, hp]
      refine ⟨rfl, ?_⟩
      rw [if_neg (by simp), ← hd, pos_drop l j hj]
theorem callSV_box {P : Program} {σ : St} {K : AV → St → Prop} {f β : Nat} {xs ys c d : List AV} {v : AV} {h : Hold (σ, K)} (hb : σ.box β = some d) (hp : AC P f ys σ (fun x s => x = v ∧ s = σ.setBox β c)) (hw : wkL xs ys) (hK : K v (σ.setBox β c)) : callSV P f xs σ K h :=
  callSV_i hp hw ⟨rfl, fun γ hγ => by
    simp only [St.setBox, upd]
    split
    · rename_i e; subst e; rw [hb] at hγ; cases hγ
    · exact hγ, fun _ h => h⟩ hK
theorem le_same {σ : St} {β : Nat} {c : List AV} (hb : σ.box β = some c) : St.le (σ.setBox β c) σ :=
  ⟨fun γ d h => by
    simp only [St.setBox, upd] at h
    split at h
    · rename_i e; subst e; rw [← h]; exact hb
    · exact h, fun _ _ h => h, fun _ _ h => h, fun _ _ h => h, fun _ _ h => h⟩
def Took (σ : St) (β : Nat) (l : List UInt8) {α : Type} (o : Option (α × List UInt8)) (val : α → AV) (r : AV) (s : St) : Prop :=
  match o with
  | some (x, t) => r = .tup [val x, .bool true] ∧ s = σ.setBox β [.str l, .int .i64 (posOf l t : Nat)]
  | none => ∃ v j, r = .tup [v, .bool false] ∧ s = σ.setBox β [.str l, .int .i64 (j : Nat)]
def byteV (b : UInt8) : AV := .int .u8 b.toNat
theorem toNat8 {n : Nat} (h : n < 256) : (UInt8.ofNat n).toNat = n := by
  rw [UInt8.toNat_ofNat']; exact Nat.mod_eq_of_lt h
theorem nib_all : ((List.range 16).all fun a => (List.range 17).all fun b => (a == 16 || b == 16 || decide (IntKind.u8.wrap (bits .or .u8 (IntKind.u8.wrap ((a : Int) * 2 ^ min 4 IntKind.u8.bits)) (bits .and .u8 b 15)) = ((16 * a + b : Nat) : Int)) && decide (bits .or .u8 (IntKind.u8.wrap ((a : Int) * 2 ^ min 4 IntKind.u8.bits)) (bits .and .u8 b 15) = ((16 * a + b : Nat) : Int)))) = true := by kernel_rfl
theorem nib (a b : Nat) (ha : a < 16) (hb : b < 16) : bits .or .u8 (IntKind.u8.wrap ((a : Int) * 2 ^ min 4 IntKind.u8.bits)) (bits .and .u8 b 15) = ((16 * a + b : Nat) : Int) := by
  have h1 := List.all_eq_true.1 nib_all a (List.mem_range.2 ha)
  have h2 := List.all_eq_true.1 h1 b (List.mem_range.2 (by omega))
  have e1 : (a == 16) = false := by simp; omega
  have e2 : (b == 16) = false := by simp; omega
  simp only [e1, e2, Bool.false_or, Bool.and_eq_true, decide_eq_true_eq] at h2
  exact h2.2
theorem sub_wrap {k n : Nat} (h : k ≤ n) (hn : n ≤ 1000000) : IntKind.i64.wrap ((n : Int) - k) = ((n - k : Nat) : Int) := by
  rw [wrap64 (by omega) (by omega)]; omega
set_option maxHeartbeats 1000000 in
theorem a_pair {σ : St} {β k : Nat} {l : List UInt8} (hb : σ.box β = some [.str l, .int .i64 k]) (hk : k ≤ l.length) (hl : l.length ≤ 1000000) : AC Tryd.prog 80 [.ptr β 0] σ (Took σ β l (pairS (l.drop k)) byteV) := by
  haveI : BoxIs σ β [.str l, .int .i64 k] := ⟨hb⟩
  have hw := sub_wrap hk hl
  have hlen : (l.drop k).length = l.length - k := by simp
  cases hd : l.drop k with
  | nil =>
    rw [hd] at hlen
    have hc1 : decide (((l.length - k : Nat) : Int) < 2) = true := by simp at hlen; simp; omega
    (refine AC_intro c80 b80 (Nat.le_of_ble_eq_true rfl) ?_; simp only [c80, ↓R1, RR, Nat.reduceEqDiff, Nat.reduceAdd, Nat.reduceMul, Nat.reduceSub, Nat.reduceLeDiff, Nat.reduceLT, reduceIte, reduceCtorEq, Int.reduceBNe, Int.reduceBEq, hw, hc1])
    repeat' (first | (with_reducible rw [allocV_eq]) | (with_reducible refine And.intro ?_ ?_; focus (intros; (repeat' (with_reducible apply And.intro)) <;> first | omega | (simp only [RZ]; omega))) | (with_reducible apply And.intro) | ((first | (refine gdV_split (fun hc => ?_) (fun hc => ?_) <;> (try simp only [hc, ↓R1, RR, Nat.reduceEqDiff, Nat.reduceAdd, Nat.reduceMul, Nat.reduceSub, Nat.reduceLeDiff, Nat.reduceLT, reduceIte, reduceCtorEq, Int.reduceBNe, Int.reduceBEq, hw, hc1])) | refine condV_split (fun hc => ?_) (fun hc => ?_) | (with_reducible intro β hβ; (try simp only [RB] at hβ); (repeat (obtain ⟨⟨_, _⟩, hβ⟩ := hβ)); (try (have hbis := apart_is (by assumption) hβ; obtain ⟨_, _⟩ := hbis)))) <;> (try simp only [↓R1, RR, Nat.reduceEqDiff, Nat.reduceAdd, Nat.reduceMul, Nat.reduceSub, Nat.reduceLeDiff, Nat.reduceLT, reduceIte, reduceCtorEq, Int.reduceBNe, Int.reduceBEq, hw, hc1])))
    refine endP_intro (by simp) (by first | (simp [rvsS, rvS]; done) | (simp only [rvsS, rvS, ↓R1, RR, Nat.reduceEqDiff, Nat.reduceAdd, Nat.reduceMul, Nat.reduceSub, Nat.reduceLeDiff, Nat.reduceLT, reduceIte, reduceCtorEq, Int.reduceBNe, Int.reduceBEq, hw, hc1]; try simp)) (wk_refl _) (le_same hb) ⟨_, k, rfl, rfl⟩
  | cons c r =>
    cases hr : r with
    | nil =>
      rw [hd, hr] at hlen
      have hc1 : decide (((l.length - k : Nat) : Int) < 2) = true := by simp at hlen; simp; omega
      (refine AC_intro c80 b80 (Nat.le_of_ble_eq_true rfl) ?_; simp only [c80, ↓R1, RR, Nat.reduceEqDiff, Nat.reduceAdd, Nat.reduceMul, Nat.reduceSub, Nat.reduceLeDiff, Nat.reduceLT, reduceIte, reduceCtorEq, Int.reduceBNe, Int.reduceBEq, hw, hc1])
      repeat' (first | (with_reducible rw [allocV_eq]) | (with_reducible refine And.intro ?_ ?_; focus (intros; (repeat' (with_reducible apply And.intro)) <;> first | omega | (simp only [RZ]; omega))) | (with_reducible apply And.intro) | ((first | (refine gdV_split (fun hc => ?_) (fun hc => ?_) <;> (try simp only [hc, ↓R1, RR, Nat.reduceEqDiff, Nat.reduceAdd, Nat.reduceMul, Nat.reduceSub, Nat.reduceLeDiff, Nat.reduceLT, reduceIte, reduceCtorEq, Int.reduceBNe, Int.reduceBEq, hw, hc1])) | refine condV_split (fun hc => ?_) (fun hc => ?_) | (with_reducible intro β hβ; (try simp only [RB] at hβ); (repeat (obtain ⟨⟨_, _⟩, hβ⟩ := hβ)); (try (have hbis := apart_is (by assumption) hβ; obtain ⟨_, _⟩ := hbis)))) <;> (try simp only [↓R1, RR, Nat.reduceEqDiff, Nat.reduceAdd, Nat.reduceMul, Nat.reduceSub, Nat.reduceLeDiff, Nat.reduceLT, reduceIte, reduceCtorEq, Int.reduceBNe, Int.reduceBEq, hw, hc1])))
      refine endP_intro (by simp) (by first | (simp [rvsS, rvS]; done) | (simp only [rvsS, rvS, ↓R1, RR, Nat.reduceEqDiff, Nat.reduceAdd, Nat.reduceMul, Nat.reduceSub, Nat.reduceLeDiff, Nat.reduceLT, reduceIte, reduceCtorEq, Int.reduceBNe, Int.reduceBEq, hw, hc1]; try simp)) (wk_refl _) (le_same hb) ⟨_, k, rfl, rfl⟩
    | cons c2 r2 =>
      rw [hd, hr] at hlen
      have hc1 : decide (((l.length - k : Nat) : Int) < 2) = false := by simp at hlen; simp; omega
      have a1 := a_next hb hd hl
      have hd2 : l.drop (k + 1) = c2 :: r2 := by rw [(get_drop hd).2.2, hr]
      have hb2 : (σ.setBox β [.str l, .int .i64 (k + 1 : Nat)]).box β = some [.str l, .int .i64 (k + 1 : Nat)] := by simp only [↓R1, RR, Nat.reduceEqDiff, Nat.reduceAdd, Nat.reduceMul, Nat.reduceSub, Nat.reduceLeDiff, Nat.reduceLT, reduceIte, reduceCtorEq, Int.reduceBNe, Int.reduceBEq, hw, hc1]
      have a2 := a_next hb2 hd2 hl
      have d1 := p83 c
      have d2 := p83 c2
      (refine AC_intro c80 b80 (Nat.le_of_ble_eq_true rfl) ?_; simp only [c80, ↓R1, RR, Nat.reduceEqDiff, Nat.reduceAdd, Nat.reduceMul, Nat.reduceSub, Nat.reduceLeDiff, Nat.reduceLT, reduceIte, reduceCtorEq, Int.reduceBNe, Int.reduceBEq, hw, hc1])
      repeat' (first | (with_reducible rw [allocV_eq]) | (with_reducible refine And.intro ?_ ?_; focus (intros; (repeat' (with_reducible apply And.intro)) <;> first | omega | (simp only [RZ]; omega))) | (with_reducible apply And.intro) | ((first | (refine gdV_split (fun hc => ?_) (fun hc => ?_) <;> (try simp only [hc, ↓R1, RR, Nat.reduceEqDiff, Nat.reduceAdd, Nat.reduceMul, Nat.reduceSub, Nat.reduceLeDiff, Nat.reduceLT, reduceIte, reduceCtorEq, Int.reduceBNe, Int.reduceBEq, hw, hc1])) | refine condV_split (fun hc => ?_) (fun hc => ?_) | (with_reducible intro β hβ; (try simp only [RB] at hβ); (repeat (obtain ⟨⟨_, _⟩, hβ⟩ := hβ)); (try (have hbis := apart_is (by assumption) hβ; obtain ⟨_, _⟩ := hbis))) | refine callSV_box hb a1 (wkL_refl _) ?_ | refine callSV_box hb2 a2 (wkL_refl _) ?_ | refine Pt (d1) ?_ | refine Ct (d1) ?_ | refine Pt (d2) ?_ | refine Ct (d2) ?_) <;> (try simp only [↓R1, RR, Nat.reduceEqDiff, Nat.reduceAdd, Nat.reduceMul, Nat.reduceSub, Nat.reduceLeDiff, Nat.reduceLT, reduceIte, reduceCtorEq, Int.reduceBNe, Int.reduceBEq, hw, hc1])))
      have hp1 : posOf l r2 = k + 1 + 1 := pos_cons hd2
      by_cases h : hexV c < 16 ∧ hexV c2 < 16
      · have hn := nib _ _ h.1 h.2
        refine endP_intro (r := .tup [byteV (UInt8.ofNat (16 * hexV c + hexV c2)), .bool true]) (by simp) (by first | (simp [rvsS, rvS]; done) | (simp only [rvsS, rvS, ↓R1, RR, Nat.reduceEqDiff, Nat.reduceAdd, Nat.reduceMul, Nat.reduceSub, Nat.reduceLeDiff, Nat.reduceLT, reduceIte, reduceCtorEq, Int.reduceBNe, Int.reduceBEq, hw, hc1]; try simp)) (wk_of_eq ?_) (St.le_refl _) ?_
        · (simp only [resAV, rvV, List.map_cons, List.map_nil, ↓R1, RR, Nat.reduceEqDiff, Nat.reduceAdd, Nat.reduceMul, Nat.reduceSub, Nat.reduceLeDiff, Nat.reduceLT, reduceIte, reduceCtorEq, Int.reduceBNe, Int.reduceBEq, hw, hc1])
          rw [show Int.toNat 4 = 4 from rfl, hn, byteV, toNat8 (by omega)]
          have e1 : decide ((hexV c : Int) < 16) = true := by simp; omega
          have e2 : decide ((hexV c2 : Int) < 16) = true := by simp; omega
          rw [e1, e2]; rfl
        · simp only [Took, pairS, if_pos h, hp1, true_and]
      · refine endP_intro (r := .tup [.int .u8 (bits .or .u8 (IntKind.u8.wrap ((hexV c : Int) * 2 ^ min (Int.toNat 4) IntKind.u8.bits)) (bits .and .u8 (hexV c2) 15)), .bool false]) (by simp) (by first | (simp [rvsS, rvS]; done) | (simp only [rvsS, rvS, ↓R1, RR, Nat.reduceEqDiff, Nat.reduceAdd, Nat.reduceMul, Nat.reduceSub, Nat.reduceLeDiff, Nat.reduceLT, reduceIte, reduceCtorEq, Int.reduceBNe, Int.reduceBEq, hw, hc1]; try simp)) (wk_of_eq ?_) (St.le_refl _) ?_
        · (simp only [resAV, rvV, List.map_cons, List.map_nil, ↓R1, RR, Nat.reduceEqDiff, Nat.reduceAdd, Nat.reduceMul, Nat.reduceSub, Nat.reduceLeDiff, Nat.reduceLT, reduceIte, reduceCtorEq, Int.reduceBNe, Int.reduceBEq, hw, hc1])
          have : (decide ((hexV c : Int) < 16) && decide ((hexV c2 : Int) < 16)) = false := by
            rw [← Bool.not_eq_true, Bool.and_eq_true, decide_eq_true_eq, decide_eq_true_eq]; omega
          rw [this]
        · simp only [Took, pairS, if_neg h]
          exact ⟨_, k + 1 + 1, rfl, rfl⟩
theorem u8_eq (b c : UInt8) : ((b.toNat : Int) == (c.toNat : Int)) = decide (b = c) := by
  rw [Bool.eq_iff_iff]; simp only [beq_iff_eq, decide_eq_true_eq, Int.natCast_inj, UInt8.toNat_inj]
theorem u8_120 (b : UInt8) : ((b.toNat : Int) == 120) = decide (b = 120) := u8_eq b 120
theorem u8_34 (b : UInt8) : ((b.toNat : Int) == 34) = decide (b = 34) := u8_eq b 34
theorem u8_92 (b : UInt8) : ((b.toNat : Int) == 92) = decide (b = 92) := u8_eq b 92
theorem u8_35 (b : UInt8) : ((b.toNat : Int) == 35) = decide (b = 35) := u8_eq b 35
set_option maxHeartbeats 1000000 in
theorem a_escaped {σ : St} {β k : Nat} {l : List UInt8} (hb : σ.box β = some [.str l, .int .i64 k]) (hk : k ≤ l.length) (hl : l.length ≤ 1000000) : AC Tryd.prog 75 [.ptr β 0] σ (Took σ β l (escS (l.drop k)) byteV) := by
  haveI : BoxIs σ β [.str l, .int .i64 k] := ⟨hb⟩
  have a1 := a_left hb
  rcases drop_cases l k hk with ⟨hd, he⟩ | ⟨c, r, hd, hlt⟩
  · have hc1 : decide ((k : Int) < (l.length : Int)) = false := by simp; omega
    rw [hd]
    (refine AC_intro c75 b75 (Nat.le_of_ble_eq_true rfl) ?_; simp only [c75, ↓R1, RR, Nat.reduceEqDiff, Nat.reduceAdd, Nat.reduceMul, Nat.reduceSub, Nat.reduceLeDiff, Nat.reduceLT, reduceIte, reduceCtorEq, Int.reduceBNe, Int.reduceBEq, u8_120, u8_34, u8_92, hc1])
    repeat' (first | (with_reducible rw [allocV_eq]) | (with_reducible refine And.intro ?_ ?_; focus (intros; (repeat' (with_reducible apply And.intro)) <;> first | omega | (simp only [RZ]; omega))) | (with_reducible apply And.intro) | ((first | (refine gdV_split (fun hc => ?_) (fun hc => ?_) <;> (try simp only [hc, ↓R1, RR, Nat.reduceEqDiff, Nat.reduceAdd, Nat.reduceMul, Nat.reduceSub, Nat.reduceLeDiff, Nat.reduceLT, reduceIte, reduceCtorEq, Int.reduceBNe, Int.reduceBEq, u8_120, u8_34, u8_92, hc1])) | refine condV_split (fun hc => ?_) (fun hc => ?_) | (with_reducible intro β hβ; (try simp only [RB] at hβ); (repeat (obtain ⟨⟨_, _⟩, hβ⟩ := hβ)); (try (have hbis := apart_is (by assumption) hβ; obtain ⟨_, _⟩ := hbis))) | (refine AC.mono (AC.wk (a1) (wkL_refl _)) ?_; (rintro _ _ ⟨rfl, rfl⟩))) <;> (try simp only [↓R1, RR, Nat.reduceEqDiff, Nat.reduceAdd, Nat.reduceMul, Nat.reduceSub, Nat.reduceLeDiff, Nat.reduceLT, reduceIte, reduceCtorEq, Int.reduceBNe, Int.reduceBEq, u8_120, u8_34, u8_92, hc1])))
    refine endP_intro (by simp) (by first | (simp [rvsS, rvS]; done) | (simp only [rvsS, rvS, ↓R1, RR, Nat.reduceEqDiff, Nat.reduceAdd, Nat.reduceMul, Nat.reduceSub, Nat.reduceLeDiff, Nat.reduceLT, reduceIte, reduceCtorEq, Int.reduceBNe, Int.reduceBEq, u8_120, u8_34, u8_92, hc1]; try simp)) (wk_refl _) (le_same hb) ⟨_, k, rfl, rfl⟩
  · have hc1 : decide ((k : Int) < (l.length : Int)) = true := by simpa using hlt
    have a2 := a_next hb hd hl
    have hb2 : (σ.setBox β [.str l, .int .i64 (k + 1 : Nat)]).box β = some [.str l, .int .i64 (k + 1 : Nat)] := by simp only [↓R1, RR, Nat.reduceEqDiff, Nat.reduceAdd, Nat.reduceMul, Nat.reduceSub, Nat.reduceLeDiff, Nat.reduceLT, reduceIte, reduceCtorEq, Int.reduceBNe, Int.reduceBEq, u8_120, u8_34, u8_92, hc1]
    have a3 := a_pair hb2 hlt hl
    rw [(get_drop hd).2.2] at a3
    have hp1 : posOf l r = k + 1 := pos_cons hd
    rw [hd]
    (refine AC_intro c75 b75 (Nat.le_of_ble_eq_true rfl) ?_; simp only [c75, ↓R1, RR, Nat.reduceEqDiff, Nat.reduceAdd, Nat.reduceMul, Nat.reduceSub, Nat.reduceLeDiff, Nat.reduceLT, reduceIte, reduceCtorEq, Int.reduceBNe, Int.reduceBEq, u8_120, u8_34, u8_92, hc1])
    repeat' (first | (with_reducible rw [allocV_eq]) | (with_reducible refine And.intro ?_ ?_; focus (intros; (repeat' (with_reducible apply And.intro)) <;> first | omega | (simp only [RZ]; omega))) | (with_reducible apply And.intro) | ((first | (refine gdV_split (fun hc => ?_) (fun hc => ?_) <;> (try simp only [hc, ↓R1, RR, Nat.reduceEqDiff, Nat.reduceAdd, Nat.reduceMul, Nat.reduceSub, Nat.reduceLeDiff, Nat.reduceLT, reduceIte, reduceCtorEq, Int.reduceBNe, Int.reduceBEq, u8_120, u8_34, u8_92, hc1])) | refine condV_split (fun hc => ?_) (fun hc => ?_) | (with_reducible intro β hβ; (try simp only [RB] at hβ); (repeat (obtain ⟨⟨_, _⟩, hβ⟩ := hβ)); (try (have hbis := apart_is (by assumption) hβ; obtain ⟨_, _⟩ := hbis))) | (refine AC.mono (AC.wk (a1) (wkL_refl _)) ?_; (rintro _ _ ⟨rfl, rfl⟩)) | (refine AC.mono (AC.wk (a2) (wkL_refl _)) ?_; (rintro _ _ ⟨rfl, rfl⟩))) <;> (try simp only [↓R1, RR, Nat.reduceEqDiff, Nat.reduceAdd, Nat.reduceMul, Nat.reduceSub, Nat.reduceLeDiff, Nat.reduceLT, reduceIte, reduceCtorEq, Int.reduceBNe, Int.reduceBEq, u8_120, u8_34, u8_92, hc1])))
    · have h : c = 120 := by simpa using hc
      cases hp : pairS r with
      | none =>
        rw [hp] at a3
        refine (AC.wk a3 (wkL_refl _)).mono ?_
        rintro _ _ ⟨v, j, rfl, rfl⟩
        simp only [↓R1, RR, Nat.reduceEqDiff, Nat.reduceAdd, Nat.reduceMul, Nat.reduceSub, Nat.reduceLeDiff, Nat.reduceLT, reduceIte, reduceCtorEq, Int.reduceBNe, Int.reduceBEq, u8_120, u8_34, u8_92, hc1]
        (refine endP_id (by simp) (by first | (simp [rvsS, rvS]; done) | (simp only [rvsS, rvS, ↓R1, RR, Nat.reduceEqDiff, Nat.reduceAdd, Nat.reduceMul, Nat.reduceSub, Nat.reduceLeDiff, Nat.reduceLT, reduceIte, reduceCtorEq, Int.reduceBNe, Int.reduceBEq, u8_120, u8_34, u8_92, hc1]; try simp)) ?_)
        simp only [Took, escS, if_pos h, hp]
        exact ⟨v, j, rfl, rfl⟩
      | some q =>
        rw [hp] at a3
        refine (AC.wk a3 (wkL_refl _)).mono ?_
        rintro _ _ ⟨rfl, rfl⟩
        simp only [↓R1, RR, Nat.reduceEqDiff, Nat.reduceAdd, Nat.reduceMul, Nat.reduceSub, Nat.reduceLeDiff, Nat.reduceLT, reduceIte, reduceCtorEq, Int.reduceBNe, Int.reduceBEq, u8_120, u8_34, u8_92, hc1]
        (refine endP_id (by simp) (by first | (simp [rvsS, rvS]; done) | (simp only [rvsS, rvS, ↓R1, RR, Nat.reduceEqDiff, Nat.reduceAdd, Nat.reduceMul, Nat.reduceSub, Nat.reduceLeDiff, Nat.reduceLT, reduceIte, reduceCtorEq, Int.reduceBNe, Int.reduceBEq, u8_120, u8_34, u8_92, hc1]; try simp)) ?_)
        simp only [Took, escS, if_pos h, hp]
        exact ⟨rfl, trivial⟩
    · have h : c ≠ 120 := by simpa using hc
      by_cases h2 : c = 34 ∨ c = 92
      · refine endP_intro (r := .tup [byteV c, .bool true]) (by simp) (by first | (simp [rvsS, rvS]; done) | (simp only [rvsS, rvS, ↓R1, RR, Nat.reduceEqDiff, Nat.reduceAdd, Nat.reduceMul, Nat.reduceSub, Nat.reduceLeDiff, Nat.reduceLT, reduceIte, reduceCtorEq, Int.reduceBNe, Int.reduceBEq, u8_120, u8_34, u8_92, hc1]; try simp)) (wk_of_eq ?_) (St.le_refl _) ?_
        · (simp only [resAV, rvV, List.map_cons, List.map_nil, ↓R1, RR, Nat.reduceEqDiff, Nat.reduceAdd, Nat.reduceMul, Nat.reduceSub, Nat.reduceLeDiff, Nat.reduceLT, reduceIte, reduceCtorEq, Int.reduceBNe, Int.reduceBEq, u8_120, u8_34, u8_92, hc1])
          rcases h2 with rfl | rfl <;> rfl
        · simp only [Took, escS, if_neg h, if_pos h2, hp1, true_and]
      · refine endP_intro (r := .tup [byteV c, .bool false]) (by simp) (by first | (simp [rvsS, rvS]; done) | (simp only [rvsS, rvS, ↓R1, RR, Nat.reduceEqDiff, Nat.reduceAdd, Nat.reduceMul, Nat.reduceSub, Nat.reduceLeDiff, Nat.reduceLT, reduceIte, reduceCtorEq, Int.reduceBNe, Int.reduceBEq, u8_120, u8_34, u8_92, hc1]; try simp)) (wk_of_eq ?_) (St.le_refl _) ?_
        · (simp only [resAV, rvV, List.map_cons, List.map_nil, ↓R1, RR, Nat.reduceEqDiff, Nat.reduceAdd, Nat.reduceMul, Nat.reduceSub, Nat.reduceLeDiff, Nat.reduceLT, reduceIte, reduceCtorEq, Int.reduceBNe, Int.reduceBEq, u8_120, u8_34, u8_92, hc1])
          have e1 : decide (c = 34) = false := decide_eq_false (fun e => h2 (.inl e))
          have e2 : decide (c = 92) = false := decide_eq_false (fun e => h2 (.inr e))
          rw [e1, e2]; rfl
        · simp only [Took, escS, if_neg h, if_neg h2]
          exact ⟨_, k + 1, rfl, rfl⟩
end Go.Proofs.YtemddijemikleaaDoor
namespace Go.Proofs.YtemddijemikleaaDoor
open Go.Abs
set_option linter.all false
set_option maxRecDepth 100000
theorem all_take (p : UInt8 → Bool) (l : List UInt8) {k : Nat} (h : k < l.length) : (l.take (k + 1)).all p = ((l.take k).all p && p l[k]) := by
  rw [← List.take_append_getElem h, List.all_append]; simp
theorem bytesL_get (l : List UInt8) {k : Nat} (h : k < l.length) : ((l.map fun b => AV.int .u8 b.toNat).drop (k * 1)).take 1 = [.int .u8 l[k].toNat] := by
  rw [Nat.mul_one, List.drop_eq_getElem_cons (by simpa using h)]
  simp
set_option maxHeartbeats 1000000 in
theorem p29 (l : List UInt8) (hl : l.length ≤ 1000000) : Pu Tryd.prog 29 [.str l] (.bool (bareS l)) := by
  have q1 : True := trivial
  have q2 : True := trivial
  have hw : True := trivial
  have hd : True := trivial
  (refine Pu_intro c29 b29 (Nat.le_of_ble_eq_true rfl) fun σ => ?_; simp only [c29, ↓R1, RR, Nat.reduceEqDiff, Nat.reduceAdd, Nat.reduceMul, Nat.reduceSub, Nat.reduceLeDiff, Nat.reduceLT, reduceIte, reduceCtorEq, Int.reduceBNe, Int.reduceBEq, q1, q2, hw, hd])
  refine loopV_for l.length (fun k => [(0, .str l), (6, .sl false l.length (l.map fun b => .int .u8 b.toNat)), (7, .int .i64 (l.length : Nat)), (8, .int .i64 (k : Nat))]) (fun _ => σ) (fun k => (l.take k).all isBare = true) (by simp [subF, slot, wk_refl]) (St.le_refl _) (by simp) (fun k hk hI => ?_)
  by_cases hlt : k < l.length
  · have q1 : decide ((k : Int) < (l.length : Int)) = true := by rw [decide_eq_true_eq]; omega
    have hd := bytesL_get l hlt
    have hw : IntKind.i64.wrap ((k : Int) + 1) = ((k + 1 : Nat) : Int) := by rw [wrap64 (by omega) (by omega)]; omega
    have hp := p49 l[k]
    simp only [q1, ↓R1, RR, Nat.reduceEqDiff, Nat.reduceAdd, Nat.reduceMul, Nat.reduceSub, Nat.reduceLeDiff, Nat.reduceLT, reduceIte, reduceCtorEq, Int.reduceBNe, Int.reduceBEq, q1, q2, hw, hd]
    cases hb : isBare l[k] with
    | true =>
      rw [hb] at hp
      repeat' (first | (with_reducible rw [allocV_eq]) | (refine gdV_split (fun hc => ?_) (fun hc => ?_) <;> (try simp only [hc, ↓R1, RR, Nat.reduceEqDiff, Nat.reduceAdd, Nat.reduceMul, Nat.reduceSub, Nat.reduceLeDiff, Nat.reduceLT, reduceIte, reduceCtorEq, Int.reduceBNe, Int.reduceBEq, q1, q2, hw, hd])) | ((first | refine condV_split (fun hc => ?_) (fun hc => ?_) | (with_reducible intro β hβ; (try simp only [St.box_noneA, St.tip_noneA, St.tip_set, St.box_tip, St.box_lp, St.tip_lp] at hβ); (repeat (obtain ⟨⟨_, _⟩, hβ⟩ := hβ)); (try (have hbis := apart_is (by assumption) hβ; obtain ⟨_, _⟩ := hbis)))) <;> (try simp only [↓R1, RR, Nat.reduceEqDiff, Nat.reduceAdd, Nat.reduceMul, Nat.reduceSub, Nat.reduceLeDiff, Nat.reduceLT, reduceIte, reduceCtorEq, Int.reduceBNe, Int.reduceBEq, q1, q2, hw, hd])) | (with_reducible refine And.intro ?_ ?_; (focus (first | omega | (intros; (repeat' (with_reducible apply And.intro)) <;> first | omega | (simp only [List.length_map]; omega))))) | (with_reducible apply And.intro) | ((first | refine Pu.to (hp) (wkL_refl _) ?_ | refine callDV_pu (hp) (wkL_refl _) ?_); (try simp only [↓R1, RR, Nat.reduceEqDiff, Nat.reduceAdd, Nat.reduceMul, Nat.reduceSub, Nat.reduceLeDiff, Nat.reduceLT, reduceIte, reduceCtorEq, Int.reduceBNe, Int.reduceBEq, q1, q2, hw, hd])))
      all_goals first | (simp only [List.length_map]; omega) | skip
      all_goals first | (rw [all_take _ _ hlt, hI, hb]; rfl) | (simp [subF, slot, wk_refl]; done) | exact St.le_refl _
    | false =>
      rw [hb] at hp
      repeat' (first | (with_reducible rw [allocV_eq]) | (refine gdV_split (fun hc => ?_) (fun hc => ?_) <;> (try simp only [hc, ↓R1, RR, Nat.reduceEqDiff, Nat.reduceAdd, Nat.reduceMul, Nat.reduceSub, Nat.reduceLeDiff, Nat.reduceLT, reduceIte, reduceCtorEq, Int.reduceBNe, Int.reduceBEq, q1, q2, hw, hd])) | ((first | refine condV_split (fun hc => ?_) (fun hc => ?_) | (with_reducible intro β hβ; (try simp only [St.box_noneA, St.tip_noneA, St.tip_set, St.box_tip, St.box_lp, St.tip_lp] at hβ); (repeat (obtain ⟨⟨_, _⟩, hβ⟩ := hβ)); (try (have hbis := apart_is (by assumption) hβ; obtain ⟨_, _⟩ := hbis)))) <;> (try simp only [↓R1, RR, Nat.reduceEqDiff, Nat.reduceAdd, Nat.reduceMul, Nat.reduceSub, Nat.reduceLeDiff, Nat.reduceLT, reduceIte, reduceCtorEq, Int.reduceBNe, Int.reduceBEq, q1, q2, hw, hd])) | (with_reducible refine And.intro ?_ ?_; (focus (first | omega | (intros; (repeat' (with_reducible apply And.intro)) <;> first | omega | (simp only [List.length_map]; omega))))) | (with_reducible apply And.intro) | ((first | refine Pu.to (hp) (wkL_refl _) ?_ | refine callDV_pu (hp) (wkL_refl _) ?_); (try simp only [↓R1, RR, Nat.reduceEqDiff, Nat.reduceAdd, Nat.reduceMul, Nat.reduceSub, Nat.reduceLeDiff, Nat.reduceLT, reduceIte, reduceCtorEq, Int.reduceBNe, Int.reduceBEq, q1, q2, hw, hd])))
      all_goals first | (simp only [List.length_map]; omega) | skip
      (refine endP_pu (by simp) (by first | (simp [rvsS, rvS]; done) | (simp only [rvsS, rvS, ↓R1, RR, Nat.reduceEqDiff, Nat.reduceAdd, Nat.reduceMul, Nat.reduceSub, Nat.reduceLeDiff, Nat.reduceLT, reduceIte, reduceCtorEq, Int.reduceBNe, Int.reduceBEq, q1, q2, hw, hd]; try simp)) (wk_of_eq ?_) (by (repeat (first | exact St.le_refl _ | (refine St.le_new ?_ (by assumption)) | (refine St.le_newT ?_ (by assumption))))))
      (simp only [resAV, rvV, List.map_cons, List.map_nil, ↓R1, RR, Nat.reduceEqDiff, Nat.reduceAdd, Nat.reduceMul, Nat.reduceSub, Nat.reduceLeDiff, Nat.reduceLT, reduceIte, reduceCtorEq, Int.reduceBNe, Int.reduceBEq, q1, q2, hw, hd])
      have : l.all isBare = false := by
        rw [← Bool.not_eq_true, List.all_eq_true]
        intro h
        have := h l[k] (List.getElem_mem hlt)
        rw [hb] at this; cases this
      simp only [bareS, this, Bool.false_and]
  · have hke : k = l.length := by omega
    subst hke
    have q1 : decide ((l.length : Int) < (l.length : Int)) = false := by simp
    rw [List.take_length] at hI
    by_cases hnil : l = []
    · have q2 : (l == []) = true := by rw [hnil]; rfl
      have e : bareS l = false := by rw [hnil]; rfl
      rw [e]
      simp only [q1, ↓R1, RR, Nat.reduceEqDiff, Nat.reduceAdd, Nat.reduceMul, Nat.reduceSub, Nat.reduceLeDiff, Nat.reduceLT, reduceIte, reduceCtorEq, Int.reduceBNe, Int.reduceBEq, q1, q2, hw, hd]
      repeat' (first | (with_reducible rw [allocV_eq]) | (refine gdV_split (fun hc => ?_) (fun hc => ?_) <;> (try simp only [hc, ↓R1, RR, Nat.reduceEqDiff, Nat.reduceAdd, Nat.reduceMul, Nat.reduceSub, Nat.reduceLeDiff, Nat.reduceLT, reduceIte, reduceCtorEq, Int.reduceBNe, Int.reduceBEq, q1, q2, hw, hd])) | ((first | refine condV_split (fun hc => ?_) (fun hc => ?_) | (with_reducible intro β hβ; (try simp only [St.box_noneA, St.tip_noneA, St.tip_set, St.box_tip, St.box_lp, St.tip_lp] at hβ); (repeat (obtain ⟨⟨_, _⟩, hβ⟩ := hβ)); (try (have hbis := apart_is (by assumption) hβ; obtain ⟨_, _⟩ := hbis)))) <;> (try simp only [↓R1, RR, Nat.reduceEqDiff, Nat.reduceAdd, Nat.reduceMul, Nat.reduceSub, Nat.reduceLeDiff, Nat.reduceLT, reduceIte, reduceCtorEq, Int.reduceBNe, Int.reduceBEq, q1, q2, hw, hd])) | (with_reducible refine And.intro ?_ ?_; (focus (first | omega | (intros; (repeat' (with_reducible apply And.intro)) <;> first | omega | (simp only [List.length_map]; omega))))) | (with_reducible apply And.intro))
      (refine endP_pu (by simp) (by first | (simp [rvsS, rvS]; done) | (simp only [rvsS, rvS, ↓R1, RR, Nat.reduceEqDiff, Nat.reduceAdd, Nat.reduceMul, Nat.reduceSub, Nat.reduceLeDiff, Nat.reduceLT, reduceIte, reduceCtorEq, Int.reduceBNe, Int.reduceBEq, q1, q2, hw, hd]; try simp)) (wk_of_eq ?_) (by (repeat (first | exact St.le_refl _ | (refine St.le_new ?_ (by assumption)) | (refine St.le_newT ?_ (by assumption))))))
      (simp only [resAV, rvV, List.map_cons, List.map_nil, ↓R1, RR, Nat.reduceEqDiff, Nat.reduceAdd, Nat.reduceMul, Nat.reduceSub, Nat.reduceLeDiff, Nat.reduceLT, reduceIte, reduceCtorEq, Int.reduceBNe, Int.reduceBEq, q1, q2, hw, hd])
    · obtain ⟨c, m, e⟩ : ∃ c m, l = c :: m := by
        cases l with
        | nil => exact (hnil rfl).elim
        | cons c m => exact ⟨c, m, rfl⟩
      have q2 : (l == []) = false := by rw [e]; rfl
      have hd : l[0]? = some c := by rw [e]; rfl
      have e2 : bareS l = ((c.toNat : Int) != 35) := by
        unfold bareS
        rw [hI, Bool.true_and]
        subst e
        show (c != 35) = _
        rw [bne, bne, u8_35]
        congr 1
      have hl1 : 0 < l.length := by rw [e]; simp
      rw [e2]
      simp only [q1, ↓R1, RR, Nat.reduceEqDiff, Nat.reduceAdd, Nat.reduceMul, Nat.reduceSub, Nat.reduceLeDiff, Nat.reduceLT, reduceIte, reduceCtorEq, Int.reduceBNe, Int.reduceBEq, q1, q2, hw, hd]
      repeat' (first | (with_reducible rw [allocV_eq]) | (refine gdV_split (fun hc => ?_) (fun hc => ?_) <;> (try simp only [hc, ↓R1, RR, Nat.reduceEqDiff, Nat.reduceAdd, Nat.reduceMul, Nat.reduceSub, Nat.reduceLeDiff, Nat.reduceLT, reduceIte, reduceCtorEq, Int.reduceBNe, Int.reduceBEq, q1, q2, hw, hd])) | ((first | refine condV_split (fun hc => ?_) (fun hc => ?_) | (with_reducible intro β hβ; (try simp only [St.box_noneA, St.tip_noneA, St.tip_set, St.box_tip, St.box_lp, St.tip_lp] at hβ); (repeat (obtain ⟨⟨_, _⟩, hβ⟩ := hβ)); (try (have hbis := apart_is (by assumption) hβ; obtain ⟨_, _⟩ := hbis)))) <;> (try simp only [↓R1, RR, Nat.reduceEqDiff, Nat.reduceAdd, Nat.reduceMul, Nat.reduceSub, Nat.reduceLeDiff, Nat.reduceLT, reduceIte, reduceCtorEq, Int.reduceBNe, Int.reduceBEq, q1, q2, hw, hd])) | (with_reducible refine And.intro ?_ ?_; (focus (first | omega | (intros; (repeat' (with_reducible apply And.intro)) <;> first | omega | (simp only [List.length_map]; omega))))) | (with_reducible apply And.intro))
      all_goals first | omega | skip
      (refine endP_pu (by simp) (by first | (simp [rvsS, rvS]; done) | (simp only [rvsS, rvS, ↓R1, RR, Nat.reduceEqDiff, Nat.reduceAdd, Nat.reduceMul, Nat.reduceSub, Nat.reduceLeDiff, Nat.reduceLT, reduceIte, reduceCtorEq, Int.reduceBNe, Int.reduceBEq, q1, q2, hw, hd]; try simp)) (wk_of_eq ?_) (by (repeat (first | exact St.le_refl _ | (refine St.le_new ?_ (by assumption)) | (refine St.le_newT ?_ (by assumption))))))
      (simp only [resAV, rvV, List.map_cons, List.map_nil, ↓R1, RR, Nat.reduceEqDiff, Nat.reduceAdd, Nat.reduceMul, Nat.reduceSub, Nat.reduceLeDiff, Nat.reduceLT, reduceIte, reduceCtorEq, Int.reduceBNe, Int.reduceBEq, q1, q2, hw, hd])
theorem hexc_get (n : Nat) (h : n < 16) : (([48, 49, 50, 51, 52, 53, 54, 55, 56, 57, 97, 98, 99, 100, 101, 102] : List UInt8).drop n).take 1 = [hexc n] := by
  have : ∀ n, n < 16 → (([48, 49, 50, 51, 52, 53, 54, 55, 56, 57, 97, 98, 99, 100, 101, 102] : List UInt8).drop n).take 1 = [hexc n] := by decide
  exact this n h
end Go.Proofs.YtemddijemikleaaDoor
namespace Go.Proofs.YtemddijemikleaaDoor
open Go.Abs
set_option linter.all false
set_option maxRecDepth 100000
def QTook (σ : St) (β : Nat) (l : List UInt8) (o : Option (List UInt8 × List UInt8)) (r : AV) (s : St) : Prop :=
  match o with
  | some (x, t) => r = .tup [.str x, .bool true] ∧ s = σ.setBox β [.str l, .int .i64 (posOf l t : Nat)]
  | none => ∃ j, r = .tup [.str [], .bool false] ∧ s = σ.setBox β [.str l, .int .i64 (j : Nat)]
set_option maxHeartbeats 4000000 in
theorem a_quoted {σ : St} {β k : Nat} {l : List UInt8} (hb : σ.box β = some [.str l, .int .i64 k]) (hk : k ≤ l.length) (hl : l.length ≤ 1000000) : AC Tryd.prog 70 [.ptr β 0] σ (QTook σ β l (quotS (l.drop k))) := by
  have hc1 : True := trivial
  have q1 : True := trivial
  have q2 : True := trivial
  have q3 : True := trivial
  haveI hbi : BoxIs σ β [.str l, .int .i64 k] := ⟨hb⟩
  (refine AC_intro c70 b70 (Nat.le_of_ble_eq_true rfl) ?_; simp only [c70, ↓R1, RR, seval, u8_120, u8_34, u8_92, hc1, q1, q2, q3])
  refine allocTV_i (fun γ hγ hγt => ?_)
  obtain ⟨_, _⟩ := apart_is hbi hγ
  simp only [↓R1, RR, seval, u8_120, u8_34, u8_92, hc1, q1, q2, q3]
  refine loopV_st (α := Nat × Nat × List UInt8) (fun _ => [(0, .ptr β 0), (4, .ptr γ 0)]) (fun z => bS ((σ.setBt γ 63).setBox β [.str l, .int .i64 (z.1 : Nat)]) γ z.2.1 z.2.2)
    (fun z => z.1 ≤ l.length ∧ (z.2.2 ≠ [] → σ.tip z.2.1 = none) ∧ z.2.2.length ≤ z.1 ∧ quotS (l.drop k) = (quotS (l.drop z.1)).map fun q => (z.2.2 ++ q.1, q.2)) (fun z => l.length - z.1) (k, 0, []) (by simp [subF, slot, wk_refl])
    (by rw [setBox_same (show (σ.setBt γ 63).box β = _ from hb)]; exact St.le_refl _) ⟨hk, (fun h => absurd rfl h), Nat.zero_le _, (by cases quotS (l.drop k) <;> simp)⟩ ?_
  rintro ⟨j, τ, out⟩ ⟨hj, hτ, hlen, hI⟩
  simp only at hj hτ hlen hI
  have hbS : ∀ (j : Nat) τ out, (bS ((σ.setBt γ 63).setBox β [.str l, .int .i64 j]) γ τ out).box β = some [.str l, .int .i64 j] := fun j τ out => by
    rw [bS_other]; simp only [↓R1, RR, seval, u8_120, u8_34, u8_92, hc1, q1, q2, q3]
  have hset : ∀ (i j : Nat) τ out, (bS ((σ.setBt γ 63).setBox β [.str l, .int .i64 i]) γ τ out).setBox β [.str l, .int .i64 j] = bS ((σ.setBt γ 63).setBox β [.str l, .int .i64 j]) γ τ out := fun i j τ out => by
    rw [bS_set]; simp only [↓R1, RR, seval, u8_120, u8_34, u8_92, hc1, q1, q2, q3]
  have hbt : ∀ j : Nat, ((σ.setBt γ 63).setBox β [.str l, .int .i64 j]).bt γ = some 63 := fun j => St.bt_same _ _ _
  have hle : ∀ (j : Nat) τ out, (out ≠ [] → σ.tip τ = none) → St.le (σ.setBox β [.str l, .int .i64 j]) (bS ((σ.setBt γ 63).setBox β [.str l, .int .i64 j]) γ τ out) := fun j τ out h => by
    refine bS_le (St.le_newBt (St.le_refl _) hγt) ?_ h
    rw [St.box_noneA]; exact ⟨⟨by assumption, by assumption⟩, hγ⟩
  have a1 := a_left (hbS j τ out)
  simp only [↓R1, RR, seval, u8_120, u8_34, u8_92, hc1, q1, q2, q3]
  rcases drop_cases l j hj with ⟨hd, he⟩ | ⟨c, r, hd, hlt⟩
  · have hc1 : decide ((j : Int) < (l.length : Int)) = false := by simp; omega
    repeat' (first | (with_reducible rw [allocV_eq]) | (with_reducible refine And.intro ?_ ?_; focus (intros; (repeat' (with_reducible apply And.intro)) <;> first | omega | (simp only [RZ]; omega))) | (with_reducible apply And.intro) | ((first | (refine gdV_split (fun hc => ?_) (fun hc => ?_) <;> (try simp only [hc, ↓R1, RR, seval, u8_120, u8_34, u8_92, hc1, q1, q2, q3])) | refine condV_split (fun hc => ?_) (fun hc => ?_) | (with_reducible intro β hβ; (try simp only [RB] at hβ); (repeat (obtain ⟨⟨_, _⟩, hβ⟩ := hβ)); (try (have hbis := apart_is (by assumption) hβ; obtain ⟨_, _⟩ := hbis))) | (refine AC.mono (AC.wk (a1) (wkL_refl _)) ?_; (rintro _ _ ⟨rfl, rfl⟩))) <;> (try simp only [↓R1, RR, seval, u8_120, u8_34, u8_92, hc1, q1, q2, q3])))
    rw [hd, quotS_nil, Option.map_none] at hI
    refine endP_intro (by simp) (by first | (simp [rvsS, rvS]; done) | (simp only [rvsS, rvS, ↓R1, RR, seval, u8_120, u8_34, u8_92, hc1, q1, q2, q3]; try simp)) (wk_refl _) (hle j τ out hτ) ?_
    rw [hI]
    exact ⟨j, rfl, rfl⟩
  · have hc1 : decide ((j : Int) < (l.length : Int)) = true := by simpa using hlt
    have a2 := a_next (hbS j τ out) hd hl
    rw [hset] at a2
    have a3 := a_String (β := γ) (τ := τ) (l := out) (σ := (σ.setBt γ 63).setBox β [.str l, .int .i64 (j + 1 : Nat)]) hτ (hbt _)
    have a4 := a_escaped (hbS (j + 1) τ out) hlt hl
    rw [(get_drop hd).2.2] at a4
    have a5 := p40 c
    have hp1 : posOf l r = j + 1 := pos_cons hd
    rw [hd, quotS_cons] at hI
    have hsf : ∀ {m : List UInt8}, m <:+ r → l.drop (posOf l m) = m ∧ posOf l m ≤ l.length := fun hm => drop_pos (hm.trans (by rw [← (get_drop hd).2.2]; exact drop_suf _ _))
    have hgrow : ∀ (i : Nat) (x : UInt8), AC Tryd.prog 39 (.ptr γ 0 :: [.int .u8 x.toNat]) (bS ((σ.setBt γ 63).setBox β [.str l, .int .i64 i]) γ τ out) (fun v s => v = .nili ∧ ∃ τ', σ.tip τ' = none ∧ s = bS ((σ.setBt γ 63).setBox β [.str l, .int .i64 i]) γ τ' (out ++ [x])) := fun i x =>
      (a_WriteByte γ x ((σ.setBt γ 63).setBox β [.str l, .int .i64 i]) τ out hτ (hbt i) (by simp; omega)).mono (by rintro v s ⟨rfl, τ', h1, _, h2⟩; exact ⟨rfl, τ', h1, h2⟩)
    by_cases h34 : c = 34
    · have q1 : decide (c = 34) = true := by simpa using h34
      rw [if_pos h34] at hI
      repeat' (first | (with_reducible rw [allocV_eq]) | (with_reducible refine And.intro ?_ ?_; focus (intros; (repeat' (with_reducible apply And.intro)) <;> first | omega | (simp only [RZ]; omega))) | (with_reducible apply And.intro) | ((first | (refine gdV_split (fun hc => ?_) (fun hc => ?_) <;> (try simp only [hc, ↓R1, RR, seval, u8_120, u8_34, u8_92, hc1, q1, q2, q3])) | refine condV_split (fun hc => ?_) (fun hc => ?_) | (with_reducible intro β hβ; (try simp only [RB] at hβ); (repeat (obtain ⟨⟨_, _⟩, hβ⟩ := hβ)); (try (have hbis := apart_is (by assumption) hβ; obtain ⟨_, _⟩ := hbis))) | (refine AC.mono (AC.wk (a1) (wkL_refl _)) ?_; (rintro _ _ ⟨rfl, rfl⟩)) | (refine AC.mono (AC.wk (a2) (wkL_refl _)) ?_; (rintro _ _ ⟨rfl, rfl⟩)) | (refine AC.mono (AC.wk (a3) (wkL_refl _)) ?_; (rintro _ _ ⟨rfl, rfl⟩))) <;> (try simp only [↓R1, RR, seval, u8_120, u8_34, u8_92, hc1, q1, q2, q3])))
      refine endP_intro (r := .tup [.str out, .bool true]) (by simp) (by first | (simp [rvsS, rvS]; done) | (simp only [rvsS, rvS, ↓R1, RR, seval, u8_120, u8_34, u8_92, hc1, q1, q2, q3]; try simp)) (wk_of_eq (by (simp only [resAV, rvV, List.map_cons, List.map_nil, ↓R1, RR, seval, u8_120, u8_34, u8_92, hc1, q1, q2, q3]))) (σ' := σ.setBox β [.str l, .int .i64 (j + 1 : Nat)]) ?_ ?_
      · refine St.le_setBox (St.le_newBt (St.le_refl _) hγt) ?_
        rw [St.box_noneA]; exact ⟨⟨by assumption, by assumption⟩, hγ⟩
      · rw [hI]
        simp only [QTook, Option.map_some, List.append_nil, hp1, and_self]
    · have q1 : decide (c = 34) = false := by simpa using h34
      rw [if_neg h34] at hI
      by_cases h92 : c = 92
      · have q2 : decide (c = 92) = true := by simpa using h92
        rw [if_pos h92] at hI
        cases he : escS r with
        | none =>
          rw [he] at a4 hI
          repeat' (first | (with_reducible rw [allocV_eq]) | (with_reducible refine And.intro ?_ ?_; focus (intros; (repeat' (with_reducible apply And.intro)) <;> first | omega | (simp only [RZ]; omega))) | (with_reducible apply And.intro) | ((first | (refine gdV_split (fun hc => ?_) (fun hc => ?_) <;> (try simp only [hc, ↓R1, RR, seval, u8_120, u8_34, u8_92, hc1, q1, q2, q3])) | refine condV_split (fun hc => ?_) (fun hc => ?_) | (with_reducible intro β hβ; (try simp only [RB] at hβ); (repeat (obtain ⟨⟨_, _⟩, hβ⟩ := hβ)); (try (have hbis := apart_is (by assumption) hβ; obtain ⟨_, _⟩ := hbis))) | (refine AC.mono (AC.wk (a1) (wkL_refl _)) ?_; (rintro _ _ ⟨rfl, rfl⟩)) | (refine AC.mono (AC.wk (a2) (wkL_refl _)) ?_; (rintro _ _ ⟨rfl, rfl⟩))) <;> (try simp only [↓R1, RR, seval, u8_120, u8_34, u8_92, hc1, q1, q2, q3])))
          refine (AC.wk a4 (wkL_refl _)).mono ?_
          rintro _ _ ⟨v, i, rfl, rfl⟩
          rw [hset]
          simp only [↓R1, RR, seval, u8_120, u8_34, u8_92, hc1, q1, q2, q3]
          refine endP_intro (r := .tup [.str [], .bool false]) (by simp) (by first | (simp [rvsS, rvS]; done) | (simp only [rvsS, rvS, ↓R1, RR, seval, u8_120, u8_34, u8_92, hc1, q1, q2, q3]; try simp)) (wk_of_eq (by (simp only [resAV, rvV, List.map_cons, List.map_nil, ↓R1, RR, seval, u8_120, u8_34, u8_92, hc1, q1, q2, q3]))) (hle i τ out hτ) ?_
          rw [hI]
          exact ⟨i, rfl, rfl⟩
        | some q =>
          rw [he] at a4 hI
          obtain ⟨hd1, hd2⟩ := hsf (escS_suf (x := q.1) he)
          have hql := escS_len (x := q.1) he
          have hrl : r.length = l.length - (j + 1) := by rw [← (get_drop hd).2.2]; simp
          have hpq : posOf l q.2 = l.length - q.2.length := rfl
          repeat' (first | (with_reducible rw [allocV_eq]) | (with_reducible refine And.intro ?_ ?_; focus (intros; (repeat' (with_reducible apply And.intro)) <;> first | omega | (simp only [RZ]; omega))) | (with_reducible apply And.intro) | ((first | (refine gdV_split (fun hc => ?_) (fun hc => ?_) <;> (try simp only [hc, ↓R1, RR, seval, u8_120, u8_34, u8_92, hc1, q1, q2, q3])) | refine condV_split (fun hc => ?_) (fun hc => ?_) | (with_reducible intro β hβ; (try simp only [RB] at hβ); (repeat (obtain ⟨⟨_, _⟩, hβ⟩ := hβ)); (try (have hbis := apart_is (by assumption) hβ; obtain ⟨_, _⟩ := hbis))) | (refine AC.mono (AC.wk (a1) (wkL_refl _)) ?_; (rintro _ _ ⟨rfl, rfl⟩)) | (refine AC.mono (AC.wk (a2) (wkL_refl _)) ?_; (rintro _ _ ⟨rfl, rfl⟩))) <;> (try simp only [↓R1, RR, seval, u8_120, u8_34, u8_92, hc1, q1, q2, q3])))
          refine (AC.wk a4 (wkL_refl _)).mono ?_
          rintro _ _ ⟨rfl, rfl⟩
          rw [hset]
          simp only [byteV, ↓R1, RR, seval, u8_120, u8_34, u8_92, hc1, q1, q2, q3]
          refine (AC.wk (hgrow _ q.1) (wkL_refl _)).mono ?_
          rintro _ _ ⟨rfl, τ', hτ', rfl⟩
          simp only [↓R1, RR, seval, u8_120, u8_34, u8_92, hc1, q1, q2, q3]
          refine ⟨(posOf l q.2, τ', out ++ [q.1]), ⟨hd2, fun _ => hτ', ?_, ?_⟩, by simp [subF, slot, wk_refl], St.le_refl _, ?_⟩
          · simp only [List.length_append, List.length_cons, List.length_nil]; omega
          · rw [hI]
            simp only [hd1, Option.map_map]
            congr 1
            funext z
            simp
          · simp only; omega
      · have q2 : decide (c = 92) = false := by simpa using h92
        rw [if_neg h92] at hI
        cases hpl : isPlain c with
        | true =>
          rw [hpl] at a5
          rw [hpl, if_pos rfl] at hI
          repeat' (first | (with_reducible rw [allocV_eq]) | (with_reducible refine And.intro ?_ ?_; focus (intros; (repeat' (with_reducible apply And.intro)) <;> first | omega | (simp only [RZ]; omega))) | (with_reducible apply And.intro) | ((first | (refine gdV_split (fun hc => ?_) (fun hc => ?_) <;> (try simp only [hc, ↓R1, RR, seval, u8_120, u8_34, u8_92, hc1, q1, q2, q3])) | refine condV_split (fun hc => ?_) (fun hc => ?_) | (with_reducible intro β hβ; (try simp only [RB] at hβ); (repeat (obtain ⟨⟨_, _⟩, hβ⟩ := hβ)); (try (have hbis := apart_is (by assumption) hβ; obtain ⟨_, _⟩ := hbis))) | (refine AC.mono (AC.wk (a1) (wkL_refl _)) ?_; (rintro _ _ ⟨rfl, rfl⟩)) | (refine AC.mono (AC.wk (a2) (wkL_refl _)) ?_; (rintro _ _ ⟨rfl, rfl⟩)) | refine Pt (a5) ?_ | refine Ct (a5) ?_) <;> (try simp only [↓R1, RR, seval, u8_120, u8_34, u8_92, hc1, q1, q2, q3])))
          refine (AC.wk (hgrow _ c) (wkL_refl _)).mono ?_
          rintro _ _ ⟨rfl, τ', hτ', rfl⟩
          simp only [↓R1, RR, seval, u8_120, u8_34, u8_92, hc1, q1, q2, q3]
          refine ⟨(j + 1, τ', out ++ [c]), ⟨hlt, fun _ => hτ', ?_, ?_⟩, by simp [subF, slot, wk_refl], St.le_refl _, ?_⟩
          · simp only [List.length_append, List.length_cons, List.length_nil]; omega
          · rw [hI]
            simp only [(get_drop hd).2.2, Option.map_map]
            congr 1
            funext z
            simp
          · simp only; omega
        | false =>
          rw [hpl] at a5
          rw [hpl, if_neg (by simp)] at hI
          repeat' (first | (with_reducible rw [allocV_eq]) | (with_reducible refine And.intro ?_ ?_; focus (intros; (repeat' (with_reducible apply And.intro)) <;> first | omega | (simp only [RZ]; omega))) | (with_reducible apply And.intro) | ((first | (refine gdV_split (fun hc => ?_) (fun hc => ?_) <;> (try simp only [hc, ↓R1, RR, seval, u8_120, u8_34, u8_92, hc1, q1, q2, q3])) | refine condV_split (fun hc => ?_) (fun hc => ?_) | (with_reducible intro β hβ; (try simp only [RB] at hβ); (repeat (obtain ⟨⟨_, _⟩, hβ⟩ := hβ)); (try (have hbis := apart_is (by assumption) hβ; obtain ⟨_, _⟩ := hbis))) | (refine AC.mono (AC.wk (a1) (wkL_refl _)) ?_; (rintro _ _ ⟨rfl, rfl⟩)) | (refine AC.mono (AC.wk (a2) (wkL_refl _)) ?_; (rintro _ _ ⟨rfl, rfl⟩)) | refine Pt (a5) ?_ | refine Ct (a5) ?_) <;> (try simp only [↓R1, RR, seval, u8_120, u8_34, u8_92, hc1, q1, q2, q3])))
          refine endP_intro (r := .tup [.str [], .bool false]) (by simp) (by first | (simp [rvsS, rvS]; done) | (simp only [rvsS, rvS, ↓R1, RR, seval, u8_120, u8_34, u8_92, hc1, q1, q2, q3]; try simp)) (wk_of_eq (by (simp only [resAV, rvV, List.map_cons, List.map_nil, ↓R1, RR, seval, u8_120, u8_34, u8_92, hc1, q1, q2, q3]))) (hle (j + 1) τ out hτ) ?_
          rw [hI]
          exact ⟨j + 1, rfl, rfl⟩
end Go.Proofs.YtemddijemikleaaDoor
namespace Go.Abs
theorem callGV_le {P : Program} {σ : St} {K : AV → St → Prop} {f : Nat} {xs ys : List AV} {v : AV} {b : Bool} {p : Prop} {h : Hold (σ, K)} (hp : b = true → p ∧ (∀ σ2, St.le σ σ2 → AC P f ys σ2 (fun x s => x = v ∧ s = σ2)) ∧ wkL xs ys) (hK : K (.opt b v) σ) : callGV P b f p xs σ K h :=
  ⟨v, fun hb => ⟨(hp hb).1, fun σ2 hl => ((hp hb).2.1 σ2 hl).wk (hp hb).2.2⟩, hK⟩
theorem callGV_no {P : Program} {σ : St} {K : AV → St → Prop} {f : Nat} {xs : List AV} {p : Prop} {h : Hold (σ, K)} (hK : K (.opt false .junk) σ) : callGV P false f p xs σ K h :=
  ⟨.junk, (fun hb => by cases hb), hK⟩
end Go.Abs
namespace Go.Proofs.YtemddijemikleaaDoor
open Go.Abs
set_option linter.all false
set_option maxRecDepth 100000
def wdV (k : Nat) (p : Bool × List UInt8) : AV := .agg [.bool p.1, .str p.2, .int .i64 (k : Nat)]
theorem take_of_drop {l : List UInt8} {k j : Nat} (hkj : k ≤ j) (hj : j ≤ l.length) {p : UInt8 → Bool} (h : (l.drop k).dropWhile p = l.drop j) : (l.drop k).takeWhile p = (l.drop k).take (j - k) := by
  have h1 := List.takeWhile_append_dropWhile (p := p) (l := l.drop k)
  have h2 := List.take_append_drop (j - k) (l.drop k)
  rw [List.drop_drop, show k + (j - k) = j by omega] at h2
  rw [h] at h1
  exact List.append_cancel_right (h1.trans h2.symm)
def WTook (σ : St) (β : Nat) (l : List UInt8) (k : Nat) (o : Option (Bool × List UInt8 × List UInt8)) (r : AV) (s : St) : Prop :=
  match o with
  | some (q, t, m) => r = .tup [wdV k (q, t), .bool true] ∧ s = σ.setBox β [.str l, .int .i64 (posOf l m : Nat)]
  | none => ∃ p j, r = .tup [wdV k p, .bool false] ∧ s = σ.setBox β [.str l, .int .i64 (j : Nat)]
theorem le_two {σ : St} {u γ : Nat} {c d : List AV} (hn : σ.box γ = none) (h : Apart γ u) : St.le (σ.setBox u c) ((σ.setBox γ d).setBox u c) := by
  refine ⟨fun δ x hx => ?_, fun _ _ h => h, fun _ _ h => h, fun _ _ h => h, fun _ _ h => h⟩
  simp only [St.setBox, upd] at hx ⊢
  split
  · rename_i e; rw [if_pos e] at hx; exact hx
  · rename_i e
    rw [if_neg e] at hx
    rw [if_neg]
    · exact hx
    · rintro rfl; rw [hn] at hx; cases hx
set_option maxHeartbeats 4000000 in
theorem a_word {σ : St} {u k : Nat} {l : List UInt8} {c : UInt8} {r : List UInt8} (hb : σ.box u = some [.str l, .int .i64 k]) (hr : l.drop k = c :: r) (hl : l.length ≤ 1000000) : AC Tryd.prog 61 [.ptr u 0] σ (WTook σ u l k (wordS (c :: r))) := by
  have hc1 : True := trivial
  have q1 : True := trivial
  have q2 : True := trivial
  have q3 : True := trivial
  have hw : True := trivial
  haveI hbi : BoxIs σ u [.str l, .int .i64 k] := ⟨hb⟩
  have hlt : k < l.length := (get_drop hr).2.1
  have hp1 : posOf l r = k + 1 := pos_cons hr
  have hw : IntKind.i64.wrap ((k : Int) + 1) = ((k + 1 : Nat) : Int) := by rw [wrap64 (by omega) (by omega)]; omega
  by_cases h34 : c = 34
  · have q1 : decide (c = 34) = true := by simpa using h34
    have e1 : wordS (c :: r) = match quotS r with
      | some (t, r') => if endOk r' then some (true, t, r') else none
      | none => none := by simp only [wordS, if_pos h34]; rfl
    have hrr : l.drop (k + 1) = r := (get_drop hr).2.2
    cases hq : quotS r with
    | none =>
      rw [hq] at e1
      have a4 : ∀ s : St, s.box u = some [.str l, .int .i64 (k + 1 : Nat)] → AC Tryd.prog 70 [.ptr u 0] s (QTook s u l none) := fun s hs => by
        have := a_quoted hs hlt hl
        rwa [hrr, hq] at this
      (refine AC_intro c61 b61 (Nat.le_of_ble_eq_true rfl) ?_; simp only [c61, ↓R1, RR, seval, u8_34, hc1, q1, q2, q3, hw])
      repeat' (first | (with_reducible rw [allocV_eq]) | (with_reducible refine And.intro ?_ ?_; focus (intros; (repeat' (with_reducible apply And.intro)) <;> first | omega | (simp only [RZ]; omega))) | (with_reducible apply And.intro) | ((first | (refine gdV_split (fun hc => ?_) (fun hc => ?_) <;> (try simp only [hc, ↓R1, RR, seval, u8_34, hc1, q1, q2, q3, hw])) | refine condV_split (fun hc => ?_) (fun hc => ?_) | (with_reducible intro β hβ; (try simp only [RB] at hβ); (repeat (obtain ⟨⟨_, _⟩, hβ⟩ := hβ)); (try (have hbis := apart_is (by assumption) hβ; obtain ⟨_, _⟩ := hbis))) | (refine AC.mono (AC.wk (a_peek (k := k) (l := l) (by simp only [↓R1, RR, seval, u8_34, hc1, q1, q2, q3, hw]) hr) (wkL_refl _)) ?_; (rintro _ _ ⟨rfl, rfl⟩))) <;> (try simp only [↓R1, RR, seval, u8_34, hc1, q1, q2, q3, hw])))
      refine (AC.wk (a4 _ (by simp only [↓R1, RR, seval, u8_34, hc1, q1, q2, q3, hw])) (wkL_refl _)).mono ?_
      rintro _ _ ⟨j, rfl, rfl⟩
      simp only [↓R1, RR, seval, u8_34, hc1, q1, q2, q3, hw]
      repeat' (first | (with_reducible rw [allocV_eq]) | (with_reducible refine And.intro ?_ ?_; focus (intros; (repeat' (with_reducible apply And.intro)) <;> first | omega | (simp only [RZ]; omega))) | (with_reducible apply And.intro) | ((first | (refine gdV_split (fun hc => ?_) (fun hc => ?_) <;> (try simp only [hc, ↓R1, RR, seval, u8_34, hc1, q1, q2, q3, hw])) | refine condV_split (fun hc => ?_) (fun hc => ?_) | (with_reducible intro β hβ; (try simp only [RB] at hβ); (repeat (obtain ⟨⟨_, _⟩, hβ⟩ := hβ)); (try (have hbis := apart_is (by assumption) hβ; obtain ⟨_, _⟩ := hbis))) | (refine callGV_no ?_)) <;> (try simp only [↓R1, RR, seval, u8_34, hc1, q1, q2, q3, hw])))
      refine endP_intro (r := .tup [wdV k (true, []), .bool false]) (by simp) (by first | (simp [rvsS, rvS]; done) | (simp only [rvsS, rvS, ↓R1, RR, seval, u8_34, hc1, q1, q2, q3, hw]; try simp)) (wk_of_eq (by (simp only [resAV, rvV, List.map_cons, List.map_nil, ↓R1, RR, seval, u8_34, hc1, q1, q2, q3, hw]); rfl)) (le_two hβ (by assumption)) ?_
      rw [e1]
      exact ⟨_, j, rfl, rfl⟩
    | some q =>
      obtain ⟨t, m⟩ := q
      rw [hq] at e1
      simp only at e1
      have a4 : ∀ s : St, s.box u = some [.str l, .int .i64 (k + 1 : Nat)] → AC Tryd.prog 70 [.ptr u 0] s (QTook s u l (some (t, m))) := fun s hs => by
        have := a_quoted hs hlt hl
        rwa [hrr, hq] at this
      obtain ⟨hdm, hml⟩ := drop_pos ((quotS_suf hq).trans (by rw [← hrr]; exact drop_suf l (k + 1)))
      obtain ⟨i, hi⟩ : ∃ i, posOf l m = i := ⟨_, rfl⟩
      rw [hi] at hdm hml
      have key : ∀ v, (v = .tup [wdV k (true, t), .bool true] ∧ endOk m = true) ∨ (v = .tup [wdV k (true, t), .bool false] ∧ endOk m = false) → WTook σ u l k (wordS (c :: r)) v (σ.setBox u [.str l, .int .i64 (i : Nat)]) := by
        rintro v (⟨rfl, hm⟩ | ⟨rfl, hm⟩)
        · rw [e1, if_pos hm]; simp only [WTook, hi, and_self]
        · rw [e1, if_neg (by simp [hm])]; exact ⟨_, i, rfl, rfl⟩
      (refine AC_intro c61 b61 (Nat.le_of_ble_eq_true rfl) ?_; simp only [c61, ↓R1, RR, seval, u8_34, hc1, q1, q2, q3, hw])
      repeat' (first | (with_reducible rw [allocV_eq]) | (with_reducible refine And.intro ?_ ?_; focus (intros; (repeat' (with_reducible apply And.intro)) <;> first | omega | (simp only [RZ]; omega))) | (with_reducible apply And.intro) | ((first | (refine gdV_split (fun hc => ?_) (fun hc => ?_) <;> (try simp only [hc, ↓R1, RR, seval, u8_34, hc1, q1, q2, q3, hw])) | refine condV_split (fun hc => ?_) (fun hc => ?_) | (with_reducible intro β hβ; (try simp only [RB] at hβ); (repeat (obtain ⟨⟨_, _⟩, hβ⟩ := hβ)); (try (have hbis := apart_is (by assumption) hβ; obtain ⟨_, _⟩ := hbis))) | (refine AC.mono (AC.wk (a_peek (k := k) (l := l) (by simp only [↓R1, RR, seval, u8_34, hc1, q1, q2, q3, hw]) hr) (wkL_refl _)) ?_; (rintro _ _ ⟨rfl, rfl⟩))) <;> (try simp only [↓R1, RR, seval, u8_34, hc1, q1, q2, q3, hw])))
      refine (AC.wk (a4 _ (by simp only [↓R1, RR, seval, u8_34, hc1, q1, q2, q3, hw])) (wkL_refl _)).mono ?_
      rintro _ _ ⟨rfl, rfl⟩
      rw [hi]
      simp only [↓R1, RR, seval, u8_34, hc1, q1, q2, q3, hw]
      rcases drop_cases l i hml with ⟨hd, he⟩ | ⟨c2, r2, hd2, hlt2⟩
      · have hc1 : decide ((i : Int) < (l.length : Int)) = false := by simp; omega
        repeat' (first | (with_reducible rw [allocV_eq]) | (with_reducible refine And.intro ?_ ?_; focus (intros; (repeat' (with_reducible apply And.intro)) <;> first | omega | (simp only [RZ]; omega))) | (with_reducible apply And.intro) | ((first | (refine gdV_split (fun hc => ?_) (fun hc => ?_) <;> (try simp only [hc, ↓R1, RR, seval, u8_34, hc1, q1, q2, q3, hw])) | refine condV_split (fun hc => ?_) (fun hc => ?_) | (with_reducible intro β hβ; (try simp only [RB] at hβ); (repeat (obtain ⟨⟨_, _⟩, hβ⟩ := hβ)); (try (have hbis := apart_is (by assumption) hβ; obtain ⟨_, _⟩ := hbis))) | (refine callGV_le (fun hgv => ⟨?_, ((fun σ2 hle => a_left (k := i) (l := l) (hle.1 _ _ (by simp only [↓R1, RR, seval, u8_34, hc1, q1, q2, q3, hw])))), wkL_refl _⟩) ?_; (first | trivial | (focus (simp only [↓R1, RR, seval, u8_34, hc1, q1, q2, q3, hw]; done)))) | (refine callGV_no ?_)) <;> (try simp only [↓R1, RR, seval, u8_34, hc1, q1, q2, q3, hw])))
        refine endP_intro (r := .tup [wdV k (true, t), .bool true]) (by simp) (by first | (simp [rvsS, rvS]; done) | (simp only [rvsS, rvS, ↓R1, RR, seval, u8_34, hc1, q1, q2, q3, hw]; try simp)) (wk_of_eq (by (simp only [resAV, rvV, List.map_cons, List.map_nil, ↓R1, RR, seval, u8_34, hc1, q1, q2, q3, hw]); rfl)) (le_two hβ (by assumption)) (key _ (.inl ⟨rfl, ?_⟩))
        rw [← hdm, hd]; rfl
      · have hc1 : decide ((i : Int) < (l.length : Int)) = true := by simpa using hlt2
        have b3 := p69 c2
        cases hbl : isBlank c2 with
        | true =>
          rw [hbl] at b3
          repeat' (first | (with_reducible rw [allocV_eq]) | (with_reducible refine And.intro ?_ ?_; focus (intros; (repeat' (with_reducible apply And.intro)) <;> first | omega | (simp only [RZ]; omega))) | (with_reducible apply And.intro) | ((first | (refine gdV_split (fun hc => ?_) (fun hc => ?_) <;> (try simp only [hc, ↓R1, RR, seval, u8_34, hc1, q1, q2, q3, hw])) | refine condV_split (fun hc => ?_) (fun hc => ?_) | (with_reducible intro β hβ; (try simp only [RB] at hβ); (repeat (obtain ⟨⟨_, _⟩, hβ⟩ := hβ)); (try (have hbis := apart_is (by assumption) hβ; obtain ⟨_, _⟩ := hbis))) | (refine callGV_le (fun hgv => ⟨?_, ((fun σ2 hle => a_left (k := i) (l := l) (hle.1 _ _ (by simp only [↓R1, RR, seval, u8_34, hc1, q1, q2, q3, hw])))), wkL_refl _⟩) ?_; (first | trivial | (focus (simp only [↓R1, RR, seval, u8_34, hc1, q1, q2, q3, hw]; done)))) | (refine callGV_le (fun hgv => ⟨?_, ((fun σ2 hle => a_peek (k := i) (l := l) (hle.1 _ _ (by simp only [↓R1, RR, seval, u8_34, hc1, q1, q2, q3, hw])) hd2)), wkL_refl _⟩) ?_; (first | trivial | (focus (simp only [↓R1, RR, seval, u8_34, hc1, q1, q2, q3, hw]; done)))) | (refine callGV_pu (fun hgv => ⟨?_, (b3), wkL_refl _⟩) ?_; (first | trivial | (focus (simp only [↓R1, RR, seval, u8_34, hc1, q1, q2, q3, hw]; done)))) | (refine callGV_no ?_)) <;> (try simp only [↓R1, RR, seval, u8_34, hc1, q1, q2, q3, hw])))
          refine endP_intro (r := .tup [wdV k (true, t), .bool true]) (by simp) (by first | (simp [rvsS, rvS]; done) | (simp only [rvsS, rvS, ↓R1, RR, seval, u8_34, hc1, q1, q2, q3, hw]; try simp)) (wk_of_eq (by (simp only [resAV, rvV, List.map_cons, List.map_nil, ↓R1, RR, seval, u8_34, hc1, q1, q2, q3, hw]); rfl)) (le_two hβ (by assumption)) (key _ (.inl ⟨rfl, ?_⟩))
          rw [← hdm, hd2]; exact hbl
        | false =>
          rw [hbl] at b3
          repeat' (first | (with_reducible rw [allocV_eq]) | (with_reducible refine And.intro ?_ ?_; focus (intros; (repeat' (with_reducible apply And.intro)) <;> first | omega | (simp only [RZ]; omega))) | (with_reducible apply And.intro) | ((first | (refine gdV_split (fun hc => ?_) (fun hc => ?_) <;> (try simp only [hc, ↓R1, RR, seval, u8_34, hc1, q1, q2, q3, hw])) | refine condV_split (fun hc => ?_) (fun hc => ?_) | (with_reducible intro β hβ; (try simp only [RB] at hβ); (repeat (obtain ⟨⟨_, _⟩, hβ⟩ := hβ)); (try (have hbis := apart_is (by assumption) hβ; obtain ⟨_, _⟩ := hbis))) | (refine callGV_le (fun hgv => ⟨?_, ((fun σ2 hle => a_left (k := i) (l := l) (hle.1 _ _ (by simp only [↓R1, RR, seval, u8_34, hc1, q1, q2, q3, hw])))), wkL_refl _⟩) ?_; (first | trivial | (focus (simp only [↓R1, RR, seval, u8_34, hc1, q1, q2, q3, hw]; done)))) | (refine callGV_le (fun hgv => ⟨?_, ((fun σ2 hle => a_peek (k := i) (l := l) (hle.1 _ _ (by simp only [↓R1, RR, seval, u8_34, hc1, q1, q2, q3, hw])) hd2)), wkL_refl _⟩) ?_; (first | trivial | (focus (simp only [↓R1, RR, seval, u8_34, hc1, q1, q2, q3, hw]; done)))) | (refine callGV_pu (fun hgv => ⟨?_, (b3), wkL_refl _⟩) ?_; (first | trivial | (focus (simp only [↓R1, RR, seval, u8_34, hc1, q1, q2, q3, hw]; done)))) | (refine callGV_no ?_)) <;> (try simp only [↓R1, RR, seval, u8_34, hc1, q1, q2, q3, hw])))
          refine endP_intro (r := .tup [wdV k (true, t), .bool false]) (by simp) (by first | (simp [rvsS, rvS]; done) | (simp only [rvsS, rvS, ↓R1, RR, seval, u8_34, hc1, q1, q2, q3, hw]; try simp)) (wk_of_eq (by (simp only [resAV, rvV, List.map_cons, List.map_nil, ↓R1, RR, seval, u8_34, hc1, q1, q2, q3, hw]); rfl)) (le_two hβ (by assumption)) (key _ (.inr ⟨rfl, ?_⟩))
          rw [← hdm, hd2]; exact hbl
  · have q1 : decide (c = 34) = false := by simpa using h34
    have e1 : wordS (c :: r) = if ((c :: r).takeWhile isBare).isEmpty then none else if endOk ((c :: r).dropWhile isBare) then some (false, (c :: r).takeWhile isBare, (c :: r).dropWhile isBare) else none := by simp only [wordS, if_neg h34]
    (refine AC_intro c61 b61 (Nat.le_of_ble_eq_true rfl) ?_; simp only [c61, ↓R1, RR, seval, u8_34, hc1, q1, q2, q3, hw])
    repeat' (first | (with_reducible rw [allocV_eq]) | (with_reducible refine And.intro ?_ ?_; focus (intros; (repeat' (with_reducible apply And.intro)) <;> first | omega | (simp only [RZ]; omega))) | (with_reducible apply And.intro) | ((first | (refine gdV_split (fun hc => ?_) (fun hc => ?_) <;> (try simp only [hc, ↓R1, RR, seval, u8_34, hc1, q1, q2, q3, hw])) | refine condV_split (fun hc => ?_) (fun hc => ?_) | (with_reducible intro β hβ; (try simp only [RB] at hβ); (repeat (obtain ⟨⟨_, _⟩, hβ⟩ := hβ)); (try (have hbis := apart_is (by assumption) hβ; obtain ⟨_, _⟩ := hbis))) | (refine AC.mono (AC.wk (a_peek (k := k) (l := l) (by simp only [↓R1, RR, seval, u8_34, hc1, q1, q2, q3, hw]) hr) (wkL_refl _)) ?_; (rintro _ _ ⟨rfl, rfl⟩))) <;> (try simp only [↓R1, RR, seval, u8_34, hc1, q1, q2, q3, hw])))
    refine loopV_st (α := Nat) (fun _ => [(0, .ptr u 0), (2, .ptr β 0)]) (fun j => (σ.setBox β [.bool false, .str [], .int .i64 (k : Nat)]).setBox u [.str l, .int .i64 (j : Nat)]) (fun j => k ≤ j ∧ j ≤ l.length ∧ (l.drop j).dropWhile isBare = (l.drop k).dropWhile isBare) (fun j => l.length - j) k (by simp [subF, slot, wk_refl])
      (by simp only [↓R1, RR, seval, u8_34, hc1, q1, q2, q3, hw]; rw [setBox_same (by simp only [↓R1, RR, seval, u8_34, hc1, q1, q2, q3, hw])]; exact St.le_refl _) ⟨Nat.le_refl _, by omega, rfl⟩ ?_
    rintro i ⟨hki, hil, hI⟩
    simp only [↓R1, RR, seval, u8_34, hc1, q1, q2, q3, hw]
    have hpi : posOf l (l.drop i) = i := pos_drop l i hil
    have stop : (l.drop i).dropWhile isBare = l.drop i → wordS (c :: r) = if ((l.drop k).take (i - k)) == [] then none else if endOk (l.drop i) then some (false, (l.drop k).take (i - k), l.drop i) else none := fun hs => by
      rw [hs] at hI
      have hT := take_of_drop hki hil hI.symm
      rw [e1, ← hr, hT, ← hI]
      cases (l.drop k).take (i - k) <;> rfl
    rcases drop_cases l i hil with ⟨hd, he⟩ | ⟨c2, r2, hd2, hlt2⟩
    · have hc1 : decide ((i : Int) < (l.length : Int)) = false := by simp; omega
      have hs := stop (by rw [hd]; rfl)
      cases hq : ((l.drop k).take (i - k) == []) with
      | true =>
        have q2 := hq
        rw [q2, if_pos rfl] at hs
        repeat' (first | (with_reducible rw [allocV_eq]) | (with_reducible refine And.intro ?_ ?_; focus (intros; (repeat' (with_reducible apply And.intro)) <;> first | omega | (simp only [RZ]; omega))) | (with_reducible apply And.intro) | ((first | (refine gdV_split (fun hc => ?_) (fun hc => ?_) <;> (try simp only [hc, ↓R1, RR, seval, u8_34, hc1, q1, q2, q3, hw])) | refine condV_split (fun hc => ?_) (fun hc => ?_) | (with_reducible intro β hβ; (try simp only [RB] at hβ); (repeat (obtain ⟨⟨_, _⟩, hβ⟩ := hβ)); (try (have hbis := apart_is (by assumption) hβ; obtain ⟨_, _⟩ := hbis))) | (refine AC.mono (AC.wk (a_left (k := i) (l := l) (by simp only [↓R1, RR, seval, u8_34, hc1, q1, q2, q3, hw])) (wkL_refl _)) ?_; (rintro _ _ ⟨rfl, rfl⟩)) | (refine callGV_le (fun hgv => ⟨?_, ((fun σ2 hle => a_left (k := i) (l := l) (hle.1 _ _ (by simp only [↓R1, RR, seval, u8_34, hc1, q1, q2, q3, hw])))), wkL_refl _⟩) ?_; (first | trivial | (focus (simp only [↓R1, RR, seval, u8_34, hc1, q1, q2, q3, hw]; done)))) | (refine callGV_no ?_)) <;> (try simp only [↓R1, RR, seval, u8_34, hc1, q1, q2, q3, hw])))
        refine endP_intro (r := .tup [wdV k (false, (l.drop k).take (i - k)), .bool false]) (by simp) (by first | (simp [rvsS, rvS]; done) | (simp only [rvsS, rvS, ↓R1, RR, seval, u8_34, hc1, q1, q2, q3, hw]; try simp)) (wk_of_eq (by (simp only [resAV, rvV, List.map_cons, List.map_nil, ↓R1, RR, seval, u8_34, hc1, q1, q2, q3, hw]); rfl)) (le_two hβ (by assumption)) ?_
        rw [hs]
        exact ⟨_, i, rfl, rfl⟩
      | false =>
        have q2 := hq
        rw [q2, if_neg (by simp), hd] at hs
        simp only [endOk, if_true] at hs
        repeat' (first | (with_reducible rw [allocV_eq]) | (with_reducible refine And.intro ?_ ?_; focus (intros; (repeat' (with_reducible apply And.intro)) <;> first | omega | (simp only [RZ]; omega))) | (with_reducible apply And.intro) | ((first | (refine gdV_split (fun hc => ?_) (fun hc => ?_) <;> (try simp only [hc, ↓R1, RR, seval, u8_34, hc1, q1, q2, q3, hw])) | refine condV_split (fun hc => ?_) (fun hc => ?_) | (with_reducible intro β hβ; (try simp only [RB] at hβ); (repeat (obtain ⟨⟨_, _⟩, hβ⟩ := hβ)); (try (have hbis := apart_is (by assumption) hβ; obtain ⟨_, _⟩ := hbis))) | (refine AC.mono (AC.wk (a_left (k := i) (l := l) (by simp only [↓R1, RR, seval, u8_34, hc1, q1, q2, q3, hw])) (wkL_refl _)) ?_; (rintro _ _ ⟨rfl, rfl⟩)) | (refine callGV_le (fun hgv => ⟨?_, ((fun σ2 hle => a_left (k := i) (l := l) (hle.1 _ _ (by simp only [↓R1, RR, seval, u8_34, hc1, q1, q2, q3, hw])))), wkL_refl _⟩) ?_; (first | trivial | (focus (simp only [↓R1, RR, seval, u8_34, hc1, q1, q2, q3, hw]; done)))) | (refine callGV_no ?_)) <;> (try simp only [↓R1, RR, seval, u8_34, hc1, q1, q2, q3, hw])))
        refine endP_intro (r := .tup [wdV k (false, (l.drop k).take (i - k)), .bool true]) (by simp) (by first | (simp [rvsS, rvS]; done) | (simp only [rvsS, rvS, ↓R1, RR, seval, u8_34, hc1, q1, q2, q3, hw]; try simp)) (wk_of_eq (by (simp only [resAV, rvV, List.map_cons, List.map_nil, ↓R1, RR, seval, u8_34, hc1, q1, q2, q3, hw]); rfl)) (le_two hβ (by assumption)) ?_
        rw [hs]
        simp only [WTook, true_and]
        rw [← hd, hpi]
    · have hc1 : decide ((i : Int) < (l.length : Int)) = true := by simpa using hlt2
      have b3 := p49 c2
      have b4 := p69 c2
      have hw : IntKind.i64.wrap ((i : Int) + 1) = ((i + 1 : Nat) : Int) := by rw [wrap64 (by omega) (by omega)]; omega
      cases hbl : isBare c2 with
      | true =>
        rw [hbl] at b3
        repeat' (first | (with_reducible rw [allocV_eq]) | (with_reducible refine And.intro ?_ ?_; focus (intros; (repeat' (with_reducible apply And.intro)) <;> first | omega | (simp only [RZ]; omega))) | (with_reducible apply And.intro) | ((first | (refine gdV_split (fun hc => ?_) (fun hc => ?_) <;> (try simp only [hc, ↓R1, RR, seval, u8_34, hc1, q1, q2, q3, hw])) | refine condV_split (fun hc => ?_) (fun hc => ?_) | (with_reducible intro β hβ; (try simp only [RB] at hβ); (repeat (obtain ⟨⟨_, _⟩, hβ⟩ := hβ)); (try (have hbis := apart_is (by assumption) hβ; obtain ⟨_, _⟩ := hbis))) | (refine AC.mono (AC.wk (a_left (k := i) (l := l) (by simp only [↓R1, RR, seval, u8_34, hc1, q1, q2, q3, hw])) (wkL_refl _)) ?_; (rintro _ _ ⟨rfl, rfl⟩)) | (refine AC.mono (AC.wk (a_peek (k := i) (l := l) (by simp only [↓R1, RR, seval, u8_34, hc1, q1, q2, q3, hw]) hd2) (wkL_refl _)) ?_; (rintro _ _ ⟨rfl, rfl⟩)) | refine Pt (b3) ?_ | refine Ct (b3) ?_) <;> (try simp only [↓R1, RR, seval, u8_34, hc1, q1, q2, q3, hw])))
        refine ⟨i + 1, ⟨by omega, by omega, ?_⟩, by simp [subF, slot, wk_refl], St.le_refl _, by omega⟩
        rw [← hI, hd2, (get_drop hd2).2.2, List.dropWhile_cons, hbl]; rfl
      | false =>
        rw [hbl] at b3
        have hs := stop (by rw [hd2, List.dropWhile_cons, hbl]; rfl)
        cases hq : ((l.drop k).take (i - k) == []) with
        | true =>
          have q2 := hq
          rw [q2, if_pos rfl] at hs
          repeat' (first | (with_reducible rw [allocV_eq]) | (with_reducible refine And.intro ?_ ?_; focus (intros; (repeat' (with_reducible apply And.intro)) <;> first | omega | (simp only [RZ]; omega))) | (with_reducible apply And.intro) | ((first | (refine gdV_split (fun hc => ?_) (fun hc => ?_) <;> (try simp only [hc, ↓R1, RR, seval, u8_34, hc1, q1, q2, q3, hw])) | refine condV_split (fun hc => ?_) (fun hc => ?_) | (with_reducible intro β hβ; (try simp only [RB] at hβ); (repeat (obtain ⟨⟨_, _⟩, hβ⟩ := hβ)); (try (have hbis := apart_is (by assumption) hβ; obtain ⟨_, _⟩ := hbis))) | (refine AC.mono (AC.wk (a_left (k := i) (l := l) (by simp only [↓R1, RR, seval, u8_34, hc1, q1, q2, q3, hw])) (wkL_refl _)) ?_; (rintro _ _ ⟨rfl, rfl⟩)) | (refine AC.mono (AC.wk (a_peek (k := i) (l := l) (by simp only [↓R1, RR, seval, u8_34, hc1, q1, q2, q3, hw]) hd2) (wkL_refl _)) ?_; (rintro _ _ ⟨rfl, rfl⟩)) | refine Pt (b3) ?_ | refine Ct (b3) ?_ | (refine callGV_no ?_)) <;> (try simp only [↓R1, RR, seval, u8_34, hc1, q1, q2, q3, hw])))
          refine endP_intro (r := .tup [wdV k (false, (l.drop k).take (i - k)), .bool false]) (by simp) (by first | (simp [rvsS, rvS]; done) | (simp only [rvsS, rvS, ↓R1, RR, seval, u8_34, hc1, q1, q2, q3, hw]; try simp)) (wk_of_eq (by (simp only [resAV, rvV, List.map_cons, List.map_nil, ↓R1, RR, seval, u8_34, hc1, q1, q2, q3, hw]); rfl)) (le_two hβ (by assumption)) ?_
          rw [hs]
          exact ⟨_, i, rfl, rfl⟩
        | false =>
          have q2 := hq
          rw [q2, if_neg (by simp)] at hs
          cases hbk : isBlank c2 with
          | true =>
            rw [hbk] at b4
            rw [if_pos (by rw [hd2]; exact hbk)] at hs
            repeat' (first | (with_reducible rw [allocV_eq]) | (with_reducible refine And.intro ?_ ?_; focus (intros; (repeat' (with_reducible apply And.intro)) <;> first | omega | (simp only [RZ]; omega))) | (with_reducible apply And.intro) | ((first | (refine gdV_split (fun hc => ?_) (fun hc => ?_) <;> (try simp only [hc, ↓R1, RR, seval, u8_34, hc1, q1, q2, q3, hw])) | refine condV_split (fun hc => ?_) (fun hc => ?_) | (with_reducible intro β hβ; (try simp only [RB] at hβ); (repeat (obtain ⟨⟨_, _⟩, hβ⟩ := hβ)); (try (have hbis := apart_is (by assumption) hβ; obtain ⟨_, _⟩ := hbis))) | (refine AC.mono (AC.wk (a_left (k := i) (l := l) (by simp only [↓R1, RR, seval, u8_34, hc1, q1, q2, q3, hw])) (wkL_refl _)) ?_; (rintro _ _ ⟨rfl, rfl⟩)) | (refine AC.mono (AC.wk (a_peek (k := i) (l := l) (by simp only [↓R1, RR, seval, u8_34, hc1, q1, q2, q3, hw]) hd2) (wkL_refl _)) ?_; (rintro _ _ ⟨rfl, rfl⟩)) | refine Pt (b3) ?_ | refine Ct (b3) ?_ | (refine callGV_le (fun hgv => ⟨?_, ((fun σ2 hle => a_left (k := i) (l := l) (hle.1 _ _ (by simp only [↓R1, RR, seval, u8_34, hc1, q1, q2, q3, hw])))), wkL_refl _⟩) ?_; (first | trivial | (focus (simp only [↓R1, RR, seval, u8_34, hc1, q1, q2, q3, hw]; done)))) | (refine callGV_le (fun hgv => ⟨?_, ((fun σ2 hle => a_peek (k := i) (l := l) (hle.1 _ _ (by simp only [↓R1, RR, seval, u8_34, hc1, q1, q2, q3, hw])) hd2)), wkL_refl _⟩) ?_; (first | trivial | (focus (simp only [↓R1, RR, seval, u8_34, hc1, q1, q2, q3, hw]; done)))) | (refine callGV_pu (fun hgv => ⟨?_, (b4), wkL_refl _⟩) ?_; (first | trivial | (focus (simp only [↓R1, RR, seval, u8_34, hc1, q1, q2, q3, hw]; done)))) | (refine callGV_no ?_)) <;> (try simp only [↓R1, RR, seval, u8_34, hc1, q1, q2, q3, hw])))
            refine endP_intro (r := .tup [wdV k (false, (l.drop k).take (i - k)), .bool true]) (by simp) (by first | (simp [rvsS, rvS]; done) | (simp only [rvsS, rvS, ↓R1, RR, seval, u8_34, hc1, q1, q2, q3, hw]; try simp)) (wk_of_eq (by (simp only [resAV, rvV, List.map_cons, List.map_nil, ↓R1, RR, seval, u8_34, hc1, q1, q2, q3, hw]); rfl)) (le_two hβ (by assumption)) ?_
            rw [hs]
            simp only [WTook, true_and]
            rw [hpi]
          | false =>
            rw [hbk] at b4
            rw [if_neg (by rw [hd2]; simp [endOk, hbk])] at hs
            repeat' (first | (with_reducible rw [allocV_eq]) | (with_reducible refine And.intro ?_ ?_; focus (intros; (repeat' (with_reducible apply And.intro)) <;> first | omega | (simp only [RZ]; omega))) | (with_reducible apply And.intro) | ((first | (refine gdV_split (fun hc => ?_) (fun hc => ?_) <;> (try simp only [hc, ↓R1, RR, seval, u8_34, hc1, q1, q2, q3, hw])) | refine condV_split (fun hc => ?_) (fun hc => ?_) | (with_reducible intro β hβ; (try simp only [RB] at hβ); (repeat (obtain ⟨⟨_, _⟩, hβ⟩ := hβ)); (try (have hbis := apart_is (by assumption) hβ; obtain ⟨_, _⟩ := hbis))) | (refine AC.mono (AC.wk (a_left (k := i) (l := l) (by simp only [↓R1, RR, seval, u8_34, hc1, q1, q2, q3, hw])) (wkL_refl _)) ?_; (rintro _ _ ⟨rfl, rfl⟩)) | (refine AC.mono (AC.wk (a_peek (k := i) (l := l) (by simp only [↓R1, RR, seval, u8_34, hc1, q1, q2, q3, hw]) hd2) (wkL_refl _)) ?_; (rintro _ _ ⟨rfl, rfl⟩)) | refine Pt (b3) ?_ | refine Ct (b3) ?_ | (refine callGV_le (fun hgv => ⟨?_, ((fun σ2 hle => a_left (k := i) (l := l) (hle.1 _ _ (by simp only [↓R1, RR, seval, u8_34, hc1, q1, q2, q3, hw])))), wkL_refl _⟩) ?_; (first | trivial | (focus (simp only [↓R1, RR, seval, u8_34, hc1, q1, q2, q3, hw]; done)))) | (refine callGV_le (fun hgv => ⟨?_, ((fun σ2 hle => a_peek (k := i) (l := l) (hle.1 _ _ (by simp only [↓R1, RR, seval, u8_34, hc1, q1, q2, q3, hw])) hd2)), wkL_refl _⟩) ?_; (first | trivial | (focus (simp only [↓R1, RR, seval, u8_34, hc1, q1, q2, q3, hw]; done)))) | (refine callGV_pu (fun hgv => ⟨?_, (b4), wkL_refl _⟩) ?_; (first | trivial | (focus (simp only [↓R1, RR, seval, u8_34, hc1, q1, q2, q3, hw]; done)))) | (refine callGV_no ?_)) <;> (try simp only [↓R1, RR, seval, u8_34, hc1, q1, q2, q3, hw])))
            refine endP_intro (r := .tup [wdV k (false, (l.drop k).take (i - k)), .bool false]) (by simp) (by first | (simp [rvsS, rvS]; done) | (simp only [rvsS, rvS, ↓R1, RR, seval, u8_34, hc1, q1, q2, q3, hw]; try simp)) (wk_of_eq (by (simp only [resAV, rvV, List.map_cons, List.map_nil, ↓R1, RR, seval, u8_34, hc1, q1, q2, q3, hw]); rfl)) (le_two hβ (by assumption)) ?_
            rw [hs]
            exact ⟨_, i, rfl, rfl⟩
end Go.Proofs.YtemddijemikleaaDoor
namespace Go.Proofs.YtemddijemikleaaDoor
open Go.Abs
set_option linter.all false
set_option maxRecDepth 100000
theorem esc_take (t : List UInt8) {k : Nat} (h : k < t.length) : (t.take (k + 1)).flatMap escB = (t.take k).flatMap escB ++ escB t[k] := by
  rw [← List.take_append_getElem h, List.flatMap_append]; simp
theorem nib_ok : ((List.range 256).all fun n => decide ((n : Int).fdiv (2 ^ min (4 : Int).toNat IntKind.u8.bits) = ((n / 16 : Nat) : Int)) && decide (bits .and .u8 n 15 = ((n % 16 : Nat) : Int))) = true := by kernel_rfl
theorem shr4 (b : UInt8) : (b.toNat : Int).fdiv (2 ^ min (4 : Int).toNat IntKind.u8.bits) = ((b.toNat / 16 : Nat) : Int) := by
  have := List.all_eq_true.1 nib_ok b.toNat (List.mem_range.2 (lt_u8 b))
  simp only [Bool.and_eq_true, decide_eq_true_eq] at this
  exact this.1
theorem and15 (b : UInt8) : bits .and .u8 (b.toNat : Int) 15 = ((b.toNat % 16 : Nat) : Int) := by
  have := List.all_eq_true.1 nib_ok b.toNat (List.mem_range.2 (lt_u8 b))
  simp only [Bool.and_eq_true, decide_eq_true_eq] at this
  exact this.2
theorem wrap_nib (b : UInt8) : IntKind.u8.wrap (((b.toNat / 16 : Nat) : Int) + 1) = ((b.toNat / 16 + 1 : Nat) : Int) ∧ IntKind.u8.wrap (((b.toNat % 16 : Nat) : Int) + 1) = ((b.toNat % 16 + 1 : Nat) : Int) := by
  have hb := lt_u8 b
  constructor <;> (simp [IntKind.wrap, IntKind.signed, IntKind.bits]; omega)
theorem escB_hex {b : UInt8} (h1 : isPlain b = false) (h2 : ¬ (b = 34 ∨ b = 92)) : escB b = [92, 120] ++ [hexc (b.toNat / 16)] ++ [hexc (b.toNat % 16)] := by
  unfold escB
  rw [h1, if_neg (by simp), if_neg h2]; rfl
theorem escB_bs {b : UInt8} (h1 : isPlain b = false) (h2 : b = 34 ∨ b = 92) : escB b = [92] ++ [b] := by
  unfold escB
  rw [h1, if_neg (by simp), if_pos h2]; rfl
theorem escB_plain {b : UInt8} (h1 : isPlain b = true) : escB b = [b] := by
  unfold escB
  rw [h1, if_pos rfl]
theorem bS_keep (σ : St) (γ τ : Nat) {a b : List UInt8} (ha : a ≠ []) (hb : b ≠ []) : (bS σ γ τ b).glob = (bS σ γ τ a).glob ∧ (∀ δ, (bS σ γ τ a).box δ = none → (bS σ γ τ b).box δ = none) ∧ ∀ δ, (bS σ γ τ a).tip δ = none → (bS σ γ τ b).tip δ = none := by
  refine ⟨by rw [bS_glob, bS_glob], fun δ h => by rw [bS_none] at h ⊢; exact h, fun δ h => ?_⟩
  cases a with
  | nil => exact (ha rfl).elim
  | cons x a =>
    cases b with
    | nil => exact (hb rfl).elim
    | cons y b =>
      simp only [bS, bT, St.setBox, St.setTip, upd] at h ⊢
      split at h
      · cases h
      · rename_i e; rw [if_neg e]; exact h
set_option maxHeartbeats 2000000 in
theorem p15 (q : Bool) (t : List UInt8) (a : Int) (ht : t.length ≤ 1000000) : Pu Tryd.prog 15 [.agg [.bool q, .str t, .int .i64 a]] (wordV (wordT q t)) := by
  have q1 : True := trivial
  have q2 : True := trivial
  have q3 : True := trivial
  have q4 : True := trivial
  have q5 : True := trivial
  have q6 : True := trivial
  have q7 : True := trivial
  have q8 : True := trivial
  have hw : True := trivial
  have hd : True := trivial
  have hp := p29 t ht
  cases q with
  | false =>
    cases hb : bareS t with
    | false =>
      rw [hb] at hp
      have e : wordT false t = none := by simp [wordT, hb]
      rw [e]
      (refine Pu_intro c15 b15 (Nat.le_of_ble_eq_true rfl) fun σ => ?_; simp only [c15, ↓R1, RR, Nat.reduceEqDiff, Nat.reduceAdd, Nat.reduceMul, Nat.reduceSub, Nat.reduceLeDiff, Nat.reduceLT, reduceIte, reduceCtorEq, Int.reduceBNe, Int.reduceBEq, q1, q2, q3, q4, q5, q6, q7, q8, hw, hd, u8_34, u8_92, Nat.add_sub_cancel_left])
      repeat' (first | (with_reducible rw [allocV_eq]) | (with_reducible refine And.intro ?_ ?_; focus (intros; (repeat' (with_reducible apply And.intro)) <;> first | omega | (simp only [RZ]; omega))) | (with_reducible apply And.intro) | ((first | (refine gdV_split (fun hc => ?_) (fun hc => ?_) <;> (try simp only [hc, ↓R1, RR, Nat.reduceEqDiff, Nat.reduceAdd, Nat.reduceMul, Nat.reduceSub, Nat.reduceLeDiff, Nat.reduceLT, reduceIte, reduceCtorEq, Int.reduceBNe, Int.reduceBEq, q1, q2, q3, q4, q5, q6, q7, q8, hw, hd, u8_34, u8_92, Nat.add_sub_cancel_left])) | refine condV_split (fun hc => ?_) (fun hc => ?_) | (with_reducible intro β hβ; (try simp only [RB] at hβ); (repeat (obtain ⟨⟨_, _⟩, hβ⟩ := hβ)); (try (have hbis := apart_is (by assumption) hβ; obtain ⟨_, _⟩ := hbis))) | refine Pt (hp) ?_ | refine Ct (hp) ?_) <;> (try simp only [↓R1, RR, Nat.reduceEqDiff, Nat.reduceAdd, Nat.reduceMul, Nat.reduceSub, Nat.reduceLeDiff, Nat.reduceLT, reduceIte, reduceCtorEq, Int.reduceBNe, Int.reduceBEq, q1, q2, q3, q4, q5, q6, q7, q8, hw, hd, u8_34, u8_92, Nat.add_sub_cancel_left])))
      (refine endP_pu (by simp) (by first | (simp [rvsS, rvS]; done) | (simp only [rvsS, rvS, ↓R1, RR, Nat.reduceEqDiff, Nat.reduceAdd, Nat.reduceMul, Nat.reduceSub, Nat.reduceLeDiff, Nat.reduceLT, reduceIte, reduceCtorEq, Int.reduceBNe, Int.reduceBEq, q1, q2, q3, q4, q5, q6, q7, q8, hw, hd, u8_34, u8_92, Nat.add_sub_cancel_left]; try simp)) (wk_of_eq ?_) (by (repeat (first | exact St.le_refl _ | (refine St.le_new ?_ (by assumption)) | (refine St.le_newT ?_ (by assumption))))))
      (simp only [resAV, rvV, List.map_cons, List.map_nil, ↓R1, RR, Nat.reduceEqDiff, Nat.reduceAdd, Nat.reduceMul, Nat.reduceSub, Nat.reduceLeDiff, Nat.reduceLT, reduceIte, reduceCtorEq, Int.reduceBNe, Int.reduceBEq, q1, q2, q3, q4, q5, q6, q7, q8, hw, hd, u8_34, u8_92, Nat.add_sub_cancel_left])
      rfl
    | true =>
      rw [hb] at hp
      have e : wordT false t = some t := by simp [wordT, hb]
      rw [e]
      (refine Pu_intro c15 b15 (Nat.le_of_ble_eq_true rfl) fun σ => ?_; simp only [c15, ↓R1, RR, Nat.reduceEqDiff, Nat.reduceAdd, Nat.reduceMul, Nat.reduceSub, Nat.reduceLeDiff, Nat.reduceLT, reduceIte, reduceCtorEq, Int.reduceBNe, Int.reduceBEq, q1, q2, q3, q4, q5, q6, q7, q8, hw, hd, u8_34, u8_92, Nat.add_sub_cancel_left])
      repeat' (first | (with_reducible rw [allocV_eq]) | (with_reducible refine And.intro ?_ ?_; focus (intros; (repeat' (with_reducible apply And.intro)) <;> first | omega | (simp only [RZ]; omega))) | (with_reducible apply And.intro) | ((first | (refine gdV_split (fun hc => ?_) (fun hc => ?_) <;> (try simp only [hc, ↓R1, RR, Nat.reduceEqDiff, Nat.reduceAdd, Nat.reduceMul, Nat.reduceSub, Nat.reduceLeDiff, Nat.reduceLT, reduceIte, reduceCtorEq, Int.reduceBNe, Int.reduceBEq, q1, q2, q3, q4, q5, q6, q7, q8, hw, hd, u8_34, u8_92, Nat.add_sub_cancel_left])) | refine condV_split (fun hc => ?_) (fun hc => ?_) | (with_reducible intro β hβ; (try simp only [RB] at hβ); (repeat (obtain ⟨⟨_, _⟩, hβ⟩ := hβ)); (try (have hbis := apart_is (by assumption) hβ; obtain ⟨_, _⟩ := hbis))) | refine Pt (hp) ?_ | refine Ct (hp) ?_) <;> (try simp only [↓R1, RR, Nat.reduceEqDiff, Nat.reduceAdd, Nat.reduceMul, Nat.reduceSub, Nat.reduceLeDiff, Nat.reduceLT, reduceIte, reduceCtorEq, Int.reduceBNe, Int.reduceBEq, q1, q2, q3, q4, q5, q6, q7, q8, hw, hd, u8_34, u8_92, Nat.add_sub_cancel_left])))
      (refine endP_pu (by simp) (by first | (simp [rvsS, rvS]; done) | (simp only [rvsS, rvS, ↓R1, RR, Nat.reduceEqDiff, Nat.reduceAdd, Nat.reduceMul, Nat.reduceSub, Nat.reduceLeDiff, Nat.reduceLT, reduceIte, reduceCtorEq, Int.reduceBNe, Int.reduceBEq, q1, q2, q3, q4, q5, q6, q7, q8, hw, hd, u8_34, u8_92, Nat.add_sub_cancel_left]; try simp)) (wk_of_eq ?_) (by (repeat (first | exact St.le_refl _ | (refine St.le_new ?_ (by assumption)) | (refine St.le_newT ?_ (by assumption))))))
      (simp only [resAV, rvV, List.map_cons, List.map_nil, ↓R1, RR, Nat.reduceEqDiff, Nat.reduceAdd, Nat.reduceMul, Nat.reduceSub, Nat.reduceLeDiff, Nat.reduceLT, reduceIte, reduceCtorEq, Int.reduceBNe, Int.reduceBEq, q1, q2, q3, q4, q5, q6, q7, q8, hw, hd, u8_34, u8_92, Nat.add_sub_cancel_left])
      rfl
  | true =>
    have e : wordT true t = some (34 :: (t.flatMap escB ++ [34])) := by simp [wordT]
    rw [e]
    (refine Pu_intro c15 b15 (Nat.le_of_ble_eq_true rfl) fun σ => ?_; simp only [c15, ↓R1, RR, Nat.reduceEqDiff, Nat.reduceAdd, Nat.reduceMul, Nat.reduceSub, Nat.reduceLeDiff, Nat.reduceLT, reduceIte, reduceCtorEq, Int.reduceBNe, Int.reduceBEq, q1, q2, q3, q4, q5, q6, q7, q8, hw, hd, u8_34, u8_92, Nat.add_sub_cancel_left])
    intro b1 h1
    refine allocTV_i (fun γ hγ hγt => ?_)
    rw [St.box_noneA] at hγ
    obtain ⟨⟨_, _⟩, hγ⟩ := hγ
    have hγt : σ.bt γ = none := hγt
    simp only [↓R1, RR, Nat.reduceEqDiff, Nat.reduceAdd, Nat.reduceMul, Nat.reduceSub, Nat.reduceLeDiff, Nat.reduceLT, reduceIte, reduceCtorEq, Int.reduceBNe, Int.reduceBEq, q1, q2, q3, q4, q5, q6, q7, q8, hw, hd, u8_34, u8_92, Nat.add_sub_cancel_left]
    obtain ⟨X, hX⟩ : ∃ X, X = (σ.setBt γ 63).setBox b1 [.bool true, .str t, .int .i64 a] := ⟨_, rfl⟩
    have hXt : X.tip = σ.tip := by rw [hX]; rfl
    have hXb : X.bt γ = some 63 := by rw [hX]; exact St.bt_same _ _ _
    have hX1 : ∀ τ out, (bS X γ τ out).box b1 = some [.bool true, .str t, .int .i64 a] := fun τ out => by rw [bS_other, hX]; simp only [↓R1, RR, Nat.reduceEqDiff, Nat.reduceAdd, Nat.reduceMul, Nat.reduceSub, Nat.reduceLeDiff, Nat.reduceLT, reduceIte, reduceCtorEq, Int.reduceBNe, Int.reduceBEq, q1, q2, q3, q4, q5, q6, q7, q8, hw, hd, u8_34, u8_92, Nat.add_sub_cancel_left]
    have hXl : ∀ c, St.le σ (X.setBox γ c) := fun c => by
      rw [hX]
      exact St.le_setBox (St.le_setBox (St.le_newBt (St.le_refl _) hγt) h1) hγ
    have w0 := a_WriteByte γ 34 X 0 [] (by simp) hXb (by simp)
    rw [bS_nil, hX] at w0
    refine (AC.wk w0 (wkL_refl _)).mono ?_
    rintro _ _ ⟨rfl, τ, hτ, _, rfl⟩
    rw [← hX] at hτ ⊢
    simp only [hX1, List.nil_append, ↓R1, RR, Nat.reduceEqDiff, Nat.reduceAdd, Nat.reduceMul, Nat.reduceSub, Nat.reduceLeDiff, Nat.reduceLT, reduceIte, reduceCtorEq, Int.reduceBNe, Int.reduceBEq, q1, q2, q3, q4, q5, q6, q7, q8, hw, hd, u8_34, u8_92, Nat.add_sub_cancel_left]
    have hlen : ∀ k, (34 :: (t.take k).flatMap escB).length ≤ 4000001 := fun k => by
      have h1 := esc_len (t.take k)
      have h2 : (t.take k).length ≤ t.length := by simp; omega
      simp only [List.length_cons]; omega
    refine loopV_for t.length (fun k => [(4, .ptr γ 0), (19, .sl false t.length (t.map fun b => .int .u8 b.toNat)), (20, .int .i64 (t.length : Nat)), (21, .int .i64 (k : Nat))]) (fun k => bS X γ τ (34 :: (t.take k).flatMap escB)) (fun _ => True) (by simp [subF, slot, wk_refl]) (by simp; exact St.le_refl _) trivial (fun k hk _ => ?_)
    have hlk := hlen k
    by_cases hlt : k < t.length
    · have q1 : decide ((k : Int) < (t.length : Int)) = true := by rw [decide_eq_true_eq]; omega
      have hd := bytesL_get t hlt
      have hw : IntKind.i64.wrap ((k : Int) + 1) = ((k + 1 : Nat) : Int) := by rw [wrap64 (by omega) (by omega)]; omega
      have hpl := p40 t[k]
      have w1 : ∀ (x : UInt8) (out : List UInt8), out ≠ [] → out.length ≤ 5000000 → AC Tryd.prog 39 [.ptr γ 0, .int .u8 x.toNat] (bS X γ τ out) (fun v s => v = .nili ∧ s = bS X γ τ (out ++ [x])) := fun x out h0 hl => (a_WriteByte γ x).used h0 hτ hXb (by simp; omega)
      have hes := esc_take t hlt
      simp only [q1, ↓R1, RR, Nat.reduceEqDiff, Nat.reduceAdd, Nat.reduceMul, Nat.reduceSub, Nat.reduceLeDiff, Nat.reduceLT, reduceIte, reduceCtorEq, Int.reduceBNe, Int.reduceBEq, q1, q2, q3, q4, q5, q6, q7, q8, hw, hd, u8_34, u8_92, Nat.add_sub_cancel_left]
      cases hb : isPlain t[k] with
      | true =>
        rw [hb] at hpl
        rw [escB_plain hb] at hes
        repeat' (first | (with_reducible rw [allocV_eq]) | (with_reducible refine And.intro ?_ ?_; focus (intros; (repeat' (with_reducible apply And.intro)) <;> first | omega | (simp only [RZ]; omega))) | (with_reducible apply And.intro) | ((first | (refine gdV_split (fun hc => ?_) (fun hc => ?_) <;> (try simp only [hc, ↓R1, RR, Nat.reduceEqDiff, Nat.reduceAdd, Nat.reduceMul, Nat.reduceSub, Nat.reduceLeDiff, Nat.reduceLT, reduceIte, reduceCtorEq, Int.reduceBNe, Int.reduceBEq, q1, q2, q3, q4, q5, q6, q7, q8, hw, hd, u8_34, u8_92, Nat.add_sub_cancel_left])) | refine condV_split (fun hc => ?_) (fun hc => ?_) | (with_reducible intro β hβ; (try simp only [RB] at hβ); (repeat (obtain ⟨⟨_, _⟩, hβ⟩ := hβ)); (try (have hbis := apart_is (by assumption) hβ; obtain ⟨_, _⟩ := hbis))) | refine Pt (hpl) ?_ | refine Ct (hpl) ?_ | (refine AC.mono (AC.wk (w1 _ _ (by simp) (by omega)) (wkL_refl _)) ?_; (rintro _ _ ⟨rfl, rfl⟩))) <;> (try simp only [↓R1, RR, Nat.reduceEqDiff, Nat.reduceAdd, Nat.reduceMul, Nat.reduceSub, Nat.reduceLeDiff, Nat.reduceLT, reduceIte, reduceCtorEq, Int.reduceBNe, Int.reduceBEq, q1, q2, q3, q4, q5, q6, q7, q8, hw, hd, u8_34, u8_92, Nat.add_sub_cancel_left])))
        all_goals first | (simp only [List.length_map]; omega) | skip
        · simp [subF, slot, wk_refl]
        · rw [hes]; exact St.le_refl _
      | false =>
        rw [hb] at hpl
        by_cases h2 : t[k] = 34 ∨ t[k] = 92
        · have q2 : (decide (t[k] = 34) || decide (t[k] = 92)) = true := by simpa using h2
          have w92 : AC Tryd.prog 39 [.ptr γ 0, .int .u8 92] (bS X γ τ (34 :: (t.take k).flatMap escB)) (fun v s => v = .nili ∧ s = bS X γ τ ((34 :: (t.take k).flatMap escB) ++ [92])) := w1 92 _ (by simp) (by omega)
          have wc := w1 t[k] ((34 :: (t.take k).flatMap escB) ++ [92]) (by simp) (by rw [List.length_append]; simp only [List.length_cons, List.length_nil] at *; omega)
          rw [escB_bs hb h2] at hes
          repeat' (first | (with_reducible rw [allocV_eq]) | (with_reducible refine And.intro ?_ ?_; focus (intros; (repeat' (with_reducible apply And.intro)) <;> first | omega | (simp only [RZ]; omega))) | (with_reducible apply And.intro) | ((first | (refine gdV_split (fun hc => ?_) (fun hc => ?_) <;> (try simp only [hc, ↓R1, RR, Nat.reduceEqDiff, Nat.reduceAdd, Nat.reduceMul, Nat.reduceSub, Nat.reduceLeDiff, Nat.reduceLT, reduceIte, reduceCtorEq, Int.reduceBNe, Int.reduceBEq, q1, q2, q3, q4, q5, q6, q7, q8, hw, hd, u8_34, u8_92, Nat.add_sub_cancel_left])) | refine condV_split (fun hc => ?_) (fun hc => ?_) | (with_reducible intro β hβ; (try simp only [RB] at hβ); (repeat (obtain ⟨⟨_, _⟩, hβ⟩ := hβ)); (try (have hbis := apart_is (by assumption) hβ; obtain ⟨_, _⟩ := hbis))) | refine Pt (hpl) ?_ | refine Ct (hpl) ?_ | (refine AC.mono (AC.wk (w92) (wkL_refl _)) ?_; (rintro _ _ ⟨rfl, rfl⟩)) | (refine AC.mono (AC.wk (wc) (wkL_refl _)) ?_; (rintro _ _ ⟨rfl, rfl⟩))) <;> (try simp only [↓R1, RR, Nat.reduceEqDiff, Nat.reduceAdd, Nat.reduceMul, Nat.reduceSub, Nat.reduceLeDiff, Nat.reduceLT, reduceIte, reduceCtorEq, Int.reduceBNe, Int.reduceBEq, q1, q2, q3, q4, q5, q6, q7, q8, hw, hd, u8_34, u8_92, Nat.add_sub_cancel_left])))
          all_goals first | (simp only [List.length_map]; omega) | skip
          · simp [subF, slot, wk_refl]
          · rw [hes]; simp; exact St.le_refl _
        · have q2 : (decide (t[k] = 34) || decide (t[k] = 92)) = false := by
            rw [← Bool.not_eq_true]; simpa using h2
          have q3 := shr4 t[k]
          have q4 := and15 t[k]
          have q5 := (wrap_nib t[k]).1
          have q6 := (wrap_nib t[k]).2
          have q7 := hexc_get (t[k].toNat / 16) (by have := lt_u8 t[k]; omega)
          have q8 := hexc_get (t[k].toNat % 16) (by omega)
          have ws := (a_WriteString γ ([92, 120] ++ [hexc (t[k].toNat / 16)] ++ [hexc (t[k].toNat % 16)]) (by simp)).used (l := 34 :: (t.take k).flatMap escB) (by simp) hτ hXb (by simp only [List.length_append, List.length_cons, List.length_nil] at *; omega)
          rw [escB_hex hb h2] at hes
          have hks := bS_keep X γ τ (a := 34 :: (t.take k).flatMap escB) (b := 34 :: (t.take k).flatMap escB ++ ([92, 120] ++ [hexc (t[k].toNat / 16)] ++ [hexc (t[k].toNat % 16)])) (by simp) (by simp)
          repeat' (first | (with_reducible rw [allocV_eq]) | (with_reducible refine And.intro ?_ ?_; focus (intros; (repeat' (with_reducible apply And.intro)) <;> first | omega | (simp only [RZ]; omega))) | (with_reducible apply And.intro) | ((first | (refine gdV_split (fun hc => ?_) (fun hc => ?_) <;> (try simp only [hc, ↓R1, RR, Nat.reduceEqDiff, Nat.reduceAdd, Nat.reduceMul, Nat.reduceSub, Nat.reduceLeDiff, Nat.reduceLT, reduceIte, reduceCtorEq, Int.reduceBNe, Int.reduceBEq, q1, q2, q3, q4, q5, q6, q7, q8, hw, hd, u8_34, u8_92, Nat.add_sub_cancel_left])) | refine condV_split (fun hc => ?_) (fun hc => ?_) | (with_reducible intro β hβ; (try simp only [RB] at hβ); (repeat (obtain ⟨⟨_, _⟩, hβ⟩ := hβ)); (try (have hbis := apart_is (by assumption) hβ; obtain ⟨_, _⟩ := hbis))) | refine Pt (hpl) ?_ | refine Ct (hpl) ?_ | (refine callSV_i ws (wkL_refl _) hks ?_)) <;> (try simp only [↓R1, RR, Nat.reduceEqDiff, Nat.reduceAdd, Nat.reduceMul, Nat.reduceSub, Nat.reduceLeDiff, Nat.reduceLT, reduceIte, reduceCtorEq, Int.reduceBNe, Int.reduceBEq, q1, q2, q3, q4, q5, q6, q7, q8, hw, hd, u8_34, u8_92, Nat.add_sub_cancel_left])))
          all_goals first | (simp only [List.length_map]; omega) | (have := lt_u8 t[k]; omega) | skip
          · simp [subF, slot, wk_refl]
          · rw [hes]; simp; exact St.le_refl _
    · have hke : k = t.length := by omega
      subst hke
      have q1 : decide ((t.length : Int) < (t.length : Int)) = false := by simp
      rw [List.take_length] at hlk ⊢
      have w34 : AC Tryd.prog 39 [.ptr γ 0, .int .u8 34] (bS X γ τ (34 :: t.flatMap escB)) (fun v s => v = .nili ∧ s = bS X γ τ ((34 :: t.flatMap escB) ++ [34])) := (a_WriteByte γ 34).used (by simp) hτ hXb (by simp only [List.length_cons, List.length_nil] at *; omega)
      have ws := a_String (β := γ) (τ := τ) (l := (34 :: t.flatMap escB) ++ [34]) (σ := X) (fun _ => hτ) hXb
      simp only [q1, ↓R1, RR, Nat.reduceEqDiff, Nat.reduceAdd, Nat.reduceMul, Nat.reduceSub, Nat.reduceLeDiff, Nat.reduceLT, reduceIte, reduceCtorEq, Int.reduceBNe, Int.reduceBEq, q1, q2, q3, q4, q5, q6, q7, q8, hw, hd, u8_34, u8_92, Nat.add_sub_cancel_left]
      repeat' (first | (with_reducible rw [allocV_eq]) | (with_reducible refine And.intro ?_ ?_; focus (intros; (repeat' (with_reducible apply And.intro)) <;> first | omega | (simp only [RZ]; omega))) | (with_reducible apply And.intro) | ((first | (refine gdV_split (fun hc => ?_) (fun hc => ?_) <;> (try simp only [hc, ↓R1, RR, Nat.reduceEqDiff, Nat.reduceAdd, Nat.reduceMul, Nat.reduceSub, Nat.reduceLeDiff, Nat.reduceLT, reduceIte, reduceCtorEq, Int.reduceBNe, Int.reduceBEq, q1, q2, q3, q4, q5, q6, q7, q8, hw, hd, u8_34, u8_92, Nat.add_sub_cancel_left])) | refine condV_split (fun hc => ?_) (fun hc => ?_) | (with_reducible intro β hβ; (try simp only [RB] at hβ); (repeat (obtain ⟨⟨_, _⟩, hβ⟩ := hβ)); (try (have hbis := apart_is (by assumption) hβ; obtain ⟨_, _⟩ := hbis))) | (refine AC.mono (AC.wk (w34) (wkL_refl _)) ?_; (rintro _ _ ⟨rfl, rfl⟩)) | (refine AC.mono (AC.wk (ws) (wkL_refl _)) ?_; (rintro _ _ ⟨rfl, rfl⟩))) <;> (try simp only [↓R1, RR, Nat.reduceEqDiff, Nat.reduceAdd, Nat.reduceMul, Nat.reduceSub, Nat.reduceLeDiff, Nat.reduceLT, reduceIte, reduceCtorEq, Int.reduceBNe, Int.reduceBEq, q1, q2, q3, q4, q5, q6, q7, q8, hw, hd, u8_34, u8_92, Nat.add_sub_cancel_left])))
      refine endP_pu (by simp) (by first | (simp [rvsS, rvS]; done) | (simp only [rvsS, rvS, ↓R1, RR, Nat.reduceEqDiff, Nat.reduceAdd, Nat.reduceMul, Nat.reduceSub, Nat.reduceLeDiff, Nat.reduceLT, reduceIte, reduceCtorEq, Int.reduceBNe, Int.reduceBEq, q1, q2, q3, q4, q5, q6, q7, q8, hw, hd, u8_34, u8_92, Nat.add_sub_cancel_left]; try simp)) (wk_of_eq ?_) (hXl _)
      (simp only [resAV, rvV, List.map_cons, List.map_nil, ↓R1, RR, Nat.reduceEqDiff, Nat.reduceAdd, Nat.reduceMul, Nat.reduceSub, Nat.reduceLeDiff, Nat.reduceLT, reduceIte, reduceCtorEq, Int.reduceBNe, Int.reduceBEq, q1, q2, q3, q4, q5, q6, q7, q8, hw, hd, u8_34, u8_92, Nat.add_sub_cancel_left])
      rfl
end Go.Proofs.YtemddijemikleaaDoor
namespace Go.Abs
theorem AC.le {P : Program} {f : Nat} {xs : List AV} {σ σ' : St} {R : AV → St → Prop} (h : AC P f xs σ R) (hl : St.le σ σ') : AC P f xs σ' R := fun g w vs hI hv => h g w vs (hI.le hl) hv
end Go.Abs
namespace Go.Proofs.YtemddijemikleaaDoor
open Go.Abs
set_option linter.all false
set_option maxRecDepth 100000
theorem joins : Joins Tryd.prog 34 :=
  joins_of (Go.Proofs.enters_of Tryd.func34 (by kernel_rfl) rfl) (fun x sep w => Tryd.strings_Join_none x 0 sep w) (fun bk o c xs sep w h1 h2 h3 h4 h5 => Tryd.strings_Join bk o c xs sep w h1 h2 h3 h4 h5)
def sV (τ : Nat) : List (List UInt8) → AV
  | [] => .nils
  | p => .tsl τ p.length (p.map AV.str)
def sT (σ : St) (τ : Nat) : List (List UInt8) → St
  | [] => σ
  | p => σ.setTip τ (9, 1, p.length)
theorem sT_box (σ : St) (τ : Nat) (p : List (List UInt8)) : (sT σ τ p).box = σ.box := by cases p <;> rfl
theorem sT_set (σ : St) (τ : Nat) (p : List (List UInt8)) (u : Nat) (c : List AV) : (sT σ τ p).setBox u c = sT (σ.setBox u c) τ p := by cases p <;> rfl
theorem sT_le {s s' : St} (h : St.le s s') {τ : Nat} {p : List (List UInt8)} (hn : p ≠ [] → s.tip τ = none) : St.le s (sT s' τ p) := by
  cases p with
  | nil => exact h
  | cons x p => exact St.le_setTip h (hn (by simp))
theorem sT_le2 {s s' : St} (h : St.le s s') (τ : Nat) (p : List (List UInt8)) : St.le (sT s τ p) (sT s' τ p) := by
  cases p with
  | nil => exact h
  | cons x p => exact St.le_setTc h
theorem bS_tip_none {σ : St} {γ τ τ1 : Nat} {out : List UInt8} (h : (bS σ γ τ out).tip τ1 = none) : σ.tip τ1 = none := by
  cases out with
  | nil => exact h
  | cons x out =>
    simp only [bS, bT, St.setBox, St.setTip, upd] at h
    split at h
    · cases h
    · exact h
theorem sV_slv (τ : Nat) (p : List (List UInt8)) : slv (sV τ p) = some (p.length, p.map AV.str) := by cases p <;> rfl
theorem sV_app {P : Program} {Y : St} {K : AV → St → Prop} {τ : Nat} {pre : List (List UInt8)} {w : List UInt8} {h : Hold (sT Y τ pre, K)} (hl : pre.length ≤ 1000000) (hY : pre ≠ [] → Y.tip τ = none)
    (hK : ∀ τ', Y.tip τ' = none → K (sV τ' (pre ++ [w])) (sT Y τ' (pre ++ [w]))) : appV true 9 1 16 (sV τ pre) (.sl true 1 [.str w]) (sT Y τ pre) K h := by
  cases pre with
  | nil =>
    refine appV_tip (n := 0) (cs := []) rfl trivial rfl rfl rfl ?_ ?_ (fun τ' hτ' => ?_)
    · unfold maxLen; decide
    · decide
    · exact hK τ' hτ'
  | cons x p =>
    simp only [List.length_cons] at hl
    refine appV_tslK rfl ?_ ?_ rfl ?_ ?_ ?_
    · simp [sT, St.setTip, upd]
    · simp
    · unfold maxLen; simp; omega
    · simp; omega
    · have := hK τ (hY (by simp))
      have e1 : (x :: p).map AV.str ++ [AV.str w] = ((x :: p) ++ [w]).map AV.str := by simp
      have e2 : sT (sT Y τ (x :: p)) τ ((x :: p) ++ [w]) = sT Y τ ((x :: p) ++ [w]) := St.setTip_setTip _ _ _ _
      have e3 : (x :: p).length + 1 = ((x :: p) ++ [w]).length := by simp
      rw [e1, e3]
      rw [← e2] at this
      exact this
theorem cRI_get (l : List RI) {k : Nat} (h : k < l.length) : ((l.flatMap cRI).drop (k * 2)).take 2 = cRI l[k] := by
  have := flat_get (f := cRI) (s := 2) (fun _ => rfl) l k h
  exact this
theorem cWI_get (l : List WI) {k : Nat} (h : k < l.length) : ((l.flatMap cWI).drop (k * 3)).take 3 = cWI l[k] := by
  have := flat_get (f := cWI) (s := 3) (fun _ => rfl) l k h
  exact this
theorem textG_missing {out : List UInt8} {l : List RI} {k : Nat} (h : k < l.length) (h0 : l[k].ws.length = 0) : textG out (l.drop k) = .error 7 := by
  rw [List.drop_eq_getElem_cons h]; simp only [textG, h0, if_true]
theorem textG_form {out : List UInt8} {l : List RI} {k : Nat} (h : k < l.length) (h0 : ¬ l[k].ws.length = 0) (hw : wordsT l[k].ws = none) : textG out (l.drop k) = .error 3 := by
  rw [List.drop_eq_getElem_cons h]; simp only [textG, if_neg h0, hw]
theorem textG_step {out : List UInt8} {l : List RI} {k : Nat} {ws : List (List UInt8)} (h : k < l.length) (h0 : ¬ l[k].ws.length = 0) (hw : wordsT l[k].ws = some ws) :
    textG out (l.drop k) = if 1000 < (Lib.join ws [32]).length ∨ 20000 < (out ++ (Lib.join ws [32] ++ [10])).length then .error 4 else textG (out ++ (Lib.join ws [32] ++ [10])) (l.drop (k + 1)) := by
  rw [List.drop_eq_getElem_cons h]; simp only [textG, if_neg h0, hw]
set_option maxHeartbeats 4000000 in
theorem p12 (l : List RI) (hl : LightR l) : Pu Tryd.prog 12 [.sl false l.length (l.flatMap cRI)] (textV (textS l)) := by
  have q1 : True := trivial
  have q2 : True := trivial
  have q3 : True := trivial
  have q4 : True := trivial
  have q5 : True := trivial
  have hw : True := trivial
  have hd : True := trivial
  have hd2 : True := trivial
  obtain ⟨hl1, hl2⟩ := hl
  (refine Pu_intro c12 b12 (Nat.le_of_ble_eq_true rfl) fun σ => ?_; simp only [c12, ↓R1, RR, Nat.reduceEqDiff, Nat.reduceAdd, Nat.reduceMul, Nat.reduceSub, Nat.reduceLeDiff, Nat.reduceLT, reduceIte, reduceCtorEq, Int.reduceBNe, Int.reduceBEq, q1, q2, q3, q4, q5, hw, hd, hd2])
  refine allocTV_i (fun γ hγ hγt => ?_)
  have hγt : σ.bt γ = none := hγt
  simp only [↓R1, RR, Nat.reduceEqDiff, Nat.reduceAdd, Nat.reduceMul, Nat.reduceSub, Nat.reduceLeDiff, Nat.reduceLT, reduceIte, reduceCtorEq, Int.reduceBNe, Int.reduceBEq, q1, q2, q3, q4, q5, hw, hd, hd2]
  obtain ⟨X, hX⟩ : ∃ X, X = σ.setBt γ 63 := ⟨_, rfl⟩
  have hXt : X.tip = σ.tip := by rw [hX]; rfl
  have hXb : X.bt γ = some 63 := by rw [hX]; exact St.bt_same _ _ _
  have hXl : ∀ c, St.le σ (X.setBox γ c) := fun c => by
    rw [hX]; exact St.le_setBox (St.le_newBt (St.le_refl _) hγt) hγ
  have hle : ∀ τ out, (out ≠ [] → σ.tip τ = none) → St.le σ (bS X γ τ out) := fun τ out h => by
    rw [hX]; exact bS_le (St.le_newBt (St.le_refl _) hγt) hγ h
  refine loopV_st (α := Nat × Nat × List UInt8) (fun z => [(4, .ptr γ 0), (13, .sl false l.length (l.flatMap cRI)), (14, .int .i64 (l.length : Nat)), (15, .int .i64 (z.1 : Nat))]) (fun z => bS X γ z.2.1 z.2.2)
    (fun z => z.1 ≤ l.length ∧ (z.2.2 ≠ [] → σ.tip z.2.1 = none) ∧ z.2.2.length ≤ 20000 ∧ textS l = textG z.2.2 (l.drop z.1)) (fun z => l.length - z.1) (0, 0, []) (by simp [subF, slot, wk_refl]) (by rw [hX]; exact St.le_refl _) ⟨Nat.zero_le _, (fun h => absurd rfl h), Nat.zero_le _, rfl⟩ ?_
  rintro ⟨k, τ, out⟩ ⟨hk, hτ, hlen, hI⟩
  simp only at hk hτ hlen hI
  by_cases hlt : k < l.length
  · have q1 : decide ((k : Int) < (l.length : Int)) = true := by rw [decide_eq_true_eq]; omega
    have hd := cRI_get l hlt
    have hd2 := cRI_len l
    have hw : IntKind.i64.wrap ((k : Int) + 1) = ((k + 1 : Nat) : Int) := by rw [wrap64 (by omega) (by omega)]; omega
    obtain ⟨hwn, hwt⟩ := hl2 l[k] (List.getElem_mem hlt)
    simp only [cRI] at hd
    have hτX : out ≠ [] → X.tip τ = none := by rw [hXt]; exact hτ
    by_cases h0 : l[k].ws.length = 0
    · have q2 : ((l[k].ws.length : Int) == 0) = true := by rw [h0]; rfl
      rw [textG_missing hlt h0] at hI
      rw [hI]
      simp only [q1, ↓R1, RR, Nat.reduceEqDiff, Nat.reduceAdd, Nat.reduceMul, Nat.reduceSub, Nat.reduceLeDiff, Nat.reduceLT, reduceIte, reduceCtorEq, Int.reduceBNe, Int.reduceBEq, q1, q2, q3, q4, q5, hw, hd, hd2]
      repeat' (first | (with_reducible rw [allocV_eq]) | (with_reducible refine And.intro ?_ ?_; focus (intros; (repeat' (with_reducible apply And.intro)) <;> first | omega | (simp only [RZ]; omega))) | (with_reducible apply And.intro) | ((first | (refine gdV_split (fun hc => ?_) (fun hc => ?_) <;> (try simp only [hc, ↓R1, RR, Nat.reduceEqDiff, Nat.reduceAdd, Nat.reduceMul, Nat.reduceSub, Nat.reduceLeDiff, Nat.reduceLT, reduceIte, reduceCtorEq, Int.reduceBNe, Int.reduceBEq, q1, q2, q3, q4, q5, hw, hd, hd2])) | refine condV_split (fun hc => ?_) (fun hc => ?_) | (with_reducible intro β hβ; (try simp only [RB] at hβ); (repeat (obtain ⟨⟨_, _⟩, hβ⟩ := hβ)); (try (have hbis := apart_is (by assumption) hβ; obtain ⟨_, _⟩ := hbis)))) <;> (try simp only [↓R1, RR, Nat.reduceEqDiff, Nat.reduceAdd, Nat.reduceMul, Nat.reduceSub, Nat.reduceLeDiff, Nat.reduceLT, reduceIte, reduceCtorEq, Int.reduceBNe, Int.reduceBEq, q1, q2, q3, q4, q5, hw, hd, hd2])))
      all_goals first | (rw [hd2]; omega) | skip
      refine endP_pu (by simp) (by first | (simp [rvsS, rvS]; done) | (simp only [rvsS, rvS, ↓R1, RR, Nat.reduceEqDiff, Nat.reduceAdd, Nat.reduceMul, Nat.reduceSub, Nat.reduceLeDiff, Nat.reduceLT, reduceIte, reduceCtorEq, Int.reduceBNe, Int.reduceBEq, q1, q2, q3, q4, q5, hw, hd, hd2]; try simp)) (wk_of_eq ?_) (St.le_setBox (hle τ out hτ) (by rw [bS_none] at hβ; rw [hX] at hβ; exact hβ.2))
      (simp only [resAV, rvV, List.map_cons, List.map_nil, ↓R1, RR, Nat.reduceEqDiff, Nat.reduceAdd, Nat.reduceMul, Nat.reduceSub, Nat.reduceLeDiff, Nat.reduceLT, reduceIte, reduceCtorEq, Int.reduceBNe, Int.reduceBEq, q1, q2, q3, q4, q5, hw, hd, hd2])
      rfl
    · have q2 : ((l[k].ws.length : Int) == 0) = false := by
        rw [← Bool.not_eq_true, beq_iff_eq]; omega
      simp only [q1, ↓R1, RR, Nat.reduceEqDiff, Nat.reduceAdd, Nat.reduceMul, Nat.reduceSub, Nat.reduceLeDiff, Nat.reduceLT, reduceIte, reduceCtorEq, Int.reduceBNe, Int.reduceBEq, q1, q2, q3, q4, q5, hw, hd, hd2]
      repeat' (first | (with_reducible rw [allocV_eq]) | (with_reducible refine And.intro ?_ ?_; focus (intros; (repeat' (with_reducible apply And.intro)) <;> first | omega | (simp only [RZ]; omega))) | (with_reducible apply And.intro) | ((first | (refine gdV_split (fun hc => ?_) (fun hc => ?_) <;> (try simp only [hc, ↓R1, RR, Nat.reduceEqDiff, Nat.reduceAdd, Nat.reduceMul, Nat.reduceSub, Nat.reduceLeDiff, Nat.reduceLT, reduceIte, reduceCtorEq, Int.reduceBNe, Int.reduceBEq, q1, q2, q3, q4, q5, hw, hd, hd2])) | refine condV_split (fun hc => ?_) (fun hc => ?_) | (with_reducible intro β hβ; (try simp only [RB] at hβ); (repeat (obtain ⟨⟨_, _⟩, hβ⟩ := hβ)); (try (have hbis := apart_is (by assumption) hβ; obtain ⟨_, _⟩ := hbis)))) <;> (try simp only [↓R1, RR, Nat.reduceEqDiff, Nat.reduceAdd, Nat.reduceMul, Nat.reduceSub, Nat.reduceLeDiff, Nat.reduceLT, reduceIte, reduceCtorEq, Int.reduceBNe, Int.reduceBEq, q1, q2, q3, q4, q5, hw, hd, hd2])))
      all_goals first | (rw [hd2]; omega) | skip
      obtain ⟨ws, hws⟩ : ∃ ws, l[k].ws = ws := ⟨_, rfl⟩
      rw [hws] at hwn hwt h0 ⊢
      have hd : True := trivial
      have hd2 : True := trivial
      refine loopV_st (α := Nat × Nat × List (List UInt8)) (fun z => [(4, .ptr γ 0), (7, sV z.2.1 z.2.2), (13, .sl false l.length (l.flatMap cRI)), (14, .int .i64 (l.length : Nat)), (15, .int .i64 (k : Nat)), (24, .sl false ws.length (ws.flatMap cWI)), (25, .int .i64 (ws.length : Nat)), (26, .int .i64 (z.1 : Nat))])
        (fun z => sT (bS X γ τ out) z.2.1 z.2.2) (fun z => z.1 ≤ ws.length ∧ (z.2.2 ≠ [] → (bS X γ τ out).tip z.2.1 = none) ∧ wordsT (ws.take z.1) = some z.2.2 ∧ z.2.2.length = z.1) (fun z => ws.length - z.1) (0, 0, [])
        (by simp [subF, slot, wk_refl, sV]) (St.le_setBox (St.le_setBox (St.le_refl _) hβ) hβ) ⟨Nat.zero_le _, (fun h => absurd rfl h), rfl, rfl⟩ ?_
      rintro ⟨i, τ1, acc⟩ ⟨hi, hτ1, hacc, hal⟩
      simp only at hi hτ1 hacc hal
      by_cases hin : i < ws.length
      · have q3 : decide ((i : Int) < (ws.length : Int)) = true := by rw [decide_eq_true_eq]; omega
        have hd := cWI_get ws hin
        have hd2 := cWI_len ws
        have hw : IntKind.i64.wrap ((i : Int) + 1) = ((i + 1 : Nat) : Int) := by rw [wrap64 (by omega) (by omega)]; omega
        have hp := p15 ws[i].q ws[i].t ws[i].a (by have := hwt ws[i] (List.getElem_mem hin); omega)
        simp only [cWI] at hd
        simp only [q3, ↓R1, RR, Nat.reduceEqDiff, Nat.reduceAdd, Nat.reduceMul, Nat.reduceSub, Nat.reduceLeDiff, Nat.reduceLT, reduceIte, reduceCtorEq, Int.reduceBNe, Int.reduceBEq, q1, q2, q3, q4, q5, hw, hd, hd2]
        cases hwd : wordT ws[i].q ws[i].t with
        | none =>
          rw [hwd] at hp
          have hbad := wordsT_bad ws i hin hwd
          rw [textG_form hlt (by rw [hws]; exact h0) (by rw [hws]; exact hbad)] at hI
          rw [hI]
          simp only [wordV] at hp
          repeat' (first | (with_reducible rw [allocV_eq]) | (with_reducible refine And.intro ?_ ?_; focus (intros; (repeat' (with_reducible apply And.intro)) <;> first | omega | (simp only [RZ]; omega))) | (with_reducible apply And.intro) | ((first | (refine gdV_split (fun hc => ?_) (fun hc => ?_) <;> (try simp only [hc, ↓R1, RR, Nat.reduceEqDiff, Nat.reduceAdd, Nat.reduceMul, Nat.reduceSub, Nat.reduceLeDiff, Nat.reduceLT, reduceIte, reduceCtorEq, Int.reduceBNe, Int.reduceBEq, q1, q2, q3, q4, q5, hw, hd, hd2])) | refine condV_split (fun hc => ?_) (fun hc => ?_) | (with_reducible intro β hβ; (try simp only [RB] at hβ); (repeat (obtain ⟨⟨_, _⟩, hβ⟩ := hβ)); (try (have hbis := apart_is (by assumption) hβ; obtain ⟨_, _⟩ := hbis))) | refine Pt (hp) ?_ | refine Ct (hp) ?_) <;> (try simp only [↓R1, RR, Nat.reduceEqDiff, Nat.reduceAdd, Nat.reduceMul, Nat.reduceSub, Nat.reduceLeDiff, Nat.reduceLT, reduceIte, reduceCtorEq, Int.reduceBNe, Int.reduceBEq, q1, q2, q3, q4, q5, hw, hd, hd2])))
          all_goals first | (rw [hd2]; omega) | skip
          rw [sT_box, bS_none, hX] at hβ
          refine endP_pu (by simp) (by first | (simp [rvsS, rvS]; done) | (simp only [rvsS, rvS, ↓R1, RR, Nat.reduceEqDiff, Nat.reduceAdd, Nat.reduceMul, Nat.reduceSub, Nat.reduceLeDiff, Nat.reduceLT, reduceIte, reduceCtorEq, Int.reduceBNe, Int.reduceBEq, q1, q2, q3, q4, q5, hw, hd, hd2]; try simp)) (wk_of_eq ?_) (St.le_setBox (sT_le (hle τ out hτ) (fun h => by have := bS_tip_none (hτ1 h); rwa [hXt] at this)) hβ.2)
          (simp only [resAV, rvV, List.map_cons, List.map_nil, ↓R1, RR, Nat.reduceEqDiff, Nat.reduceAdd, Nat.reduceMul, Nat.reduceSub, Nat.reduceLeDiff, Nat.reduceLT, reduceIte, reduceCtorEq, Int.reduceBNe, Int.reduceBEq, q1, q2, q3, q4, q5, hw, hd, hd2])
          rfl
        | some x =>
          rw [hwd] at hp
          have hnx := wordsT_take hin hacc hwd
          simp only [wordV] at hp
          repeat' (first | (with_reducible rw [allocV_eq]) | (with_reducible refine And.intro ?_ ?_; focus (intros; (repeat' (with_reducible apply And.intro)) <;> first | omega | (simp only [RZ]; omega))) | (with_reducible apply And.intro) | ((first | (refine gdV_split (fun hc => ?_) (fun hc => ?_) <;> (try simp only [hc, ↓R1, RR, Nat.reduceEqDiff, Nat.reduceAdd, Nat.reduceMul, Nat.reduceSub, Nat.reduceLeDiff, Nat.reduceLT, reduceIte, reduceCtorEq, Int.reduceBNe, Int.reduceBEq, q1, q2, q3, q4, q5, hw, hd, hd2])) | refine condV_split (fun hc => ?_) (fun hc => ?_) | (with_reducible intro β hβ; (try simp only [RB] at hβ); (repeat (obtain ⟨⟨_, _⟩, hβ⟩ := hβ)); (try (have hbis := apart_is (by assumption) hβ; obtain ⟨_, _⟩ := hbis))) | refine Pt (hp) ?_ | refine Ct (hp) ?_) <;> (try simp only [↓R1, RR, Nat.reduceEqDiff, Nat.reduceAdd, Nat.reduceMul, Nat.reduceSub, Nat.reduceLeDiff, Nat.reduceLT, reduceIte, reduceCtorEq, Int.reduceBNe, Int.reduceBEq, q1, q2, q3, q4, q5, hw, hd, hd2])))
          all_goals first | (rw [hd2]; omega) | skip
          rw [sT_box] at hβ
          rw [sT_set, sT_set]
          refine sV_app (P := Tryd.prog) (by omega) hτ1 (fun τ' hτ' => ?_)
          simp only [↓R1, RR, Nat.reduceEqDiff, Nat.reduceAdd, Nat.reduceMul, Nat.reduceSub, Nat.reduceLeDiff, Nat.reduceLT, reduceIte, reduceCtorEq, Int.reduceBNe, Int.reduceBEq, q1, q2, q3, q4, q5, hw, hd, hd2]
          repeat' (first | (with_reducible rw [allocV_eq]) | (with_reducible refine And.intro ?_ ?_; focus (intros; (repeat' (with_reducible apply And.intro)) <;> first | omega | (simp only [RZ]; omega))) | (with_reducible apply And.intro) | ((first | (refine gdV_split (fun hc => ?_) (fun hc => ?_) <;> (try simp only [hc, ↓R1, RR, Nat.reduceEqDiff, Nat.reduceAdd, Nat.reduceMul, Nat.reduceSub, Nat.reduceLeDiff, Nat.reduceLT, reduceIte, reduceCtorEq, Int.reduceBNe, Int.reduceBEq, q1, q2, q3, q4, q5, hw, hd, hd2])) | refine condV_split (fun hc => ?_) (fun hc => ?_) | (with_reducible intro β hβ; (try simp only [RB] at hβ); (repeat (obtain ⟨⟨_, _⟩, hβ⟩ := hβ)); (try (have hbis := apart_is (by assumption) hβ; obtain ⟨_, _⟩ := hbis)))) <;> (try simp only [↓R1, RR, Nat.reduceEqDiff, Nat.reduceAdd, Nat.reduceMul, Nat.reduceSub, Nat.reduceLeDiff, Nat.reduceLT, reduceIte, reduceCtorEq, Int.reduceBNe, Int.reduceBEq, q1, q2, q3, q4, q5, hw, hd, hd2])))
          refine ⟨(i + 1, τ', acc ++ [x]), ⟨hin, fun _ => hτ', hnx, by simp [hal]⟩, by simp [subF, slot, wk_refl], sT_le2 (St.le_setBox (St.le_refl _) hβ) _ _, by simp only; omega⟩
      · have hie : i = ws.length := by omega
        subst hie
        have q3 : decide ((ws.length : Int) < (ws.length : Int)) = false := by simp
        rw [List.take_length] at hacc
        obtain ⟨ha1, ha2⟩ := wordsT_len ws hacc
        have hjl := join_bnd 80002 acc (fun x hx => by have := ha2 20000 hwt x hx; omega)
        have hjl2 : (Lib.join acc [32]).length ≤ 80003000 := by
          have : 80003 * acc.length ≤ 80003 * 1000 := Nat.mul_le_mul_left _ (by omega)
          omega
        rw [textG_step hlt (by rw [hws]; exact h0) (by rw [hws]; exact hacc)] at hI
        have hj := joins (sV τ1 acc) acc [32] (sT (bS X γ τ out) τ1 acc) (sV_slv τ1 acc) (by omega) (by omega)
        obtain ⟨line, hline⟩ : ∃ line, Lib.join acc [32] = line := ⟨_, rfl⟩
        rw [hline] at hj hI hjl2
        have hwr := (a_WriteString γ (line ++ [10]) (by simp) X τ out hτX hXb (by simp; omega)).le (sT_le (St.le_refl _) hτ1)
        simp only [q3, ↓R1, RR, Nat.reduceEqDiff, Nat.reduceAdd, Nat.reduceMul, Nat.reduceSub, Nat.reduceLeDiff, Nat.reduceLT, reduceIte, reduceCtorEq, Int.reduceBNe, Int.reduceBEq, q1, q2, q3, q4, q5, hw, hd, hd2]
        repeat' (first | (with_reducible rw [allocV_eq]) | (with_reducible refine And.intro ?_ ?_; focus (intros; (repeat' (with_reducible apply And.intro)) <;> first | omega | (simp only [RZ]; omega))) | (with_reducible apply And.intro) | ((first | (refine gdV_split (fun hc => ?_) (fun hc => ?_) <;> (try simp only [hc, ↓R1, RR, Nat.reduceEqDiff, Nat.reduceAdd, Nat.reduceMul, Nat.reduceSub, Nat.reduceLeDiff, Nat.reduceLT, reduceIte, reduceCtorEq, Int.reduceBNe, Int.reduceBEq, q1, q2, q3, q4, q5, hw, hd, hd2])) | refine condV_split (fun hc => ?_) (fun hc => ?_) | (with_reducible intro β hβ; (try simp only [RB] at hβ); (repeat (obtain ⟨⟨_, _⟩, hβ⟩ := hβ)); (try (have hbis := apart_is (by assumption) hβ; obtain ⟨_, _⟩ := hbis))) | (refine AC.mono (AC.wk (hj) (wkL_refl _)) ?_; (rintro _ _ ⟨rfl, rfl⟩))) <;> (try simp only [↓R1, RR, Nat.reduceEqDiff, Nat.reduceAdd, Nat.reduceMul, Nat.reduceSub, Nat.reduceLeDiff, Nat.reduceLT, reduceIte, reduceCtorEq, Int.reduceBNe, Int.reduceBEq, q1, q2, q3, q4, q5, hw, hd, hd2])))
        all_goals first | omega | (simp only [List.length_append, List.length_cons, List.length_nil]; omega) | skip
        refine (AC.wk hwr (wkL_refl _)).mono ?_
        rintro _ _ ⟨rfl, τ', hτ', _, rfl⟩
        have hln := a_Len X γ τ' (out ++ (line ++ [10]))
        have hτ'σ : σ.tip τ' = none := by rw [← hXt]; exact hτ'
        simp only [↓R1, RR, Nat.reduceEqDiff, Nat.reduceAdd, Nat.reduceMul, Nat.reduceSub, Nat.reduceLeDiff, Nat.reduceLT, reduceIte, reduceCtorEq, Int.reduceBNe, Int.reduceBEq, q1, q2, q3, q4, q5, hw, hd, hd2]
        by_cases hL : 1000 < line.length
        · have q4 : decide ((1000 : Int) < (line.length : Int)) = true := by rw [decide_eq_true_eq]; omega
          rw [if_pos (.inl hL)] at hI
          rw [hI]
          simp only [q4, ↓R1, RR, Nat.reduceEqDiff, Nat.reduceAdd, Nat.reduceMul, Nat.reduceSub, Nat.reduceLeDiff, Nat.reduceLT, reduceIte, reduceCtorEq, Int.reduceBNe, Int.reduceBEq, q1, q2, q3, q4, q5, hw, hd, hd2]
          repeat' (first | (with_reducible rw [allocV_eq]) | (with_reducible refine And.intro ?_ ?_; focus (intros; (repeat' (with_reducible apply And.intro)) <;> first | omega | (simp only [RZ]; omega))) | (with_reducible apply And.intro) | ((first | (refine gdV_split (fun hc => ?_) (fun hc => ?_) <;> (try simp only [hc, ↓R1, RR, Nat.reduceEqDiff, Nat.reduceAdd, Nat.reduceMul, Nat.reduceSub, Nat.reduceLeDiff, Nat.reduceLT, reduceIte, reduceCtorEq, Int.reduceBNe, Int.reduceBEq, q1, q2, q3, q4, q5, hw, hd, hd2])) | refine condV_split (fun hc => ?_) (fun hc => ?_) | (with_reducible intro β hβ; (try simp only [RB] at hβ); (repeat (obtain ⟨⟨_, _⟩, hβ⟩ := hβ)); (try (have hbis := apart_is (by assumption) hβ; obtain ⟨_, _⟩ := hbis)))) <;> (try simp only [↓R1, RR, Nat.reduceEqDiff, Nat.reduceAdd, Nat.reduceMul, Nat.reduceSub, Nat.reduceLeDiff, Nat.reduceLT, reduceIte, reduceCtorEq, Int.reduceBNe, Int.reduceBEq, q1, q2, q3, q4, q5, hw, hd, hd2])))
          all_goals (try (first | omega | (rename_i hno; cases hno; done)))
          refine endP_pu (by simp) (by first | (simp [rvsS, rvS]; done) | (simp only [rvsS, rvS, ↓R1, RR, Nat.reduceEqDiff, Nat.reduceAdd, Nat.reduceMul, Nat.reduceSub, Nat.reduceLeDiff, Nat.reduceLT, reduceIte, reduceCtorEq, Int.reduceBNe, Int.reduceBEq, q1, q2, q3, q4, q5, hw, hd, hd2]; try simp)) (wk_of_eq ?_) (hle τ' _ (fun _ => hτ'σ))
          (simp only [resAV, rvV, List.map_cons, List.map_nil, ↓R1, RR, Nat.reduceEqDiff, Nat.reduceAdd, Nat.reduceMul, Nat.reduceSub, Nat.reduceLeDiff, Nat.reduceLT, reduceIte, reduceCtorEq, Int.reduceBNe, Int.reduceBEq, q1, q2, q3, q4, q5, hw, hd, hd2])
          rfl
        · have q4 : decide ((1000 : Int) < (line.length : Int)) = false := by rw [decide_eq_false_iff_not]; omega
          by_cases hO : 20000 < (out ++ (line ++ [10])).length
          · have q5 : decide ((20000 : Int) < ((out ++ (line ++ [10])).length : Int)) = true := by rw [decide_eq_true_eq]; omega
            rw [if_pos (.inr hO)] at hI
            rw [hI]
            simp only [q4, ↓R1, RR, Nat.reduceEqDiff, Nat.reduceAdd, Nat.reduceMul, Nat.reduceSub, Nat.reduceLeDiff, Nat.reduceLT, reduceIte, reduceCtorEq, Int.reduceBNe, Int.reduceBEq, q1, q2, q3, q4, q5, hw, hd, hd2]
            repeat' (first | (with_reducible rw [allocV_eq]) | (with_reducible refine And.intro ?_ ?_; focus (intros; (repeat' (with_reducible apply And.intro)) <;> first | omega | (simp only [RZ]; omega))) | (with_reducible apply And.intro) | ((first | (refine gdV_split (fun hc => ?_) (fun hc => ?_) <;> (try simp only [hc, ↓R1, RR, Nat.reduceEqDiff, Nat.reduceAdd, Nat.reduceMul, Nat.reduceSub, Nat.reduceLeDiff, Nat.reduceLT, reduceIte, reduceCtorEq, Int.reduceBNe, Int.reduceBEq, q1, q2, q3, q4, q5, hw, hd, hd2])) | refine condV_split (fun hc => ?_) (fun hc => ?_) | (with_reducible intro β hβ; (try simp only [RB] at hβ); (repeat (obtain ⟨⟨_, _⟩, hβ⟩ := hβ)); (try (have hbis := apart_is (by assumption) hβ; obtain ⟨_, _⟩ := hbis))) | (refine AC.mono (AC.wk (hln) (wkL_refl _)) ?_; (rintro _ _ ⟨rfl, rfl⟩))) <;> (try simp only [↓R1, RR, Nat.reduceEqDiff, Nat.reduceAdd, Nat.reduceMul, Nat.reduceSub, Nat.reduceLeDiff, Nat.reduceLT, reduceIte, reduceCtorEq, Int.reduceBNe, Int.reduceBEq, q1, q2, q3, q4, q5, hw, hd, hd2])))
            refine endP_pu (by simp) (by first | (simp [rvsS, rvS]; done) | (simp only [rvsS, rvS, ↓R1, RR, Nat.reduceEqDiff, Nat.reduceAdd, Nat.reduceMul, Nat.reduceSub, Nat.reduceLeDiff, Nat.reduceLT, reduceIte, reduceCtorEq, Int.reduceBNe, Int.reduceBEq, q1, q2, q3, q4, q5, hw, hd, hd2]; try simp)) (wk_of_eq ?_) (hle τ' _ (fun _ => hτ'σ))
            (simp only [resAV, rvV, List.map_cons, List.map_nil, ↓R1, RR, Nat.reduceEqDiff, Nat.reduceAdd, Nat.reduceMul, Nat.reduceSub, Nat.reduceLeDiff, Nat.reduceLT, reduceIte, reduceCtorEq, Int.reduceBNe, Int.reduceBEq, q1, q2, q3, q4, q5, hw, hd, hd2])
            rfl
          · have q5 : decide ((20000 : Int) < ((out ++ (line ++ [10])).length : Int)) = false := by rw [decide_eq_false_iff_not]; omega
            rw [if_neg (by omega)] at hI
            simp only [q4, ↓R1, RR, Nat.reduceEqDiff, Nat.reduceAdd, Nat.reduceMul, Nat.reduceSub, Nat.reduceLeDiff, Nat.reduceLT, reduceIte, reduceCtorEq, Int.reduceBNe, Int.reduceBEq, q1, q2, q3, q4, q5, hw, hd, hd2]
            repeat' (first | (with_reducible rw [allocV_eq]) | (with_reducible refine And.intro ?_ ?_; focus (intros; (repeat' (with_reducible apply And.intro)) <;> first | omega | (simp only [RZ]; omega))) | (with_reducible apply And.intro) | ((first | (refine gdV_split (fun hc => ?_) (fun hc => ?_) <;> (try simp only [hc, ↓R1, RR, Nat.reduceEqDiff, Nat.reduceAdd, Nat.reduceMul, Nat.reduceSub, Nat.reduceLeDiff, Nat.reduceLT, reduceIte, reduceCtorEq, Int.reduceBNe, Int.reduceBEq, q1, q2, q3, q4, q5, hw, hd, hd2])) | refine condV_split (fun hc => ?_) (fun hc => ?_) | (with_reducible intro β hβ; (try simp only [RB] at hβ); (repeat (obtain ⟨⟨_, _⟩, hβ⟩ := hβ)); (try (have hbis := apart_is (by assumption) hβ; obtain ⟨_, _⟩ := hbis))) | (refine AC.mono (AC.wk (hln) (wkL_refl _)) ?_; (rintro _ _ ⟨rfl, rfl⟩))) <;> (try simp only [↓R1, RR, Nat.reduceEqDiff, Nat.reduceAdd, Nat.reduceMul, Nat.reduceSub, Nat.reduceLeDiff, Nat.reduceLT, reduceIte, reduceCtorEq, Int.reduceBNe, Int.reduceBEq, q1, q2, q3, q4, q5, hw, hd, hd2])))
            exact ⟨(k + 1, τ', out ++ (line ++ [10])), ⟨hlt, fun _ => hτ'σ, by simp only; omega, hI⟩, by simp [subF, slot, wk_refl], St.le_refl _, by simp only; omega⟩
  · have hke : k = l.length := by omega
    subst hke
    have q1 : decide ((l.length : Int) < (l.length : Int)) = false := by simp
    rw [List.drop_length] at hI
    have ws := a_String (β := γ) (τ := τ) (l := out) (σ := X) (by rw [hXt]; exact hτ) hXb
    simp only [q1, ↓R1, RR, Nat.reduceEqDiff, Nat.reduceAdd, Nat.reduceMul, Nat.reduceSub, Nat.reduceLeDiff, Nat.reduceLT, reduceIte, reduceCtorEq, Int.reduceBNe, Int.reduceBEq, q1, q2, q3, q4, q5, hw, hd, hd2]
    repeat' (first | (with_reducible rw [allocV_eq]) | (with_reducible refine And.intro ?_ ?_; focus (intros; (repeat' (with_reducible apply And.intro)) <;> first | omega | (simp only [RZ]; omega))) | (with_reducible apply And.intro) | ((first | (refine gdV_split (fun hc => ?_) (fun hc => ?_) <;> (try simp only [hc, ↓R1, RR, Nat.reduceEqDiff, Nat.reduceAdd, Nat.reduceMul, Nat.reduceSub, Nat.reduceLeDiff, Nat.reduceLT, reduceIte, reduceCtorEq, Int.reduceBNe, Int.reduceBEq, q1, q2, q3, q4, q5, hw, hd, hd2])) | refine condV_split (fun hc => ?_) (fun hc => ?_) | (with_reducible intro β hβ; (try simp only [RB] at hβ); (repeat (obtain ⟨⟨_, _⟩, hβ⟩ := hβ)); (try (have hbis := apart_is (by assumption) hβ; obtain ⟨_, _⟩ := hbis))) | (refine AC.mono (AC.wk (ws) (wkL_refl _)) ?_; (rintro _ _ ⟨rfl, rfl⟩))) <;> (try simp only [↓R1, RR, Nat.reduceEqDiff, Nat.reduceAdd, Nat.reduceMul, Nat.reduceSub, Nat.reduceLeDiff, Nat.reduceLT, reduceIte, reduceCtorEq, Int.reduceBNe, Int.reduceBEq, q1, q2, q3, q4, q5, hw, hd, hd2])))
    rw [hI]
    refine endP_pu (by simp) (by first | (simp [rvsS, rvS]; done) | (simp only [rvsS, rvS, ↓R1, RR, Nat.reduceEqDiff, Nat.reduceAdd, Nat.reduceMul, Nat.reduceSub, Nat.reduceLeDiff, Nat.reduceLT, reduceIte, reduceCtorEq, Int.reduceBNe, Int.reduceBEq, q1, q2, q3, q4, q5, hw, hd, hd2]; try simp)) (wk_of_eq ?_) (hXl _)
    (simp only [resAV, rvV, List.map_cons, List.map_nil, ↓R1, RR, Nat.reduceEqDiff, Nat.reduceAdd, Nat.reduceMul, Nat.reduceSub, Nat.reduceLeDiff, Nat.reduceLT, reduceIte, reduceCtorEq, Int.reduceBNe, Int.reduceBEq, q1, q2, q3, q4, q5, hw, hd, hd2])
    rfl
end Go.Proofs.YtemddijemikleaaDoor
namespace Go.Proofs.YtemddijemikleaaDoor
open Go.Abs
set_option linter.all false
set_option maxRecDepth 100000
set_option maxHeartbeats 2000000 in
theorem p14 (l : List RI) (hl : LightR l) : Pu Tryd.prog 14 [.sl false l.length (l.flatMap cRI), .sl false l.length (l.flatMap cRI)] (.bool true) := by
  have q1 : True := trivial
  have q2 : True := trivial
  have q3 : True := trivial
  have q4 : True := trivial
  have q5 : True := trivial
  have q6 : True := trivial
  have hw : True := trivial
  have hw2 : True := trivial
  have hd : True := trivial
  have hd2 : True := trivial
  have hd3 : True := trivial
  have hd4 : True := trivial
  obtain ⟨hl1, hl2⟩ := hl
  (refine Pu_intro c14 b14 (Nat.le_of_ble_eq_true rfl) fun σ => ?_; simp only [c14, ↓R1, RR, seval, q1, q2, q3, q4, q5, q6, hw, hw2, hd, hd2, hd3, hd4, beq_self_eq_true, bne_self_eq_false])
  refine loopV_for l.length (fun k => [(0, .sl false l.length (l.flatMap cRI)), (1, .sl false l.length (l.flatMap cRI)), (5, .int .i64 (k : Nat))]) (fun _ => σ) (fun _ => True) (by simp [subF, slot, wk_refl]) (St.le_refl _) trivial (fun k hk _ => ?_)
  by_cases hlt : k < l.length
  · have q1 : decide ((k : Int) < (l.length : Int)) = true := by rw [decide_eq_true_eq]; omega
    have hd := cRI_get l hlt
    have hd2 := cRI_len l
    have hw : IntKind.i64.wrap ((k : Int) + 1) = ((k + 1 : Nat) : Int) := by rw [wrap64 (by omega) (by omega)]; omega
    obtain ⟨hwn, hwt⟩ := hl2 l[k] (List.getElem_mem hlt)
    have hwl := cWI_len l[k].ws
    simp only [cRI] at hd
    simp only [q1, ↓R1, RR, seval, q1, q2, q3, q4, q5, q6, hw, hw2, hd, hd2, hd3, hd4, beq_self_eq_true, bne_self_eq_false]
    repeat' (first | (with_reducible rw [allocV_eq]) | (with_reducible refine And.intro ?_ ?_; focus (intros; (repeat' (with_reducible apply And.intro)) <;> first | omega | (simp only [RZ, cWI_len, cRI_len]; omega))) | (with_reducible apply And.intro) | ((first | (refine gdV_split (fun hc => ?_) (fun hc => ?_) <;> (try simp only [hc, ↓R1, RR, seval, q1, q2, q3, q4, q5, q6, hw, hw2, hd, hd2, hd3, hd4, beq_self_eq_true, bne_self_eq_false])) | refine condV_split (fun hc => ?_) (fun hc => ?_) | (with_reducible intro β hβ; (try simp only [RB] at hβ); (repeat (obtain ⟨⟨_, _⟩, hβ⟩ := hβ)); (try (have hbis := apart_is (by assumption) hβ; obtain ⟨_, _⟩ := hbis))) | ((first | (refine appD_tslK (.inr rfl) rfl ?_ ?_ ?_ ?_ ?_ ?_; (first | rfl | exact St.tip_same _ _ _ | (simp only [↓R1, RR, seval, q1, q2, q3, q4, q5, q6, hw, hw2, hd, hd2, hd3, hd4, beq_self_eq_true, bne_self_eq_false])); (first | omega | (simp only [RZ, cWI_len, cRI_len, List.length_nil, List.length_cons]; omega) | (simp only [RZ, cWI_len, cRI_len, List.length_nil, List.length_cons])); (first | rfl | first | omega | (simp only [RZ, cWI_len, cRI_len, List.length_nil, List.length_cons]; omega) | (simp only [RZ, cWI_len, cRI_len, List.length_nil, List.length_cons]))) | (refine appV_tslK rfl ?_ ?_ ?_ ?_ ?_ ?_; (first | rfl | exact St.tip_same _ _ _ | (simp only [↓R1, RR, seval, q1, q2, q3, q4, q5, q6, hw, hw2, hd, hd2, hd3, hd4, beq_self_eq_true, bne_self_eq_false])); (first | omega | (simp only [RZ, cWI_len, cRI_len, List.length_nil, List.length_cons]; omega) | (simp only [RZ, cWI_len, cRI_len, List.length_nil, List.length_cons])); (first | rfl | first | omega | (simp only [RZ, cWI_len, cRI_len, List.length_nil, List.length_cons]; omega) | (simp only [RZ, cWI_len, cRI_len, List.length_nil, List.length_cons]))) | (refine appV_own ?_ ?_ ?_ ?_; exact flat_len (by intro _; rfl) _) | (refine appD_own ?_ ?_ ?_ ?_ ?_; omega; exact flat_len (by intro _; rfl) _) | (refine appV_fresh rfl trivial rfl ?_ ?_ ?_ ?_ ?_; (first | rfl | first | omega | (simp only [RZ, cWI_len, cRI_len, List.length_nil, List.length_cons]; omega) | (simp only [RZ, cWI_len, cRI_len, List.length_nil, List.length_cons])); (first | rfl | first | omega | (simp only [RZ, cWI_len, cRI_len, List.length_nil, List.length_cons]; omega) | (simp only [RZ, cWI_len, cRI_len, List.length_nil, List.length_cons]))) | (refine appD_fresh rfl trivial rfl ?_ ?_ ?_ ?_ ?_ ?_; omega; (first | rfl | first | omega | (simp only [RZ, cWI_len, cRI_len, List.length_nil, List.length_cons]; omega) | (simp only [RZ, cWI_len, cRI_len, List.length_nil, List.length_cons])); (first | rfl | first | omega | (simp only [RZ, cWI_len, cRI_len, List.length_nil, List.length_cons]; omega) | (simp only [RZ, cWI_len, cRI_len, List.length_nil, List.length_cons])))); (unfold maxLen; omega); omega)) <;> (try simp only [↓R1, RR, seval, q1, q2, q3, q4, q5, q6, hw, hw2, hd, hd2, hd3, hd4, beq_self_eq_true, bne_self_eq_false])))
    all_goals first | (rw [hd2]; omega) | (intros; rw [hd2]; omega) | skip
    obtain ⟨ws, hws⟩ : ∃ ws, l[k].ws = ws := ⟨_, rfl⟩
    rw [hws] at hwn hwt hwl hd
    refine loopV_for ws.length (fun i => [(0, .sl false l.length (l.flatMap cRI)), (1, .sl false l.length (l.flatMap cRI)), (5, .int .i64 (k : Nat)), (6, .int .i64 (i : Nat))]) (fun _ => σ) (fun _ => True) (by simp [subF, slot, wk_refl]) (St.le_refl _) trivial (fun i hi _ => ?_)
    by_cases hin : i < ws.length
    · have q2 : decide ((i : Int) < (ws.length : Int)) = true := by rw [decide_eq_true_eq]; omega
      have hd3 := cWI_get ws hin
      have hw2 : IntKind.i64.wrap ((i : Int) + 1) = ((i + 1 : Nat) : Int) := by rw [wrap64 (by omega) (by omega)]; omega
      simp only [cWI] at hd3
      simp only [q2, ↓R1, RR, seval, q1, q2, q3, q4, q5, q6, hw, hw2, hd, hd2, hd3, hd4, beq_self_eq_true, bne_self_eq_false]
      repeat' (first | (with_reducible rw [allocV_eq]) | (with_reducible refine And.intro ?_ ?_; focus (intros; (repeat' (with_reducible apply And.intro)) <;> first | omega | (simp only [RZ, cWI_len, cRI_len]; omega))) | (with_reducible apply And.intro) | ((first | (refine gdV_split (fun hc => ?_) (fun hc => ?_) <;> (try simp only [hc, ↓R1, RR, seval, q1, q2, q3, q4, q5, q6, hw, hw2, hd, hd2, hd3, hd4, beq_self_eq_true, bne_self_eq_false])) | refine condV_split (fun hc => ?_) (fun hc => ?_) | (with_reducible intro β hβ; (try simp only [RB] at hβ); (repeat (obtain ⟨⟨_, _⟩, hβ⟩ := hβ)); (try (have hbis := apart_is (by assumption) hβ; obtain ⟨_, _⟩ := hbis))) | ((first | (refine appD_tslK (.inr rfl) rfl ?_ ?_ ?_ ?_ ?_ ?_; (first | rfl | exact St.tip_same _ _ _ | (simp only [↓R1, RR, seval, q1, q2, q3, q4, q5, q6, hw, hw2, hd, hd2, hd3, hd4, beq_self_eq_true, bne_self_eq_false])); (first | omega | (simp only [RZ, cWI_len, cRI_len, List.length_nil, List.length_cons]; omega) | (simp only [RZ, cWI_len, cRI_len, List.length_nil, List.length_cons])); (first | rfl | first | omega | (simp only [RZ, cWI_len, cRI_len, List.length_nil, List.length_cons]; omega) | (simp only [RZ, cWI_len, cRI_len, List.length_nil, List.length_cons]))) | (refine appV_tslK rfl ?_ ?_ ?_ ?_ ?_ ?_; (first | rfl | exact St.tip_same _ _ _ | (simp only [↓R1, RR, seval, q1, q2, q3, q4, q5, q6, hw, hw2, hd, hd2, hd3, hd4, beq_self_eq_true, bne_self_eq_false])); (first | omega | (simp only [RZ, cWI_len, cRI_len, List.length_nil, List.length_cons]; omega) | (simp only [RZ, cWI_len, cRI_len, List.length_nil, List.length_cons])); (first | rfl | first | omega | (simp only [RZ, cWI_len, cRI_len, List.length_nil, List.length_cons]; omega) | (simp only [RZ, cWI_len, cRI_len, List.length_nil, List.length_cons]))) | (refine appV_own ?_ ?_ ?_ ?_; exact flat_len (by intro _; rfl) _) | (refine appD_own ?_ ?_ ?_ ?_ ?_; omega; exact flat_len (by intro _; rfl) _) | (refine appV_fresh rfl trivial rfl ?_ ?_ ?_ ?_ ?_; (first | rfl | first | omega | (simp only [RZ, cWI_len, cRI_len, List.length_nil, List.length_cons]; omega) | (simp only [RZ, cWI_len, cRI_len, List.length_nil, List.length_cons])); (first | rfl | first | omega | (simp only [RZ, cWI_len, cRI_len, List.length_nil, List.length_cons]; omega) | (simp only [RZ, cWI_len, cRI_len, List.length_nil, List.length_cons]))) | (refine appD_fresh rfl trivial rfl ?_ ?_ ?_ ?_ ?_ ?_; omega; (first | rfl | first | omega | (simp only [RZ, cWI_len, cRI_len, List.length_nil, List.length_cons]; omega) | (simp only [RZ, cWI_len, cRI_len, List.length_nil, List.length_cons])); (first | rfl | first | omega | (simp only [RZ, cWI_len, cRI_len, List.length_nil, List.length_cons]; omega) | (simp only [RZ, cWI_len, cRI_len, List.length_nil, List.length_cons])))); (unfold maxLen; omega); omega)) <;> (try simp only [↓R1, RR, seval, q1, q2, q3, q4, q5, q6, hw, hw2, hd, hd2, hd3, hd4, beq_self_eq_true, bne_self_eq_false])))
      all_goals first | (rw [hd2]; omega) | (rw [hwl]; omega) | skip
      · simp [subF, slot, wk_refl]
      · exact St.le_refl _
    · have hie : i = ws.length := by omega
      subst hie
      have q2 : decide ((ws.length : Int) < (ws.length : Int)) = false := by simp
      simp only [q2, ↓R1, RR, seval, q1, q2, q3, q4, q5, q6, hw, hw2, hd, hd2, hd3, hd4, beq_self_eq_true, bne_self_eq_false]
      repeat' (first | (with_reducible rw [allocV_eq]) | (with_reducible refine And.intro ?_ ?_; focus (intros; (repeat' (with_reducible apply And.intro)) <;> first | omega | (simp only [RZ, cWI_len, cRI_len]; omega))) | (with_reducible apply And.intro) | ((first | (refine gdV_split (fun hc => ?_) (fun hc => ?_) <;> (try simp only [hc, ↓R1, RR, seval, q1, q2, q3, q4, q5, q6, hw, hw2, hd, hd2, hd3, hd4, beq_self_eq_true, bne_self_eq_false])) | refine condV_split (fun hc => ?_) (fun hc => ?_) | (with_reducible intro β hβ; (try simp only [RB] at hβ); (repeat (obtain ⟨⟨_, _⟩, hβ⟩ := hβ)); (try (have hbis := apart_is (by assumption) hβ; obtain ⟨_, _⟩ := hbis))) | ((first | (refine appD_tslK (.inr rfl) rfl ?_ ?_ ?_ ?_ ?_ ?_; (first | rfl | exact St.tip_same _ _ _ | (simp only [↓R1, RR, seval, q1, q2, q3, q4, q5, q6, hw, hw2, hd, hd2, hd3, hd4, beq_self_eq_true, bne_self_eq_false])); (first | omega | (simp only [RZ, cWI_len, cRI_len, List.length_nil, List.length_cons]; omega) | (simp only [RZ, cWI_len, cRI_len, List.length_nil, List.length_cons])); (first | rfl | first | omega | (simp only [RZ, cWI_len, cRI_len, List.length_nil, List.length_cons]; omega) | (simp only [RZ, cWI_len, cRI_len, List.length_nil, List.length_cons]))) | (refine appV_tslK rfl ?_ ?_ ?_ ?_ ?_ ?_; (first | rfl | exact St.tip_same _ _ _ | (simp only [↓R1, RR, seval, q1, q2, q3, q4, q5, q6, hw, hw2, hd, hd2, hd3, hd4, beq_self_eq_true, bne_self_eq_false])); (first | omega | (simp only [RZ, cWI_len, cRI_len, List.length_nil, List.length_cons]; omega) | (simp only [RZ, cWI_len, cRI_len, List.length_nil, List.length_cons])); (first | rfl | first | omega | (simp only [RZ, cWI_len, cRI_len, List.length_nil, List.length_cons]; omega) | (simp only [RZ, cWI_len, cRI_len, List.length_nil, List.length_cons]))) | (refine appV_own ?_ ?_ ?_ ?_; exact flat_len (by intro _; rfl) _) | (refine appD_own ?_ ?_ ?_ ?_ ?_; omega; exact flat_len (by intro _; rfl) _) | (refine appV_fresh rfl trivial rfl ?_ ?_ ?_ ?_ ?_; (first | rfl | first | omega | (simp only [RZ, cWI_len, cRI_len, List.length_nil, List.length_cons]; omega) | (simp only [RZ, cWI_len, cRI_len, List.length_nil, List.length_cons])); (first | rfl | first | omega | (simp only [RZ, cWI_len, cRI_len, List.length_nil, List.length_cons]; omega) | (simp only [RZ, cWI_len, cRI_len, List.length_nil, List.length_cons]))) | (refine appD_fresh rfl trivial rfl ?_ ?_ ?_ ?_ ?_ ?_; omega; (first | rfl | first | omega | (simp only [RZ, cWI_len, cRI_len, List.length_nil, List.length_cons]; omega) | (simp only [RZ, cWI_len, cRI_len, List.length_nil, List.length_cons])); (first | rfl | first | omega | (simp only [RZ, cWI_len, cRI_len, List.length_nil, List.length_cons]; omega) | (simp only [RZ, cWI_len, cRI_len, List.length_nil, List.length_cons])))); (unfold maxLen; omega); omega)) <;> (try simp only [↓R1, RR, seval, q1, q2, q3, q4, q5, q6, hw, hw2, hd, hd2, hd3, hd4, beq_self_eq_true, bne_self_eq_false])))
      all_goals first | (rw [hd2]; omega) | skip
      · simp [subF, slot, wk_refl]
      · exact St.le_refl _
  · have hke : k = l.length := by omega
    subst hke
    have q1 : decide ((l.length : Int) < (l.length : Int)) = false := by simp
    simp only [q1, ↓R1, RR, seval, q1, q2, q3, q4, q5, q6, hw, hw2, hd, hd2, hd3, hd4, beq_self_eq_true, bne_self_eq_false]
    repeat' (first | (with_reducible rw [allocV_eq]) | (with_reducible refine And.intro ?_ ?_; focus (intros; (repeat' (with_reducible apply And.intro)) <;> first | omega | (simp only [RZ, cWI_len, cRI_len]; omega))) | (with_reducible apply And.intro) | ((first | (refine gdV_split (fun hc => ?_) (fun hc => ?_) <;> (try simp only [hc, ↓R1, RR, seval, q1, q2, q3, q4, q5, q6, hw, hw2, hd, hd2, hd3, hd4, beq_self_eq_true, bne_self_eq_false])) | refine condV_split (fun hc => ?_) (fun hc => ?_) | (with_reducible intro β hβ; (try simp only [RB] at hβ); (repeat (obtain ⟨⟨_, _⟩, hβ⟩ := hβ)); (try (have hbis := apart_is (by assumption) hβ; obtain ⟨_, _⟩ := hbis))) | ((first | (refine appD_tslK (.inr rfl) rfl ?_ ?_ ?_ ?_ ?_ ?_; (first | rfl | exact St.tip_same _ _ _ | (simp only [↓R1, RR, seval, q1, q2, q3, q4, q5, q6, hw, hw2, hd, hd2, hd3, hd4, beq_self_eq_true, bne_self_eq_false])); (first | omega | (simp only [RZ, cWI_len, cRI_len, List.length_nil, List.length_cons]; omega) | (simp only [RZ, cWI_len, cRI_len, List.length_nil, List.length_cons])); (first | rfl | first | omega | (simp only [RZ, cWI_len, cRI_len, List.length_nil, List.length_cons]; omega) | (simp only [RZ, cWI_len, cRI_len, List.length_nil, List.length_cons]))) | (refine appV_tslK rfl ?_ ?_ ?_ ?_ ?_ ?_; (first | rfl | exact St.tip_same _ _ _ | (simp only [↓R1, RR, seval, q1, q2, q3, q4, q5, q6, hw, hw2, hd, hd2, hd3, hd4, beq_self_eq_true, bne_self_eq_false])); (first | omega | (simp only [RZ, cWI_len, cRI_len, List.length_nil, List.length_cons]; omega) | (simp only [RZ, cWI_len, cRI_len, List.length_nil, List.length_cons])); (first | rfl | first | omega | (simp only [RZ, cWI_len, cRI_len, List.length_nil, List.length_cons]; omega) | (simp only [RZ, cWI_len, cRI_len, List.length_nil, List.length_cons]))) | (refine appV_own ?_ ?_ ?_ ?_; exact flat_len (by intro _; rfl) _) | (refine appD_own ?_ ?_ ?_ ?_ ?_; omega; exact flat_len (by intro _; rfl) _) | (refine appV_fresh rfl trivial rfl ?_ ?_ ?_ ?_ ?_; (first | rfl | first | omega | (simp only [RZ, cWI_len, cRI_len, List.length_nil, List.length_cons]; omega) | (simp only [RZ, cWI_len, cRI_len, List.length_nil, List.length_cons])); (first | rfl | first | omega | (simp only [RZ, cWI_len, cRI_len, List.length_nil, List.length_cons]; omega) | (simp only [RZ, cWI_len, cRI_len, List.length_nil, List.length_cons]))) | (refine appD_fresh rfl trivial rfl ?_ ?_ ?_ ?_ ?_ ?_; omega; (first | rfl | first | omega | (simp only [RZ, cWI_len, cRI_len, List.length_nil, List.length_cons]; omega) | (simp only [RZ, cWI_len, cRI_len, List.length_nil, List.length_cons])); (first | rfl | first | omega | (simp only [RZ, cWI_len, cRI_len, List.length_nil, List.length_cons]; omega) | (simp only [RZ, cWI_len, cRI_len, List.length_nil, List.length_cons])))); (unfold maxLen; omega); omega)) <;> (try simp only [↓R1, RR, seval, q1, q2, q3, q4, q5, q6, hw, hw2, hd, hd2, hd3, hd4, beq_self_eq_true, bne_self_eq_false])))
    (refine endP_pu (by simp) (by first | (simp [rvsS, rvS]; done) | (simp only [rvsS, rvS, ↓R1, RR, seval, q1, q2, q3, q4, q5, q6, hw, hw2, hd, hd2, hd3, hd4, beq_self_eq_true, bne_self_eq_false]; try simp)) (wk_of_eq ?_) (by (repeat (first | exact St.le_refl _ | (refine St.le_new ?_ (by assumption)) | (refine St.le_newT ?_ (by assumption))))))
    (simp only [resAV, rvV, List.map_cons, List.map_nil, ↓R1, RR, seval, q1, q2, q3, q4, q5, q6, hw, hw2, hd, hd2, hd3, hd4, beq_self_eq_true, bne_self_eq_false])
theorem loopV_forBx {P : Program} {x : CC} {fr : Fr} {σ : St} {Q : Exit → Fr → St → Prop} {h : Hold (x, σ, Q)} (n t o e s : Nat) {β : Nat} {c0 : List AV} (hp : slot t fr = .ptr β 0) (hb : σ.box β = some c0) (hc : c0[o]? = some .nils) (F : Nat → Nat → Fr) (S : Nat → Nat → St) (I : Nat → Prop) (h0 : I 0)
    (hF : ∀ τ, subF (F τ 0) fr) (hS : ∀ τ, σ.tip τ = none → St.le (S τ 0) ((σ.setTip τ (e, s, 0)).setBox β (c0.set o (.tsl τ 0 []))))
    (hr : ∀ τ, σ.tip τ = none → ∀ k, k ≤ n → I k → aC P x (F τ k) (S τ k) (loopK (fun fr' σ' => k < n ∧ I (k + 1) ∧ subF (F τ (k + 1)) fr' ∧ St.le (S τ (k + 1)) σ') Q)) : loopV P x fr σ Q h := by
  refine ⟨[(true, t, o, e, s)], ?_⟩
  simp only [startP, hp, hb, Nat.zero_add, hc, slv, fresh, true_and]
  intro τ hτ
  refine ⟨Nat, F τ, S τ, fun k => k ≤ n ∧ I k, fun k => n - k, 0, ⟨Nat.zero_le _, h0⟩, hF τ, hS τ hτ, fun k hk => ?_⟩
  refine aC_mono _ _ _ (hr τ hτ k hk.1 hk.2) (fun e fr' σ' hq => ?_)
  unfold loopK at hq
  cases e with
  | normal => simp only at hq ⊢; exact ⟨k + 1, ⟨hq.1, hq.2.1⟩, hq.2.2.1, hq.2.2.2, by omega⟩
  | _ => exact hq
def mkW (t : List UInt8) : WI := ⟨!bareS t, t, 0⟩
def mkR (l : List (List UInt8)) : RI := ⟨0, l.map mkW⟩
theorem strs_get (l : List (List UInt8)) {k : Nat} (h : k < l.length) : ((l.map AV.str).drop (k * 1)).take 1 = [.str l[k]] := by
  rw [Nat.mul_one, List.drop_eq_getElem_cons (by simpa using h)]
  simp
theorem mk_step (l : List (List UInt8)) {k : Nat} (h : k < l.length) : ((l.take k).map mkW).flatMap cWI ++ [.bool (!bareS l[k]), .str l[k], .int .i64 0] = ((l.take (k + 1)).map mkW).flatMap cWI := by
  rw [← List.take_append_getElem h, List.map_append, List.flatMap_append]
  simp [mkW, cWI]
set_option maxHeartbeats 2000000 in
theorem p23 (l : List (List UInt8)) (hl : l.length ≤ 1000) (ht : ∀ t ∈ l, t.length ≤ 1000000) : Pu Tryd.prog 23 [.sl false l.length (l.map AV.str)] (.agg (cRI (mkR l))) := by
  have q1 : True := trivial
  have q2 : True := trivial
  have q3 : True := trivial
  have q4 : True := trivial
  have q5 : True := trivial
  have q6 : True := trivial
  have hw : True := trivial
  have hd : True := trivial
  have hd2 : True := trivial
  (refine Pu_intro c23 b23 (Nat.le_of_ble_eq_true rfl) fun σ => ?_; simp only [c23, ↓R1, RR, seval, q1, q2, q3, q4, q5, q6, hw, hd, hd2])
  rw [allocV_eq]; intro b2 h2; simp only [↓R1, RR, seval, q1, q2, q3, q4, q5, q6, hw, hd, hd2]
  rw [allocV_eq]; intro b3 h3; rw [St.box_noneA] at h3; obtain ⟨⟨_, _⟩, h3⟩ := h3; simp only [↓R1, RR, seval, q1, q2, q3, q4, q5, q6, hw, hd, hd2]
  refine loopV_forBx l.length 3 1 31 3 (β := b3) rfl (by simp only [↓R1, RR, seval, q1, q2, q3, q4, q5, q6, hw, hd, hd2]; rfl) rfl
    (fun τ k => [(2, .ptr b2 0), (3, .ptr b3 0), (6, .sl false l.length (l.map AV.str)), (7, .int .i64 (l.length : Nat)), (8, .int .i64 (k : Nat))])
    (fun τ k => ((σ.setBox b2 [.int .i64 0, .nils]).setBox b3 [.int .i64 0, .tsl τ k (((l.take k).map mkW).flatMap cWI)]).setTip τ (31, 3, k)) (fun _ => True) trivial (fun τ => by simp [subF, slot, wk_refl]) (fun τ _ => by simp only [List.set_cons_succ, List.set_cons_zero, List.take_zero, List.map_nil, List.flatMap_nil, ↓R1, RR, seval, q1, q2, q3, q4, q5, q6, hw, hd, hd2]; exact St.le_refl _) (fun τ hτ k hk _ => ?_)
  by_cases hlt : k < l.length
  · have q1 : decide ((k : Int) < (l.length : Int)) = true := by rw [decide_eq_true_eq]; omega
    have hd := strs_get l hlt
    have hw : IntKind.i64.wrap ((k : Int) + 1) = ((k + 1 : Nat) : Int) := by rw [wrap64 (by omega) (by omega)]; omega
    have hp := p29 l[k] (ht _ (List.getElem_mem hlt))
    have hcl : (((l.take k).map mkW).flatMap cWI).length = k * 3 := by rw [cWI_len]; simp; omega
    have hs := mk_step l hlt
    simp only [q1, ↓R1, RR, seval, q1, q2, q3, q4, q5, q6, hw, hd, hd2]
    repeat' (first | (with_reducible rw [allocV_eq]) | (with_reducible refine And.intro ?_ ?_; focus (intros; (repeat' (with_reducible apply And.intro)) <;> first | omega | (simp only [RZ, cWI_len, cRI_len]; omega))) | (with_reducible apply And.intro) | ((first | (refine gdV_split (fun hc => ?_) (fun hc => ?_) <;> (try simp only [hc, ↓R1, RR, seval, q1, q2, q3, q4, q5, q6, hw, hd, hd2])) | refine condV_split (fun hc => ?_) (fun hc => ?_) | (with_reducible intro β hβ; (try simp only [RB] at hβ); (repeat (obtain ⟨⟨_, _⟩, hβ⟩ := hβ)); (try (have hbis := apart_is (by assumption) hβ; obtain ⟨_, _⟩ := hbis))) | ((first | (refine appD_tslK (.inr rfl) rfl ?_ ?_ ?_ ?_ ?_ ?_; (first | rfl | exact St.tip_same _ _ _ | (simp only [↓R1, RR, seval, q1, q2, q3, q4, q5, q6, hw, hd, hd2])); (first | omega | (simp only [RZ, cWI_len, cRI_len, List.length_nil, List.length_cons]; omega) | (simp only [RZ, cWI_len, cRI_len, List.length_nil, List.length_cons])); (first | rfl | first | omega | (simp only [RZ, cWI_len, cRI_len, List.length_nil, List.length_cons]; omega) | (simp only [RZ, cWI_len, cRI_len, List.length_nil, List.length_cons]))) | (refine appV_tslK rfl ?_ ?_ ?_ ?_ ?_ ?_; (first | rfl | exact St.tip_same _ _ _ | (simp only [↓R1, RR, seval, q1, q2, q3, q4, q5, q6, hw, hd, hd2])); (first | omega | (simp only [RZ, cWI_len, cRI_len, List.length_nil, List.length_cons]; omega) | (simp only [RZ, cWI_len, cRI_len, List.length_nil, List.length_cons])); (first | rfl | first | omega | (simp only [RZ, cWI_len, cRI_len, List.length_nil, List.length_cons]; omega) | (simp only [RZ, cWI_len, cRI_len, List.length_nil, List.length_cons]))) | (refine appV_own ?_ ?_ ?_ ?_; exact flat_len (by intro _; rfl) _) | (refine appD_own ?_ ?_ ?_ ?_ ?_; omega; exact flat_len (by intro _; rfl) _) | (refine appV_fresh rfl trivial rfl ?_ ?_ ?_ ?_ ?_; (first | rfl | first | omega | (simp only [RZ, cWI_len, cRI_len, List.length_nil, List.length_cons]; omega) | (simp only [RZ, cWI_len, cRI_len, List.length_nil, List.length_cons])); (first | rfl | first | omega | (simp only [RZ, cWI_len, cRI_len, List.length_nil, List.length_cons]; omega) | (simp only [RZ, cWI_len, cRI_len, List.length_nil, List.length_cons]))) | (refine appD_fresh rfl trivial rfl ?_ ?_ ?_ ?_ ?_ ?_; omega; (first | rfl | first | omega | (simp only [RZ, cWI_len, cRI_len, List.length_nil, List.length_cons]; omega) | (simp only [RZ, cWI_len, cRI_len, List.length_nil, List.length_cons])); (first | rfl | first | omega | (simp only [RZ, cWI_len, cRI_len, List.length_nil, List.length_cons]; omega) | (simp only [RZ, cWI_len, cRI_len, List.length_nil, List.length_cons])))); (unfold maxLen; omega); omega) | refine Pt (hp) ?_ | refine Ct (hp) ?_) <;> (try simp only [↓R1, RR, seval, q1, q2, q3, q4, q5, q6, hw, hd, hd2])))
    all_goals first | (simp only [List.length_map]; omega) | skip
    · simp [subF, slot, wk_refl]
    · rw [hs]; exact St.le_refl _
  · have hke : k = l.length := by omega
    subst hke
    have q1 : decide ((l.length : Int) < (l.length : Int)) = false := by simp
    rw [List.take_length]
    simp only [q1, ↓R1, RR, seval, q1, q2, q3, q4, q5, q6, hw, hd, hd2]
    repeat' (first | (with_reducible rw [allocV_eq]) | (with_reducible refine And.intro ?_ ?_; focus (intros; (repeat' (with_reducible apply And.intro)) <;> first | omega | (simp only [RZ, cWI_len, cRI_len]; omega))) | (with_reducible apply And.intro) | ((first | (refine gdV_split (fun hc => ?_) (fun hc => ?_) <;> (try simp only [hc, ↓R1, RR, seval, q1, q2, q3, q4, q5, q6, hw, hd, hd2])) | refine condV_split (fun hc => ?_) (fun hc => ?_) | (with_reducible intro β hβ; (try simp only [RB] at hβ); (repeat (obtain ⟨⟨_, _⟩, hβ⟩ := hβ)); (try (have hbis := apart_is (by assumption) hβ; obtain ⟨_, _⟩ := hbis))) | ((first | (refine appD_tslK (.inr rfl) rfl ?_ ?_ ?_ ?_ ?_ ?_; (first | rfl | exact St.tip_same _ _ _ | (simp only [↓R1, RR, seval, q1, q2, q3, q4, q5, q6, hw, hd, hd2])); (first | omega | (simp only [RZ, cWI_len, cRI_len, List.length_nil, List.length_cons]; omega) | (simp only [RZ, cWI_len, cRI_len, List.length_nil, List.length_cons])); (first | rfl | first | omega | (simp only [RZ, cWI_len, cRI_len, List.length_nil, List.length_cons]; omega) | (simp only [RZ, cWI_len, cRI_len, List.length_nil, List.length_cons]))) | (refine appV_tslK rfl ?_ ?_ ?_ ?_ ?_ ?_; (first | rfl | exact St.tip_same _ _ _ | (simp only [↓R1, RR, seval, q1, q2, q3, q4, q5, q6, hw, hd, hd2])); (first | omega | (simp only [RZ, cWI_len, cRI_len, List.length_nil, List.length_cons]; omega) | (simp only [RZ, cWI_len, cRI_len, List.length_nil, List.length_cons])); (first | rfl | first | omega | (simp only [RZ, cWI_len, cRI_len, List.length_nil, List.length_cons]; omega) | (simp only [RZ, cWI_len, cRI_len, List.length_nil, List.length_cons]))) | (refine appV_own ?_ ?_ ?_ ?_; exact flat_len (by intro _; rfl) _) | (refine appD_own ?_ ?_ ?_ ?_ ?_; omega; exact flat_len (by intro _; rfl) _) | (refine appV_fresh rfl trivial rfl ?_ ?_ ?_ ?_ ?_; (first | rfl | first | omega | (simp only [RZ, cWI_len, cRI_len, List.length_nil, List.length_cons]; omega) | (simp only [RZ, cWI_len, cRI_len, List.length_nil, List.length_cons])); (first | rfl | first | omega | (simp only [RZ, cWI_len, cRI_len, List.length_nil, List.length_cons]; omega) | (simp only [RZ, cWI_len, cRI_len, List.length_nil, List.length_cons]))) | (refine appD_fresh rfl trivial rfl ?_ ?_ ?_ ?_ ?_ ?_; omega; (first | rfl | first | omega | (simp only [RZ, cWI_len, cRI_len, List.length_nil, List.length_cons]; omega) | (simp only [RZ, cWI_len, cRI_len, List.length_nil, List.length_cons])); (first | rfl | first | omega | (simp only [RZ, cWI_len, cRI_len, List.length_nil, List.length_cons]; omega) | (simp only [RZ, cWI_len, cRI_len, List.length_nil, List.length_cons])))); (unfold maxLen; omega); omega)) <;> (try simp only [↓R1, RR, seval, q1, q2, q3, q4, q5, q6, hw, hd, hd2])))
    refine endP_pu (by simp) (by first | (simp [rvsS, rvS]; done) | (simp only [rvsS, rvS, ↓R1, RR, seval, q1, q2, q3, q4, q5, q6, hw, hd, hd2]; try simp)) ?_ (St.le_setTip (St.le_setBox (St.le_setBox (St.le_refl _) h2) h3) hτ)
    simp only [resAV, rvV, List.map_cons, List.map_nil, ↓R1, RR, seval, q1, q2, q3, q4, q5, q6, hw, hd, hd2]
    simp only [cRI, mkR, List.length_map]
    exact wk_agg (.cons (wk_refl _) (.cons (wk_tsl _ _ _) .nil))
end Go.Proofs.YtemddijemikleaaDoor
namespace Go.Proofs.YtemddijemikleaaDoor
open Go.Abs
set_option linter.all false
set_option maxRecDepth 100000
def TpR (P : Program) (f : Nat) (xs : List AV) (e n : Nat) (cs : List AV) : Prop := ∀ σ, AC P f xs σ (fun r s => ∃ τ, σ.tip τ = none ∧ r = .agg [.int .i64 0, .tsl τ n cs] ∧ s = σ.setTip τ (e, 3, n))
theorem TpR.to {P : Program} {f : Nat} {xs ys : List AV} {e n : Nat} {cs : List AV} {σ : St} {K : AV → St → Prop} (h : TpR P f ys e n cs) (hw : wkL xs ys) (hK : ∀ τ, σ.tip τ = none → K (.agg [.int .i64 0, .tsl τ n cs]) (σ.setTip τ (e, 3, n))) : AC P f xs σ K :=
  ((h σ).wk hw).mono fun r s ⟨τ, h1, h2, h3⟩ => by rw [h2, h3]; exact hK τ h1
set_option maxHeartbeats 2000000 in
theorem make_tip (l : List (List UInt8)) (hl : l.length ≤ 1000) (ht : ∀ t ∈ l, t.length ≤ 1000000) : TpR Tryd.prog 23 [.sl false l.length (l.map AV.str)] 31 l.length ((l.map mkW).flatMap cWI) := fun σ => by
  have q1 : True := trivial
  have q2 : True := trivial
  have q3 : True := trivial
  have q4 : True := trivial
  have q5 : True := trivial
  have q6 : True := trivial
  have hw : True := trivial
  have hd : True := trivial
  have hd2 : True := trivial
  (refine AC_intro c23 b23 (Nat.le_of_ble_eq_true rfl) ?_; simp only [c23, ↓R1, RR, seval, q1, q2, q3, q4, q5, q6, hw, hd, hd2])
  rw [allocV_eq]; intro b2 h2; simp only [↓R1, RR, seval, q1, q2, q3, q4, q5, q6, hw, hd, hd2]
  rw [allocV_eq]; intro b3 h3; rw [St.box_noneA] at h3; obtain ⟨⟨_, _⟩, h3⟩ := h3; simp only [↓R1, RR, seval, q1, q2, q3, q4, q5, q6, hw, hd, hd2]
  refine loopV_forBx l.length 3 1 31 3 (β := b3) rfl (by simp only [↓R1, RR, seval, q1, q2, q3, q4, q5, q6, hw, hd, hd2]; rfl) rfl
    (fun τ k => [(2, .ptr b2 0), (3, .ptr b3 0), (6, .sl false l.length (l.map AV.str)), (7, .int .i64 (l.length : Nat)), (8, .int .i64 (k : Nat))])
    (fun τ k => ((σ.setBox b2 [.int .i64 0, .nils]).setBox b3 [.int .i64 0, .tsl τ k (((l.take k).map mkW).flatMap cWI)]).setTip τ (31, 3, k)) (fun _ => True) trivial (fun τ => by simp [subF, slot, wk_refl]) (fun τ _ => by simp only [List.set_cons_succ, List.set_cons_zero, List.take_zero, List.map_nil, List.flatMap_nil, ↓R1, RR, seval, q1, q2, q3, q4, q5, q6, hw, hd, hd2]; exact St.le_refl _) (fun τ hτ k hk _ => ?_)
  by_cases hlt : k < l.length
  · have q1 : decide ((k : Int) < (l.length : Int)) = true := by rw [decide_eq_true_eq]; omega
    have hd := strs_get l hlt
    have hw : IntKind.i64.wrap ((k : Int) + 1) = ((k + 1 : Nat) : Int) := by rw [wrap64 (by omega) (by omega)]; omega
    have hp := p29 l[k] (ht _ (List.getElem_mem hlt))
    have hcl : (((l.take k).map mkW).flatMap cWI).length = k * 3 := by rw [cWI_len]; simp; omega
    have hs := mk_step l hlt
    simp only [q1, ↓R1, RR, seval, q1, q2, q3, q4, q5, q6, hw, hd, hd2]
    repeat' (first | (with_reducible rw [allocV_eq]) | (with_reducible refine And.intro ?_ ?_; focus (intros; (repeat' (with_reducible apply And.intro)) <;> first | omega | (simp only [RZ]; omega))) | (with_reducible apply And.intro) | ((first | (refine gdV_split (fun hc => ?_) (fun hc => ?_) <;> (try simp only [hc, ↓R1, RR, seval, q1, q2, q3, q4, q5, q6, hw, hd, hd2])) | refine condV_split (fun hc => ?_) (fun hc => ?_) | (with_reducible intro β hβ; (try simp only [RB] at hβ); (repeat (obtain ⟨⟨_, _⟩, hβ⟩ := hβ)); (try (have hbis := apart_is (by assumption) hβ; obtain ⟨_, _⟩ := hbis))) | ((first | refine appD_tslK (.inr rfl) rfl ?_ ?_ ?_ ?_ ?_ ?_ | refine appV_tslK rfl ?_ ?_ ?_ ?_ ?_ ?_); (first | rfl | exact St.tip_same _ _ _ | simp only [↓R1, RR, seval, q1, q2, q3, q4, q5, q6, hw, hd, hd2]); (iterate 2 (first | omega | (simp only [RZ]; first | done | omega) | rfl)); (unfold maxLen; omega); omega) | refine Pt (hp) ?_ | refine Ct (hp) ?_) <;> (try simp only [↓R1, RR, seval, q1, q2, q3, q4, q5, q6, hw, hd, hd2])))
    all_goals first | (simp only [List.length_map]; omega) | skip
    · simp [subF, slot, wk_refl]
    · rw [hs]; exact St.le_refl _
  · have hke : k = l.length := by omega
    subst hke
    have q1 : decide ((l.length : Int) < (l.length : Int)) = false := by simp
    rw [List.take_length]
    simp only [q1, ↓R1, RR, seval, q1, q2, q3, q4, q5, q6, hw, hd, hd2]
    repeat' (first | (with_reducible rw [allocV_eq]) | (with_reducible refine And.intro ?_ ?_; focus (intros; (repeat' (with_reducible apply And.intro)) <;> first | omega | (simp only [RZ]; omega))) | (with_reducible apply And.intro) | ((first | (refine gdV_split (fun hc => ?_) (fun hc => ?_) <;> (try simp only [hc, ↓R1, RR, seval, q1, q2, q3, q4, q5, q6, hw, hd, hd2])) | refine condV_split (fun hc => ?_) (fun hc => ?_) | (with_reducible intro β hβ; (try simp only [RB] at hβ); (repeat (obtain ⟨⟨_, _⟩, hβ⟩ := hβ)); (try (have hbis := apart_is (by assumption) hβ; obtain ⟨_, _⟩ := hbis))) | ((first | refine appD_tslK (.inr rfl) rfl ?_ ?_ ?_ ?_ ?_ ?_ | refine appV_tslK rfl ?_ ?_ ?_ ?_ ?_ ?_); (first | rfl | exact St.tip_same _ _ _ | simp only [↓R1, RR, seval, q1, q2, q3, q4, q5, q6, hw, hd, hd2]); (iterate 2 (first | omega | (simp only [RZ]; first | done | omega) | rfl)); (unfold maxLen; omega); omega)) <;> (try simp only [↓R1, RR, seval, q1, q2, q3, q4, q5, q6, hw, hd, hd2])))
    have hτ' : σ.tip τ = none := by simpa [St.setBox] using hτ
    refine endP_intro (r := .agg [.int .i64 0, .tsl τ l.length ((l.map mkW).flatMap cWI)]) (σ' := σ.setTip τ (31, 3, l.length)) (by simp) (by first | (simp [rvsS, rvS]; done) | (simp only [rvsS, rvS, ↓R1, RR, seval, q1, q2, q3, q4, q5, q6, hw, hd, hd2]; try simp)) ?_ ?_ ⟨τ, hτ', rfl, rfl⟩
    · simp only [resAV, rvV, List.map_cons, List.map_nil, ↓R1, RR, seval, q1, q2, q3, q4, q5, q6, hw, hd, hd2]
      exact wk_refl _
    · refine ⟨fun γ c hγ => ?_, fun _ _ h => h, fun _ _ h => h, fun _ _ h => h, fun _ _ h => h⟩
      have h5 : γ ≠ b2 := by rintro rfl; rw [show (σ.setTip τ (31, 3, l.length)).box γ = σ.box γ from rfl, h2] at hγ; cases hγ
      have h6 : γ ≠ b3 := by rintro rfl; rw [show (σ.setTip τ (31, 3, l.length)).box γ = σ.box γ from rfl, h3] at hγ; cases hγ
      simp only [St.setTip, St.setBox, upd, if_neg h5, if_neg h6] at hγ ⊢
      exact hγ
end Go.Proofs.YtemddijemikleaaDoor
namespace Go.Proofs.YtemddijemikleaaDoor
open Go.Abs
set_option linter.all false
set_option maxRecDepth 100000
theorem join_snoc (l : List (List UInt8)) (x : List UInt8) (h : l ≠ []) : Lib.join (l ++ [x]) [32] = Lib.join l [32] ++ [32] ++ x := by
  cases l with
  | nil => exact (h rfl).elim
  | cons y l =>
    rw [List.cons_append, Lib.join_cons, Lib.join_cons]
    simp [Lib.joinTail]
def RowIs (row : List UInt8) (acc : List (List UInt8)) : Prop := row = Lib.join acc [32] ∨ 1000 < row.length ∧ 1000 < (Lib.join acc [32]).length
theorem RowIs.next {row x : List UInt8} {acc : List (List UInt8)} (h : RowIs row acc) (hr : row.length ≤ 1000) : RowIs ((if acc = [] then row else row ++ [32]) ++ x) (acc ++ [x]) := by
  have he : row = Lib.join acc [32] := h.elim id (fun h => by omega)
  left
  split
  · rename_i ha; subst ha; rw [he]; simp [Lib.join_nil, Lib.join_one]
  · rename_i ha; rw [join_snoc acc x ha, he]
theorem RowIs.over {row x y : List UInt8} {acc : List (List UInt8)} (h : RowIs row acc) (hr : 1000 < row.length) : RowIs ((if acc = [] then row else row ++ [32]) ++ y) (acc ++ [x]) := by
  have hj : 1000 < (Lib.join acc [32]).length := h.elim (fun e => by rw [← e]; exact hr) And.right
  have ha : acc ≠ [] := by rintro rfl; simp [Lib.join_nil] at hj
  right
  rw [if_neg ha, join_snoc acc x ha]
  simp only [List.length_append]
  omega
theorem bare_wordT {q : Bool} {t : List UInt8} : (wordT q t).isSome = (q || bareS t) := by
  unfold wordT
  cases q <;> cases bareS t <;> rfl
end Go.Proofs.YtemddijemikleaaDoor
namespace Go.Proofs.YtemddijemikleaaDoor
open Go.Abs
set_option linter.all false
theorem mkW_good (t : List UInt8) : ∃ x, wordT (mkW t).q (mkW t).t = some x := by
  refine Option.isSome_iff_exists.1 ?_
  rw [bare_wordT]
  simp [mkW]
theorem wordsT_mk : ∀ l : List (List UInt8), ∃ x, wordsT (l.map mkW) = some x
  | [] => ⟨[], rfl⟩
  | t :: l => by
    obtain ⟨x, hx⟩ := mkW_good t
    obtain ⟨y, hy⟩ := wordsT_mk l
    exact ⟨x :: y, by simp only [List.map_cons, wordsT, hx, hy]⟩
theorem textG_mk : ∀ (W : List (List (List UInt8))) (out : List UInt8), (∀ r ∈ W, r ≠ []) → textG out (W.map mkR) = .error 4 ∨ ∃ t, textG out (W.map mkR) = .ok t
  | [], out, _ => .inr ⟨out, rfl⟩
  | r :: W, out, h => by
    obtain ⟨l, e⟩ := wordsT_mk r
    simp only [List.map_cons, textG]
    have h0 : ¬ (mkR r).ws.length = 0 := by
      simp only [mkR, List.length_map]
      intro h0; exact h r (by simp) (List.eq_nil_of_length_eq_zero h0)
    rw [if_neg h0, show wordsT (mkR r).ws = some l from e]
    simp only
    split
    · exact .inl rfl
    · exact textG_mk W _ (fun x hx => h x (by simp [hx]))
def mdStep (W : List (List (List UInt8))) (b : Bool) (s : List UInt8) : List (List (List UInt8)) := bif b then W ++ [[s]] else match W.getLast? with
  | none => [[s]]
  | some l => W.dropLast ++ [l ++ [s]]
def mdF (ns : List Int) (k : Nat) : Bool := decide ((ns[k]?.getD 0) % 8 < 4)
def mdT (ts : List (List UInt8)) (k : Nat) : List UInt8 := (ts[k]?.getD []).take 40
def mdK (ts : List (List UInt8)) (ns : List Int) : Nat → List (List (List UInt8))
  | 0 => []
  | k + 1 => mdStep (mdK ts ns k) (mdF ns k) (mdT ts k)
theorem mdStep_new (W : List (List (List UInt8))) (b : Bool) (s : List UInt8) (h : b = true ∨ W = []) : mdStep W b s = W ++ [[s]] := by
  unfold mdStep
  cases b with
  | true => rfl
  | false =>
    rcases h with h | h
    · cases h
    · subst h; rfl
theorem mdStep_last (A : List (List (List UInt8))) (l : List (List UInt8)) (s : List UInt8) : mdStep (A ++ [l]) false s = A ++ [l ++ [s]] := by
  unfold mdStep
  simp
theorem mdStep_ok {W : List (List (List UInt8))} {b : Bool} {s : List UInt8} {k : Nat} (hs : s.length ≤ 40) (h : W.length ≤ k ∧ ∀ r ∈ W, r ≠ [] ∧ r.length ≤ k ∧ ∀ w ∈ r, w.length ≤ 40) :
    (mdStep W b s).length ≤ k + 1 ∧ ∀ r ∈ mdStep W b s, r ≠ [] ∧ r.length ≤ k + 1 ∧ ∀ w ∈ r, w.length ≤ 40 := by
  obtain ⟨h1, h2⟩ := h
  have hnew : (W ++ [[s]]).length ≤ k + 1 ∧ ∀ r ∈ W ++ [[s]], r ≠ [] ∧ r.length ≤ k + 1 ∧ ∀ w ∈ r, w.length ≤ 40 := by
    refine ⟨by simp; omega, fun r hr => ?_⟩
    rcases List.mem_append.1 hr with hr | hr
    · obtain ⟨a1, a2, a3⟩ := h2 r hr
      exact ⟨a1, by omega, a3⟩
    · have : r = [s] := by simpa using hr
      subst this
      exact ⟨by simp, by simp, by simpa using hs⟩
  rcases List.eq_nil_or_concat W with rfl | ⟨A, l, rfl⟩
  · rw [mdStep_new _ _ _ (.inr rfl)]; exact hnew
  · cases b with
    | true => rw [mdStep_new _ _ _ (.inl rfl)]; exact hnew
    | false =>
      rw [List.concat_eq_append] at h1 h2 ⊢
      rw [mdStep_last]
      refine ⟨by simp at h1 ⊢; omega, fun r hr => ?_⟩
      rcases List.mem_append.1 hr with hr | hr
      · obtain ⟨a1, a2, a3⟩ := h2 r (List.mem_append_left _ hr)
        exact ⟨a1, by omega, a3⟩
      · obtain ⟨a1, a2, a3⟩ := h2 l (by simp)
        have : r = l ++ [s] := by simpa using hr
        subst this
        refine ⟨by simp, by simp; omega, fun w hw => ?_⟩
        rcases List.mem_append.1 hw with hw | hw
        · exact a3 w hw
        · have : w = s := by simpa using hw
          subst this; exact hs
theorem mdT_len (ts : List (List UInt8)) (k : Nat) : (mdT ts k).length ≤ 40 := by unfold mdT; rw [List.length_take]; omega
theorem mdK_ok (ts : List (List UInt8)) (ns : List Int) : ∀ k, (mdK ts ns k).length ≤ k ∧ ∀ r ∈ mdK ts ns k, r ≠ [] ∧ r.length ≤ k ∧ ∀ w ∈ r, w.length ≤ 40
  | 0 => ⟨Nat.le_refl _, by simp [mdK]⟩
  | k + 1 => mdStep_ok (mdT_len ts k) (mdK_ok ts ns k)
theorem mdK_light (ts : List (List UInt8)) (ns : List Int) {k : Nat} (hk : k ≤ 10) : LightR ((mdK ts ns k).map mkR) := by
  obtain ⟨h1, h2⟩ := mdK_ok ts ns k
  refine ⟨by rw [List.length_map]; omega, fun r hr => ?_⟩
  obtain ⟨l, hl, rfl⟩ := List.mem_map.1 hr
  obtain ⟨a1, a2, a3⟩ := h2 l hl
  refine ⟨by simp only [mkR, List.length_map]; omega, fun w hw => ?_⟩
  simp only [mkR] at hw
  obtain ⟨t, ht, rfl⟩ := List.mem_map.1 hw
  have := a3 t ht
  show t.length ≤ 20000
  omega
def cT (p : Nat × List (List UInt8)) : List AV := [.int .i64 0, .tsl p.1 p.2.length ((p.2.map mkW).flatMap cWI)]
theorem cT_len (Z : List (Nat × List (List UInt8))) : (Z.flatMap cT).length = Z.length * 2 := flat_len (f := cT) (fun _ => rfl) Z
theorem cT_wk : ∀ Z : List (Nat × List (List UInt8)), wkL (Z.flatMap cT) (((Z.map (·.2)).map mkR).flatMap cRI)
  | [] => .nil
  | p :: Z => by
    simp only [List.flatMap_cons, List.map_cons, cT, cRI, mkR, List.cons_append, List.nil_append, List.length_map]
    exact .cons (wk_refl _) (.cons (wk_tsl _ _ _) (cT_wk Z))
end Go.Proofs.YtemddijemikleaaDoor
