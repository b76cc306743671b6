/-
  The arguments of a law: what they stand for, and that they read behind the call as before.
-/
import Derived.Test.YtnmlhilckjmhnaaDoorAbs18
import Derived.ProofKit
import Derived.OpenShut
import Derived.Carry
import Derived.ChangeSlices
import Derived.ChangeMaps5
namespace Go.Abs
open Go.RowKit Go.ChangeShapes Go.WideShapes
variable {H : Type} {enc : TypeId × Value → H} {P : Program}

theorem RelL0.int {W : World} {k : IntKind} {n : Int} {xs : List AV} {vs : List Value} (h : RelL g0 W xs vs) : RelL g0 W (.int k n :: xs) (.int k n :: vs) := .cons (.int k n) h

theorem has_plain {W : World} {r : Reach} {base : Nat} {t e : TypeId} {a : Addr} {len cap : Nat} (ht : P.underlying t = some (.slice e)) (h : Value.okWide P W r base t (.slice (some a) len cap)) : a.spot = none ∧ a.block < W.heap.size ∧ len ≤ cap := by
  simp only [Value.okWide, ht, Cell.okWide, Cell.ok] at h
  obtain ⟨h1, _, _, h2, row, cells, h3, _⟩ := h
  refine ⟨h2, ?_, h1⟩
  unfold World.shape? at h3
  rcases Nat.lt_or_ge a.block W.heap.size with hb | hb
  · exact hb
  · rw [Array.getElem?_eq_none hb] at h3
    cases h3

theorem ints_rel {W : World} {t e : TypeId} {k : IntKind} {v : Value} {d : DataW H} {ps : List MemPlace} (ht : P.underlying t = some (.slice e)) (he : P.underlying e = some (.int k)) (hc : P.cellsOf e = 1)
    (hval : Value.okWide P W .any 0 t v) (hd : DataW.Trod enc P W 0 (fun _ => true) true t v d ps) : ∃ l : List Int, Rel g0 W (.sl false l.length (l.map (AV.int k))) v ∧ (∀ n ∈ l, (Lit.int k n).wf = true) := by
  obtain ⟨a0, len, cap, rfl⟩ := okWide_slice ht hval
  obtain ⟨fuel, hf⟩ := hd
  rcases open_ints ht he hc hf with ⟨hcs, _⟩ | ⟨a, len', cap', zs, hcs, _, hl, hm, hz, hx, hcell, hwz⟩
  · simp [Value.cells] at hcs
    obtain ⟨rfl, rfl, rfl⟩ := hcs
    exact ⟨[], .sl0 _ _, by simp⟩
  · simp [Value.cells] at hcs
    obtain ⟨rfl, rfl, rfl⟩ := hcs
    simp only [if_true] at hz
    obtain ⟨h1, h2, h3⟩ := has_plain ht hval
    have hlen : (zs.take len).length = len := by simp; omega
    refine ⟨zs.take len, ?_, fun n hn => hwz n (List.mem_of_mem_take hn)⟩
    obtain ⟨b, off, spot⟩ := a
    simp only at h1 h2
    subst h1
    rw [hlen]
    refine Rel.sl_mk (u := (zs.take len).map (Value.int k)) hl (by simp) ⟨⟨h2, .inl rfl⟩, ⟨⟨by simp, fun i c v hc' hv => ?_⟩, fun v hv => ?_⟩, fun i v hv => ?_⟩
    · simp only [List.getElem?_map, Option.map_eq_some_iff] at hc' hv
      obtain ⟨n, q1, rfl⟩ := hc'
      obtain ⟨n', q2, rfl⟩ := hv
      rw [q1] at q2; cases q2
      exact .int _ _
    · simp only [List.mem_map] at hv
      obtain ⟨n, _, rfl⟩ := hv
      rfl
    · simp only [List.getElem?_map, Option.map_eq_some_iff] at hv
      obtain ⟨n, q1, rfl⟩ := hv
      rw [List.getElem?_take] at q1
      split at q1
      · rename_i hi
        have hiz : i < zs.length := (List.getElem?_eq_some_iff.1 q1).1
        have := hcell i hiz
        rw [Go.WideShapes.add_plain] at this
        rw [this]
        simp [List.getD, q1]
      · cases q1

theorem str_rel {W : World} {s : ByteArray} : Rel g0 W (.str s.data.toList) (.string s) := by
  have := Rel.str (g := g0) (w := W) s.data.toList
  rwa [string_eta] at this

/-- What was read before is read behind. -/
theorem trodAll_stays (hl : laidOutB P = true) {W W' : World} (hb : Below W.heap.size W W') {sp : Nat → Bool} : ∀ {ts : List TypeId} {vs : List Value} {ds : List (DataW H)} {ps : List MemPlace}, (∀ t ∈ ts, P.readableRec t = true ∧ t < P.types.size) →
    DataW.TrodAll enc P W 0 (fun _ => true) true ts vs ds ps → (∀ p ∈ ps, p.block < W.heap.size) → (∀ p ∈ ps, sp p.block = true) → DataW.TrodAll enc P W' 0 sp true ts vs ds ps
  | [], vs, ds, ps, _, h, _, _ => by
    obtain ⟨rfl, rfl, rfl⟩ := trodAll_nil h
    exact trodAll_mk0
  | t :: ts, vs, ds, ps, ht, h, hlt, hsp => by
    obtain ⟨v, vs', d, ds', p, q, rfl, rfl, rfl, h0, r0⟩ := trodAll_cons h
    refine trodAll_cons_mk ?_ (trodAll_stays hl hb (fun t' ht' => ht t' (by simp [ht'])) r0 (fun x hx => hlt x (by simp [hx])) (fun x hx => hsp x (by simp [hx])))
    exact WideElems.Trod_stays hl (ht t (by simp)).1 (ht t (by simp)).2 h0 (fun x hx => hb.same (hlt x (by simp [hx]))) (fun x hx => hsp x (by simp [hx]))

def typesB (P : Program) (ts : List TypeId) : Bool := ts.all fun t => P.readableRec t && decide (t < P.types.size)

/-- The post of a law: it answered true, and nothing that was there was written. -/
theorem law_post {f : Func} {s : ChangeSpec} {apart fresh handsOn again : Bool} {W W' : World} {args : Array Value} {ds : List (DataW H)} {p : List MemPlace} {tb : TypeId}
    (hW : DataW.Whole enc P f.params.toList s.vars apart W args.toList ds [] p) (hA : DataW.TrodAll enc P W 0 (fun _ => true) true f.params.toList args.toList ds p)
    (hspec : (s.fn H (ds ++ [])).results = [.lit (.bool true)] ∧ (s.fn H (ds ++ [])).args = ds ∧ (s.fn H (ds ++ [])).vars = []) (hvars : s.vars = [])
    (hl : laidOutB P = true) (hts : typesB P f.params.toList = true) (hb : Below W.heap.size W W') (hrt : f.resultTypes = #[tb]) (htb : P.underlying tb = some .bool) :
    s.post enc P f apart fresh handsOn again W args (.bool true) W' := by
  have hlt : ∀ x ∈ p, x.block < W.heap.size := fun x hx => hW.lt x hx
  have hty : ∀ t ∈ f.params.toList, P.readableRec t = true ∧ t < P.types.size := fun t ht => by
    have := List.all_eq_true.1 hts t ht
    simpa using this
  refine post_of_below (pa := p) (pv := []) hW (fun b sp hd => ?_) (fun sp hsp => ?_) (fun sp _ => ?_) (by simp) hb ?_
  · rw [hspec.1, hrt]
    exact trodAll_cons_mk (shut_bool htb _) trodAll_mk0
  · rw [hspec.2.1]
    exact trodAll_stays hl hb hty hA hlt hsp
  · rw [hspec.2.2, hvars]; rfl
  · intro j t r hj hr
    rw [hrt] at hj hr
    exact ok_one hrt rfl (okWide_bool_mk htb _) j t r (by rw [hrt]; exact hj) (by rw [hrt]; exact hr)
end Go.Abs
