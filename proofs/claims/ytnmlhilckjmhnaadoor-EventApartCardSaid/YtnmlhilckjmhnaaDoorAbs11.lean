/-
  A function's contract out of its body; the rules by which a contract is proved.
-/
import Derived.Test.YtnmlhilckjmhnaaDoorAbs10
namespace Go.Abs

inductive RV where
  | t (s : Nat)
  | cl (s : Nat) (sz : Option Nat)

structure CF where
  body : CC
  res : List RV
  n : Nat

def resB (P : Program) : List ResultVar → List RV → Bool
  | [], [] => true
  | .tmp t :: r, .t s :: r' => t == s && resB P r r'
  | .cell t ty :: r, .cl s sz :: r' => t == s && shpB P ty sz && resB P r r'
  | _, _ => false

def fB (P : Program) (f : Nat) (cf : CF) : Bool :=
  match P.funcs[f]? with
  | some fn => (match fn.body with | some c => lkC P cf.n cf.body c | none => false) && fn.ntmps == cf.n && resB P fn.results.toList cf.res && fn.name != "runtime.NumGoroutine"
  | none => false

def initF : Nat → List AV → Fr
  | _, [] => []
  | i, a :: r => (i, a) :: initF (i + 1) r

def rvV (σ : St) (fr : Fr) : RV → AV
  | .t s => slot s fr
  | .cl s sz => match pcells σ (slot s fr) with
    | some (cs, o) => ldV cs o sz
    | none => .junk
def rvS (σ : St) (fr : Fr) : RV → Prop
  | .t _ => True
  | .cl s sz => match pcells σ (slot s fr) with
    | some (cs, o) => ldS cs o sz
    | none => False
def rvsS (σ : St) (fr : Fr) : List RV → Prop
  | [] => True
  | r :: rs => rvS σ fr r ∧ rvsS σ fr rs
def resAV : List AV → AV
  | [v] => v
  | vs => .tup vs

/-- What is owed where the function ends. -/
def endP (res : List RV) (R : AV → St → Prop) (e : Exit) (fr : Fr) (σ : St) : Prop :=
  (e = .ret ∨ e = .normal) ∧ rvsS σ fr res ∧ ∃ r σ', wk (resAV (res.map (rvV σ fr))) r ∧ St.le σ' σ ∧ R r σ'

section
variable {P : Program} {g : Gh} {σ : St} {w : World} {a : Act} {fr : Fr} {N : Nat}

theorem slot_init {as : List AV} {vs : List Value} : ∀ (i t : Nat), RelL g w as vs → (t < i → slot t (initF i as) = .junk) ∧ (i ≤ t → Rel g w (slot t (initF i as)) ((vs[t - i]?).getD undef)) := by
  induction as generalizing vs with
  | nil => intro i t _; exact ⟨fun _ => rfl, fun _ => .junk _⟩
  | cons a as ih =>
    intro i t h
    obtain ⟨v, vs', rfl, h1, h2⟩ := h.cons_inv
    obtain ⟨k1, k2⟩ := ih (i + 1) t h2
    simp only [initF, slot]
    refine ⟨fun hlt => by rw [if_neg (by omega)]; exact k1 (by omega), fun hle => ?_⟩
    split
    · rename_i e; subst e; simpa using h1
    · have := k2 (by omega)
      rw [show t - i = (t - (i + 1)) + 1 by omega]
      simpa using this

def resOne (tmps : Array Value) (x : ResultVar) : Sem Value :=
  match x with
  | .tmp t => pure (tmps.getD t undef)
  | .cell x t => do loadVar t (← asAddr (tmps.getD x undef))

theorem res_sound (hS : Sim g σ w fr a N) : ∀ (rs : List ResultVar) (rv : List RV), resB P rs rv = true → rvsS σ fr rv →
    ∃ us, (rs.mapM (resOne a.tmps)).run P w = .ok us w ∧ RelL g w (rv.map (rvV σ fr)) us
  | [], [], _, _ => ⟨[], by simp, .nil⟩
  | .tmp t :: rs, .t s :: rv, h, hs => by
    simp only [resB, Bool.and_eq_true, beq_iff_eq] at h
    obtain ⟨rfl, h⟩ := h
    obtain ⟨us, hr, hu⟩ := res_sound hS rs rv h hs.2
    exact ⟨a.tmps.getD t undef :: us, by simp [List.mapM_cons, resOne, hr], .cons (hS.rel t) hu⟩
  | .cell x ty :: rs, .cl s sz :: rv, h, hs => by
    simp only [resB, Bool.and_eq_true, beq_iff_eq] at h
    obtain ⟨⟨rfl, h0⟩, h⟩ := h
    obtain ⟨us, hr, hu⟩ := res_sound hS rs rv h hs.2
    have hv := hS.rel x
    have h1 := hs.1
    simp only [rvS] at h1
    cases hp : pcells σ (slot x fr) with
    | none => simp only [hp] at h1
    | some q =>
      obtain ⟨cs, k⟩ := q
      simp only [hp] at h1
      obtain ⟨b, base, us2, ex, hrel, hcell⟩ := pcells_rel hS.inv hv hp
      obtain ⟨d, i, hd, hi, hc⟩ := shpB_spec h0
      have hl := ldV_rel hrel h1
      have hld : ∃ u, (loadVar ty ⟨b, base + k, none⟩).run P w = .ok u w ∧ Rel g w (ldV cs k sz) u := by
        rcases hc with ⟨hrow, rfl⟩ | ⟨hrow, rfl, _⟩
        · simp only at hl
          have hlen : ((us2.drop k).take i.size).length = i.size := by simp only [List.length_take, List.length_drop]; omega
          exact ⟨_, run_loadVar_mid (P := P) w b (base + k) ty ((us2.drop k).take i.size) d (fun j v hv => by
            rw [List.getElem?_take] at hv
            split at hv
            · rw [List.getElem?_drop] at hv; rw [Nat.add_assoc]; exact hcell _ v hv
            · cases hv) hd hrow (by rw [hi, hlen]; rfl), hl.2⟩
        · simp only at hl
          obtain ⟨v, hv2, _, hrel2⟩ := hl
          exact ⟨v, by simp [loadVar, run_isAgg hd, hrow, hcell k v hv2], hrel2⟩
      obtain ⟨u, hu1, hu2⟩ := hld
      refine ⟨u :: us, ?_, .cons (by simpa only [rvV, hp] using hu2) hu⟩
      simp [List.mapM_cons, resOne, ex, asAddr, hu1, hr]
  | [], _ :: _, h, _ => by simp [resB] at h
  | .tmp _ :: _, [], h, _ => by simp [resB] at h
  | .cell _ _ :: _, [], h, _ => by simp [resB] at h
  | .tmp _ :: _, .cl _ _ :: _, h, _ => by simp [resB] at h
  | .cell _ _ :: _, .t _ :: _, h, _ => by simp [resB] at h

def tupV : List Value → Value
  | [u] => u
  | us => .tuple us.toArray

theorem results_run {fn : Func} {us : List Value} {tmps : Array Value} (h : (fn.results.toList.mapM (resOne tmps)).run P w = .ok us w) :
    (results fn tmps).run P w = .ok (tupV us) w := by
  have e : results fn tmps = (do let vs ← fn.results.mapM (resOne tmps); pure (if h : vs.size = 1 then vs[0] else .tuple vs)) := by
    unfold results
    congr 1
  have e2 : fn.results.mapM (resOne tmps) = List.toArray <$> fn.results.toList.mapM (resOne tmps) := by rw [Array.mapM_eq_mapM_toList]
  rw [e, Sem.run_bind, e2, Sem.run_map, h]
  simp only [Result.andThen_ok]
  cases us with
  | nil => rfl
  | cons u us => cases us <;> simp [tupV]

theorem Ext.putNew {g0 : Gh} {w0 : World} {D : Nat} (o' : Obj) (h : Ext g0 w0 g w) (hD : w0.heap.size ≤ D) : Ext g0 w0 g (w.putObj D o') := by
  have hh : ∀ b, b < w0.heap.size → (w.putObj D o').heap[b]? = w.heap[b]? := fun b hb => World.putObj_heap_other (by omega)
  refine ⟨h.os, h.tape, h.output, by simpa using h.size, h.box, h.boxold, h.nb, h.nt, h.tip, fun b hb hc => ⟨(h.cln b hb hc).1, by rw [hh b hb]; exact (h.cln b hb hc).2⟩, fun b F hb hc => ?_, h.tipn⟩
  obtain ⟨F', h1, h2, h3⟩ := h.cls b F hb hc
  exact ⟨F', h1, h2, fun i hi => by rw [World.cell?_of_block (hh b hb)]; exact h3 i hi⟩

/-- The function's end: the marks are taken, one by one. -/
theorem leaves_marks {fn : Func} {res : List RV} {RR : Ending → World → Prop} {g0 : Gh} {w0 : World} (hres : resB P fn.results.toList res = true)
    (hfin : ∀ (w : World) (us : List Value), Inv g σ w → Ext g0 w0 g w → RelL g w (res.map (rvV σ fr)) us → RR (.returned (tupV us)) w)
    (hrs : rvsS σ fr res) : ∀ (l : List Nat) (w : World) (tmps : Array Value), l.Nodup → (∀ D ∈ l, w.heap[D]? = some (.deferred (some [])) ∧ g.cl D = none ∧ w0.heap.size ≤ D) → Inv g σ w → Ext g0 w0 g w → RelF g w fr tmps → tmps.size = N →
      LeavesInM Fence.wide 0 P fn tmps RR (l.map markOf) .returning w
  | [], w, tmps, hn, hm, hI, hE, hF, hsz => by
    obtain ⟨us, hrun, hu⟩ := res_sound (P := P) (a := { tmps := tmps, defers := [] }) ⟨hI, hF, hsz, .nil⟩ _ _ hres hrs
    exact ⟨_, results_run (P := P) (fn := fn) hrun, hfin w us hI hE hu⟩
  | D :: l, w, tmps, hn, hm, hI, hE, hF, hsz => by
    obtain ⟨h1, h2, h3⟩ := hm D (by simp)
    have hnd := List.nodup_cons.1 hn
    refine ⟨by simp, .inl ⟨D, w.putObj D (.deferred none), rfl, run_takeDeferred h1, ?_⟩⟩
    have hI2 : Inv g σ (w.putObj D (.deferred none)) := by
      have := hI.putNC (o' := .deferred none) h1 rfl (lp' := σ.lp) (fun k x hx => by
        obtain ⟨q1, q2, q3⟩ := hI.lp k x hx
        have hk : k ≠ D := by rintro rfl; rw [h1] at q1; cases q1
        exact ⟨by rw [World.putObj_heap_other hk]; exact q1, q2, q3⟩)
      exact this
    exact leaves_marks hres hfin hrs l _ tmps hnd.2 (fun D' hD' => by
      obtain ⟨q1, q2, q3⟩ := hm D' (by simp [hD'])
      have : D' ≠ D := by rintro rfl; exact hnd.1 hD'
      exact ⟨by rw [World.putObj_heap_other this]; exact q1, q2, q3⟩) hI2 (hE.putNew _ h3) (fun t => (hF t).putNC h1 rfl) hsz

theorem AC_intro {f : Nat} {as : List AV} {R : AV → St → Prop} (cf : CF) (hf : fB P f cf = true) (hn : as.length ≤ cf.n) (h : aC P cf.body (initF 0 as) σ (endP cf.res R)) : AC P f as σ R := by
  unfold fB at hf
  split at hf
  · rename_i fn hfn
    simp only [Bool.and_eq_true, beq_iff_eq, bne_iff_ne] at hf
    obtain ⟨⟨⟨hbody, hnt⟩, hres⟩, hname⟩ := hf
    split at hbody
    · rename_i c hc
      intro g w vs hI hv
      left
      constructor
      · simp [callFunc, hfn, hname, hc]
      · have hlen := hv.1
        refine callsIn_wide.1 (callsIn_of_wp_marks (n := 0) hfn hc trivial (aC_sound cf.body c hbody none (.inl rfl) g σ w (initF 0 as) _ (endP cf.res R) _ ⟨hI, fun t => ?_, ?_, .nil⟩ h ?_))
        · have := (slot_init (g := g) (w := w) 0 t hv).2 (Nat.zero_le _)
          simp only [Nat.sub_zero] at this
          rw [Array.getD_eq_getD_getElem?]
          by_cases ht : t < vs.length
          · rw [Array.getElem?_append_left (by simpa using ht)]
            simpa using this
          · rw [List.getElem?_eq_none (by omega)] at this
            rw [Array.getElem?_append_right (by simpa using Nat.le_of_not_lt ht)]
            by_cases ht2 : t - vs.length < fn.ntmps - vs.length
            · simp only [List.size_toArray, Array.getElem?_replicate, if_pos ht2]; exact this
            · simp only [List.size_toArray, Array.getElem?_replicate, if_neg ht2]; exact this
        · simp; omega
        · rintro e fr' σ' g' w' a' ⟨he, hs, r, σ2, hwk, hle, hR⟩ hS hext hnew
          obtain ⟨l, hl1, hl2, hl3⟩ := hS.defers
          have hfin := leaves_marks (P := P) (fn := fn) (RR := CP g w R) (g0 := g) (w0 := w) hres (fun w2 us hI2 hE2 hu => by
            have hrel : Rel g' w2 (resAV (cf.res.map (rvV σ' fr'))) (tupV us) := by
              cases hm : cf.res.map (rvV σ' fr') with
              | nil => rw [hm] at hu; have := hu.nil_inv; subst this; exact .tup_mk .nil
              | cons x xs =>
                rw [hm] at hu
                obtain ⟨u, us', rfl, k1, k2⟩ := hu.cons_inv
                cases xs with
                | nil => have := k2.nil_inv; subst this; exact k1
                | cons y ys =>
                  obtain ⟨u2, us2, rfl, k3, k4⟩ := k2.cons_inv
                  exact .tup_mk (.cons k1 (.cons k3 k4))
            exact ⟨_, r, σ2, g', rfl, hR, hI2.le hle, hE2, hwk _ _ _ hrel⟩) hs l w' a'.tmps hl2 (fun D hD => by
              obtain ⟨q1, q2⟩ := hl3 D hD
              refine ⟨q1, q2, ?_⟩
              rcases hnew D (by rw [hl1]; exact List.mem_map_of_mem hD) with h | h
              · simp at h
              · exact h) hS.inv hext hS.rel hS.size
          rw [← hl1] at hfin
          rcases he with rfl | rfl
          · exact hfin
          · exact hfin
    · cases hbody
  · cases hf

end
end Go.Abs
