/-
  A function's contract out of its body; the rules by which a contract is proved.
-/
import Derived.Test.YtelmgkneacbneaaAbs10
namespace Go.Abs

inductive RV where
  | t (s : Nat)
  | cl (s : Nat) (sz : Option Nat)

structure CF where
  body : CC
  res : List RV
  n : Nat

def resB (P : Program) : List ResultVar → List RV → Bool
  | [], [] => true
  | .tmp t :: r, .t s :: r' => t == s && resB P r r'
  | .cell t ty :: r, .cl s sz :: r' => t == s && shpB P ty sz && resB P r r'
  | _, _ => false

def fB (P : Program) (f : Nat) (cf : CF) : Bool :=
  match P.funcs[f]? with
  | some fn => (match fn.body with | some c => lkC P cf.n cf.body c | none => false) && fn.ntmps == cf.n && resB P fn.results.toList cf.res && fn.name != "runtime.NumGoroutine"
  | none => false

def initF : Nat → List AV → Fr
  | _, [] => []
  | i, a :: r => (i, a) :: initF (i + 1) r

def rvV (σ : St) (fr : Fr) : RV → AV
  | .t s => slot s fr
  | .cl s sz => match pcells σ (slot s fr) with
    | some (cs, o) => ldV cs o sz
    | none => .junk
def rvS (σ : St) (fr : Fr) : RV → Prop
  | .t _ => True
  | .cl s sz => match pcells σ (slot s fr) with
    | some (cs, o) => ldS cs o sz
    | none => False
def rvsS (σ : St) (fr : Fr) : List RV → Prop
  | [] => True
  | r :: rs => rvS σ fr r ∧ rvsS σ fr rs
def resAV : List AV → AV
  | [v] => v
  | vs => .tup vs

/-- What is owed where the function ends. -/
def endP (res : List RV) (R : AV → St → Prop) (e : Exit) (fr : Fr) (σ : St) : Prop :=
  (e = .ret ∨ e = .normal) ∧ rvsS σ fr res ∧ ∃ r σ', wk (resAV (res.map (rvV σ fr))) r ∧ St.le σ' σ ∧ R r σ'

section
variable {P : Program} {g : Gh} {σ : St} {w : World} {a : Act} {fr : Fr} {N : Nat}

theorem slot_init {as : List AV} {vs : List Value} : ∀ (i t : Nat), RelL g w as vs → (t < i → slot t (initF i as) = .junk) ∧ (i ≤ t → Rel g w (slot t (initF i as)) ((vs[t - i]?).getD undef)) := by
  induction as generalizing vs with
  | nil => intro i t _; exact ⟨fun _ => rfl, fun _ => .junk _⟩
  | cons a as ih =>
    intro i t h
    obtain ⟨v, vs', rfl, h1, h2⟩ := h.cons_inv
    obtain ⟨k1, k2⟩ := ih (i + 1) t h2
    simp only [initF, slot]
    refine ⟨fun hlt => by rw [if_neg (by omega)]; exact k1 (by omega), fun hle => ?_⟩
    split
    · rename_i e; subst e; simpa using h1
    · have := k2 (by omega)
      rw [show t - i = (t - (i + 1)) + 1 by omega]
      simpa using this

def resOne (tmps : Array Value) (x : ResultVar) : Sem Value :=
  match x with
  | .tmp t => pure (tmps.getD t undef)
  | .cell x t => do loadVar t (← asAddr (tmps.getD x undef))

theorem res_sound (hS : Sim g σ w fr a N) : ∀ (rs : List ResultVar) (rv : List RV), resB P rs rv = true → rvsS σ fr rv →
    ∃ us, (rs.mapM (resOne a.tmps)).run P w = .ok us w ∧ RelL g w (rv.map (rvV σ fr)) us
  | [], [], _, _ => ⟨[], by simp, .nil⟩
  | .tmp t :: rs, .t s :: rv, h, hs => by
    simp only [resB, Bool.and_eq_true, beq_iff_eq] at h
    obtain ⟨rfl, h⟩ := h
    obtain ⟨us, hr, hu⟩ := res_sound hS rs rv h hs.2
    exact ⟨a.tmps.getD t undef :: us, by simp [List.mapM_cons, resOne, hr], .cons (hS.rel t) hu⟩
  | .cell x ty :: rs, .cl s sz :: rv, h, hs => by
    simp only [resB, Bool.and_eq_true, beq_iff_eq] at h
    obtain ⟨⟨rfl, h0⟩, h⟩ := h
    obtain ⟨us, hr, hu⟩ := res_sound hS rs rv h hs.2
    have hv := hS.rel x
    have h1 := hs.1
    simp only [rvS] at h1
    cases hp : pcells σ (slot x fr) with
    | none => simp only [hp] at h1
    | some q =>
      obtain ⟨cs, k⟩ := q
      simp only [hp] at h1
      obtain ⟨b, base, us2, ex, hrel, hcell⟩ := pcells_rel hS.inv hv hp
      obtain ⟨d, i, hd, hi, hc⟩ := shpB_spec h0
      have hl := ldV_rel hrel h1
      have hld : ∃ u, (loadVar ty ⟨b, base + k, none⟩).run P w = .ok u w ∧ Rel g w (ldV cs k sz) u := by
        rcases hc with ⟨hrow, rfl⟩ | ⟨hrow, rfl, _⟩
        · simp only at hl
          have hlen : ((us2.drop k).take i.size).length = i.size := by simp only [List.length_take, List.length_drop]; omega
          exact ⟨_, run_loadVar_mid (P := P) w b (base + k) ty ((us2.drop k).take i.size) d (fun j v hv => by
            rw [List.getElem?_take] at hv
            split at hv
            · rw [List.getElem?_drop] at hv; rw [Nat.add_assoc]; exact hcell _ v hv
            · cases hv) hd hrow (by rw [hi, hlen]; rfl), hl.2⟩
        · simp only at hl
          obtain ⟨v, hv2, _, hrel2⟩ := hl
          exact ⟨v, by simp [loadVar, run_isAgg hd, hrow, hcell k v hv2], hrel2⟩
      obtain ⟨u, hu1, hu2⟩ := hld
      refine ⟨u :: us, ?_, .cons (by simpa only [rvV, hp] using hu2) hu⟩
      simp [List.mapM_cons, resOne, ex, asAddr, hu1, hr]
  | [], _ :: _, h, _ => by simp [resB] at h
  | .tmp _ :: _, [], h, _ => by simp [resB] at h
  | .cell _ _ :: _, [], h, _ => by simp [resB] at h
  | .tmp _ :: _, .cl _ _ :: _, h, _ => by simp [resB] at h
  | .cell _ _ :: _, .t _ :: _, h, _ => by simp [resB] at h

def tupV : List Value → Value
  | [u] => u
  | us => .tuple us.toArray

theorem results_run {fn : Func} {us : List Value} {tmps : Array Value} (h : (fn.results.toList.mapM (resOne tmps)).run P w = .ok us w) :
    (results fn tmps).run P w = .ok (tupV us) w := by
  have e : results fn tmps = (do let vs ← fn.results.mapM (resOne tmps); pure (if h : vs.size = 1 then vs[0] else .tuple vs)) := by
    unfold results
    congr 1
  have e2 : fn.results.mapM (resOne tmps) = List.toArray <$> fn.results.toList.mapM (resOne tmps) := by rw [Array.mapM_eq_mapM_toList]
  rw [e, Sem.run_bind, e2, Sem.run_map, h]
  simp only [Result.andThen_ok]
  cases us with
  | nil => rfl
  | cons u us => cases us <;> simp [tupV]

theorem AC_intro {f : Nat} {as : List AV} {R : AV → St → Prop} (cf : CF) (hf : fB P f cf = true) (hn : as.length ≤ cf.n) (h : aC P cf.body (initF 0 as) σ (endP cf.res R)) : AC P f as σ R := by
  unfold fB at hf
  split at hf
  · rename_i fn hfn
    simp only [Bool.and_eq_true, beq_iff_eq, bne_iff_ne] at hf
    obtain ⟨⟨⟨hbody, hnt⟩, hres⟩, hname⟩ := hf
    split at hbody
    · rename_i c hc
      intro g w vs hI hv
      left
      constructor
      · simp [callFunc, hfn, hname, hc]
      · have hlen := hv.1
        refine calls_of_wp hfn hc (aC_sound cf.body c hbody g σ w (initF 0 as) _ (endP cf.res R) _ ⟨hI, fun t => ?_, ?_, rfl⟩ h ?_)
        · have := (slot_init (g := g) (w := w) 0 t hv).2 (Nat.zero_le _)
          simp only [Nat.sub_zero] at this
          rw [Array.getD_eq_getD_getElem?]
          by_cases ht : t < vs.length
          · rw [Array.getElem?_append_left (by simpa using ht)]
            simpa using this
          · rw [List.getElem?_eq_none (by omega)] at this
            rw [Array.getElem?_append_right (by simpa using Nat.le_of_not_lt ht)]
            by_cases ht2 : t - vs.length < fn.ntmps - vs.length
            · simp only [List.size_toArray, Array.getElem?_replicate, if_pos ht2]; exact this
            · simp only [List.size_toArray, Array.getElem?_replicate, if_neg ht2]; exact this
        · simp; omega
        · rintro e fr' σ' g' w' a' ⟨he, hs, r, σ2, hwk, hle, hR⟩ hS hext
          obtain ⟨us, hrun, hu⟩ := res_sound (P := P) hS _ _ hres hs
          have hr := results_run (P := P) (fn := fn) hrun
          have hrel : Rel g' w' (resAV (cf.res.map (rvV σ' fr'))) (tupV us) := by
            cases hm : cf.res.map (rvV σ' fr') with
            | nil => rw [hm] at hu; have := hu.nil_inv; subst this; exact .tup_mk .nil
            | cons x xs =>
              rw [hm] at hu
              obtain ⟨u, us', rfl, k1, k2⟩ := hu.cons_inv
              cases xs with
              | nil => have := k2.nil_inv; subst this; exact k1
              | cons y ys =>
                obtain ⟨u2, us2, rfl, k3, k4⟩ := k2.cons_inv
                exact .tup_mk (.cons k1 (.cons k3 k4))
          have hfin : CP g w R (.returned (tupV us)) w' := ⟨_, r, σ2, g', rfl, hR, hS.inv.le hle, hext, hwk _ _ _ hrel⟩
          rcases he with rfl | rfl
          · exact ⟨hS.defers, _, hr, hfin⟩
          · exact ⟨hS.defers, _, hr, hfin⟩
    · cases hbody
  · cases hf

end
end Go.Abs
