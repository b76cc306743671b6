/-
  From an abstract contract to the model's call, for arguments that were there before the call.
-/
import Derived.Test.YtnmlhilckjmhnaaDoorAbs16
import Derived.Below
import Derived.ChangeSame
namespace Go.Abs
open Go.RowKit

def g0 : Gh := ⟨fun _ => none, fun _ => none, fun _ _ => none, 0, 0⟩
def s0 (gl : Nat → Option (List AV)) : St := ⟨fun _ => none, fun _ => none, gl, fun _ => none⟩

theorem inv0 {gl : Nat → Option (List AV)} {w : World} (hg : ∀ k cs, gl k = some cs → GlobOk g0 w k cs) : Inv g0 (s0 gl) w :=
  ⟨fun β cs h => by simp [s0] at h, fun β b h => by simp [g0] at h, fun β β' b h => by simp [g0] at h, fun β _ => rfl, fun τ e s n h => by simp [s0] at h, fun τ τ' x x' v v' b h => by simp [s0] at h, fun τ n _ => rfl, hg, fun l r h => by simp [s0] at h⟩

theorem calls_of {P : Program} {f : Nat} {cf : CF} {as : List AV} {vs : List Value} {gl : Nat → Option (List AV)} {w : World} {v : AV} (hf : fB P f cf = true)
    (h : AC P f as (s0 gl) (fun r s => r = v ∧ s = s0 gl)) (hg : ∀ k cs, gl k = some cs → GlobOk g0 w k cs) (hv : RelL g0 w as vs) :
    Calls P f vs.toArray w (fun e w' => ∃ u g', e = .returned u ∧ Rel g' w' v u ∧ Below w.heap.size w w') := by
  have henter : (callFunc f vs.toArray).run P w = .ok (.enter f vs.toArray) w := by
    unfold fB at hf
    split at hf
    · rename_i fn hfn
      simp only [Bool.and_eq_true, beq_iff_eq, bne_iff_ne] at hf
      obtain ⟨⟨⟨hbody, hnt⟩, hres⟩, hname⟩ := hf
      split at hbody
      · rename_i c hc
        simp [callFunc, hfn, hname, hc]
      · cases hbody
    · cases hf
  rcases h g0 w vs (inv0 hg) hv with ⟨_, h2⟩ | ⟨u, w', h1, _⟩
  · refine h2.mono ?_
    rintro e w' ⟨u, r, σ', g', rfl, ⟨rfl, rfl⟩, hI, he, hr⟩
    exact ⟨u, g', rfl, hr, he.os, he.tape, he.output, he.size, fun k hk => (he.cln k hk rfl).2⟩
  · rw [henter] at h1
    cases h1

/-- A law without package variables that answers true. -/
theorem law_calls {P : Program} {f : Nat} {cf : CF} {as : List AV} {vs : List Value} {w : World} (hf : fB P f cf = true) (h : Pu P f as (.bool true)) (hv : RelL g0 w as vs) :
    Calls P f vs.toArray w (fun e w' => e = .returned (.bool true) ∧ Below w.heap.size w w') := by
  refine (calls_of (gl := fun _ => none) hf (h _) (fun k cs hk => by simp at hk) hv).mono ?_
  rintro e w' ⟨u, g', rfl, hr, hb⟩
  rw [hr.bool_inv]
  exact ⟨rfl, hb⟩
end Go.Abs

namespace Go
open Go.RowKit Go.WideShapes Go.ChangeShapes
variable {H : Type} {enc : TypeId × Value → H} {P : Program}
/-- The post of a call that wrote into nothing that was there. -/
theorem post_of_below {f : Func} {s : ChangeSpec} {apart fresh handsOn again : Bool} {W W' : World} {args : Array Value} {v : Value} {ds gs : List (DataW H)} {before pa pv : List MemPlace}
    (hW : DataW.Whole enc P f.params.toList s.vars apart W args.toList ds gs before)
    (hres : ∀ (b : Nat) (sp : Nat → Bool) (hd : Bool), DataW.TrodAll enc P W' b sp hd f.resultTypes.toList (v.resultList f.resultTypes.size) (s.fn H (ds ++ gs)).results [])
    (hargs : ∀ sp : Nat → Bool, (∀ p ∈ before, sp p.block = true) → DataW.TrodAll enc P W' 0 sp true f.params.toList args.toList (s.fn H (ds ++ gs)).args pa)
    (hvars : ∀ sp : Nat → Bool, (∀ p ∈ before, sp p.block = true) → DataW.TrodVars enc P W' sp s.vars (s.fn H (ds ++ gs)).vars pv)
    (hps : before = pa ++ pv) (hb : Below W.heap.size W W')
    (hok : ∀ (j : Nat) (t : TypeId) (r : Value), f.resultTypes[j]? = some t → (v.resultList f.resultTypes.size)[j]? = some r → Value.okWide P W' .any 0 t r) :
    s.post enc P f apart fresh handsOn again W args v W' := by
  have hlt : ∀ p ∈ before, p.block < W.heap.size := fun p hp => hW.lt p hp
  have hold : ∀ p ∈ before, (fun b => decide (b < W.heap.size)) p.block = true := fun p hp => by simpa using hlt p hp
  refine ⟨ds, gs, before, [], pa, pv, hW, hres _ _ _, hargs _ hold, hvars _ hold, World.keptBut_mono (fun p hp => ⟨hp, ?_⟩) (hb.frame (· ∈ before)), fun _ => ?_⟩
  · rw [hps, List.mem_append] at hp
    exact Or.inr hp
  · obtain ⟨_, _, _, _, _, hz, hn⟩ := hW
    refine ⟨hok, _, _, ([] ++ pa) ++ pv, ⟨[] ++ pa, pv, trodAll_append (hargs _ (fun _ _ => rfl)) (hres _ _ _), hvars _ (fun _ _ => rfl), rfl, ?_, ?_⟩, ?_⟩
    · intro b off hp
      have hin : MemPlace.cell b off ∈ before := by rw [hps]; simpa using hp
      rw [hb.frozen (hlt _ hin)]
      exact hz b off hin
    · intro ha
      have := hn ha
      rw [hps] at this
      simpa using this
    · intro p hp _
      rw [hps]
      simpa using hp
end Go

namespace Go.Abs
/-- Behind a call: a result without room becomes a tip. -/
theorem AC.tips {P : Program} {f : Nat} {as : List AV} {σ : St} {R R' : AV → St → Prop} (e es : Nat) (h : AC P f as σ R)
    (hr : ∀ r s, R r s → R' r s ∨ ∃ n cs, fresh r ∧ slv r = some (n, cs) ∧ ∀ τ, s.tip τ = none → R' (.tsl τ n cs) (s.setTip τ (e, es, n))) : AC P f as σ R' := by
  have hcp : ∀ g w e w', CP g w R e w' → CP g w R' e w' := by
    rintro g w e w' ⟨v, r, σ', g', h1, h2, h3, h4, h5⟩
    rcases hr _ _ h2 with k | ⟨n, cs, hf, hs, k⟩
    · exact ⟨v, r, σ', g', h1, k, h3, h4, h5⟩
    · obtain ⟨g2, hI2, he2, hr2⟩ := tip_fresh h3 _ es h5 hf hs
      exact ⟨v, _, _, g2, h1, k g'.nt (fresh_tip h3), hI2, h4.trans he2, hr2⟩
  intro g w vs hI hv
  rcases h g w vs hI hv with ⟨h1, h2⟩ | ⟨v, w', h1, h2⟩
  · exact .inl ⟨h1, h2.mono fun e w' => hcp g w e w'⟩
  · exact .inr ⟨v, w', h1, hcp _ _ _ _ h2⟩

/-- What slices.Clone is: a list in new memory, to which may be appended. -/
def Clones (P : Program) (f e es bytes : Nat) : Prop := ∀ (a : AV) (n : Nat) (cs : List AV) (σ : St), slv a = some (n, cs) → cs.length = n * es → n ≤ maxLen → n * bytes ≤ 140737488355328 →
  AC P f [a] σ (fun r s => ∃ τ, σ.tip τ = none ∧ r = .tsl τ n cs ∧ s = σ.setTip τ (e, es, n))

def xClone (f e es bytes : Nat) : Call := fun g as s => bif Nat.beq g f then
    match as with
    | [a] => match slv a with
      | some (n, cs) => bif okApp 0 es n bytes [] cs then some (.tsl s.nt n cs, s.newT (e, es, n)) else none
      | none => none
    | _ => none
  else none
theorem xClone_ok {P : Program} {gl : List (Nat × List AV)} {f e es bytes : Nat} (h : Clones P f e es bytes) : CallOk P gl (xClone f e es bytes) := by
  intro g as s v s' σb m t σ as' hx hR hv
  unfold xClone at hx
  cases hg : Nat.beq g f with
  | false => rw [hg] at hx; cases hx
  | true =>
    rw [hg] at hx
    have := Nat.eq_of_beq_eq_true hg
    subst this
    simp only [cond_true] at hx
    split at hx
    · rename_i a
      split at hx
      · rename_i n cs ha
        cases hb : okApp 0 es n bytes [] cs with
        | false => rw [hb] at hx; cases hx
        | true =>
          rw [hb] at hx
          simp only [cond_true, Option.some.injEq, Prod.mk.injEq] at hx
          obtain ⟨rfl, rfl⟩ := hx
          obtain ⟨a', _, rfl, h1, h2⟩ := hv.cons_inv
          rw [h2.nil_inv]
          obtain ⟨ds, hd1, hd2⟩ := h1.slv_inv ha
          obtain ⟨c1, c2, c3, c4⟩ := okApp_inv hb (m := m) (t := t) .nil hd2
          refine (h a' n ds σ hd1 c2 (by omega) (by rw [Nat.zero_add] at c4; exact c4)).mono ?_
          rintro r s2 ⟨τ, hτ, rfl, rfl⟩
          have h3 := VRL.mono (.refl m) (.app t τ) hd2
          exact ⟨m, t ++ [τ], .refl _, .app _ _, .tsl _ τ _ _ _ (by rw [← hR.nt]; simp) h3.1 h3.2, hR.newT hτ _⟩
      · cases hx
    · cases hx
def xOr (X Y : Call) : Call := fun f as s => match X f as s with
  | some r => some r
  | none => Y f as s
theorem xOr_ok {P : Program} {gl : List (Nat × List AV)} {X Y : Call} (h : CallOk P gl X) (k : CallOk P gl Y) : CallOk P gl (xOr X Y) := by
  intro g as s v s' σb m t σ as' hx hR hv
  unfold xOr at hx
  split at hx
  · rename_i r hr; cases hx; exact h _ _ _ _ _ σb m t σ as' hr hR hv
  · exact k _ _ _ _ _ σb m t σ as' hx hR hv
end Go.Abs

namespace Go.Abs
theorem appV_tip {σ : St} {K : AV → St → Prop} {e es bytes n m : Nat} {cs ds : List AV} {x y : AV} {h : Hold (σ, K)} (hx : slv x = some (n, cs)) (hf : fresh x) (hy : slv y = some (m, ds)) (h1 : cs.length = n * es) (h2 : ds.length = m * es) (h3 : n + m ≤ maxLen) (h4 : (n + m) * bytes ≤ 140737488355328)
    (hK : ∀ τ, σ.tip τ = none → K (.tsl τ (n + m) (cs ++ ds)) (σ.setTip τ (e, es, n + m))) : appV true e es bytes x y σ K h := by
  unfold appV
  split
  · exact hf.elim
  · simp only [cond_true, hx, hy]
    exact ⟨hf, h1, h2, h3, h4, hK⟩
end Go.Abs
