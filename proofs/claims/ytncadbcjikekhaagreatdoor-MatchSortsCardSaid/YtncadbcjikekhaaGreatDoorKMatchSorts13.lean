/- Part 13 of the proof of MatchSorts: an abstract semantics that is proved sound for the model, contracts of functions in it, and plain facts (Abs17 Abs21 Abs22 Abs23). No condition. -/
import Derived.Test.YtncadbcjikekhaaGreatDoorKMatchSorts12
import Derived.Below
import Derived.ChangeSame
set_option linter.all false
namespace Go.Abs
open Go.RowKit
def g0 : Gh := ⟨fun _ => none, fun _ => none, fun _ _ => none, 0, 0⟩
def s0 (gl : Nat → Option (List AV)) : St := ⟨fun _ => none, fun _ => none, gl, fun _ => none, fun _ => none⟩
theorem inv0 {gl : Nat → Option (List AV)} {w : World} (hg : ∀ k cs, gl k = some cs → GlobOk g0 w k cs) : Inv g0 (s0 gl) w :=
  ⟨fun β cs h => by simp [s0] at h, fun β b h => by simp [g0] at h, fun β β' b h => by simp [g0] at h, fun β _ => rfl, fun τ e s n h => by simp [s0] at h, fun τ τ' x x' v v' b h => by simp [s0] at h, fun τ n _ => rfl, hg, fun l r h => by simp [s0] at h, fun β T h => by simp [s0] at h⟩
theorem calls_of {P : Program} {f : Nat} {cf : CF} {as : List AV} {vs : List Value} {gl : Nat → Option (List AV)} {w : World} {v : AV} (hf : fB P f cf = true)
    (h : AC P f as (s0 gl) (fun r s => r = v ∧ s = s0 gl)) (hg : ∀ k cs, gl k = some cs → GlobOk g0 w k cs) (hv : RelL g0 w as vs) :
    Calls P f vs.toArray w (fun e w' => ∃ u g', e = .returned u ∧ Rel g' w' v u ∧ Below w.heap.size w w') := by
  have henter : (callFunc f vs.toArray).run P w = .ok (.enter f vs.toArray) w := by
    unfold fB at hf
    split at hf
    · rename_i fn hfn
      simp only [Bool.and_eq_true, beq_iff_eq, bne_iff_ne] at hf
      obtain ⟨⟨⟨hbody, hnt⟩, hres⟩, hname⟩ := hf
      split at hbody
      · rename_i c hc
        simp [callFunc, hfn, hname, hc]
      · cases hbody
    · cases hf
  rcases h g0 w vs (inv0 hg) hv with ⟨_, h2⟩ | ⟨u, w', h1, _⟩
  · refine h2.mono ?_
    rintro e w' ⟨u, r, σ', g', rfl, ⟨rfl, rfl⟩, hI, he, hr⟩
    exact ⟨u, g', rfl, hr, he.os, he.tape, he.output, he.size, fun k hk => (he.cln k hk rfl).2⟩
  · rw [henter] at h1
    cases h1
end Go.Abs
namespace Go
open Go.RowKit Go.WideShapes Go.ChangeShapes
variable {H : Type} {enc : TypeId × Value → H} {P : Program}
theorem post_of_below {f : Func} {s : ChangeSpec} {apart fresh handsOn again : Bool} {W W' : World} {args : Array Value} {v : Value} {ds gs : List (DataW H)} {before pa pv : List MemPlace}
    (hW : DataW.Whole enc P f.params.toList s.vars apart W args.toList ds gs before)
    (hres : ∀ (b : Nat) (sp : Nat → Bool) (hd : Bool), DataW.TrodAll enc P W' b sp hd f.resultTypes.toList (v.resultList f.resultTypes.size) (s.fn H (ds ++ gs)).results [])
    (hargs : ∀ sp : Nat → Bool, (∀ p ∈ before, sp p.block = true) → DataW.TrodAll enc P W' 0 sp true f.params.toList args.toList (s.fn H (ds ++ gs)).args pa)
    (hvars : ∀ sp : Nat → Bool, (∀ p ∈ before, sp p.block = true) → DataW.TrodVars enc P W' sp s.vars (s.fn H (ds ++ gs)).vars pv)
    (hps : before = pa ++ pv) (hb : Below W.heap.size W W')
    (hok : ∀ (j : Nat) (t : TypeId) (r : Value), f.resultTypes[j]? = some t → (v.resultList f.resultTypes.size)[j]? = some r → Value.okWide P W' .any 0 t r) :
    s.post enc P f apart fresh handsOn again W args v W' := by
  have hlt : ∀ p ∈ before, p.block < W.heap.size := fun p hp => hW.lt p hp
  have hold : ∀ p ∈ before, (fun b => decide (b < W.heap.size)) p.block = true := fun p hp => by simpa using hlt p hp
  refine ⟨ds, gs, before, [], pa, pv, hW, hres _ _ _, hargs _ hold, hvars _ hold, World.keptBut_mono (fun p hp => ⟨hp, ?_⟩) (hb.frame (· ∈ before)), fun _ => ?_⟩
  · rw [hps, List.mem_append] at hp
    exact Or.inr hp
  · obtain ⟨_, _, _, _, _, hz, hn⟩ := hW
    refine ⟨hok, _, _, ([] ++ pa) ++ pv, ⟨[] ++ pa, pv, trodAll_append (hargs _ (fun _ _ => rfl)) (hres _ _ _), hvars _ (fun _ _ => rfl), rfl, ?_, ?_⟩, ?_⟩
    · intro b off hp
      have hin : MemPlace.cell b off ∈ before := by rw [hps]; simpa using hp
      rw [hb.frozen (hlt _ hin)]
      exact hz b off hin
    · intro ha
      have := hn ha
      rw [hps] at this
      simpa using this
    · intro p hp _
      rw [hps]
      simpa using hp
end Go
namespace Go.Abs
theorem AC.tips {P : Program} {f : Nat} {as : List AV} {σ : St} {R R' : AV → St → Prop} (e es : Nat) (h : AC P f as σ R)
    (hr : ∀ r s, R r s → R' r s ∨ ∃ n cs, fresh r ∧ slv r = some (n, cs) ∧ ∀ τ, s.tip τ = none → R' (.tsl τ n cs) (s.setTip τ (e, es, n))) : AC P f as σ R' := by
  have hcp : ∀ g w e w', CP g w R e w' → CP g w R' e w' := by
    rintro g w e w' ⟨v, r, σ', g', h1, h2, h3, h4, h5⟩
    rcases hr _ _ h2 with k | ⟨n, cs, hf, hs, k⟩
    · exact ⟨v, r, σ', g', h1, k, h3, h4, h5⟩
    · obtain ⟨g2, hI2, he2, hr2⟩ := tip_fresh h3 _ es h5 hf hs
      exact ⟨v, _, _, g2, h1, k g'.nt (fresh_tip h3), hI2, h4.trans he2, hr2⟩
  intro g w vs hI hv
  rcases h g w vs hI hv with ⟨h1, h2⟩ | ⟨v, w', h1, h2⟩
  · exact .inl ⟨h1, h2.mono fun e w' => hcp g w e w'⟩
  · exact .inr ⟨v, w', h1, hcp _ _ _ _ h2⟩
def Clones (P : Program) (f e es bytes : Nat) : Prop := ∀ (a : AV) (n : Nat) (cs : List AV) (σ : St), slv a = some (n, cs) → cs.length = n * es → n ≤ maxLen → n * bytes ≤ 140737488355328 →
  AC P f [a] σ (fun r s => ∃ τ, σ.tip τ = none ∧ r = .tsl τ n cs ∧ s = σ.setTip τ (e, es, n))
end Go.Abs
namespace Go.Abs
theorem appV_tip {σ : St} {K : AV → St → Prop} {e es bytes n m : Nat} {cs ds : List AV} {x y : AV} {h : Hold (σ, K)} (hx : slv x = some (n, cs)) (hf : fresh x) (hy : slv y = some (m, ds)) (h1 : cs.length = n * es) (h2 : ds.length = m * es) (h3 : n + m ≤ maxLen) (h4 : (n + m) * bytes ≤ 140737488355328)
    (hK : ∀ τ, σ.tip τ = none → K (.tsl τ (n + m) (cs ++ ds)) (σ.setTip τ (e, es, n + m))) : appV true e es bytes x y σ K h := by
  unfold appV
  split
  · exact hf.elim
  · simp only [cond_true, hx, hy]
    exact ⟨hf, h1, h2, h3, h4, hK⟩
end Go.Abs
namespace Go.Abs
theorem St.set_over (σ : St) {β γ : Nat} (h : γ ≠ β) (a b c : List AV) : ((σ.setBox β a).setBox γ b).setBox β c = (σ.setBox β c).setBox γ b := by
  rw [St.set_comm (σ.setBox β a) h, St.set_set]
theorem St.set_over2 (σ : St) {β γ δ : Nat} (h : γ ≠ β) (k : δ ≠ β) (a b c d : List AV) : (((σ.setBox β a).setBox γ b).setBox δ d).setBox β c = ((σ.setBox β c).setBox γ b).setBox δ d := by
  rw [St.set_comm ((σ.setBox β a).setBox γ b) k, St.set_over σ h]
theorem St.set_over3 (σ : St) {β γ δ ε : Nat} (h : γ ≠ β) (k : δ ≠ β) (l : ε ≠ β) (a b c d e : List AV) : ((((σ.setBox β a).setBox γ b).setBox δ d).setBox ε e).setBox β c = (((σ.setBox β c).setBox γ b).setBox δ d).setBox ε e := by
  rw [St.set_comm (((σ.setBox β a).setBox γ b).setBox δ d) l, St.set_over2 σ h k]
theorem St.tip_set (σ : St) (β : Nat) (c : List AV) : (σ.setBox β c).tip = σ.tip := rfl
theorem St.box_tip (σ : St) (τ : Nat) (x : Nat × Nat × Nat) : (σ.setTip τ x).box = σ.box := rfl
theorem St.glob_tip (σ : St) (τ : Nat) (x : Nat × Nat × Nat) : (σ.setTip τ x).glob = σ.glob := rfl
theorem St.tip_same (σ : St) (τ : Nat) (x : Nat × Nat × Nat) : (σ.setTip τ x).tip τ = some x := by simp [St.setTip, upd]
theorem St.tip_other (σ : St) {τ υ : Nat} (x : Nat × Nat × Nat) (h : υ ≠ τ) : (σ.setTip τ x).tip υ = σ.tip υ := by simp [St.setTip, upd, h]
theorem St.tip_none {σ : St} {τ υ : Nat} {x : Nat × Nat × Nat} : (σ.setTip τ x).tip υ = none ↔ υ ≠ τ ∧ σ.tip υ = none := upd_none
theorem St.set_tip (σ : St) (τ β : Nat) (x : Nat × Nat × Nat) (c : List AV) : (σ.setTip τ x).setBox β c = (σ.setBox β c).setTip τ x := rfl
theorem St.setTip_setTip (σ : St) (τ : Nat) (x y : Nat × Nat × Nat) : (σ.setTip τ x).setTip τ y = σ.setTip τ y := by
  simp only [St.setTip, St.mk.injEq, true_and, and_true]
  funext j; simp only [upd]; split <;> rfl
theorem St.tip_comm (σ : St) {τ υ : Nat} (h : τ ≠ υ) (x y : Nat × Nat × Nat) : (σ.setTip τ x).setTip υ y = (σ.setTip υ y).setTip τ x := by
  simp only [St.setTip, St.mk.injEq, true_and, and_true]
  funext j; simp only [upd]
  by_cases h1 : j = τ <;> by_cases h2 : j = υ <;> simp_all
theorem St.tip_over (σ : St) {τ υ : Nat} (h : υ ≠ τ) (x y z : Nat × Nat × Nat) : ((σ.setTip τ x).setTip υ y).setTip τ z = (σ.setTip τ z).setTip υ y := by
  rw [St.tip_comm (σ.setTip τ x) h, St.setTip_setTip]
theorem St.le_newT {σ σ' : St} {τ : Nat} {c : Nat × Nat × Nat} (h : St.le σ σ') (hn : σ.tip τ = none) : St.le σ (σ'.setTip τ c) := St.le_setTip h hn
class Apart (β γ : Nat) : Prop where
  ne : β ≠ γ
theorem St.box_noneA {σ : St} {β γ : Nat} {c : List AV} : (σ.setBox β c).box γ = none ↔ (Apart γ β ∧ Apart β γ) ∧ σ.box γ = none := by
  rw [St.box_none]
  exact ⟨fun ⟨h, k⟩ => ⟨⟨⟨h⟩, ⟨h.symm⟩⟩, k⟩, fun ⟨h, k⟩ => ⟨h.1.ne, k⟩⟩
theorem St.tip_noneA {σ : St} {τ υ : Nat} {x : Nat × Nat × Nat} : (σ.setTip τ x).tip υ = none ↔ (Apart υ τ ∧ Apart τ υ) ∧ σ.tip υ = none := by
  rw [St.tip_none]
  exact ⟨fun ⟨h, k⟩ => ⟨⟨⟨h⟩, ⟨h.symm⟩⟩, k⟩, fun ⟨h, k⟩ => ⟨h.1.ne, k⟩⟩
theorem St.box_otherA (σ : St) {β γ : Nat} [h : Apart γ β] (c : List AV) : (σ.setBox β c).box γ = σ.box γ := St.box_other σ c h.ne
theorem St.tip_otherA (σ : St) {τ υ : Nat} [h : Apart υ τ] (x : Nat × Nat × Nat) : (σ.setTip τ x).tip υ = σ.tip υ := St.tip_other σ x h.ne
theorem St.set_overA (σ : St) {β γ : Nat} [h : Apart γ β] (a b c : List AV) : ((σ.setBox β a).setBox γ b).setBox β c = (σ.setBox β c).setBox γ b := St.set_over σ h.ne a b c
theorem St.set_overA2 (σ : St) {β γ δ : Nat} [h : Apart γ β] [k : Apart δ β] (a b c d : List AV) : (((σ.setBox β a).setBox γ b).setBox δ d).setBox β c = ((σ.setBox β c).setBox γ b).setBox δ d := St.set_over2 σ h.ne k.ne a b c d
theorem St.set_overA3 (σ : St) {β γ δ ε : Nat} [h : Apart γ β] [k : Apart δ β] [l : Apart ε β] (a b c d e : List AV) : ((((σ.setBox β a).setBox γ b).setBox δ d).setBox ε e).setBox β c = (((σ.setBox β c).setBox γ b).setBox δ d).setBox ε e := St.set_over3 σ h.ne k.ne l.ne a b c d e
theorem St.tip_overA (σ : St) {τ υ : Nat} [h : Apart υ τ] (x y z : Nat × Nat × Nat) : ((σ.setTip τ x).setTip υ y).setTip τ z = (σ.setTip τ z).setTip υ y := St.tip_over σ h.ne x y z
class BoxIs (σ : St) (β : Nat) (c : outParam (List AV)) : Prop where
  eq : σ.box β = some c
theorem St.box_is (σ : St) (β : Nat) {c : List AV} [h : BoxIs σ β c] : σ.box β = some c := h.eq
theorem apart_is {σ : St} {β γ : Nat} {c : List AV} (h : BoxIs σ β c) (hn : σ.box γ = none) : Apart γ β ∧ Apart β γ := by
  have : γ ≠ β := by rintro rfl; rw [h.eq] at hn; cases hn
  exact ⟨⟨this⟩, ⟨this.symm⟩⟩
theorem maxLen_lt : maxLen ≤ 9223372036854775807 := by unfold maxLen; omega
theorem wrap_k {k : Nat} (h : k < 9223372036854775807) : IntKind.i64.wrap ((k : Int) + 1) = ((k + 1 : Nat) : Int) := by
  rw [wrap64 (by omega) (by omega)]; simp
theorem wk_k {k : Nat} (h : k < 9223372036854775807) : wk (.int .i64 (IntKind.i64.wrap ((k : Int) + 1))) (.int .i64 ((k + 1 : Nat) : Int)) := wk_of_eq (by rw [wrap_k h])
theorem loopV_tip {P : Program} {x : CC} {fr : Fr} {σ : St} {Q : Exit → Fr → St → Prop} {h : Hold (x, σ, Q)} {α : Type} (t e s n : Nat) (cs : List AV) (F : Nat → α → Fr) (S : Nat → α → St) (I : α → Prop) (μ : α → Nat) (a0 : α)
    (hf : fresh (slot t fr)) (hs : slv (slot t fr) = some (n, cs)) (h0 : I a0) (hF : ∀ τ, σ.tip τ = none → subF (F τ a0) ((t, .tsl τ n cs) :: fr)) (hS : ∀ τ, σ.tip τ = none → St.le (S τ a0) (σ.setTip τ (e, s, n)))
    (hr : ∀ τ, σ.tip τ = none → ∀ a, I a → aC P x (F τ a) (S τ a) (loopK (fun fr' σ' => ∃ b, I b ∧ subF (F τ b) fr' ∧ St.le (S τ b) σ' ∧ μ b < μ a) Q)) : loopV P x fr σ Q h := by
  refine ⟨[(false, t, 0, e, s)], ?_⟩
  simp only [startP]
  refine ⟨hf, ?_⟩
  rw [hs]
  intro τ hτ
  refine ⟨α, F τ, S τ, I, μ, a0, h0, hF τ hτ, hS τ hτ, fun a ha => ?_⟩
  have := hr τ hτ a ha
  unfold loopK at this
  exact this
theorem appV_tslK {σ : St} {K : AV → St → Prop} {tp : Bool} {e es bytes τ n m : Nat} {cs ds : List AV} {y : AV} {h : Hold (σ, K)} (hy : slv y = some (m, ds)) (ht : σ.tip τ = some (e, es, n)) (h1 : cs.length = n * es) (h2 : ds.length = m * es) (h3 : n + m ≤ maxLen) (h4 : (n + m) * bytes ≤ 140737488355328)
    (hK : K (.tsl τ (n + m) (cs ++ ds)) (σ.setTip τ (e, es, n + m))) : appV tp e es bytes (.tsl τ n cs) y σ K h := by
  rw [appV_tsl hy]; exact ⟨ht, h1, h2, h3, h4, hK⟩
theorem loopV_forT {P : Program} {x : CC} {fr : Fr} {σ : St} {Q : Exit → Fr → St → Prop} {h : Hold (x, σ, Q)} (N t e s n : Nat) (cs : List AV) (F : Nat → Nat → Fr) (S : Nat → Nat → St) (I : Nat → Prop)
    (hf : fresh (slot t fr)) (hs : slv (slot t fr) = some (n, cs)) (h0 : I 0) (hF : ∀ τ, subF (F τ 0) ((t, .tsl τ n cs) :: fr)) (hS : ∀ τ, σ.tip τ = none → St.le (S τ 0) (σ.setTip τ (e, s, n)))
    (hr : ∀ τ, σ.tip τ = none → ∀ k, k ≤ N → I k → aC P x (F τ k) (S τ k) (loopK (fun fr' σ' => k < N ∧ I (k + 1) ∧ subF (F τ (k + 1)) fr' ∧ St.le (S τ (k + 1)) σ') Q)) : loopV P x fr σ Q h := by
  refine loopV_tip (α := Nat) t e s n cs F S (fun k => k ≤ N ∧ I k) (fun k => N - k) 0 hf hs ⟨Nat.zero_le _, h0⟩ (fun τ _ => hF τ) hS (fun τ hτ k hk => ?_)
  refine aC_mono _ _ _ (hr τ hτ k hk.1 hk.2) (fun e fr' σ' hq => ?_)
  unfold loopK at hq ⊢
  cases e with
  | normal => simp only at hq ⊢; exact ⟨k + 1, ⟨hq.1, hq.2.1⟩, hq.2.2.1, hq.2.2.2, by omega⟩
  | _ => exact hq
def Tp (P : Program) (f : Nat) (xs : List AV) (e es n : Nat) (cs : List AV) : Prop := ∀ σ, AC P f xs σ (fun r s => ∃ τ, σ.tip τ = none ∧ r = .tsl τ n cs ∧ s = σ.setTip τ (e, es, n))
theorem Tp.pu {P : Program} {f : Nat} {xs : List AV} {e es n : Nat} {cs : List AV} (h : Tp P f xs e es n cs) : Pu P f xs (.sl false n cs) := fun σ =>
  (h σ).weaken fun r s ⟨τ, h1, h2, h3⟩ => ⟨.sl false n cs, σ, by rw [h2]; exact wk_tsl _ _ _, by rw [h3]; exact St.le_newT (St.le_refl _) h1, rfl, rfl⟩
theorem Tp.to {P : Program} {f : Nat} {xs ys : List AV} {e es n : Nat} {cs : List AV} {σ : St} {K : AV → St → Prop} (h : Tp P f ys e es n cs) (hw : wkL xs ys) (hK : ∀ τ, σ.tip τ = none → K (.tsl τ n cs) (σ.setTip τ (e, es, n))) : AC P f xs σ K :=
  ((h σ).wk hw).mono fun r s ⟨τ, h1, h2, h3⟩ => by rw [h2, h3]; exact hK τ h1
theorem endP_tip {res : List RV} {e1 : Exit} {fr : Fr} {σ0 σ : St} {n : Nat} {cs : List AV} {x : Nat × Nat × Nat} (τ : Nat) (hτ : σ0.tip τ = none) (he : e1 = .ret ∨ e1 = .normal) (hs : rvsS σ fr res) (hw : wk (resAV (res.map (rvV σ fr))) (.tsl τ n cs)) (hl : St.le (σ0.setTip τ x) σ) :
    endP res (fun r s => ∃ τ, σ0.tip τ = none ∧ r = .tsl τ n cs ∧ s = σ0.setTip τ x) e1 fr σ := endP_intro he hs hw hl ⟨τ, hτ, rfl, rfl⟩
theorem endP_id {res : List RV} {R : AV → St → Prop} {e1 : Exit} {fr : Fr} {σ : St} (he : e1 = .ret ∨ e1 = .normal) (hs : rvsS σ fr res) (h : R (resAV (res.map (rvV σ fr))) σ) : endP res R e1 fr σ :=
  endP_intro he hs (wk_refl _) (St.le_refl _) h
end Go.Abs
namespace Go.Abs
theorem appD_tslK {tp : Bool} {σ : St} {K : AV → St → Prop} {c e es bytes τ n m : Nat} {cs ds : List AV} {y : AV} {h : Hold (σ, K)} (hc : c = 2 ∨ c = 4) (hy : slv y = some (m, ds)) (ht : σ.tip τ = some (e, es, n)) (h1 : cs.length = n * es) (h2 : ds.length = m * es) (h3 : n + m ≤ maxLen) (h4 : (n + m) * bytes ≤ 140737488355328)
    (hK : K (.tsl τ (n + m) (cs ++ ds)) (σ.setTip τ (e, es, n + m))) : appD tp c e es bytes (.tsl τ n cs) y σ K h := by
  have key : ∀ β, appS tp c e es bytes (.tsl τ n cs) y σ K β := by
    intro β
    refine ⟨_, _, ⟨hc, ?_⟩, hK⟩
    rw [hy]
    exact ⟨ht, h1, h2, h3, h4, rfl, rfl⟩
  unfold appD
  cases tp && Nat.beq c 4
  · exact key 0
  · exact fun β _ => key β
theorem St.le_setTc {s s' : St} {τ : Nat} {x : Nat × Nat × Nat} (h : St.le s s') : St.le (s.setTip τ x) (s'.setTip τ x) := by
  refine ⟨h.1, fun υ y hy => ?_, h.2.2⟩
  simp only [St.setTip, upd] at hy ⊢
  split
  · rename_i e; rw [if_pos e] at hy; exact hy
  · rename_i e; rw [if_neg e] at hy; exact h.2.1 υ y hy
end Go.Abs
namespace Go.Abs
theorem R3 : type_of% (And.intro @Bool.and_true (And.intro @Bool.true_and (And.intro @Bool.and_false (And.intro @Bool.false_and (And.intro @Bool.or_true (And.intro @Bool.true_or (And.intro @Bool.or_false (And.intro @Bool.false_or (And.intro @appV_tsl (And.intro @St.box_same (And.intro @St.box_is (And.intro @St.box_otherA (And.intro @St.set_set (And.intro @St.set_overA (And.intro @St.set_overA2 (And.intro @St.set_overA3 (And.intro @St.tip_set (And.intro @St.box_tip (And.intro @St.glob_tip (And.intro @St.tip_same (And.intro @St.tip_otherA (And.intro @St.set_tip (And.intro @St.setTip_setTip (And.intro @St.tip_overA (And.intro @St.glob_set (And.intro @Nat.zero_add (And.intro @Nat.add_zero (And.intro @true_and (And.intro @and_true (And.intro @beq_true (And.intro @beq_false (And.intro @Int.toNat_natCast (And.intro @IntKind.max_i64 (And.intro @true_implies (And.intro @false_implies (And.intro @and_self (And.intro @Bool.not_true (And.intro @Bool.not_false (And.intro @Bool.cond_true_left (And.intro @Bool.cond_false_left (And.intro @Bool.cond_true_right (And.intro @Bool.cond_false_right (And.intro @imp_self (And.intro @Bool.not_eq_true' (And.intro @Int.toNat_zero (And.intro @Nat.sub_zero (And.intro @Nat.zero_mul (And.intro @List.length_cons.{0} (And.intro @List.length_nil.{0} (And.intro @List.take_succ_cons.{0} (And.intro @List.take_zero.{0} (And.intro @List.drop_succ_cons.{0} (And.intro @List.drop_zero.{0} (And.intro @List.cons_append.{0} (And.intro @List.nil_append.{0} (And.intro @List.append_nil.{0} (And.intro @List.getElem?_cons_zero.{0} (And.intro @List.getElem?_cons_succ.{0} (And.intro @Option.getD_some.{0} (And.intro @Option.isSome_some.{0} (And.intro @Option.isSome_none.{0} (And.intro @bne_self_eq_false.{0} (And.intro @beq_self_eq_true.{0} (And.intro @Option.toList_none.{0} (And.intro @Option.toList_some.{0} (And.intro @Option.map_some.{0, 0} (And.intro @List.map_cons.{0, 0} (And.intro @List.map_nil.{0, 0} (And.intro @Option.map_none.{0, 0} (And.intro @cond_true.{1} (And.intro @cond_true.{0} (And.intro @cond_false.{1} (And.intro @cond_false.{0} (And.intro @ite_true.{1} (And.intro @ite_true.{0} (And.intro @ite_false.{1} (And.intro @ite_false.{0} (And.intro @if_true.{1} (And.intro @if_true.{0} (And.intro @if_false.{1} (And.intro @if_false.{0} (And.intro @implies_true.{1} (And.intro @implies_true.{0} (And.intro @forall_const.{1} (And.intro @forall_const.{0} (And.intro @eq_self.{1} (@eq_self.{0}))))))))))))))))))))))))))))))))))))))))))))))))))))))))))))))))))))))))))))))))))))))) := And.intro @Bool.and_true (And.intro @Bool.true_and (And.intro @Bool.and_false (And.intro @Bool.false_and (And.intro @Bool.or_true (And.intro @Bool.true_or (And.intro @Bool.or_false (And.intro @Bool.false_or (And.intro @appV_tsl (And.intro @St.box_same (And.intro @St.box_is (And.intro @St.box_otherA (And.intro @St.set_set (And.intro @St.set_overA (And.intro @St.set_overA2 (And.intro @St.set_overA3 (And.intro @St.tip_set (And.intro @St.box_tip (And.intro @St.glob_tip (And.intro @St.tip_same (And.intro @St.tip_otherA (And.intro @St.set_tip (And.intro @St.setTip_setTip (And.intro @St.tip_overA (And.intro @St.glob_set (And.intro @Nat.zero_add (And.intro @Nat.add_zero (And.intro @true_and (And.intro @and_true (And.intro @beq_true (And.intro @beq_false (And.intro @Int.toNat_natCast (And.intro @IntKind.max_i64 (And.intro @true_implies (And.intro @false_implies (And.intro @and_self (And.intro @Bool.not_true (And.intro @Bool.not_false (And.intro @Bool.cond_true_left (And.intro @Bool.cond_false_left (And.intro @Bool.cond_true_right (And.intro @Bool.cond_false_right (And.intro @imp_self (And.intro @Bool.not_eq_true' (And.intro @Int.toNat_zero (And.intro @Nat.sub_zero (And.intro @Nat.zero_mul (And.intro @List.length_cons.{0} (And.intro @List.length_nil.{0} (And.intro @List.take_succ_cons.{0} (And.intro @List.take_zero.{0} (And.intro @List.drop_succ_cons.{0} (And.intro @List.drop_zero.{0} (And.intro @List.cons_append.{0} (And.intro @List.nil_append.{0} (And.intro @List.append_nil.{0} (And.intro @List.getElem?_cons_zero.{0} (And.intro @List.getElem?_cons_succ.{0} (And.intro @Option.getD_some.{0} (And.intro @Option.isSome_some.{0} (And.intro @Option.isSome_none.{0} (And.intro @bne_self_eq_false.{0} (And.intro @beq_self_eq_true.{0} (And.intro @Option.toList_none.{0} (And.intro @Option.toList_some.{0} (And.intro @Option.map_some.{0, 0} (And.intro @List.map_cons.{0, 0} (And.intro @List.map_nil.{0, 0} (And.intro @Option.map_none.{0, 0} (And.intro @cond_true.{1} (And.intro @cond_true.{0} (And.intro @cond_false.{1} (And.intro @cond_false.{0} (And.intro @ite_true.{1} (And.intro @ite_true.{0} (And.intro @ite_false.{1} (And.intro @ite_false.{0} (And.intro @if_true.{1} (And.intro @if_true.{0} (And.intro @if_false.{1} (And.intro @if_false.{0} (And.intro @implies_true.{1} (And.intro @implies_true.{0} (And.intro @forall_const.{1} (And.intro @forall_const.{0} (And.intro @eq_self.{1} (@eq_self.{0}))))))))))))))))))))))))))))))))))))))))))))))))))))))))))))))))))))))))))))))))))))))
end Go.Abs
