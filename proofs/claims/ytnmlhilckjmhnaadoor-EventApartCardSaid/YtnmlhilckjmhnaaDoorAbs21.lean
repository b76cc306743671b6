/-
  States: boxes and tips in a normal form (for simp with omega as its discharger); loops that append to one slice of their own.
-/
import Derived.Test.YtnmlhilckjmhnaaDoorAbs17
namespace Go.Abs
theorem St.set_over (σ : St) {β γ : Nat} (h : γ ≠ β) (a b c : List AV) : ((σ.setBox β a).setBox γ b).setBox β c = (σ.setBox β c).setBox γ b := by
  rw [St.set_comm (σ.setBox β a) h, St.set_set]
theorem St.set_over2 (σ : St) {β γ δ : Nat} (h : γ ≠ β) (k : δ ≠ β) (a b c d : List AV) : (((σ.setBox β a).setBox γ b).setBox δ d).setBox β c = ((σ.setBox β c).setBox γ b).setBox δ d := by
  rw [St.set_comm ((σ.setBox β a).setBox γ b) k, St.set_over σ h]
theorem St.set_over3 (σ : St) {β γ δ ε : Nat} (h : γ ≠ β) (k : δ ≠ β) (l : ε ≠ β) (a b c d e : List AV) : ((((σ.setBox β a).setBox γ b).setBox δ d).setBox ε e).setBox β c = (((σ.setBox β c).setBox γ b).setBox δ d).setBox ε e := by
  rw [St.set_comm (((σ.setBox β a).setBox γ b).setBox δ d) l, St.set_over2 σ h k]
theorem St.tip_set (σ : St) (β : Nat) (c : List AV) : (σ.setBox β c).tip = σ.tip := rfl
theorem St.box_tip (σ : St) (τ : Nat) (x : Nat × Nat × Nat) : (σ.setTip τ x).box = σ.box := rfl
theorem St.glob_tip (σ : St) (τ : Nat) (x : Nat × Nat × Nat) : (σ.setTip τ x).glob = σ.glob := rfl
theorem St.tip_same (σ : St) (τ : Nat) (x : Nat × Nat × Nat) : (σ.setTip τ x).tip τ = some x := by simp [St.setTip, upd]
theorem St.tip_other (σ : St) {τ υ : Nat} (x : Nat × Nat × Nat) (h : υ ≠ τ) : (σ.setTip τ x).tip υ = σ.tip υ := by simp [St.setTip, upd, h]
theorem St.tip_none {σ : St} {τ υ : Nat} {x : Nat × Nat × Nat} : (σ.setTip τ x).tip υ = none ↔ υ ≠ τ ∧ σ.tip υ = none := upd_none
theorem St.set_tip (σ : St) (τ β : Nat) (x : Nat × Nat × Nat) (c : List AV) : (σ.setTip τ x).setBox β c = (σ.setBox β c).setTip τ x := rfl
theorem St.setTip_setTip (σ : St) (τ : Nat) (x y : Nat × Nat × Nat) : (σ.setTip τ x).setTip τ y = σ.setTip τ y := by
  simp only [St.setTip, St.mk.injEq, true_and, and_true]
  funext j; simp only [upd]; split <;> rfl
theorem St.tip_comm (σ : St) {τ υ : Nat} (h : τ ≠ υ) (x y : Nat × Nat × Nat) : (σ.setTip τ x).setTip υ y = (σ.setTip υ y).setTip τ x := by
  simp only [St.setTip, St.mk.injEq, true_and, and_true]
  funext j; simp only [upd]
  by_cases h1 : j = τ <;> by_cases h2 : j = υ <;> simp_all
theorem St.tip_over (σ : St) {τ υ : Nat} (h : υ ≠ τ) (x y z : Nat × Nat × Nat) : ((σ.setTip τ x).setTip υ y).setTip τ z = (σ.setTip τ z).setTip υ y := by
  rw [St.tip_comm (σ.setTip τ x) h, St.setTip_setTip]
theorem St.le_newT {σ σ' : St} {τ : Nat} {c : Nat × Nat × Nat} (h : St.le σ σ') (hn : σ.tip τ = none) : St.le σ (σ'.setTip τ c) := St.le_setTip h hn

/-- Two names are different; told to simp by the instances in the context. -/
class Apart (β γ : Nat) : Prop where
  ne : β ≠ γ
theorem St.box_noneA {σ : St} {β γ : Nat} {c : List AV} : (σ.setBox β c).box γ = none ↔ (Apart γ β ∧ Apart β γ) ∧ σ.box γ = none := by
  rw [St.box_none]
  exact ⟨fun ⟨h, k⟩ => ⟨⟨⟨h⟩, ⟨h.symm⟩⟩, k⟩, fun ⟨h, k⟩ => ⟨h.1.ne, k⟩⟩
theorem St.tip_noneA {σ : St} {τ υ : Nat} {x : Nat × Nat × Nat} : (σ.setTip τ x).tip υ = none ↔ (Apart υ τ ∧ Apart τ υ) ∧ σ.tip υ = none := by
  rw [St.tip_none]
  exact ⟨fun ⟨h, k⟩ => ⟨⟨⟨h⟩, ⟨h.symm⟩⟩, k⟩, fun ⟨h, k⟩ => ⟨h.1.ne, k⟩⟩
theorem St.box_otherA (σ : St) {β γ : Nat} [h : Apart γ β] (c : List AV) : (σ.setBox β c).box γ = σ.box γ := St.box_other σ c h.ne
theorem St.tip_otherA (σ : St) {τ υ : Nat} [h : Apart υ τ] (x : Nat × Nat × Nat) : (σ.setTip τ x).tip υ = σ.tip υ := St.tip_other σ x h.ne
theorem St.set_overA (σ : St) {β γ : Nat} [h : Apart γ β] (a b c : List AV) : ((σ.setBox β a).setBox γ b).setBox β c = (σ.setBox β c).setBox γ b := St.set_over σ h.ne a b c
theorem St.set_overA2 (σ : St) {β γ δ : Nat} [h : Apart γ β] [k : Apart δ β] (a b c d : List AV) : (((σ.setBox β a).setBox γ b).setBox δ d).setBox β c = ((σ.setBox β c).setBox γ b).setBox δ d := St.set_over2 σ h.ne k.ne a b c d
theorem St.set_overA3 (σ : St) {β γ δ ε : Nat} [h : Apart γ β] [k : Apart δ β] [l : Apart ε β] (a b c d e : List AV) : ((((σ.setBox β a).setBox γ b).setBox δ d).setBox ε e).setBox β c = (((σ.setBox β c).setBox γ b).setBox δ d).setBox ε e := St.set_over3 σ h.ne k.ne l.ne a b c d e
theorem St.tip_overA (σ : St) {τ υ : Nat} [h : Apart υ τ] (x y z : Nat × Nat × Nat) : ((σ.setTip τ x).setTip υ y).setTip τ z = (σ.setTip τ z).setTip υ y := St.tip_over σ h.ne x y z

/-- What lies in a box of the state at the start; told to simp by the instances in the context. -/
class BoxIs (σ : St) (β : Nat) (c : outParam (List AV)) : Prop where
  eq : σ.box β = some c
theorem St.box_is (σ : St) (β : Nat) {c : List AV} [h : BoxIs σ β c] : σ.box β = some c := h.eq
theorem apart_is {σ : St} {β γ : Nat} {c : List AV} (h : BoxIs σ β c) (hn : σ.box γ = none) : Apart γ β ∧ Apart β γ := by
  have : γ ≠ β := by rintro rfl; rw [h.eq] at hn; cases hn
  exact ⟨⟨this⟩, ⟨this.symm⟩⟩
/-- A place of a list; told to simp by the instances in the context. -/
class InR (k n : Nat) : Prop where
  lt : k < n
theorem maxLen_lt : maxLen ≤ 9223372036854775807 := by unfold maxLen; omega
theorem wrap_k {k : Nat} (h : k < 9223372036854775807) : IntKind.i64.wrap ((k : Int) + 1) = ((k + 1 : Nat) : Int) := by
  rw [wrap64 (by omega) (by omega)]; simp
theorem wk_k {k : Nat} (h : k < 9223372036854775807) : wk (.int .i64 (IntKind.i64.wrap ((k : Int) + 1))) (.int .i64 ((k + 1 : Nat) : Int)) := wk_of_eq (by rw [wrap_k h])

/-- A loop that appends to one slice of its own. -/
theorem loopV_tip {P : Program} {x : CC} {fr : Fr} {σ : St} {Q : Exit → Fr → St → Prop} {h : Hold (x, σ, Q)} {α : Type} (t e s n : Nat) (cs : List AV) (F : Nat → α → Fr) (S : Nat → α → St) (I : α → Prop) (μ : α → Nat) (a0 : α)
    (hf : fresh (slot t fr)) (hs : slv (slot t fr) = some (n, cs)) (h0 : I a0) (hF : ∀ τ, σ.tip τ = none → subF (F τ a0) ((t, .tsl τ n cs) :: fr)) (hS : ∀ τ, σ.tip τ = none → St.le (S τ a0) (σ.setTip τ (e, s, n)))
    (hr : ∀ τ, σ.tip τ = none → ∀ a, I a → aC P x (F τ a) (S τ a) (loopK (fun fr' σ' => ∃ b, I b ∧ subF (F τ b) fr' ∧ St.le (S τ b) σ' ∧ μ b < μ a) Q)) : loopV P x fr σ Q h := by
  refine ⟨[(false, t, 0, e, s)], ?_⟩
  simp only [startP]
  refine ⟨hf, ?_⟩
  rw [hs]
  intro τ hτ
  refine ⟨α, F τ, S τ, I, μ, a0, h0, hF τ hτ, hS τ hτ, fun a ha => ?_⟩
  have := hr τ hτ a ha
  unfold loopK at this
  exact this
theorem appV_tslK {σ : St} {K : AV → St → Prop} {tp : Bool} {e es bytes τ n m : Nat} {cs ds : List AV} {y : AV} {h : Hold (σ, K)} (hy : slv y = some (m, ds)) (ht : σ.tip τ = some (e, es, n)) (h1 : cs.length = n * es) (h2 : ds.length = m * es) (h3 : n + m ≤ maxLen) (h4 : (n + m) * bytes ≤ 140737488355328)
    (hK : K (.tsl τ (n + m) (cs ++ ds)) (σ.setTip τ (e, es, n + m))) : appV tp e es bytes (.tsl τ n cs) y σ K h := by
  rw [appV_tsl hy]; exact ⟨ht, h1, h2, h3, h4, hK⟩

/-- A loop over the numbers from 0 that appends to one slice of its own; what else changes is told by the number. -/
theorem loopV_forT {P : Program} {x : CC} {fr : Fr} {σ : St} {Q : Exit → Fr → St → Prop} {h : Hold (x, σ, Q)} (N t e s n : Nat) (cs : List AV) (F : Nat → Nat → Fr) (S : Nat → Nat → St) (I : Nat → Prop)
    (hf : fresh (slot t fr)) (hs : slv (slot t fr) = some (n, cs)) (h0 : I 0) (hF : ∀ τ, subF (F τ 0) ((t, .tsl τ n cs) :: fr)) (hS : ∀ τ, σ.tip τ = none → St.le (S τ 0) (σ.setTip τ (e, s, n)))
    (hr : ∀ τ, σ.tip τ = none → ∀ k, k ≤ N → I k → aC P x (F τ k) (S τ k) (loopK (fun fr' σ' => k < N ∧ I (k + 1) ∧ subF (F τ (k + 1)) fr' ∧ St.le (S τ (k + 1)) σ') Q)) : loopV P x fr σ Q h := by
  refine loopV_tip (α := Nat) t e s n cs F S (fun k => k ≤ N ∧ I k) (fun k => N - k) 0 hf hs ⟨Nat.zero_le _, h0⟩ (fun τ _ => hF τ) hS (fun τ hτ k hk => ?_)
  refine aC_mono _ _ _ (hr τ hτ k hk.1 hk.2) (fun e fr' σ' hq => ?_)
  unfold loopK at hq ⊢
  cases e with
  | normal => simp only at hq ⊢; exact ⟨k + 1, ⟨hq.1, hq.2.1⟩, hq.2.2.1, hq.2.2.2, by omega⟩
  | _ => exact hq
/-- A call whose answer is one list, to which may be appended. -/
def Tp (P : Program) (f : Nat) (xs : List AV) (e es n : Nat) (cs : List AV) : Prop := ∀ σ, AC P f xs σ (fun r s => ∃ τ, σ.tip τ = none ∧ r = .tsl τ n cs ∧ s = σ.setTip τ (e, es, n))
theorem Tp.pu {P : Program} {f : Nat} {xs : List AV} {e es n : Nat} {cs : List AV} (h : Tp P f xs e es n cs) : Pu P f xs (.sl false n cs) := fun σ =>
  (h σ).weaken fun r s ⟨τ, h1, h2, h3⟩ => ⟨.sl false n cs, σ, by rw [h2]; exact wk_tsl _ _ _, by rw [h3]; exact St.le_newT (St.le_refl _) h1, rfl, rfl⟩
theorem Tp.to {P : Program} {f : Nat} {xs ys : List AV} {e es n : Nat} {cs : List AV} {σ : St} {K : AV → St → Prop} (h : Tp P f ys e es n cs) (hw : wkL xs ys) (hK : ∀ τ, σ.tip τ = none → K (.tsl τ n cs) (σ.setTip τ (e, es, n))) : AC P f xs σ K :=
  ((h σ).wk hw).mono fun r s ⟨τ, h1, h2, h3⟩ => by rw [h2, h3]; exact hK τ h1
theorem endP_tip {res : List RV} {e1 : Exit} {fr : Fr} {σ0 σ : St} {n : Nat} {cs : List AV} {x : Nat × Nat × Nat} (τ : Nat) (hτ : σ0.tip τ = none) (he : e1 = .ret ∨ e1 = .normal) (hs : rvsS σ fr res) (hw : wk (resAV (res.map (rvV σ fr))) (.tsl τ n cs)) (hl : St.le (σ0.setTip τ x) σ) :
    endP res (fun r s => ∃ τ, σ0.tip τ = none ∧ r = .tsl τ n cs ∧ s = σ0.setTip τ x) e1 fr σ := endP_intro he hs hw hl ⟨τ, hτ, rfl, rfl⟩
/-- A state that says less: boxes hold weaker values, tips and boxes are forgotten. -/
def St.lw (s s' : St) : Prop := (∀ β c, s.box β = some c → ∃ c', s'.box β = some c' ∧ wkL c' c) ∧ (∀ τ x, s.tip τ = some x → s'.tip τ = some x) ∧ (∀ k c, s.glob k = some c → s'.glob k = some c) ∧ (∀ l r, s.lp l = some r → s'.lp l = some r)
theorem St.lw_refl (s : St) : St.lw s s := ⟨fun _ c h => ⟨c, h, wkL_refl c⟩, fun _ _ h => h, fun _ _ h => h, fun _ _ h => h⟩
theorem St.lw_of_le {s s' : St} (h : St.le s s') : St.lw s s' := ⟨fun _ c k => ⟨c, h.1 _ _ k, wkL_refl c⟩, h.2.1, h.2.2⟩
theorem St.lw_set {s s' : St} {β : Nat} {c c' : List AV} (h : St.lw s s') (hc : wkL c' c) : St.lw (s.setBox β c) (s'.setBox β c') := by
  refine ⟨fun γ d hd => ?_, h.2⟩
  simp only [St.setBox, upd] at hd ⊢
  split
  · rename_i e; rw [if_pos e] at hd; cases hd; exact ⟨c', rfl, hc⟩
  · rename_i e; rw [if_neg e] at hd; exact h.1 γ d hd
theorem St.lw_new {s s' : St} {β : Nat} {c : List AV} (h : St.lw s s') (hn : s.box β = none) : St.lw s (s'.setBox β c) := by
  refine ⟨fun γ d hd => ?_, h.2⟩
  simp only [St.setBox, upd]
  split
  · rename_i e; subst e; rw [hn] at hd; cases hd
  · exact h.1 γ d hd
theorem St.lw_newT {s s' : St} {τ : Nat} {x : Nat × Nat × Nat} (h : St.lw s s') (hn : s.tip τ = none) : St.lw s (s'.setTip τ x) := by
  refine ⟨h.1, fun υ y hy => ?_, h.2.2⟩
  simp only [St.setTip, upd]
  split
  · rename_i e; subst e; rw [hn] at hy; cases hy
  · exact h.2.1 υ y hy
theorem St.lw_setT {s s' : St} {τ : Nat} {x : Nat × Nat × Nat} (h : St.lw s s') : St.lw (s.setTip τ x) (s'.setTip τ x) := by
  refine ⟨h.1, fun υ y hy => ?_, h.2.2⟩
  simp only [St.setTip, upd] at hy ⊢
  split
  · rename_i e; rw [if_pos e] at hy; exact hy
  · rename_i e; rw [if_neg e] at hy; exact h.2.1 υ y hy
theorem St.lw_over {s s' : St} {β : Nat} {c : List AV} (h : St.lw s s') (hs : ∀ d, s.box β = some d → wkL c d) : St.lw s (s'.setBox β c) := by
  refine ⟨fun γ d hd => ?_, h.2⟩
  simp only [St.setBox, upd]
  split
  · rename_i e; subst e; exact ⟨c, rfl, hs d hd⟩
  · exact h.1 γ d hd
theorem Inv.lw {g : Gh} {s s' : St} {w : World} (h : Inv g s' w) (hl : St.lw s s') : Inv g s w := by
  refine ⟨fun β c hc => ?_, h.boxcl, h.boxinj, h.boxfresh, fun τ e z n hx => h.tip τ e z n (hl.2.1 _ _ hx), fun τ τ' x x' v v' b hx hx' => h.tipinj τ τ' x x' v v' b (hl.2.1 _ _ hx) (hl.2.1 _ _ hx'), h.tipfresh, fun k c hc => h.glob k c (hl.2.2.1 _ _ hc), fun l r hr => h.lp l r (hl.2.2.2 _ _ hr)⟩
  obtain ⟨c', h1, h2⟩ := hl.1 β c hc
  obtain ⟨b, vs, T, k1, k2, k3⟩ := h.box β c' h1
  exact ⟨b, vs, T, k1, k2, wkL_rel h2 k3.1, k3.2⟩
theorem AC.wkd {P : Program} {f : Nat} {xs : List AV} {σ : St} {R R' : AV → St → Prop} (h : AC P f xs σ R) (hr : ∀ r s, R r s → ∃ r' s', Go.Abs.wk r r' ∧ St.lw s' s ∧ R' r' s') : AC P f xs σ R' := by
  have hcp : ∀ g w e w', CP g w R e w' → CP g w R' e w' := by
    rintro g w e w' ⟨v, r, σ', g', h1, h2, h3, h4, h5⟩
    obtain ⟨r', s', k1, k2, k3⟩ := hr _ _ h2
    exact ⟨v, r', s', g', h1, k3, h3.lw k2, h4, k1 _ _ _ h5⟩
  intro g w vs hI hv
  rcases h g w vs hI hv with ⟨h1, h2⟩ | ⟨v, w', h1, h2⟩
  · exact .inl ⟨h1, h2.mono fun e w' => hcp g w e w'⟩
  · exact .inr ⟨v, w', h1, hcp _ _ _ _ h2⟩
/-- To prove a call's answer and state it is enough to answer something stronger. -/
theorem AC_introW {P : Program} {f : Nat} {xs : List AV} {σ : St} {r0 : AV} {s0 : St} (cf : CF) (hf : fB P f cf = true) (hn : xs.length ≤ cf.n) (h : aC P cf.body (initF 0 xs) σ (endP cf.res (fun r s => wk r r0 ∧ St.lw s0 s))) : AC P f xs σ (fun r s => r = r0 ∧ s = s0) :=
  (AC_intro cf hf hn h).wkd fun _ _ ⟨h1, h2⟩ => ⟨r0, s0, h1, h2, rfl, rfl⟩
theorem endP_W {res : List RV} {e1 : Exit} {fr : Fr} {s0 σ : St} {r0 : AV} (he : e1 = .ret ∨ e1 = .normal) (hs : rvsS σ fr res) (hw : wk (resAV (res.map (rvV σ fr))) r0) (hl : St.lw s0 σ) : endP res (fun r s => wk r r0 ∧ St.lw s0 s) e1 fr σ :=
  endP_intro he hs (wk_refl _) (St.le_refl _) ⟨hw, hl⟩
theorem wk_tslL {τ n : Nat} {ds es : List AV} (h : wkL ds es) : wk (.tsl τ n ds) (.tsl τ n es) := by
  intro g w v hv
  cases hv with
  | tsl0 _ x h1 => cases h; exact .tsl0 _ _ h1
  | tsl _ _ _ b off cap u h1 h2 h4 h5 h6 h7 =>
    obtain ⟨k1, k2, k3⟩ := wkL_pt h h5 h7
    exact .tsl τ n es b off cap u h1 h2 (by rw [k2]; exact h4) k1 h6 k3
theorem wkL_app {a b c d : List AV} (h : wkL a b) (k : wkL c d) : wkL (a ++ c) (b ++ d) := by
  induction h with
  | nil => exact k
  | cons h1 _ ih => exact .cons h1 ih
theorem endP_id {res : List RV} {R : AV → St → Prop} {e1 : Exit} {fr : Fr} {σ : St} (he : e1 = .ret ∨ e1 = .normal) (hs : rvsS σ fr res) (h : R (resAV (res.map (rvV σ fr))) σ) : endP res R e1 fr σ :=
  endP_intro he hs (wk_refl _) (St.le_refl _) h
end Go.Abs
