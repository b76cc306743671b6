/- Part 12 of the proof of RowBack: an abstract semantics that is proved sound for the model, contracts of functions in it, and plain facts (Abs18 Abs26 Abs27 Abs29 Abs30 RS Abs31 Abs28). No condition. -/
import Derived.Test.YtemddijemikleaaDoorKRowBack11
import Derived.Shelf.Strconv.Itoa4
set_option linter.all false
namespace Go.Abs
open Go.RowKit Go.Lib
def Gh.on (g : Gh) (w : World) : Gh := { g with cl := fun b => if b < w.heap.size then g.cl b else none }
section
variable {P : Program} {g : Gh} {σ : St} {w w' : World}
theorem Ext.below (g : Gh) (hb : Below w.heap.size w w') : Ext g w (g.on w) w' := by
  refine ⟨hb.os, hb.tape, hb.output, hb.size, fun β b h => h, fun β _ => rfl, Nat.le_refl _, Nat.le_refl _, fun m n v h => h, fun b h hc => ⟨by simp only [Gh.on, if_pos h]; exact hc, hb.block b h⟩, fun b F h hc => ⟨F, by simp only [Gh.on, if_pos h]; exact hc, Nat.le_refl _, fun i _ => World.cell?_of_block (hb.block b h)⟩, fun _ _ h => h, fun b us _ _ h => ⟨us, by rw [hb.block b (Array.getElem?_eq_some_iff.1 h).1]; exact h, rfl⟩⟩
theorem Inv.below (hI : Inv g σ w) (hb : Below w.heap.size w w') : Inv (g.on w) σ w' := by
  have he := Ext.below g hb
  refine ⟨fun β cs h => ?_, fun β b h => ?_, hI.boxinj, hI.boxfresh, fun τ e s n ht => ?_, hI.tipinj, hI.tipfresh, fun k cs hk => (hI.glob k cs hk).mono he, fun l r hl => by
    obtain ⟨q1, q2, q3⟩ := hI.lp l r hl
    have hlt := (Array.getElem?_eq_some_iff.1 q1).1
    exact ⟨by rw [hb.block l hlt]; exact q1, by simp only [Gh.on, if_pos hlt]; exact q2, fun t => (q3 t).mono he⟩, fun β T h => by
    obtain ⟨b, vs, h1, h2⟩ := hI.bty β T h
    exact ⟨b, vs, h1, by rw [hb.block b (hI.boxcl β b h1).1]; exact h2⟩⟩
  · obtain ⟨b, vs, T, h1, h2, h3⟩ := hI.box β cs h
    exact ⟨b, vs, T, h1, by rw [hb.block b (hI.boxcl β b h1).1]; exact h2, h3.mono he⟩
  · obtain ⟨h1, h2⟩ := hI.boxcl β b h
    exact ⟨Nat.lt_of_lt_of_le h1 hb.size, fun hl => by simp only [Gh.on, if_pos h1]; exact h2 hl⟩
  · obtain ⟨v, h1, h2, h4⟩ := hI.tip τ e s n ht
    refine ⟨v, h1, fun hs => ?_, h4⟩
    obtain ⟨xs, h2, h3⟩ := h2 hs
    refine ⟨xs, h2.kept (row := none) ⟨hb.os, hb.tape, hb.output, hb.size, fun k hk _ => hb.block k hk⟩ (by cases h : v.ownBlock <;> simp), fun b hbb => ?_⟩
    have hlt := (h2.lt b hbb).2
    obtain ⟨h5, h6⟩ := h3 b hbb
    exact ⟨by simp only [Gh.on, if_pos hlt]; exact h5, h6.1, h6.2.same (hb.block b hlt)⟩
theorem AC.of_calls {f : Nat} {xs : List AV} {r : AV} (he : ∀ args w, (callFunc f args).run P w = .ok (.enter f args) w)
    (h : ∀ g w (vs : List Value), Inv g σ w → RelL g w xs vs → Calls P f vs.toArray w (fun e w' => ∃ v, e = .returned v ∧ Below w.heap.size w w' ∧ ∀ g' , Ext g w g' w' → Rel g' w' r v)) : AC P f xs σ (fun x s => x = r ∧ s = σ) := by
  intro g w vs hI hv
  refine .inl ⟨he _ _, (h g w vs hI hv).mono ?_⟩
  rintro e w' ⟨v, rfl, hb, hr⟩
  exact ⟨v, r, σ, g.on w, rfl, ⟨rfl, rfl⟩, hI.below hb, Ext.below g hb, hr _ (Ext.below g hb)⟩
end
end Go.Abs
namespace Go.Abs
open Go.RowKit Go.Lib
def PuG (P : Program) (gl : List (Nat × List AV)) (f : Nat) (xs : List AV) (v : AV) : Prop := ∀ σ, (∀ k cs, look k gl = some cs → σ.glob k = some cs) → AC P f xs σ (fun r s => r = v ∧ s = σ)
theorem Pu.g {P : Program} {gl : List (Nat × List AV)} {f : Nat} {xs : List AV} {v : AV} (h : Pu P f xs v) : PuG P gl f xs v := fun σ _ => h σ
theorem law_callsG {P : Program} {gl : List (Nat × List AV)} {f : Nat} {cf : CF} {xs : List AV} {vs : List Value} {w : World} (hf : fB P f cf = true) (h : PuG P gl f xs (.bool true)) (hg : ∀ k cs, look k gl = some cs → GlobOk g0 w k cs) (hv : RelL g0 w xs vs) :
    Calls P f vs.toArray w (fun e w' => e = .returned (.bool true) ∧ Below w.heap.size w w') := by
  refine (calls_of (gl := fun k => look k gl) hf (h _ (fun k cs hk => hk)) hg hv).mono ?_
  rintro e w' ⟨u, g', rfl, hr, hb⟩
  rw [hr.bool_inv]
  exact ⟨rfl, hb⟩
end Go.Abs
namespace Go.Abs
end Go.Abs
namespace Go.Abs
theorem St.lp_box (σ : St) (β : Nat) (c : List AV) : (σ.setBox β c).lp = σ.lp := rfl
theorem St.lp_tip (σ : St) (τ : Nat) (x : Nat × Nat × Nat) : (σ.setTip τ x).lp = σ.lp := rfl
theorem St.lp_same (σ : St) (L : Nat) (x : Loop × Fr) : (σ.setLp L x).lp L = some x := by simp [St.setLp, upd]
theorem St.box_lp (σ : St) (L : Nat) (x : Loop × Fr) : (σ.setLp L x).box = σ.box := rfl
theorem St.tip_lp (σ : St) (L : Nat) (x : Loop × Fr) : (σ.setLp L x).tip = σ.tip := rfl
theorem St.glob_lp (σ : St) (L : Nat) (x : Loop × Fr) : (σ.setLp L x).glob = σ.glob := rfl
theorem St.setBox_setLp (σ : St) (β L : Nat) (c : List AV) (x : Loop × Fr) : (σ.setBox β c).setLp L x = (σ.setLp L x).setBox β c := rfl
theorem St.setTip_setLp (σ : St) (τ L : Nat) (y : Nat × Nat × Nat) (x : Loop × Fr) : (σ.setTip τ y).setLp L x = (σ.setLp L x).setTip τ y := rfl
theorem St.setLp_setLp (σ : St) (L : Nat) (x y : Loop × Fr) : (σ.setLp L x).setLp L y = σ.setLp L y := by
  simp only [St.setLp, St.mk.injEq, true_and, and_true]
  funext j; simp only [upd]; split <;> rfl
theorem St.drop_box (σ : St) (β L : Nat) (c : List AV) : (σ.setBox β c).dropLp L = (σ.dropLp L).setBox β c := rfl
theorem St.drop_tip (σ : St) (τ L : Nat) (y : Nat × Nat × Nat) : (σ.setTip τ y).dropLp L = (σ.dropLp L).setTip τ y := rfl
theorem St.drop_set {σ : St} {L : Nat} {x : Loop × Fr} (h : σ.lp L = none) : (σ.setLp L x).dropLp L = σ := by
  obtain ⟨b, t, g, l⟩ := σ
  simp only [St.setLp, St.dropLp, St.mk.injEq, true_and, and_true]
  funext j; simp only [upd]
  split
  · rename_i e; subst e; exact h.symm
  · rfl
def RF (P : Program) (f : Nat) (cap : List AV) (ps : List Nat) (asg body : CC) (fr : Fr) (σ : St) (Q : Exit → Fr → St → Prop) : Prop :=
  isFn P f = true ∧ ∀ (L : Nat) (r : Loop), σ.lp L = none → r.state = .ready → r.pending = none →
    (∀ (xs : List AV) (σ1 : St) (K : AV → St → Prop), xs.length = ps.length → σ1.lp L = some (r, fr) →
      aC P asg (putL ps xs fr) σ1 (fun e fr1 σ2 => e = .normal ∧ σ2.lp L = some (r, fr) ∧ aC P body fr1 (σ2.setLp L (busy r, fr)) (fun e _ σ3 => σ3.lp L = some (busy r, fr) ∧ match e with
        | .normal => K (.bool true) (σ3.setLp L (r, fr))
        | .ret => K (.bool false) (σ3.setLp L (left r .ret, fr))
        | .exit id => K (.bool false) (σ3.setLp L (left r (.exit id), fr))
        | _ => False)) → YC P L xs σ1 K) →
    AC P f (.yld L :: cap) (σ.setLp L (r, fr)) (fun _ s => (s.lp L = some (r, fr) ∧ Q .normal fr (s.dropLp L)) ∨ (s.lp L = some (left r .ret, fr) ∧ Q .ret fr (s.dropLp L)) ∨ ∃ id, s.lp L = some (left r (.exit id), fr) ∧ Q (.exit id) fr (s.dropLp L))
section
variable {P : Program} {σ : St} {fr : Fr} {Q : Exit → Fr → St → Prop} {K : AV → St → Prop} {x : Od} {ps : List Nat} {asg body : CC} {f : Nat} {cap xs ys : List AV} {v : AV} {gl : List (Nat × List AV)}
theorem rfunV_start {h : Hold (asg, body, fr, σ, Q)} (regs : List (Bool × Nat × Nat × Nat × Nat)) (hh : startP regs fr σ fun fr σ => ∃ f cap, ev σ fr x = .fn f cap ∧ RF P f cap ps asg body fr σ Q) : rfunV P x ps asg body fr σ Q h := by
  refine ⟨regs, startP_mono regs hh (fun fr σ hq => ?_)⟩
  obtain ⟨f, cap, h1, h2⟩ := hq
  rw [h1]
  exact h2
def GlobsOk (gl : List (Nat × List AV)) (σ : St) : Prop := ∀ k cs, look k gl = some cs → σ.glob k = some cs
theorem PuG.to (h : PuG P gl f ys v) (hg : GlobsOk gl σ) (hw : wkL xs ys) (hK : K v σ) : AC P f xs σ K :=
  AC.mono ((h σ hg).wk hw) (fun r s ⟨e1, e2⟩ => by subst e1; subst e2; exact hK)
def TpG (P : Program) (gl : List (Nat × List AV)) (f : Nat) (xs : List AV) (e es n : Nat) (cs : List AV) : Prop := ∀ σ, GlobsOk gl σ → AC P f xs σ (fun r s => ∃ τ, σ.tip τ = none ∧ r = .tsl τ n cs ∧ s = σ.setTip τ (e, es, n))
theorem TpG.to {e es n : Nat} {cs : List AV} (h : TpG P gl f ys e es n cs) (hg : GlobsOk gl σ) (hw : wkL xs ys) (hK : ∀ τ, σ.tip τ = none → K (.tsl τ n cs) (σ.setTip τ (e, es, n))) : AC P f xs σ K :=
  ((h σ hg).wk hw).mono fun r s ⟨τ, h1, h2, h3⟩ => by rw [h2, h3]; exact hK τ h1
theorem PuG.all (h : PuG P gl f ys v) (hw : wkL xs ys) (hg : GlobsOk gl σ) : ∀ σ2, St.le σ σ2 → AC P f xs σ2 (fun x s => x = v ∧ s = σ2) := fun σ2 hle => (h σ2 (fun k cs hk => hle.2.2.1 _ _ (hg k cs hk))).wk hw
def Bx (P : Program) (f : Nat) (xs : List AV) (cs : List AV) : Prop := ∀ σ, AC P f xs σ (fun r s => ∃ β, σ.box β = none ∧ r = .ptr β 0 ∧ s = σ.setBox β cs)
theorem Bx.to {cs : List AV} (h : Bx P f ys cs) (hw : wkL xs ys) (hK : ∀ β, σ.box β = none → K (.ptr β 0) (σ.setBox β cs)) : AC P f xs σ K :=
  ((h σ).wk hw).mono fun r s ⟨β, h1, h2, h3⟩ => by rw [h2, h3]; exact hK β h1
end
section
variable {P : Program} {σ : St} {ρ : Od → AV} {K : AV → St → Prop}
def appSV (e bytes : Nat) (a b : AV) (σ : St) (K : AV → St → Prop) (_ : Hold (σ, K)) : Prop := appSP e bytes a b σ K
def allocTV (T : Nat) (cs : List AV) (σ : St) (K : AV → St → Prop) (_ : Hold (σ, K)) : Prop := ∀ β, σ.box β = none → σ.bt β = none → K (.ptr β 0) ((σ.setBox β cs).setBt β T)
theorem aOp_appS {e bytes : Nat} {x y : Od} : aOp P ρ σ K (.appS e bytes x y) = appSV e bytes (ρ x) (ρ y) σ K ⟨⟩ := rfl
theorem aOp_allocT {T : Nat} {cs : List AV} : aOp P ρ σ K (.allocT T cs) = allocTV T cs σ K ⟨⟩ := rfl
theorem appSV_tsl {e bytes τ n : Nat} {cs : List AV} {l : List UInt8} {h : Hold (σ, K)} (h0 : l ≠ []) (ht : σ.tip τ = some (e, 1, n)) (hc : cs.length = n) (h1 : n + l.length ≤ maxLen) (h2 : (n + l.length) * bytes ≤ 140737488355328)
    (hK : K (.tsl τ (n + l.length) (cs ++ l.map fun b => .int .u8 b.toNat)) (σ.setTip τ (e, 1, n + l.length))) : appSV e bytes (.tsl τ n cs) (.str l) σ K h := ⟨h0, ht, by omega, h1, h2, hK⟩
theorem appSV_nil {e bytes : Nat} {l : List UInt8} {h : Hold (σ, K)} (h0 : l ≠ []) (h1 : l.length ≤ maxLen) (h2 : l.length * bytes ≤ 140737488355328)
    (hK : ∀ τ, σ.tip τ = none → K (.tsl τ l.length (l.map fun b => .int .u8 b.toNat)) (σ.setTip τ (e, 1, l.length))) : appSV e bytes .nils (.str l) σ K h := ⟨h0, h1, h2, hK⟩
theorem allocTV_i {T : Nat} {cs : List AV} {h : Hold (σ, K)} (hK : ∀ β, σ.box β = none → σ.bt β = none → K (.ptr β 0) ((σ.setBox β cs).setBt β T)) : allocTV T cs σ K h := hK
theorem St.box_bt (σ : St) (β T : Nat) : (σ.setBt β T).box = σ.box := rfl
theorem St.tip_bt (σ : St) (β T : Nat) : (σ.setBt β T).tip = σ.tip := rfl
theorem St.glob_bt (σ : St) (β T : Nat) : (σ.setBt β T).glob = σ.glob := rfl
theorem St.lp_bt (σ : St) (β T : Nat) : (σ.setBt β T).lp = σ.lp := rfl
theorem St.bt_box (σ : St) (β : Nat) (c : List AV) : (σ.setBox β c).bt = σ.bt := rfl
theorem St.bt_tip (σ : St) (τ : Nat) (x : Nat × Nat × Nat) : (σ.setTip τ x).bt = σ.bt := rfl
theorem St.bt_lp (σ : St) (L : Nat) (x : Loop × Fr) : (σ.setLp L x).bt = σ.bt := rfl
theorem St.bt_same (σ : St) (β T : Nat) : (σ.setBt β T).bt β = some T := by simp [St.setBt, upd]
theorem St.bt_setBox (σ : St) (β γ T : Nat) (c : List AV) : (σ.setBox γ c).setBt β T = (σ.setBt β T).setBox γ c := rfl
theorem St.bt_setTip (σ : St) (β τ T : Nat) (x : Nat × Nat × Nat) : (σ.setTip τ x).setBt β T = (σ.setBt β T).setTip τ x := rfl
theorem St.le_newBt {s s' : St} {β T : Nat} (h : St.le s s') (hn : s.bt β = none) : St.le s (s'.setBt β T) :=
  ⟨h.1, h.2.1, h.2.2.1, h.2.2.2.1, fun γ U k => by
    simp only [St.setBt, upd]
    split
    · rename_i e; subst e; rw [hn] at k; cases k
    · exact h.2.2.2.2 γ U k⟩
end
theorem R4 : type_of% (And.intro @aC_any (And.intro @anyK_done (And.intro @anyK_stop (And.intro @anyK_alt (And.intro @aOp_mkP (And.intro @pslV_eq (And.intro @aOp_s2b (And.intro @aOp_lenP (And.intro @aOp_ixQ (And.intro @aC_rfun (And.intro @callvV_yld (And.intro @aOp_b2sP (And.intro @aOp_slcP (And.intro @gdQ_b2sP (And.intro @St.lp_box (And.intro @St.lp_tip (And.intro @St.lp_same (And.intro @St.box_lp (And.intro @St.tip_lp (And.intro @St.glob_lp (And.intro @St.setBox_setLp (And.intro @St.setTip_setLp (And.intro @St.setLp_setLp (And.intro @St.drop_box (@St.drop_tip))))))))))))))))))))))))) := And.intro @aC_any (And.intro @anyK_done (And.intro @anyK_stop (And.intro @anyK_alt (And.intro @aOp_mkP (And.intro @pslV_eq (And.intro @aOp_s2b (And.intro @aOp_lenP (And.intro @aOp_ixQ (And.intro @aC_rfun (And.intro @callvV_yld (And.intro @aOp_b2sP (And.intro @aOp_slcP (And.intro @gdQ_b2sP (And.intro @St.lp_box (And.intro @St.lp_tip (And.intro @St.lp_same (And.intro @St.box_lp (And.intro @St.tip_lp (And.intro @St.glob_lp (And.intro @St.setBox_setLp (And.intro @St.setTip_setLp (And.intro @St.setLp_setLp (And.intro @St.drop_box (@St.drop_tip))))))))))))))))))))))))
end Go.Abs
namespace Go.Abs
set_option maxRecDepth 100000
theorem R5 : type_of% (And.intro @aDrw_callS <| And.intro @aC_inv <| And.intro @aOp_appS <| And.intro @aOp_appR <| And.intro @aOp_mkT <| And.intro @mkTV_eq <| And.intro @aOp_allocT <| And.intro @St.box_bt <| And.intro @St.tip_bt <| And.intro @St.glob_bt <| And.intro @St.lp_bt <| And.intro @St.bt_box <| And.intro @St.bt_tip <| And.intro @St.bt_lp <| And.intro @St.bt_same <| And.intro @St.bt_setBox <| And.intro @St.bt_setTip <| And.intro @memN.eq_1 <| And.intro @memN.eq_2 <| And.intro @aOp_asT <| And.intro @aDrw_asT <| And.intro @lookN.eq_1 <| And.intro @lookN.eq_2 <| And.intro @aOp_invk <| And.intro @invkV_eq <| And.intro @callO_eq <| And.intro @gdY_invk <| And.intro @gdN_invk <| And.intro @aOp_ldE <| And.intro @aDrw_ldE <| And.intro @keepF.eq_1 <| And.intro @keepF.eq_2 <| And.intro @initF.eq_1 <| And.intro @initF.eq_2 <| And.intro @putF.eq_1 <| And.intro @putF.eq_2 <| And.intro @guardC.eq_1 <| And.intro @guardC.eq_2 <| And.intro @guardC.eq_3 <| And.intro @guardC.eq_4 <| And.intro @CO.ods.eq_1 <| And.intro @CO.ods.eq_2 <| And.intro @CO.ods.eq_3 <| And.intro @CO.ods.eq_4 <| And.intro @CO.ods.eq_5 <| And.intro @CO.ods.eq_6 <| And.intro @CO.ods.eq_7 <| And.intro @CO.ods.eq_8 <| And.intro @CO.ods.eq_9 <| And.intro @CO.ods.eq_10 <| And.intro @CO.ods.eq_11 <| And.intro @CO.ods.eq_12 <| And.intro @CO.ods.eq_13 <| And.intro @CO.ods.eq_14 <| And.intro @CO.ods.eq_15 <| And.intro @CO.ods.eq_16 <| And.intro @CO.ods.eq_17 <| And.intro @CO.ods.eq_18 <| And.intro @CO.ods.eq_19 <| And.intro @CO.ods.eq_20 <| And.intro @CO.ods.eq_21 <| And.intro @CO.ods.eq_22 <| And.intro @CO.ods.eq_23 <| And.intro @CO.ods.eq_24 <| And.intro @CO.ods.eq_25 <| And.intro @CO.ods.eq_26 <| And.intro @CO.ods.eq_27 <| And.intro @CO.ods.eq_28 <| And.intro @CO.ods.eq_29 <| And.intro @CO.ods.eq_30 <| And.intro @CO.ods.eq_31 <| And.intro @CO.ods.eq_32 <| And.intro @CO.ods.eq_33 <| And.intro @CO.ods.eq_34 <| And.intro @CO.ods.eq_35 <| And.intro @CO.ods.eq_36 <| And.intro @CO.ods.eq_37 <| And.intro @CO.ods.eq_38 <| And.intro @CO.ods.eq_39 <| And.intro @CO.ods.eq_40 <| And.intro @CO.ods.eq_41 <| And.intro @CO.ods.eq_42 <| And.intro @CO.ods.eq_43 <| And.intro @optAll.eq_1 <| And.intro @optAll.eq_2 <| And.intro @evU.eq_1 <| And.intro @binV.eq_1 <| And.intro @binV.eq_2 <| And.intro @binV.eq_3 <| And.intro @binS.eq_1 <| And.intro @binS.eq_2 <| And.intro @binS.eq_3 <| And.intro @intV.eq_1 <| And.intro @intV.eq_2 <| And.intro @intV.eq_3 <| And.intro @intV.eq_4 <| And.intro @intV.eq_5 <| And.intro @intV.eq_6 <| And.intro @intV.eq_7 <| And.intro @intV.eq_8 <| And.intro @intV.eq_9 <| And.intro @intV.eq_10 <| And.intro @intV.eq_11 <| And.intro @intV.eq_12 <| And.intro @intV.eq_13 <| And.intro @intV.eq_14 <| And.intro @intV.eq_15 <| And.intro @intV.eq_16 <| And.intro @intV.eq_17 <| And.intro @intS.eq_1 <| And.intro @intS.eq_2 <| And.intro @intS.eq_3 <| And.intro @intS.eq_4 <| And.intro @intS.eq_5 <| And.intro @strV.eq_1 <| And.intro @strV.eq_2 <| And.intro @strV.eq_3 <| And.intro @strV.eq_4 <| And.intro @strV.eq_5 <| And.intro @strV.eq_6 <| And.intro @strV.eq_7 <| And.intro @strV.eq_8 <| And.intro @strS.eq_1 <| And.intro @strS.eq_2 <| And.intro @strS.eq_3 <| And.intro @strS.eq_4 <| And.intro @strS.eq_5 <| And.intro @strS.eq_6 <| And.intro @strS.eq_7 <| And.intro @strS.eq_8 <| And.intro @unV.eq_1 <| And.intro @unV.eq_2 <| And.intro @unV.eq_3 <| And.intro @unV.eq_4 <| And.intro @unS.eq_1 <| And.intro @unS.eq_2 <| And.intro @unS.eq_3 <| And.intro @unS.eq_4 <| And.intro @pickV.eq_1 <| And.intro @pickV.eq_2 <| And.intro @pickV.eq_3 <| And.intro @pickV.eq_4 <| And.intro @pickV.eq_5 <| And.intro @pickV.eq_6 <| And.intro @pickV.eq_7 <| And.intro @pickV.eq_8 <| And.intro @pickV.eq_9 <| And.intro @pickV.eq_10 <| And.intro @pickS.eq_1 <| And.intro @pickS.eq_2 <| And.intro @boolS.eq_1 <| And.intro @boolS.eq_2 <| And.intro @boolS.eq_3 <| And.intro @slv.eq_1 <| And.intro @slv.eq_2 <| And.intro @slv.eq_3 <| And.intro @slv.eq_4 <| And.intro @intOfA.eq_1 <| And.intro @intOfA.eq_2 <| And.intro @isIntA.eq_1 <| And.intro @isIntA.eq_2 <| And.intro @isIntO.eq_1 <| And.intro @isIntO.eq_2 <| And.intro @bnd.eq_1 <| And.intro @bnd.eq_2 <| And.intro @ldV.eq_1 <| And.intro @ldV.eq_2 <| And.intro @ldS.eq_1 <| And.intro @ldS.eq_2 <| And.intro @pcells.eq_1 <| And.intro @pcells.eq_2 <| And.intro @pcells.eq_3 <| And.intro @AV.fits.eq_1 <| And.intro @AV.fits.eq_2 <| And.intro @AV.one.eq_1 <| And.intro @AV.one.eq_2 <| And.intro @AV.one.eq_3 <| And.intro @AV.one.eq_4 <| And.intro @AV.one.eq_5 <| And.intro @AV.cells.eq_1 <| And.intro @AV.cells.eq_2 <| And.intro @putParts.eq_1 <| And.intro @putParts.eq_2 <| And.intro @partsS.eq_1 <| And.intro @partsS.eq_2 <| And.intro @fresh.eq_1 <| And.intro @fresh.eq_2 <| And.intro @fresh.eq_3 <| And.intro @nilOk.eq_1 <| And.intro @nilOk.eq_2 <| And.intro @nilOk.eq_3 <| And.intro @nilOk.eq_4 <| And.intro @nilOk.eq_5 <| And.intro @nilOk.eq_6 <| And.intro @nilOk.eq_7 <| And.intro @nilOk.eq_8 <| And.intro @nilOk.eq_9 <| And.intro @nilOk.eq_10 <| And.intro @nilOk.eq_11 <| And.intro @nilP.eq_1 <| And.intro @nilP.eq_2 <| And.intro @nilP.eq_3 <| And.intro @nilP.eq_4 <| And.intro @nilP.eq_5 <| And.intro @nilP.eq_6 <| And.intro @nilP.eq_7 <| And.intro @nilP.eq_8 <| And.intro @nilP.eq_9 <| And.intro @nilP.eq_10 <| And.intro @nilP.eq_11 <| And.intro @pickE.eq_1 <| And.intro @pickE.eq_2 <| And.intro @isLd.eq_1 <| And.intro @isLd.eq_2 <| And.intro @isLd.eq_3 <| And.intro @sqL.eq_1 <| And.intro @sqL.eq_2 <| And.intro @sqL.eq_3 <| And.intro @sqV.eq_1 <| And.intro @sqV.eq_2 <| And.intro @sqV.eq_3 <| And.intro @sqV.eq_4 <| And.intro @ps.eq_1 <| And.intro @ps.eq_2 <| And.intro @ps.eq_3 <| And.intro @ps.eq_4 <| And.intro @ps.eq_5 <| And.intro @ps.eq_6 <| And.intro @ps.eq_7 <| And.intro @ps.eq_8 <| And.intro @ps.eq_9 <| And.intro @ps.eq_10 <| And.intro @ps.eq_11 <| And.intro @ps.eq_12 <| And.intro @ps.eq_13 <| And.intro @ps.eq_14 <| And.intro @ps.eq_15 <| And.intro @ps.eq_16 <| And.intro @ps.eq_17 <| And.intro @ps.eq_18 <| And.intro @ps.eq_19 <| And.intro @ps.eq_20 <| And.intro @ps.eq_21 <| And.intro @ps.eq_22 <| And.intro @ps.eq_23 <| And.intro @ps.eq_24 <| And.intro @ps.eq_25 <| And.intro @ps.eq_26 <| And.intro @ps.eq_27 <| And.intro @ps.eq_28 <| And.intro @ps.eq_29 <| And.intro @ps.eq_30 <| And.intro @ps.eq_31 <| And.intro @ps.eq_32 <| And.intro @ps.eq_33 <| And.intro @ps.eq_34 <| And.intro @ps.eq_35 <| And.intro @ps.eq_36 <| And.intro @pf.eq_1 <| And.intro @pf.eq_2 <| And.intro @pf.eq_3 <| And.intro @pf.eq_4 <| And.intro @pf.eq_5 <| And.intro @pf.eq_6 <| And.intro @pf.eq_7 <| And.intro @pf.eq_8 <| And.intro @pf.eq_9 <| And.intro @pf.eq_10 <| And.intro @pf.eq_11 <| And.intro @pf.eq_12 <| And.intro @pf.eq_13 <| And.intro @pf.eq_14 <| And.intro @pf.eq_15 <| And.intro @pf.eq_16 <| And.intro @pf.eq_17 <| And.intro @pf.eq_18 <| And.intro @pf.eq_19 <| And.intro @pf.eq_20 <| And.intro @pf.eq_21 <| And.intro @pf.eq_22 <| And.intro @pf.eq_23 <| And.intro @pf.eq_24 <| And.intro @pf.eq_25 <| And.intro @pf.eq_26 <| And.intro @pf.eq_27 <| And.intro @pf.eq_28 <| And.intro @pf.eq_29 <| And.intro @pf.eq_30 <| And.intro @pf.eq_31 <| And.intro @pf.eq_32 <| And.intro @pf.eq_33 <| And.intro @pf.eq_34 <| And.intro @ev.eq_1 <| And.intro @ev.eq_2 <| And.intro @ev.eq_3 <| And.intro @ev.eq_4 <| And.intro @slot.eq_1 <| And.intro @slot.eq_2 <| And.intro @putL.eq_1 @putL.eq_2) := And.intro @aDrw_callS <| And.intro @aC_inv <| And.intro @aOp_appS <| And.intro @aOp_appR <| And.intro @aOp_mkT <| And.intro @mkTV_eq <| And.intro @aOp_allocT <| And.intro @St.box_bt <| And.intro @St.tip_bt <| And.intro @St.glob_bt <| And.intro @St.lp_bt <| And.intro @St.bt_box <| And.intro @St.bt_tip <| And.intro @St.bt_lp <| And.intro @St.bt_same <| And.intro @St.bt_setBox <| And.intro @St.bt_setTip <| And.intro @memN.eq_1 <| And.intro @memN.eq_2 <| And.intro @aOp_asT <| And.intro @aDrw_asT <| And.intro @lookN.eq_1 <| And.intro @lookN.eq_2 <| And.intro @aOp_invk <| And.intro @invkV_eq <| And.intro @callO_eq <| And.intro @gdY_invk <| And.intro @gdN_invk <| And.intro @aOp_ldE <| And.intro @aDrw_ldE <| And.intro @keepF.eq_1 <| And.intro @keepF.eq_2 <| And.intro @initF.eq_1 <| And.intro @initF.eq_2 <| And.intro @putF.eq_1 <| And.intro @putF.eq_2 <| And.intro @guardC.eq_1 <| And.intro @guardC.eq_2 <| And.intro @guardC.eq_3 <| And.intro @guardC.eq_4 <| And.intro @CO.ods.eq_1 <| And.intro @CO.ods.eq_2 <| And.intro @CO.ods.eq_3 <| And.intro @CO.ods.eq_4 <| And.intro @CO.ods.eq_5 <| And.intro @CO.ods.eq_6 <| And.intro @CO.ods.eq_7 <| And.intro @CO.ods.eq_8 <| And.intro @CO.ods.eq_9 <| And.intro @CO.ods.eq_10 <| And.intro @CO.ods.eq_11 <| And.intro @CO.ods.eq_12 <| And.intro @CO.ods.eq_13 <| And.intro @CO.ods.eq_14 <| And.intro @CO.ods.eq_15 <| And.intro @CO.ods.eq_16 <| And.intro @CO.ods.eq_17 <| And.intro @CO.ods.eq_18 <| And.intro @CO.ods.eq_19 <| And.intro @CO.ods.eq_20 <| And.intro @CO.ods.eq_21 <| And.intro @CO.ods.eq_22 <| And.intro @CO.ods.eq_23 <| And.intro @CO.ods.eq_24 <| And.intro @CO.ods.eq_25 <| And.intro @CO.ods.eq_26 <| And.intro @CO.ods.eq_27 <| And.intro @CO.ods.eq_28 <| And.intro @CO.ods.eq_29 <| And.intro @CO.ods.eq_30 <| And.intro @CO.ods.eq_31 <| And.intro @CO.ods.eq_32 <| And.intro @CO.ods.eq_33 <| And.intro @CO.ods.eq_34 <| And.intro @CO.ods.eq_35 <| And.intro @CO.ods.eq_36 <| And.intro @CO.ods.eq_37 <| And.intro @CO.ods.eq_38 <| And.intro @CO.ods.eq_39 <| And.intro @CO.ods.eq_40 <| And.intro @CO.ods.eq_41 <| And.intro @CO.ods.eq_42 <| And.intro @CO.ods.eq_43 <| And.intro @optAll.eq_1 <| And.intro @optAll.eq_2 <| And.intro @evU.eq_1 <| And.intro @binV.eq_1 <| And.intro @binV.eq_2 <| And.intro @binV.eq_3 <| And.intro @binS.eq_1 <| And.intro @binS.eq_2 <| And.intro @binS.eq_3 <| And.intro @intV.eq_1 <| And.intro @intV.eq_2 <| And.intro @intV.eq_3 <| And.intro @intV.eq_4 <| And.intro @intV.eq_5 <| And.intro @intV.eq_6 <| And.intro @intV.eq_7 <| And.intro @intV.eq_8 <| And.intro @intV.eq_9 <| And.intro @intV.eq_10 <| And.intro @intV.eq_11 <| And.intro @intV.eq_12 <| And.intro @intV.eq_13 <| And.intro @intV.eq_14 <| And.intro @intV.eq_15 <| And.intro @intV.eq_16 <| And.intro @intV.eq_17 <| And.intro @intS.eq_1 <| And.intro @intS.eq_2 <| And.intro @intS.eq_3 <| And.intro @intS.eq_4 <| And.intro @intS.eq_5 <| And.intro @strV.eq_1 <| And.intro @strV.eq_2 <| And.intro @strV.eq_3 <| And.intro @strV.eq_4 <| And.intro @strV.eq_5 <| And.intro @strV.eq_6 <| And.intro @strV.eq_7 <| And.intro @strV.eq_8 <| And.intro @strS.eq_1 <| And.intro @strS.eq_2 <| And.intro @strS.eq_3 <| And.intro @strS.eq_4 <| And.intro @strS.eq_5 <| And.intro @strS.eq_6 <| And.intro @strS.eq_7 <| And.intro @strS.eq_8 <| And.intro @unV.eq_1 <| And.intro @unV.eq_2 <| And.intro @unV.eq_3 <| And.intro @unV.eq_4 <| And.intro @unS.eq_1 <| And.intro @unS.eq_2 <| And.intro @unS.eq_3 <| And.intro @unS.eq_4 <| And.intro @pickV.eq_1 <| And.intro @pickV.eq_2 <| And.intro @pickV.eq_3 <| And.intro @pickV.eq_4 <| And.intro @pickV.eq_5 <| And.intro @pickV.eq_6 <| And.intro @pickV.eq_7 <| And.intro @pickV.eq_8 <| And.intro @pickV.eq_9 <| And.intro @pickV.eq_10 <| And.intro @pickS.eq_1 <| And.intro @pickS.eq_2 <| And.intro @boolS.eq_1 <| And.intro @boolS.eq_2 <| And.intro @boolS.eq_3 <| And.intro @slv.eq_1 <| And.intro @slv.eq_2 <| And.intro @slv.eq_3 <| And.intro @slv.eq_4 <| And.intro @intOfA.eq_1 <| And.intro @intOfA.eq_2 <| And.intro @isIntA.eq_1 <| And.intro @isIntA.eq_2 <| And.intro @isIntO.eq_1 <| And.intro @isIntO.eq_2 <| And.intro @bnd.eq_1 <| And.intro @bnd.eq_2 <| And.intro @ldV.eq_1 <| And.intro @ldV.eq_2 <| And.intro @ldS.eq_1 <| And.intro @ldS.eq_2 <| And.intro @pcells.eq_1 <| And.intro @pcells.eq_2 <| And.intro @pcells.eq_3 <| And.intro @AV.fits.eq_1 <| And.intro @AV.fits.eq_2 <| And.intro @AV.one.eq_1 <| And.intro @AV.one.eq_2 <| And.intro @AV.one.eq_3 <| And.intro @AV.one.eq_4 <| And.intro @AV.one.eq_5 <| And.intro @AV.cells.eq_1 <| And.intro @AV.cells.eq_2 <| And.intro @putParts.eq_1 <| And.intro @putParts.eq_2 <| And.intro @partsS.eq_1 <| And.intro @partsS.eq_2 <| And.intro @fresh.eq_1 <| And.intro @fresh.eq_2 <| And.intro @fresh.eq_3 <| And.intro @nilOk.eq_1 <| And.intro @nilOk.eq_2 <| And.intro @nilOk.eq_3 <| And.intro @nilOk.eq_4 <| And.intro @nilOk.eq_5 <| And.intro @nilOk.eq_6 <| And.intro @nilOk.eq_7 <| And.intro @nilOk.eq_8 <| And.intro @nilOk.eq_9 <| And.intro @nilOk.eq_10 <| And.intro @nilOk.eq_11 <| And.intro @nilP.eq_1 <| And.intro @nilP.eq_2 <| And.intro @nilP.eq_3 <| And.intro @nilP.eq_4 <| And.intro @nilP.eq_5 <| And.intro @nilP.eq_6 <| And.intro @nilP.eq_7 <| And.intro @nilP.eq_8 <| And.intro @nilP.eq_9 <| And.intro @nilP.eq_10 <| And.intro @nilP.eq_11 <| And.intro @pickE.eq_1 <| And.intro @pickE.eq_2 <| And.intro @isLd.eq_1 <| And.intro @isLd.eq_2 <| And.intro @isLd.eq_3 <| And.intro @sqL.eq_1 <| And.intro @sqL.eq_2 <| And.intro @sqL.eq_3 <| And.intro @sqV.eq_1 <| And.intro @sqV.eq_2 <| And.intro @sqV.eq_3 <| And.intro @sqV.eq_4 <| And.intro @ps.eq_1 <| And.intro @ps.eq_2 <| And.intro @ps.eq_3 <| And.intro @ps.eq_4 <| And.intro @ps.eq_5 <| And.intro @ps.eq_6 <| And.intro @ps.eq_7 <| And.intro @ps.eq_8 <| And.intro @ps.eq_9 <| And.intro @ps.eq_10 <| And.intro @ps.eq_11 <| And.intro @ps.eq_12 <| And.intro @ps.eq_13 <| And.intro @ps.eq_14 <| And.intro @ps.eq_15 <| And.intro @ps.eq_16 <| And.intro @ps.eq_17 <| And.intro @ps.eq_18 <| And.intro @ps.eq_19 <| And.intro @ps.eq_20 <| And.intro @ps.eq_21 <| And.intro @ps.eq_22 <| And.intro @ps.eq_23 <| And.intro @ps.eq_24 <| And.intro @ps.eq_25 <| And.intro @ps.eq_26 <| And.intro @ps.eq_27 <| And.intro @ps.eq_28 <| And.intro @ps.eq_29 <| And.intro @ps.eq_30 <| And.intro @ps.eq_31 <| And.intro @ps.eq_32 <| And.intro @ps.eq_33 <| And.intro @ps.eq_34 <| And.intro @ps.eq_35 <| And.intro @ps.eq_36 <| And.intro @pf.eq_1 <| And.intro @pf.eq_2 <| And.intro @pf.eq_3 <| And.intro @pf.eq_4 <| And.intro @pf.eq_5 <| And.intro @pf.eq_6 <| And.intro @pf.eq_7 <| And.intro @pf.eq_8 <| And.intro @pf.eq_9 <| And.intro @pf.eq_10 <| And.intro @pf.eq_11 <| And.intro @pf.eq_12 <| And.intro @pf.eq_13 <| And.intro @pf.eq_14 <| And.intro @pf.eq_15 <| And.intro @pf.eq_16 <| And.intro @pf.eq_17 <| And.intro @pf.eq_18 <| And.intro @pf.eq_19 <| And.intro @pf.eq_20 <| And.intro @pf.eq_21 <| And.intro @pf.eq_22 <| And.intro @pf.eq_23 <| And.intro @pf.eq_24 <| And.intro @pf.eq_25 <| And.intro @pf.eq_26 <| And.intro @pf.eq_27 <| And.intro @pf.eq_28 <| And.intro @pf.eq_29 <| And.intro @pf.eq_30 <| And.intro @pf.eq_31 <| And.intro @pf.eq_32 <| And.intro @pf.eq_33 <| And.intro @pf.eq_34 <| And.intro @ev.eq_1 <| And.intro @ev.eq_2 <| And.intro @ev.eq_3 <| And.intro @ev.eq_4 <| And.intro @slot.eq_1 <| And.intro @slot.eq_2 <| And.intro @putL.eq_1 @putL.eq_2
theorem RR : type_of% (And.intro R2 <| And.intro R3 <| And.intro R4 <| And.intro R5 <| And.intro R6 <| And.intro @decide_true @decide_false) := And.intro R2 <| And.intro R3 <| And.intro R4 <| And.intro R5 <| And.intro R6 <| And.intro @decide_true @decide_false
theorem Pt {P : Program} {f : Nat} {xs : List AV} {v : AV} {σ : St} {K : AV → St → Prop} (h : Pu P f xs v) (hK : K v σ) : AC P f xs σ K := h.to (wkL_refl _) hK
theorem Ct {P : Program} {f : Nat} {xs : List AV} {v : AV} {σ : St} {K : AV → St → Prop} {h : Hold (σ, K)} (hp : Pu P f xs v) (hK : K v σ) : callDV P f xs σ K h := callDV_pu hp (wkL_refl _) hK
theorem RB : type_of% (And.intro @St.box_noneA <| And.intro @St.tip_noneA <| And.intro @St.tip_set <| And.intro @St.box_tip <| And.intro @St.box_lp @St.tip_lp) := And.intro @St.box_noneA <| And.intro @St.tip_noneA <| And.intro @St.tip_set <| And.intro @St.box_tip <| And.intro @St.box_lp @St.tip_lp
theorem RZ : type_of% (And.intro @List.length_map.{0, 0} <| And.intro @List.length_append.{0} <| And.intro @List.length_cons.{0} <| And.intro @List.length_nil.{0} <| And.intro @List.length_take.{0} @List.length_drop.{0}) := And.intro @List.length_map.{0, 0} <| And.intro @List.length_append.{0} <| And.intro @List.length_cons.{0} <| And.intro @List.length_nil.{0} <| And.intro @List.length_take.{0} @List.length_drop.{0}
end Go.Abs
namespace Go.Abs
set_option linter.all false
def enab (dp : List (List Nat)) (D : Nat) : List Nat := (List.range dp.length).filter fun j => !D.testBit j && (dp.getD j []).all D.testBit
def mkT (l : List CI) (dp : List (List Nat)) : Nat → Nat → AT
  | 0, _ => .stop
  | n + 1, D => match enab dp D with
    | [] => .done
    | js => js.foldr (fun j oth => match l[j]? with
      | some i => .alt j i (mkT l dp n (D ||| 1 <<< j)) oth
      | none => oth) .stop
end Go.Abs
namespace Go.Abs
open Go.RowKit
def gnd : AV → Bool
  | .bool _ | .int _ _ | .str _ => true
  | _ => false
theorem gnd_rel {g g' : Gh} {w w' : World} {a : AV} {v : Value} (h : gnd a = true) (hr : Rel g w a v) : Rel g' w' a v := by
  cases hr <;> first | (cases h; done) | constructor
theorem gndL_rel {g g' : Gh} {w w' : World} {l : List AV} {vs : List Value} (h : ∀ a ∈ l, gnd a = true) (hr : RelL g w l vs) : RelL g' w' l vs :=
  ⟨hr.1, fun i c v hc hv => gnd_rel (h c (List.mem_of_getElem? hc)) (hr.2 i c v hc hv)⟩
section
variable {P : Program} {g : Gh} {σ : St} {w w' : World}
def Gh.onBox (g : Gh) (w : World) (b : Nat) : Gh := { g with cl := fun x => if x < w.heap.size then g.cl x else if x = b then some 0 else none, box := fun β => if β = g.nb then some b else g.box β, nb := g.nb + 1 }
theorem Ext.onBox (hI : Inv g σ w) (hb : Below w.heap.size w w') (b : Nat) : Ext g w (g.onBox w b) w' := by
  refine ⟨hb.os, hb.tape, hb.output, hb.size, fun β k h => ?_, fun β hβ => ?_, Nat.le_succ _, Nat.le_refl _, fun m n v h => h, fun k h hc => ⟨by simp only [Gh.onBox, if_pos h]; exact hc, hb.block k h⟩, fun k F h hc => ⟨F, by simp only [Gh.onBox, if_pos h]; exact hc, Nat.le_refl _, fun i _ => World.cell?_of_block (hb.block k h)⟩, fun _ _ h => h, fun b us _ _ h => ⟨us, by rw [hb.block b (Array.getElem?_eq_some_iff.1 h).1]; exact h, rfl⟩⟩
  · have hβ : β ≠ g.nb := by rintro rfl; rw [hI.boxfresh _ (Nat.le_refl _)] at h; cases h
    simp only [Gh.onBox, if_neg hβ]; exact h
  · simp only [Gh.onBox, if_neg (Nat.ne_of_lt hβ)]
theorem Inv.onBox (hI : Inv g σ w) (hb : Below w.heap.size w w') {b : Nat} (hnew : w.heap.size ≤ b) {vs : Array Value} {T : TypeId} {cs : List AV} (hh : w'.heap[b]? = some (.cells vs T (0, 0))) (hr : RelC (g.onBox w b) w' cs vs.toList) : Inv (g.onBox w b) (σ.setBox g.nb cs) w' := by
  have he := Ext.onBox hI hb b
  refine ⟨fun β c h => ?_, fun β k h => ?_, fun β β' k h1 h2 => ?_, fun β hβ => ?_, fun τ e s n ht => ?_, hI.tipinj, hI.tipfresh, fun k cs hk => (hI.glob k cs hk).mono he, fun l r hl => by
    obtain ⟨q1, q2, q3⟩ := hI.lp l r hl
    have hlt := (Array.getElem?_eq_some_iff.1 q1).1
    exact ⟨by rw [hb.block l hlt]; exact q1, by simp only [Gh.onBox, if_pos hlt]; exact q2, fun t => (q3 t).mono he⟩, fun β T h => by
    obtain ⟨k, us, h1, h2⟩ := hI.bty β T h
    exact ⟨k, us, he.box _ _ h1, by rw [hb.block k (hI.boxcl β k h1).1]; exact h2⟩⟩
  · simp only [St.setBox, upd] at h
    by_cases hβ : β = g.nb
    · subst hβ
      simp at h; subst h
      exact ⟨b, vs, T, by simp [Gh.onBox], hh, hr⟩
    · rw [if_neg hβ] at h
      obtain ⟨k, us, T', h1, h2, h3⟩ := hI.box β c h
      exact ⟨k, us, T', he.box _ _ h1, by rw [hb.block k (hI.boxcl β k h1).1]; exact h2, h3.mono he⟩
  · simp only [Gh.onBox] at h ⊢
    by_cases hβ : β = g.nb
    · rw [if_pos hβ] at h; cases h
      refine ⟨(Array.getElem?_eq_some_iff.1 hh).1, fun _ => ?_⟩
      rw [if_neg (by omega), if_pos rfl]
    · rw [if_neg hβ] at h
      obtain ⟨h1, h2⟩ := hI.boxcl β k h
      refine ⟨Nat.lt_of_lt_of_le h1 hb.size, fun hl => ?_⟩
      rw [if_pos h1]
      exact h2 (by simpa [St.setBox, upd, hβ] using hl)
  · simp only [Gh.onBox] at h1 h2
    by_cases hβ : β = g.nb <;> by_cases hβ' : β' = g.nb
    · rw [hβ, hβ']
    · rw [if_pos hβ] at h1; rw [if_neg hβ'] at h2; cases h1; have := (hI.boxcl β' _ h2).1; omega
    · rw [if_neg hβ] at h1; rw [if_pos hβ'] at h2; cases h2; have := (hI.boxcl β _ h1).1; omega
    · rw [if_neg hβ] at h1; rw [if_neg hβ'] at h2; exact hI.boxinj _ _ _ h1 h2
  · simp only [Gh.onBox] at hβ ⊢
    rw [if_neg (by omega)]
    exact hI.boxfresh β (by omega)
  · obtain ⟨v, h1, h2, h4⟩ := hI.tip τ e s n ht
    refine ⟨v, h1, fun hs => ?_, h4⟩
    obtain ⟨xs, h2, h3⟩ := h2 hs
    refine ⟨xs, h2.kept (row := none) ⟨hb.os, hb.tape, hb.output, hb.size, fun k hk _ => hb.block k hk⟩ (by cases h : v.ownBlock <;> simp), fun k hbb => ?_⟩
    have hlt := (h2.lt k hbb).2
    obtain ⟨h5, h6⟩ := h3 k hbb
    refine ⟨by simp only [Gh.onBox, if_pos hlt]; exact h5, fun β => ?_, h6.2.same (hb.block k hlt)⟩
    simp only [Gh.onBox]
    split
    · intro e'; cases e'; omega
    · exact h6.1 β
theorem AC.owned {f : Nat} {xs rest cs : List AV} {e es n : Nat} (he : ∀ args w, (callFunc f args).run P w = .ok (.enter f args) w) (hx : ∀ a ∈ xs, gnd a = true) (hr : ∀ a ∈ rest, gnd a = true) (hc : ∀ a ∈ cs, gnd a = true) (hn : n ≠ 0)
    (h : AC P f xs (s0 fun _ => none) (fun r s => ∃ τ, r = .tup (.tsl τ n cs :: rest) ∧ s = (s0 fun _ => none).setTip τ (e, es, n))) :
    AC P f xs σ (fun r s => ∃ β k, σ.box β = none ∧ r = .tup (.psl β 0 n :: rest) ∧ s = σ.setBox β (cs ++ List.replicate k .junk)) := by
  intro g w vs hI hv
  have hv0 : RelL g0 w xs vs := gndL_rel hx hv
  refine .inl ⟨he _ _, ?_⟩
  rcases h g0 w vs (inv0 (fun k cs hk => by cases hk)) hv0 with ⟨_, h2⟩ | ⟨u, w', h1, _⟩
  · refine h2.mono ?_
    rintro ex w' ⟨v, r, σ', g', rfl, ⟨τ, rfl, rfl⟩, hI', he', hr'⟩
    obtain ⟨us, rfl, hu⟩ := hr'.tup_inv
    obtain ⟨sv, us', rfl, hs, hu'⟩ := hu.cons_inv
    have hB : Below w.heap.size w w' := ⟨he'.os, he'.tape, he'.output, he'.size, fun k hk => (he'.cln k hk rfl).2⟩
    obtain ⟨v0, k1, k2, _⟩ := hI'.tip τ e es n (by simp [St.setTip, upd])
    have hti := hs.tsl_inv
    rw [hti] at k1; cases k1
    obtain ⟨own, q1, q2⟩ := k2 (.inr hn)
    rcases q1.2 with ⟨_, h0⟩ | ⟨b, cap, cur, rfl, _, hh, hcap, _, hsz, htk⟩
    · exact (hn h0).elim
    obtain ⟨q3, _, q4⟩ := q2 b rfl
    have hnew : w.heap.size ≤ b := by
      rcases Nat.lt_or_ge b w.heap.size with h | h
      · have := (he'.cln b h rfl).1
        rw [this] at q3; cases q3
      · exact h
    rcases hs.slv_inv (n := n) (cs := cs) rfl with ⟨_, _, h0, _⟩ | ⟨b2, off, cap2, us2, e2, hc2, hl⟩
    · exact (hn h0).elim
    cases e2
    have hlen := hl.rel.1.1
    have hcells : RelC (g.onBox w b) w' (cs ++ List.replicate (cur.size - cs.length) .junk) cur.toList := by
      have hle : cs.length ≤ cur.size := by
        rcases Nat.lt_or_ge cur.size cs.length with hlt | hge
        · have h1 := hl.cell cur.size (us2[cur.size]'(by omega)) (List.getElem?_eq_getElem (by omega))
          simp [World.cell?, hh] at h1
        · exact hge
      have hall : ∀ v ∈ cur.toList, v.oneCell' = true := q4 _ _ _ hh
      refine ⟨⟨by simp; omega, fun i c v hc' hv' => ?_⟩, hall⟩
      rcases Nat.lt_or_ge i cs.length with hi | hi
      · rw [List.getElem?_append_left hi] at hc'
        have hu2 : us2[i]? = some (us2[i]'(by omega)) := List.getElem?_eq_getElem (by omega)
        have h1 := hl.cell i _ hu2
        simp only [World.cell?, hh, Nat.zero_add] at h1
        have : v = us2[i]'(by omega) := by
          rw [Array.getElem?_toList] at hv'
          have h1' : cur[i]? = some (us2[i]'(by omega)) := by simpa using h1
          rw [h1'] at hv'; cases hv'; rfl
        rw [this]
        exact gnd_rel (hc c (List.mem_of_getElem? hc')) (hl.rel.1.2 i c _ hc' hu2)
      · rw [List.getElem?_append_right hi] at hc'
        rw [List.getElem?_replicate] at hc'
        split at hc'
        · cases hc'; exact .junk _
        · cases hc'
    refine ⟨_, .tup (.psl g.nb 0 n :: rest), σ.setBox g.nb (cs ++ List.replicate (cur.size - cs.length) .junk), g.onBox w b, rfl, ⟨g.nb, _, fresh_box hI, rfl, rfl⟩, hI.onBox hB hnew hh hcells, Ext.onBox hI hB b, .tup_mk (.cons (.psl _ _ _ _ _ (by simp [Gh.onBox]) hcap) (gndL_rel hr hu'))⟩
  · rw [he] at h1; cases h1
end
end Go.Abs
namespace Go.Proofs.YtemddijemikleaaDoor
open Go.Abs
set_option linter.all false
set_option maxRecDepth 100000
def isBlank (b : UInt8) : Bool := (b.toNat : Int) == 32 || (b.toNat : Int) == 9
def isPlain (b : UInt8) : Bool := decide ((32 : Int) ≤ b.toNat) && decide ((b.toNat : Int) ≤ 126) && ((b.toNat : Int) != 34) && ((b.toNat : Int) != 92)
def isBare (b : UInt8) : Bool := ((b.toNat : Int) != 32) && isPlain b
def hexV (b : UInt8) : Nat :=
  if 48 ≤ b.toNat ∧ b.toNat ≤ 57 then b.toNat - 48
  else if 97 ≤ b.toNat ∧ b.toNat ≤ 102 then b.toNat - 87
  else if 65 ≤ b.toNat ∧ b.toNat ≤ 70 then b.toNat - 55 else 16
def pairS : List UInt8 → Option (UInt8 × List UInt8)
  | a :: b :: r => if hexV a < 16 ∧ hexV b < 16 then some (UInt8.ofNat (16 * hexV a + hexV b), r) else none
  | _ => none
def escS : List UInt8 → Option (UInt8 × List UInt8)
  | [] => none
  | c :: r => if c = 120 then pairS r else if c = 34 ∨ c = 92 then some (c, r) else none
def quotF : Nat → List UInt8 → Option (List UInt8 × List UInt8)
  | 0, _ => none
  | _ + 1, [] => none
  | n + 1, c :: r =>
    if c = 34 then some ([], r)
    else if c = 92 then match escS r with
      | some (x, r') => (quotF n r').map fun q => (x :: q.1, q.2)
      | none => none
    else if isPlain c then (quotF n r).map fun q => (c :: q.1, q.2)
    else none
def quotS (l : List UInt8) : Option (List UInt8 × List UInt8) := quotF l.length l
def endOk : List UInt8 → Bool
  | [] => true
  | c :: _ => isBlank c
def wordS (l : List UInt8) : Option (Bool × List UInt8 × List UInt8) :=
  match l with
  | [] => none
  | c :: r =>
    if c = 34 then match quotS r with
      | some (t, r') => if endOk r' then some (true, t, r') else none
      | none => none
    else if (l.takeWhile isBare).isEmpty then none
    else if endOk (l.dropWhile isBare) then some (false, l.takeWhile isBare, l.dropWhile isBare) else none
structure Wd where
  q : Bool
  t : List UInt8
  a : Nat
  deriving DecidableEq
def consE (w : Wd) : Except Nat (List Wd) → Except Nat (List Wd)
  | .error b => .error b
  | .ok ws => .ok (w :: ws)
def preE (p : List Wd) : Except Nat (List Wd) → Except Nat (List Wd)
  | .error b => .error b
  | .ok ws => .ok (p ++ ws)
def wordsF : Nat → List UInt8 → Nat → Except Nat (List Wd)
  | 0, _, _ => .ok []
  | n + 1, l, a => match l.dropWhile isBlank with
    | [] => .ok []
    | c :: r =>
      if c = 35 then .ok []
      else match wordS (c :: r) with
        | none => .error (a + (l.length - (c :: r).length))
        | some (q, t, r') => consE ⟨q, t, a + (l.length - (c :: r).length)⟩ (wordsF n r' (a + (l.length - r'.length)))
def wordsR (l : List UInt8) (a : Nat) : Except Nat (List Wd) := wordsF (l.length + 1) l a
def wordsS (l : List UInt8) : Except Nat (List Wd) := wordsR l 0
theorem pairS_len {l : List UInt8} {x : UInt8} {r : List UInt8} (h : pairS l = some (x, r)) : r.length < l.length := by
  unfold pairS at h
  split at h
  · split at h
    · cases h; simp; omega
    · cases h
  · cases h
theorem escS_len {l : List UInt8} {x : UInt8} {r : List UInt8} (h : escS l = some (x, r)) : r.length < l.length := by
  unfold escS at h
  split at h
  · cases h
  · split at h
    · have := pairS_len h; simp; omega
    · split at h
      · cases h; simp
      · cases h
theorem quotF_len : ∀ (n : Nat) (l : List UInt8) {t r : List UInt8}, quotF n l = some (t, r) → r.length < l.length
  | 0, _, _, _, h => by simp [quotF] at h
  | _ + 1, [], _, _, h => by simp [quotF] at h
  | n + 1, c :: l, t, r, h => by
    simp only [quotF] at h
    split at h
    · cases h; simp
    · split at h
      · split at h
        · rename_i x r' he
          have h1 := escS_len he
          cases hq : quotF n r' with
          | none => rw [hq] at h; cases h
          | some q =>
            rw [hq] at h; simp only [Option.map_some, Option.some.injEq, Prod.mk.injEq] at h
            have h2 := quotF_len n r' hq
            rw [← h.2]; simp; omega
        · cases h
      · split at h
        · cases hq : quotF n l with
          | none => rw [hq] at h; cases h
          | some q =>
            rw [hq] at h; simp only [Option.map_some, Option.some.injEq, Prod.mk.injEq] at h
            have h2 := quotF_len n l hq
            rw [← h.2]; simp; omega
        · cases h
theorem quotF_fuel : ∀ (n m : Nat) (l : List UInt8), l.length ≤ n → l.length ≤ m → quotF n l = quotF m l
  | 0, 0, _, _, _ => rfl
  | 0, m + 1, l, h, _ => by
    have : l = [] := List.eq_nil_of_length_eq_zero (by omega)
    subst this; rfl
  | n + 1, 0, l, _, h => by
    have : l = [] := List.eq_nil_of_length_eq_zero (by omega)
    subst this; rfl
  | n + 1, m + 1, [], _, _ => rfl
  | n + 1, m + 1, c :: l, h1, h2 => by
    simp only [List.length_cons] at h1 h2
    simp only [quotF]
    rw [quotF_fuel n m l (by omega) (by omega)]
    cases he : escS l with
    | none => rfl
    | some q =>
      have := escS_len (r := q.2) (x := q.1) he
      simp only [quotF_fuel n m q.2 (by omega) (by omega)]
theorem quotS_nil : quotS [] = none := rfl
theorem quotS_cons (c : UInt8) (r : List UInt8) : quotS (c :: r) =
    if c = 34 then some ([], r)
    else if c = 92 then match escS r with
      | some (x, r') => (quotS r').map fun q => (x :: q.1, q.2)
      | none => none
    else if isPlain c then (quotS r).map fun q => (c :: q.1, q.2)
    else none := by
  unfold quotS
  simp only [List.length_cons, quotF]
  split
  · rfl
  · split
    · cases he : escS r with
      | none => rfl
      | some q =>
        have := escS_len (r := q.2) (x := q.1) he
        simp only [quotF_fuel r.length q.2.length q.2 (by omega) (Nat.le_refl _)]
    · rfl
theorem quotS_len {l t r : List UInt8} (h : quotS l = some (t, r)) : r.length < l.length := quotF_len _ _ h
theorem dropWhile_len (p : UInt8 → Bool) (l : List UInt8) : (l.dropWhile p).length ≤ l.length := by
  induction l with
  | nil => simp
  | cons c l ih =>
    rw [List.dropWhile_cons]
    split
    · simp; omega
    · simp
theorem wordS_len {l : List UInt8} {q : Bool} {t r : List UInt8} (h : wordS l = some (q, t, r)) : r.length < l.length := by
  unfold wordS at h
  split at h
  · cases h
  · rename_i c l
    split at h
    · split at h
      · rename_i t' r' hq
        split at h
        · cases h
          have := quotS_len hq
          simp; omega
        · cases h
      · cases h
    · split at h
      · cases h
      · rename_i hne
        split at h
        · cases h
          have := List.takeWhile_append_dropWhile (p := isBare) (l := c :: l)
          have h2 := congrArg List.length this
          rw [List.length_append] at h2
          have h3 : ((c :: l).takeWhile isBare).length ≠ 0 := by
            intro e
            rw [List.length_eq_zero_iff] at e
            rw [e] at hne
            exact hne rfl
          omega
        · cases h
theorem pairS_suf {l : List UInt8} {x : UInt8} {r : List UInt8} (h : pairS l = some (x, r)) : r <:+ l := by
  unfold pairS at h
  split at h
  · split at h
    · cases h; exact ⟨[_, _], rfl⟩
    · cases h
  · cases h
theorem escS_suf {l : List UInt8} {x : UInt8} {r : List UInt8} (h : escS l = some (x, r)) : r <:+ l := by
  unfold escS at h
  split at h
  · cases h
  · split at h
    · exact (pairS_suf h).trans ⟨[_], rfl⟩
    · split at h
      · cases h; exact ⟨[_], rfl⟩
      · cases h
theorem quotF_suf : ∀ (n : Nat) (l : List UInt8) {t r : List UInt8}, quotF n l = some (t, r) → r <:+ l
  | 0, _, _, _, h => by simp [quotF] at h
  | _ + 1, [], _, _, h => by simp [quotF] at h
  | n + 1, c :: l, t, r, h => by
    simp only [quotF] at h
    split at h
    · cases h; exact ⟨[_], rfl⟩
    · split at h
      · split at h
        · rename_i x r' he
          cases hq : quotF n r' with
          | none => rw [hq] at h; cases h
          | some q =>
            rw [hq] at h; simp only [Option.map_some, Option.some.injEq, Prod.mk.injEq] at h
            rw [← h.2]
            exact ((quotF_suf n r' hq).trans (escS_suf he)).trans ⟨[_], rfl⟩
        · cases h
      · split at h
        · cases hq : quotF n l with
          | none => rw [hq] at h; cases h
          | some q =>
            rw [hq] at h; simp only [Option.map_some, Option.some.injEq, Prod.mk.injEq] at h
            rw [← h.2]
            exact (quotF_suf n l hq).trans ⟨[_], rfl⟩
        · cases h
theorem quotS_suf {l t r : List UInt8} (h : quotS l = some (t, r)) : r <:+ l := quotF_suf _ _ h
theorem wordS_suf {l : List UInt8} {q : Bool} {t r : List UInt8} (h : wordS l = some (q, t, r)) : r <:+ l := by
  unfold wordS at h
  split at h
  · cases h
  · rename_i c l
    split at h
    · split at h
      · rename_i t' r' hq
        split at h
        · cases h
          exact (quotS_suf hq).trans ⟨[_], rfl⟩
        · cases h
      · cases h
    · split at h
      · cases h
      · split at h
        · cases h
          exact List.dropWhile_suffix _
        · cases h
theorem wordsF_fuel : ∀ (n m : Nat) (l : List UInt8) (a : Nat), l.length < n → l.length < m → wordsF n l a = wordsF m l a
  | 0, _, _, _, h, _ => by omega
  | _ + 1, 0, _, _, _, h => by omega
  | n + 1, m + 1, l, a, h1, h2 => by
    simp only [wordsF]
    have hd := dropWhile_len isBlank l
    cases hl : l.dropWhile isBlank with
    | nil => rfl
    | cons c r =>
      rw [hl] at hd
      simp only
      cases hw : wordS (c :: r) with
      | none => rfl
      | some q =>
        obtain ⟨q, t, r'⟩ := q
        have := wordS_len hw
        simp only
        rw [wordsF_fuel n m r' _ (by omega) (by omega)]
theorem wordsR_eq (l : List UInt8) (a : Nat) : wordsR l a = match l.dropWhile isBlank with
    | [] => .ok []
    | c :: r =>
      if c = 35 then .ok []
      else match wordS (c :: r) with
        | none => .error (a + (l.length - (c :: r).length))
        | some (q, t, r') => consE ⟨q, t, a + (l.length - (c :: r).length)⟩ (wordsR r' (a + (l.length - r'.length))) := by
  have hd := dropWhile_len isBlank l
  have e : wordsR l a = match l.dropWhile isBlank with
    | [] => .ok []
    | c :: r =>
      if c = 35 then .ok []
      else match wordS (c :: r) with
        | none => .error (a + (l.length - (c :: r).length))
        | some (q, t, r') => consE ⟨q, t, a + (l.length - (c :: r).length)⟩ (wordsF l.length r' (a + (l.length - r'.length))) := rfl
  rw [e]
  cases hl : l.dropWhile isBlank with
  | nil => rfl
  | cons c r =>
    rw [hl] at hd
    simp only
    cases hw : wordS (c :: r) with
    | none => rfl
    | some q =>
      obtain ⟨q, t, r'⟩ := q
      have := wordS_len hw
      simp only
      unfold wordsR
      rw [wordsF_fuel l.length (r'.length + 1) r' _ (by omega) (by omega)]
theorem dropWhile_idem (p : UInt8 → Bool) (l : List UInt8) : (l.dropWhile p).dropWhile p = l.dropWhile p := by
  induction l with
  | nil => rfl
  | cons c l ih =>
    rw [List.dropWhile_cons]
    split
    · exact ih
    · rename_i h; rw [List.dropWhile_cons, if_neg h]
theorem wordsR_skip (l : List UInt8) (a : Nat) : wordsR l a = wordsR (l.dropWhile isBlank) (a + (l.length - (l.dropWhile isBlank).length)) := by
  have hd := dropWhile_len isBlank l
  rw [wordsR_eq, wordsR_eq (l.dropWhile isBlank), dropWhile_idem]
  cases hl : l.dropWhile isBlank with
  | nil => rfl
  | cons c r =>
    rw [hl] at hd
    simp only
    cases hw : wordS (c :: r) with
    | none => simp only [Nat.sub_self, Nat.add_zero]
    | some q =>
      obtain ⟨q, t, r'⟩ := q
      have := wordS_len hw
      simp only [Nat.sub_self, Nat.add_zero]
      rw [show a + (l.length - (c :: r).length) + ((c :: r).length - r'.length) = a + (l.length - r'.length) by omega]
theorem preE_pre (p q : List Wd) (e : Except Nat (List Wd)) : preE p (preE q e) = preE (p ++ q) e := by cases e <;> simp [preE]
theorem preE_cons (w : Wd) (e : Except Nat (List Wd)) : consE w e = preE [w] e := by cases e <;> rfl
theorem preE_nil (e : Except Nat (List Wd)) : preE [] e = e := by cases e <;> rfl
end Go.Proofs.YtemddijemikleaaDoor
namespace Go.Abs
universe u
variable {P : Program} {d : Option Nat} {r : List CI} {cs : List Nat} {fr : Fr} {σ : St} {J : Fr → St → Prop} {K : AV → St → Prop}
def callvDV (P : Program) (v : AV) (xs : List AV) (σ : St) (K : AV → St → Prop) (h : Hold (σ, K)) : Prop := match v with
  | .fn f cap => callDV P f (xs ++ cap) σ K h
  | _ => False
theorem callvDV_fn {f : Nat} {cap xs : List AV} {h : Hold (σ, K)} : callvDV P (.fn f cap) xs σ K h = callDV P f (xs ++ cap) σ K h := rfl
theorem aDrw_callv {x : Od} {args : List Od} : aDrw P (⟨d, .callv x args, none⟩ :: r) (1 :: cs) fr σ J = callvDV P (ev σ fr x) (args.map (ev σ fr)) σ (fun v σ' => drwK P d r cs fr J v σ') ⟨⟩ := by
  show (∃ v σ', dOp P 1 0 (ev σ fr) σ (.callv x args) v σ' ∧ aDrw P r cs (putF d v fr) σ' J) = _
  apply propext
  unfold callvDV dOp
  constructor
  · rintro ⟨v, σ', ⟨_, rfl, h⟩, h2⟩
    split at h
    · rename_i hx
      rw [hx]
      exact ⟨v, h, h2⟩
    · exact h.elim
  · intro h
    split at h
    · rename_i hx
      obtain ⟨v, h, h2⟩ := h
      exact ⟨v, σ, ⟨rfl, rfl, by rw [hx]; exact h⟩, h2⟩
    · exact h.elim
def fnAC (P : Program) (xs : List AV) (σ : St) (v fv : AV) : Prop := match fv with
  | .fn f cap => ∀ σ2, St.le σ σ2 → AC P f (xs ++ cap) σ2 (fun x s => x = v ∧ s = σ2)
  | _ => False
def callvGV (P : Program) (b : Bool) (fv : AV) (p : Prop) (xs : List AV) (σ : St) (K : AV → St → Prop) (_ : Hold (σ, K)) : Prop := ∃ v, (b = true → p ∧ fnAC P xs σ v fv) ∧ K (.opt b v) σ
theorem callvGV_fn {b : Bool} {p : Prop} {f : Nat} {cap xs : List AV} {h : Hold (σ, K)} : callvGV P b (.fn f cap) p xs σ K h = callGV P b f p (xs ++ cap) σ K ⟨⟩ := rfl
variable {c : Nat}
theorem gdD_callv {b : Bool} {x : Od} {args : List Od} {h : Hold (d, CO.callv x args, r, cs, fr, σ, J)} : gdD P c (some b) d (.callv x args) r cs fr σ J h = callvGV P b (evU (ev σ fr) x) (optAll b (ev σ fr) (x :: args)) (args.map (evU (ev σ fr))) σ (fun v σ' => c = 1 ∧ drwK P d r cs fr J v σ') ⟨⟩ := by
  have hq : (CO.callv x args).quiet = false := rfl
  simp only [gdD, hq, cond_false, callvGV, drwK]
  apply propext; constructor
  · rintro ⟨v, σ', ⟨hc, rfl, v0, rfl, h3⟩, h4⟩; exact ⟨v0, h3, hc, h4⟩
  · rintro ⟨v0, h3, hc, h4⟩; exact ⟨_, _, ⟨hc, rfl, v0, rfl, h3⟩, h4⟩
theorem aDrwG_callv {x : Od} {args : List Od} {tt : Nat} {want : Bool} : aDrw P (⟨d, .callv x args, some (tt, want)⟩ :: r) (c :: cs) fr σ J = gdD P c (guardC want (slot tt fr)) d (.callv x args) r cs fr σ J ⟨⟩ := aDrw_guard rfl rfl
theorem aDrw_ixQ {e x i} : aDrw P (⟨d, .ixQ e x i, none⟩ :: r) (c :: cs) fr σ J = bindV (pf σ (ev σ fr) (.ixQ e x i)) (c ≤ 1 ∧ ps σ (ev σ fr) (.ixQ e x i)) σ (drwK P d r cs fr J) ⟨⟩ := by
  simp only [aDrw, makesBox, makesTip, cond_false, dStep, dOp, bindV, drwK]
  apply propext; constructor
  · rintro ⟨w, s, ⟨h1, h2, h3, rfl, rfl⟩, h⟩; exact ⟨⟨h2, h3⟩, h⟩
  · rintro ⟨⟨h2, h3⟩, h⟩; exact ⟨_, _, ⟨(fun e => by simp [isLd] at e), h2, h3, rfl, rfl⟩, h⟩
theorem aDrwG_ixQ {e x i} {tt : Nat} {want : Bool} : aDrw P (⟨d, .ixQ e x i, some (tt, want)⟩ :: r) (c :: cs) fr σ J = gdD P c (guardC want (slot tt fr)) d (.ixQ e x i) r cs fr σ J ⟨⟩ := aDrw_guard rfl rfl
theorem gdDQ_ixQ {bb : Bool} {e x i} {h : Hold (d, CO.ixQ e x i, r, cs, fr, σ, J)} : gdD P c (some bb) d (.ixQ e x i) r cs fr σ J h = bindV (.opt bb (bif bb then pf σ (evU (ev σ fr)) (.ixQ e x i) else .junk)) (((isLd (.ixQ e x i) = true → c = 1) ∧ c ≤ 1) ∧ (bb = true → optAll bb (ev σ fr) (CO.ods (.ixQ e x i)) ∧ ps σ (evU (ev σ fr)) (.ixQ e x i))) σ (drwK P d r cs fr J) ⟨⟩ := gdD_quiet rfl
theorem gdQ_ixQ {bb : Bool} {e x i} {h : Hold (d, CO.ixQ e x i, r, fr, σ, J)} : gdV P (some bb) d (.ixQ e x i) r fr σ J h = bindV (.opt bb (pf σ (evU (ev σ fr)) (.ixQ e x i))) (bb = true → optAll bb (ev σ fr) (CO.ods (.ixQ e x i)) ∧ ps σ (evU (ev σ fr)) (.ixQ e x i)) σ (opsK P d r fr J) ⟨⟩ := gdV_quiet rfl
theorem gdQ_lenP {bb : Bool} {x} {h : Hold (d, CO.lenP x, r, fr, σ, J)} : gdV P (some bb) d (.lenP x) r fr σ J h = bindV (.opt bb (pf σ (evU (ev σ fr)) (.lenP x))) (bb = true → optAll bb (ev σ fr) (CO.ods (.lenP x)) ∧ ps σ (evU (ev σ fr)) (.lenP x)) σ (opsK P d r fr J) ⟨⟩ := gdV_quiet rfl
theorem aDrw_lenP {x} : aDrw P (⟨d, .lenP x, none⟩ :: r) (c :: cs) fr σ J = bindV (pf σ (ev σ fr) (.lenP x)) (c ≤ 1 ∧ ps σ (ev σ fr) (.lenP x)) σ (drwK P d r cs fr J) ⟨⟩ := by
  simp only [aDrw, makesBox, makesTip, cond_false, dStep, dOp, bindV, drwK]
  apply propext; constructor
  · rintro ⟨w, s, ⟨h1, h2, h3, rfl, rfl⟩, h⟩; exact ⟨⟨h2, h3⟩, h⟩
  · rintro ⟨⟨h2, h3⟩, h⟩; exact ⟨_, _, ⟨(fun e => by simp [isLd] at e), h2, h3, rfl, rfl⟩, h⟩
theorem RQ : type_of% (And.intro @gdD_callv <| And.intro @aDrwG_callv <| And.intro @aDrw_ixQ <| And.intro @aDrwG_ixQ <| And.intro @gdDQ_ixQ <| And.intro @gdQ_ixQ <| And.intro @aDrw_callv <| And.intro @gdQ_lenP <| And.intro @aDrw_lenP <| And.intro @callvDV_fn @callvGV_fn) := And.intro @gdD_callv <| And.intro @aDrwG_callv <| And.intro @aDrw_ixQ <| And.intro @aDrwG_ixQ <| And.intro @gdDQ_ixQ <| And.intro @gdQ_ixQ <| And.intro @aDrw_callv <| And.intro @gdQ_lenP <| And.intro @aDrw_lenP <| And.intro @callvDV_fn @callvGV_fn
end Go.Abs
namespace Go.Abs
set_option linter.all false
section
variable {P : Program} {σ : St} {fr : Fr} {ps : List Nat} {asg body : CC} {xs : List AV}
theorem YC.le {l : Nat} {ys : List AV} {σ' : St} {R : AV → St → Prop} (h : YC P l ys σ R) (hle : St.le σ σ') : YC P l ys σ' R := fun g w vs hI hv => h g w vs (hI.le hle) hv
theorem YC.weaken {l : Nat} {ys : List AV} {R R' : AV → St → Prop} (h : YC P l ys σ R) (hr : ∀ r s, R r s → ∃ r' s', Go.Abs.wk r r' ∧ St.le s' s ∧ R' r' s') : YC P l ys σ R' := fun g w vs hI hv => by
  obtain ⟨fn, tmps, assign, body, h1, h2⟩ := h g w vs hI hv
  refine ⟨fn, tmps, assign, body, h1, h2.mono fun e w' hc => ?_⟩
  obtain ⟨v, r, σ', g', a1, a2, a3, a4, a5⟩ := hc
  obtain ⟨r', s', k1, k2, k3⟩ := hr _ _ a2
  exact ⟨v, r', s', g', a1, k3, a3.le k2, a4, k1 _ _ _ a5⟩
end
end Go.Abs
