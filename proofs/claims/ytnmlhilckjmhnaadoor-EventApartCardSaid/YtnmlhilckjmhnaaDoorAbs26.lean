/-
  Loops over functions: the rules; contracts that need the package's tables; one-argument functions for the evaluator.
-/
import Derived.Test.YtnmlhilckjmhnaaDoorAbs23
import Derived.Test.YtnmlhilckjmhnaaDoorAbs18
namespace Go.Abs
theorem St.lp_box (σ : St) (β : Nat) (c : List AV) : (σ.setBox β c).lp = σ.lp := rfl
theorem St.lp_tip (σ : St) (τ : Nat) (x : Nat × Nat × Nat) : (σ.setTip τ x).lp = σ.lp := rfl
theorem St.lp_same (σ : St) (L : Nat) (x : Loop × Fr) : (σ.setLp L x).lp L = some x := by simp [St.setLp, upd]
theorem St.box_lp (σ : St) (L : Nat) (x : Loop × Fr) : (σ.setLp L x).box = σ.box := rfl
theorem St.tip_lp (σ : St) (L : Nat) (x : Loop × Fr) : (σ.setLp L x).tip = σ.tip := rfl
theorem St.glob_lp (σ : St) (L : Nat) (x : Loop × Fr) : (σ.setLp L x).glob = σ.glob := rfl
theorem St.setBox_setLp (σ : St) (β L : Nat) (c : List AV) (x : Loop × Fr) : (σ.setBox β c).setLp L x = (σ.setLp L x).setBox β c := rfl
theorem St.setTip_setLp (σ : St) (τ L : Nat) (y : Nat × Nat × Nat) (x : Loop × Fr) : (σ.setTip τ y).setLp L x = (σ.setLp L x).setTip τ y := rfl
theorem St.setLp_setLp (σ : St) (L : Nat) (x y : Loop × Fr) : (σ.setLp L x).setLp L y = σ.setLp L y := by
  simp only [St.setLp, St.mk.injEq, true_and]
  funext j; simp only [upd]; split <;> rfl
theorem St.drop_box (σ : St) (β L : Nat) (c : List AV) : (σ.setBox β c).dropLp L = (σ.dropLp L).setBox β c := rfl
theorem St.drop_tip (σ : St) (τ L : Nat) (y : Nat × Nat × Nat) : (σ.setTip τ y).dropLp L = (σ.dropLp L).setTip τ y := rfl
theorem St.drop_set {σ : St} {L : Nat} {x : Loop × Fr} (h : σ.lp L = none) : (σ.setLp L x).dropLp L = σ := by
  obtain ⟨b, t, g, l⟩ := σ
  simp only [St.setLp, St.dropLp, St.mk.injEq, true_and]
  funext j; simp only [upd]
  split
  · rename_i e; subst e; exact h.symm
  · rfl

/-- The inside of a loop over a function whose value is known. -/
def RF (P : Program) (f : Nat) (cap : List AV) (ps : List Nat) (asg body : CC) (fr : Fr) (σ : St) (Q : Exit → Fr → St → Prop) : Prop :=
  isFn P f = true ∧ ∀ (L : Nat) (r : Loop), σ.lp L = none → r.state = .ready → r.pending = none →
    (∀ (xs : List AV) (σ1 : St) (K : AV → St → Prop), xs.length = ps.length → σ1.lp L = some (r, fr) →
      aC P asg (putL ps xs fr) σ1 (fun e fr1 σ2 => e = .normal ∧ σ2.lp L = some (r, fr) ∧ aC P body fr1 (σ2.setLp L (busy r, fr)) (fun e _ σ3 => σ3.lp L = some (busy r, fr) ∧ match e with
        | .normal => K (.bool true) (σ3.setLp L (r, fr))
        | .ret => K (.bool false) (σ3.setLp L (left r .ret, fr))
        | .exit id => K (.bool false) (σ3.setLp L (left r (.exit id), fr))
        | _ => False)) → YC P L xs σ1 K) →
    AC P f (.yld L :: cap) (σ.setLp L (r, fr)) (fun _ s => (s.lp L = some (r, fr) ∧ Q .normal fr (s.dropLp L)) ∨ (s.lp L = some (left r .ret, fr) ∧ Q .ret fr (s.dropLp L)) ∨ ∃ id, s.lp L = some (left r (.exit id), fr) ∧ Q (.exit id) fr (s.dropLp L))
section
variable {P : Program} {σ : St} {fr : Fr} {Q : Exit → Fr → St → Prop} {K : AV → St → Prop} {x : Od} {ps : List Nat} {asg body : CC} {f : Nat} {cap xs ys : List AV} {v : AV} {gl : List (Nat × List AV)}
theorem rfunV_start {h : Hold (asg, body, fr, σ, Q)} (regs : List (Bool × Nat × Nat × Nat × Nat)) (hh : startP regs fr σ fun fr σ => ∃ f cap, ev σ fr x = .fn f cap ∧ RF P f cap ps asg body fr σ Q) : rfunV P x ps asg body fr σ Q h := by
  refine ⟨regs, startP_mono regs hh (fun fr σ hq => ?_)⟩
  obtain ⟨f, cap, h1, h2⟩ := hq
  rw [h1]
  exact h2
/-- A round's body, all that is asked of it: with the state kept under a name, the record aside. -/
theorem RF_round {L : Nat} {r : Loop} {σ1 : St} (hl : σ1.lp L = none)
    (hY : ∀ (xs : List AV) (σ1 : St) (K : AV → St → Prop), xs.length = ps.length → σ1.lp L = some (r, fr) →
      aC P asg (putL ps xs fr) σ1 (fun e fr1 σ2 => e = .normal ∧ σ2.lp L = some (r, fr) ∧ aC P body fr1 (σ2.setLp L (busy r, fr)) (fun e _ σ3 => σ3.lp L = some (busy r, fr) ∧ match e with
        | .normal => K (.bool true) (σ3.setLp L (r, fr))
        | .ret => K (.bool false) (σ3.setLp L (left r .ret, fr))
        | .exit id => K (.bool false) (σ3.setLp L (left r (.exit id), fr))
        | _ => False)) → YC P L xs σ1 K) (hlen : xs.length = ps.length) {N : St → Prop} {R : St → Prop} {E : Nat → St → Prop}
    (hb : aC P asg (putL ps xs fr) (σ1.setLp L (r, fr)) (fun e fr1 σ2 => e = .normal ∧ σ2 = σ1.setLp L (r, fr) ∧ aC P body fr1 (σ1.setLp L (busy r, fr)) (fun e _ σ3 => match e with
        | .normal => ∃ s, σ3 = s.setLp L (busy r, fr) ∧ s.lp L = none ∧ N s
        | .ret => ∃ s, σ3 = s.setLp L (busy r, fr) ∧ s.lp L = none ∧ R s
        | .exit id => ∃ s, σ3 = s.setLp L (busy r, fr) ∧ s.lp L = none ∧ E id s
        | _ => False))) :
    YC P L xs (σ1.setLp L (r, fr)) (fun v s' => (v = .bool true ∧ ∃ s, s' = s.setLp L (r, fr) ∧ s.lp L = none ∧ N s) ∨
      (v = .bool false ∧ ((∃ s, s' = s.setLp L (left r .ret, fr) ∧ s.lp L = none ∧ R s) ∨ ∃ id s, s' = s.setLp L (left r (.exit id), fr) ∧ s.lp L = none ∧ E id s))) := by
  refine hY xs _ _ hlen (St.lp_same _ _ _) (aC_mono _ _ _ hb ?_)
  rintro e fr1 σ2 ⟨rfl, rfl, hb2⟩
  refine ⟨rfl, St.lp_same _ _ _, ?_⟩
  rw [St.setLp_setLp]
  refine aC_mono _ _ _ hb2 (fun e _ σ3 hq => ?_)
  cases e <;> simp only at hq ⊢ <;> first | exact hq.elim | skip
  · obtain ⟨s, rfl, h1, h2⟩ := hq
    exact ⟨St.lp_same _ _ _, .inl ⟨trivial, s, St.setLp_setLp _ _ _ _, h1, h2⟩⟩
  · obtain ⟨s, rfl, h1, h2⟩ := hq
    exact ⟨St.lp_same _ _ _, .inr ⟨trivial, .inr ⟨_, s, St.setLp_setLp _ _ _ _, h1, h2⟩⟩⟩
  · obtain ⟨s, rfl, h1, h2⟩ := hq
    exact ⟨St.lp_same _ _ _, .inr ⟨trivial, .inl ⟨s, St.setLp_setLp _ _ _ _, h1, h2⟩⟩⟩

/-! ### The package's tables -/
def GlobsOk (gl : List (Nat × List AV)) (σ : St) : Prop := ∀ k cs, look k gl = some cs → σ.glob k = some cs
theorem PuG.to (h : PuG P gl f ys v) (hg : GlobsOk gl σ) (hw : wkL xs ys) (hK : K v σ) : AC P f xs σ K :=
  AC.mono ((h σ hg).wk hw) (fun r s ⟨e1, e2⟩ => by subst e1; subst e2; exact hK)
theorem PuG_intro (cf : CF) (hf : fB P f cf = true) (hn : xs.length ≤ cf.n) (h : ∀ σ, GlobsOk gl σ → aC P cf.body (initF 0 xs) σ (endP cf.res (fun r s => r = v ∧ s = σ))) : PuG P gl f xs v := fun σ hσ => AC_intro cf hf hn (h σ hσ)
/-- A list, to which may be appended. -/
def TpG (P : Program) (gl : List (Nat × List AV)) (f : Nat) (xs : List AV) (e es n : Nat) (cs : List AV) : Prop := ∀ σ, GlobsOk gl σ → AC P f xs σ (fun r s => ∃ τ, σ.tip τ = none ∧ r = .tsl τ n cs ∧ s = σ.setTip τ (e, es, n))
theorem TpG.pu {e es n : Nat} {cs : List AV} (h : TpG P gl f xs e es n cs) : PuG P gl f xs (.sl false n cs) := fun σ hσ =>
  (h σ hσ).weaken fun r s ⟨τ, h1, h2, h3⟩ => ⟨.sl false n cs, σ, by rw [h2]; exact wk_tsl _ _ _, by rw [h3]; exact St.le_newT (St.le_refl _) h1, rfl, rfl⟩
theorem TpG.to {e es n : Nat} {cs : List AV} (h : TpG P gl f ys e es n cs) (hg : GlobsOk gl σ) (hw : wkL xs ys) (hK : ∀ τ, σ.tip τ = none → K (.tsl τ n cs) (σ.setTip τ (e, es, n))) : AC P f xs σ K :=
  ((h σ hg).wk hw).mono fun r s ⟨τ, h1, h2, h3⟩ => by rw [h2, h3]; exact hK τ h1
theorem PuG.all (h : PuG P gl f ys v) (hw : wkL xs ys) (hg : GlobsOk gl σ) : ∀ σ2, St.le σ σ2 → AC P f xs σ2 (fun x s => x = v ∧ s = σ2) := fun σ2 hle => (h σ2 (fun k cs hk => hle.2.2.1 _ _ (hg k cs hk))).wk hw

theorem callDV_puG {h : Hold (σ, K)} (hp : PuG P gl f ys v) (hg : GlobsOk gl σ) (hw : wkL xs ys) (hK : K v σ) : callDV P f xs σ K h := ⟨v, hp.all hw hg, hK⟩
theorem callGV_puG {b : Bool} {p : Prop} {h : Hold (σ, K)} (hg : GlobsOk gl σ) (hp : b = true → p ∧ PuG P gl f ys v ∧ wkL xs ys) (hK : K (.opt b v) σ) : callGV P b f p xs σ K h := ⟨v, fun hb => ⟨(hp hb).1, (hp hb).2.1.all (hp hb).2.2 hg⟩, hK⟩
/-- A call whose answer is a pointer to a new variable. -/
def Bx (P : Program) (f : Nat) (xs : List AV) (cs : List AV) : Prop := ∀ σ, AC P f xs σ (fun r s => ∃ β, σ.box β = none ∧ r = .ptr β 0 ∧ s = σ.setBox β cs)
theorem Bx.to {cs : List AV} (h : Bx P f ys cs) (hw : wkL xs ys) (hK : ∀ β, σ.box β = none → K (.ptr β 0) (σ.setBox β cs)) : AC P f xs σ K :=
  ((h σ).wk hw).mono fun r s ⟨β, h1, h2, h3⟩ => by rw [h2, h3]; exact hK β h1
/-- A function of one number of 64 bits, for the evaluator. -/
def xU (f : Nat) (sp : Int → Option AV) : Call := fun g xs s => bif Nat.beq g f then
    match xs with
    | [.int .u64 n] => match sp n with
      | some v => bif cl v then some (v, s) else none
      | none => none
    | _ => none
  else none
theorem xU_ok {sp : Int → Option AV} (h : ∀ n v, sp n = some v → PuG P gl f [.int .u64 n] v) : CallOk P gl (xU f sp) := by
  intro g xs s v s' σb m t σ xs' hx hR hv
  unfold xU at hx
  cases hg : Nat.beq g f with
  | false => rw [hg] at hx; cases hx
  | true =>
    rw [hg] at hx
    have := Nat.eq_of_beq_eq_true hg
    subst this
    simp only [cond_true] at hx
    split at hx
    · rename_i n
      split at hx
      · rename_i u hu
        cases hc : cl u with
        | false => rw [hc] at hx; cases hx
        | true =>
          rw [hc] at hx
          simp only [cond_true, Option.some.injEq, Prod.mk.injEq] at hx
          obtain ⟨rfl, rfl⟩ := hx
          obtain ⟨a1, _, rfl, h1, h2⟩ := hv.cons_inv
          rw [h2.nil_inv, h1.int_inv]
          refine (h n u hu σ (fun k cs hk => (hR.gl k cs hk).1)).mono ?_
          rintro r s2 ⟨rfl, rfl⟩
          exact ⟨m, t, .refl _, .refl _, cl_vr _ hc, hR⟩
      · cases hx
    · cases hx
end
/-- The rules for simp. -/
theorem R4 : type_of% (And.intro @aC_any (And.intro @anyK_done (And.intro @anyK_stop (And.intro @anyK_alt (And.intro @aOp_mkP (And.intro @pslV_eq (And.intro @aOp_s2b (And.intro @aOp_lenP (And.intro @aOp_ixQ (And.intro @aC_rfun (And.intro @callvV_yld (And.intro @aOp_b2sP (And.intro @aOp_slcP (And.intro @gdQ_b2sP (And.intro @St.lp_box (And.intro @St.lp_tip (And.intro @St.lp_same (And.intro @St.box_lp (And.intro @St.tip_lp (And.intro @St.glob_lp (And.intro @St.setBox_setLp (And.intro @St.setTip_setLp (And.intro @St.setLp_setLp (And.intro @St.drop_box (@St.drop_tip))))))))))))))))))))))))) := And.intro @aC_any (And.intro @anyK_done (And.intro @anyK_stop (And.intro @anyK_alt (And.intro @aOp_mkP (And.intro @pslV_eq (And.intro @aOp_s2b (And.intro @aOp_lenP (And.intro @aOp_ixQ (And.intro @aC_rfun (And.intro @callvV_yld (And.intro @aOp_b2sP (And.intro @aOp_slcP (And.intro @gdQ_b2sP (And.intro @St.lp_box (And.intro @St.lp_tip (And.intro @St.lp_same (And.intro @St.box_lp (And.intro @St.tip_lp (And.intro @St.glob_lp (And.intro @St.setBox_setLp (And.intro @St.setTip_setLp (And.intro @St.setLp_setLp (And.intro @St.drop_box (@St.drop_tip))))))))))))))))))))))))
end Go.Abs
