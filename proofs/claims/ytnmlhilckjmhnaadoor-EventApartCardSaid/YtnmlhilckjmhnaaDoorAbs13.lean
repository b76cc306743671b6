/-
  The rules for regions that draw their order.
-/
import Derived.Test.YtnmlhilckjmhnaaDoorAbs12
namespace Go.Abs

def drwK (P : Program) (d : Option Nat) (r : List CI) (cs : List Nat) (fr : Fr) (K : Fr → St → Prop) (v : AV) (σ : St) : Prop := aDrw P r cs (putF d v fr) σ K
def callDV (P : Program) (f : Nat) (as : List AV) (σ : St) (K : AV → St → Prop) (_ : Hold (σ, K)) : Prop := ∃ v, (∀ σ2, St.le σ σ2 → AC P f as σ2 (fun x s => x = v ∧ s = σ2)) ∧ K v σ
def callGV (P : Program) (b : Bool) (f : Nat) (p : Prop) (as : List AV) (σ : St) (K : AV → St → Prop) (_ : Hold (σ, K)) : Prop := ∃ v, (b = true → p ∧ ∀ σ2, St.le σ σ2 → AC P f as σ2 (fun x s => x = v ∧ s = σ2)) ∧ K (.opt b v) σ
def isnilD (kind : Nat) (neg : Bool) (v : AV) (σ : St) (K : AV → St → Prop) (_ : Hold (σ, K)) : Prop := nilOk kind v = true ∧ ∃ b0, (∀ b, nilP kind v b → b = b0) ∧ K (.bool (bif neg then !b0 else b0)) σ
def appS (tp : Bool) (c : Nat) (e es bytes : Nat) (x y : AV) (σ : St) (K : AV → St → Prop) (β : Nat) : Prop := ∃ v σ', (match x with
    | .tsl τ n cs => (c = 2 ∨ c = 4) ∧ match slv y with
      | some (m, ds) => σ.tip τ = some (e, es, n) ∧ cs.length = n * es ∧ ds.length = m * es ∧ n + m ≤ maxLen ∧ (n + m) * bytes ≤ 140737488355328 ∧ v = .tsl τ (n + m) (cs ++ ds) ∧ σ' = σ.setTip τ (e, es, n + m)
      | none => False
    | x => bif Nat.beq c 4 then (tp = true ∧ match slv x, slv y with
        | some (n, cs), some (m, ds) => fresh x ∧ cs.length = n * es ∧ ds.length = m * es ∧ n + m ≤ maxLen ∧ (n + m) * bytes ≤ 140737488355328 ∧ v = .tsl β (n + m) (cs ++ ds) ∧ σ' = σ.setTip β (e, es, n + m)
        | _, _ => False)
      else (c ≤ 1 ∧ ps σ (ab x y) (.app false e es bytes (.t 0) (.t 1)) ∧ v = pf σ (ab x y) (.app false e es bytes (.t 0) (.t 1)) ∧ σ' = σ)) ∧ K v σ'
def appD (tp : Bool) (c : Nat) (e es bytes : Nat) (x y : AV) (σ : St) (K : AV → St → Prop) (_ : Hold (σ, K)) : Prop :=
  bif tp && Nat.beq c 4 then ∀ β, σ.tip β = none → appS tp c e es bytes x y σ K β else appS tp c e es bytes x y σ K 0
def gdD (P : Program) (c : Nat) (gc : Option Bool) (d : Option Nat) (op : CO) (r : List CI) (cs : List Nat) (fr : Fr) (σ : St) (K : Fr → St → Prop) (_ : Hold (d, op, r, cs, fr, σ, K)) : Prop :=
  ∃ v σ', (match gc with
    | none => False
    | some b => bif op.quiet then
        (isLd op = true → c = 1) ∧ c ≤ 1 ∧ (b = true → optAll b (ev σ fr) op.gods ∧ ps σ (gEv op (ev σ fr)) op) ∧ v = .opt b (bif b then pf σ (gEv op (ev σ fr)) op else .junk) ∧ σ' = σ
      else match op with
        | .call f args => c = 1 ∧ σ' = σ ∧ ∃ v0, v = .opt b v0 ∧ (b = true → optAll b (ev σ fr) args ∧ ∀ σ2, St.le σ σ2 → AC P f (args.map (evU (ev σ fr))) σ2 (fun x s => x = v0 ∧ s = σ2))
        | _ => False) ∧ aDrw P r cs (putF d v fr) σ' K

section
variable {P : Program} {σ : St} {K : AV → St → Prop} {fr : Fr} {J : Fr → St → Prop} {d : Option Nat} {r : List CI} {cs : List Nat} {c n f : Nat} {v : AV} {as bs : List AV}
theorem drwK_eq : drwK P d r cs fr J v σ = aDrw P r cs (putF d v fr) σ J := rfl
theorem aDrw_nil : aDrw P [] cs fr σ J = J fr σ := by simp only [aDrw]
theorem aDrw_alloc {z : List AV} : aDrw P (⟨d, .alloc z, none⟩ :: r) (c :: cs) fr σ J = boxV True z σ (fun v σ' => (c = 2 ∨ c = 3) ∧ drwK P d r cs fr J v σ') ⟨⟩ := by
  simp only [aDrw, makesBox, cond_true, dStep, dOp, boxV, drwK]
  apply propext; constructor
  · intro h
    exact ⟨trivial, fun β hβ => by obtain ⟨_, _, ⟨hc, rfl, rfl⟩, h2⟩ := h β hβ; exact ⟨hc, h2⟩⟩
  · rintro ⟨_, h⟩ β hβ
    exact ⟨_, _, ⟨(h β hβ).1, rfl, rfl⟩, (h β hβ).2⟩
theorem aDrw_box {x : Od} : aDrw P (⟨d, .box n x, none⟩ :: r) (c :: cs) fr σ J = boxV True (ev σ fr x).cells σ (fun v σ' => (c = 2 ∧ (ev σ fr x).fits = true ∧ (ev σ fr x).cells.length = n) ∧ drwK P d r cs fr J v σ') ⟨⟩ := by
  simp only [aDrw, makesBox, cond_true, dStep, dOp, boxV, drwK]
  apply propext; constructor
  · intro h
    exact ⟨trivial, fun β hβ => by obtain ⟨_, _, ⟨hc, h3, h4, rfl, rfl⟩, h2⟩ := h β hβ; exact ⟨⟨hc, h3, h4⟩, h2⟩⟩
  · rintro ⟨_, h⟩ β hβ
    obtain ⟨⟨h1, h3, h4⟩, h2⟩ := h β hβ
    exact ⟨_, _, ⟨h1, h3, h4, rfl, rfl⟩, h2⟩
theorem aDrw_st {p x : Od} : aDrw P (⟨d, .st n p x, none⟩ :: r) (c :: cs) fr σ J = stV (ev σ fr p) (ev σ fr x) n σ (fun v σ' => c = 2 ∧ drwK P d r cs fr J v σ') ⟨⟩ := by
  simp only [aDrw, makesBox, makesTip, cond_false, dStep, dOp, stV, drwK]
  apply propext
  generalize ev σ fr p = vp
  cases vp
  case ptr γ off =>
    simp only
    cases hb : σ.box γ with
    | none => simp
    | some cs' =>
      simp only
      constructor
      · rintro ⟨v, σ', ⟨hc, q1, q2, q3, rfl, rfl⟩, h2⟩
        exact ⟨q1, q2, q3, hc, h2⟩
      · rintro ⟨q1, q2, q3, hc, h2⟩
        exact ⟨_, _, ⟨hc, q1, q2, q3, rfl, rfl⟩, h2⟩
  all_goals simp
theorem aDrw_call {args : List Od} : aDrw P (⟨d, .call f args, none⟩ :: r) (c :: cs) fr σ J = callDV P f (args.map (ev σ fr)) σ (fun v σ' => c = 1 ∧ drwK P d r cs fr J v σ') ⟨⟩ := by
  simp only [aDrw, makesBox, makesTip, cond_false, dStep, dOp, callDV, drwK]
  apply propext; constructor
  · rintro ⟨v, σ', ⟨hc, rfl, h⟩, h2⟩; exact ⟨v, h, hc, h2⟩
  · rintro ⟨v, h, hc, h2⟩; exact ⟨v, _, ⟨hc, rfl, h⟩, h2⟩
theorem aDrw_isnil {kind : Nat} {neg : Bool} {x : Od} : aDrw P (⟨d, .isnil kind neg x, none⟩ :: r) (c :: cs) fr σ J = isnilD kind neg (ev σ fr x) σ (fun v σ' => c ≤ 1 ∧ drwK P d r cs fr J v σ') ⟨⟩ := by
  simp only [aDrw, makesBox, makesTip, cond_false, dStep, dOp, isnilD, drwK]
  apply propext; constructor
  · rintro ⟨v, σ', ⟨hc, h1, rfl, b0, h3, rfl⟩, h2⟩; exact ⟨h1, b0, h3, hc, h2⟩
  · rintro ⟨h1, b0, h3, hc, h2⟩; exact ⟨_, _, ⟨hc, h1, rfl, b0, h3, rfl⟩, h2⟩
theorem aDrw_app {tp : Bool} {e es bytes : Nat} {x y : Od} : aDrw P (⟨d, .app tp e es bytes x y, none⟩ :: r) (c :: cs) fr σ J = appD tp c e es bytes (ev σ fr x) (ev σ fr y) σ (drwK P d r cs fr J) ⟨⟩ := by
  have h : ∀ β, appS tp c e es bytes (ev σ fr x) (ev σ fr y) σ (drwK P d r cs fr J) β = ∃ v σ', dStep P c β ⟨d, .app tp e es bytes x y, none⟩ fr σ v σ' ∧ aDrw P r cs (putF d v fr) σ' J := by
    intro β
    simp only [dStep, dOp, appS, drwK]
    cases h : ev σ fr x <;> simp only [ps, pf, ab, h] <;> rfl
  simp only [aDrw, makesBox, makesTip, cond_false, appD, h]
theorem appD_fresh {tp : Bool} {e es bytes m : Nat} {cs ds : List AV} {x y : AV} {h : Hold (σ, K)} (hx : slv x = some (n, cs)) (hf : fresh x) (hy : slv y = some (m, ds)) (hc : c ≤ 1) (h1 : cs.length = n * es) (h2 : ds.length = m * es) (h3 : n + m ≤ maxLen) (h4 : (n + m) * bytes ≤ 140737488355328) (hK : K (.sl false (n + m) (cs ++ ds)) σ) : appD tp c e es bytes x y σ K h := by
  have b4 : Nat.beq c 4 = false := by rcases (by omega : c = 0 ∨ c = 1) with rfl | rfl <;> rfl
  unfold appD
  rw [b4, Bool.and_false, cond_false]
  refine ⟨_, _, ?_, hK⟩
  split
  · exact hf.elim
  · simp only [b4, cond_false, ps, pf, ab, hx, hy]
    exact ⟨hc, ⟨hf, h1, h2, h3, h4⟩, trivial, trivial⟩
theorem callDV_pu {h : Hold (σ, K)} (hp : Pu P f bs v) (hw : wkL as bs) (hK : K v σ) : callDV P f as σ K h := ⟨v, hp.all hw, hK⟩
theorem callGV_pu {b : Bool} {p : Prop} {h : Hold (σ, K)} (hp : b = true → p ∧ Pu P f bs v ∧ wkL as bs) (hK : K (.opt b v) σ) : callGV P b f p as σ K h := ⟨v, fun hb => ⟨(hp hb).1, (hp hb).2.1.all (hp hb).2.2⟩, hK⟩
theorem aDrw_guard {op : CO} {t : Nat} {want : Bool} (hm : makesBox op = false) (hm2 : makesTip c op = false) : aDrw P (⟨d, op, some (t, want)⟩ :: r) (c :: cs) fr σ J = gdD P c (guardC want (slot t fr)) d op r cs fr σ J ⟨⟩ := by
  simp only [aDrw, hm, hm2, cond_false, dStep, gdD]
  generalize guardC want (slot t fr) = gc
  cases gc with
  | none => rfl
  | some b => cases op <;> rfl
theorem gdD_quiet {b : Bool} {op : CO} {h : Hold (d, op, r, cs, fr, σ, J)} (hq : op.quiet = true) : gdD P c (some b) d op r cs fr σ J h = bindV (.opt b (bif b then pf σ (gEv op (ev σ fr)) op else .junk)) (((isLd op = true → c = 1) ∧ c ≤ 1) ∧ (b = true → optAll b (ev σ fr) op.gods ∧ ps σ (gEv op (ev σ fr)) op)) σ (drwK P d r cs fr J) ⟨⟩ := by
  simp only [gdD, hq, cond_true, bindV, drwK]
  apply propext; constructor
  · rintro ⟨v, σ', ⟨h1, h2, h3, rfl, rfl⟩, h4⟩; exact ⟨⟨⟨h1, h2⟩, h3⟩, h4⟩
  · rintro ⟨⟨⟨h1, h2⟩, h3⟩, h4⟩; exact ⟨_, _, ⟨h1, h2, h3, rfl, rfl⟩, h4⟩
theorem gdD_call {b : Bool} {args : List Od} {h : Hold (d, CO.call f args, r, cs, fr, σ, J)} : gdD P c (some b) d (.call f args) r cs fr σ J h = callGV P b f (optAll b (ev σ fr) args) (args.map (evU (ev σ fr))) σ (fun v σ' => c = 1 ∧ drwK P d r cs fr J v σ') ⟨⟩ := by
  have hq : (CO.call f args).quiet = false := rfl
  simp only [gdD, hq, cond_false, callGV, drwK]
  apply propext; constructor
  · rintro ⟨v, σ', ⟨hc, rfl, v0, rfl, h3⟩, h4⟩; exact ⟨v0, h3, hc, h4⟩
  · rintro ⟨v0, h3, hc, h4⟩; exact ⟨_, _, ⟨hc, rfl, v0, rfl, h3⟩, h4⟩
theorem aDrw_mv {x} : aDrw P (⟨d, .mv x, none⟩ :: r) (c :: cs) fr σ J = bindV (pf σ (ev σ fr) (.mv x)) (c ≤ 1 ∧ ps σ (ev σ fr) (.mv x)) σ (drwK P d r cs fr J) ⟨⟩ := by
  simp only [aDrw, makesBox, makesTip, cond_false, dStep, dOp, bindV, drwK]
  apply propext; constructor
  · rintro ⟨w, s, ⟨h1, h2, h3, rfl, rfl⟩, h⟩; exact ⟨⟨h2, h3⟩, h⟩
  · rintro ⟨⟨h2, h3⟩, h⟩; exact ⟨_, _, ⟨(fun e => by simp [isLd] at e), h2, h3, rfl, rfl⟩, h⟩
theorem aDrwG_mv {x} {tt : Nat} {want : Bool} : aDrw P (⟨d, .mv x, some (tt, want)⟩ :: r) (c :: cs) fr σ J = gdD P c (guardC want (slot tt fr)) d (.mv x) r cs fr σ J ⟨⟩ := aDrw_guard rfl rfl
theorem gdDQ_mv {bb : Bool} {x} {h : Hold (d, CO.mv x, r, cs, fr, σ, J)} : gdD P c (some bb) d (.mv x) r cs fr σ J h = bindV (.opt bb (bif bb then pf σ (evU (ev σ fr)) (.mv x) else .junk)) (((isLd (.mv x) = true → c = 1) ∧ c ≤ 1) ∧ (bb = true → optAll bb (ev σ fr) (CO.ods (.mv x)) ∧ ps σ (evU (ev σ fr)) (.mv x))) σ (drwK P d r cs fr J) ⟨⟩ := gdD_quiet rfl
theorem aDrw_pick {x a b} : aDrw P (⟨d, .pick x a b, none⟩ :: r) (c :: cs) fr σ J = bindV (pf σ (ev σ fr) (.pick x a b)) (c ≤ 1 ∧ ps σ (ev σ fr) (.pick x a b)) σ (drwK P d r cs fr J) ⟨⟩ := by
  simp only [aDrw, makesBox, makesTip, cond_false, dStep, dOp, bindV, drwK]
  apply propext; constructor
  · rintro ⟨w, s, ⟨h1, h2, h3, rfl, rfl⟩, h⟩; exact ⟨⟨h2, h3⟩, h⟩
  · rintro ⟨⟨h2, h3⟩, h⟩; exact ⟨_, _, ⟨(fun e => by simp [isLd] at e), h2, h3, rfl, rfl⟩, h⟩
theorem aDrwG_pick {x a b} {tt : Nat} {want : Bool} : aDrw P (⟨d, .pick x a b, some (tt, want)⟩ :: r) (c :: cs) fr σ J = gdD P c (guardC want (slot tt fr)) d (.pick x a b) r cs fr σ J ⟨⟩ := aDrw_guard rfl rfl
theorem gdDQ_pick {bb : Bool} {x a b} {h : Hold (d, CO.pick x a b, r, cs, fr, σ, J)} : gdD P c (some bb) d (.pick x a b) r cs fr σ J h = bindV (.opt bb (bif bb then pf σ (pickE x (ev σ fr)) (.pick x a b) else .junk)) (((isLd (.pick x a b) = true → c = 1) ∧ c ≤ 1) ∧ (bb = true → optAll bb (ev σ fr) [x] ∧ ps σ (pickE x (ev σ fr)) (.pick x a b))) σ (drwK P d r cs fr J) ⟨⟩ := gdD_quiet rfl
theorem aDrw_un {u x} : aDrw P (⟨d, .un u x, none⟩ :: r) (c :: cs) fr σ J = bindV (pf σ (ev σ fr) (.un u x)) (c ≤ 1 ∧ ps σ (ev σ fr) (.un u x)) σ (drwK P d r cs fr J) ⟨⟩ := by
  simp only [aDrw, makesBox, makesTip, cond_false, dStep, dOp, bindV, drwK]
  apply propext; constructor
  · rintro ⟨w, s, ⟨h1, h2, h3, rfl, rfl⟩, h⟩; exact ⟨⟨h2, h3⟩, h⟩
  · rintro ⟨⟨h2, h3⟩, h⟩; exact ⟨_, _, ⟨(fun e => by simp [isLd] at e), h2, h3, rfl, rfl⟩, h⟩
theorem aDrwG_un {u x} {tt : Nat} {want : Bool} : aDrw P (⟨d, .un u x, some (tt, want)⟩ :: r) (c :: cs) fr σ J = gdD P c (guardC want (slot tt fr)) d (.un u x) r cs fr σ J ⟨⟩ := aDrw_guard rfl rfl
theorem gdDQ_un {bb : Bool} {u x} {h : Hold (d, CO.un u x, r, cs, fr, σ, J)} : gdD P c (some bb) d (.un u x) r cs fr σ J h = bindV (.opt bb (bif bb then pf σ (evU (ev σ fr)) (.un u x) else .junk)) (((isLd (.un u x) = true → c = 1) ∧ c ≤ 1) ∧ (bb = true → optAll bb (ev σ fr) (CO.ods (.un u x)) ∧ ps σ (evU (ev σ fr)) (.un u x))) σ (drwK P d r cs fr J) ⟨⟩ := gdD_quiet rfl
theorem aDrw_bin {u x y} : aDrw P (⟨d, .bin u x y, none⟩ :: r) (c :: cs) fr σ J = bindV (pf σ (ev σ fr) (.bin u x y)) (c ≤ 1 ∧ ps σ (ev σ fr) (.bin u x y)) σ (drwK P d r cs fr J) ⟨⟩ := by
  simp only [aDrw, makesBox, makesTip, cond_false, dStep, dOp, bindV, drwK]
  apply propext; constructor
  · rintro ⟨w, s, ⟨h1, h2, h3, rfl, rfl⟩, h⟩; exact ⟨⟨h2, h3⟩, h⟩
  · rintro ⟨⟨h2, h3⟩, h⟩; exact ⟨_, _, ⟨(fun e => by simp [isLd] at e), h2, h3, rfl, rfl⟩, h⟩
theorem aDrwG_bin {u x y} {tt : Nat} {want : Bool} : aDrw P (⟨d, .bin u x y, some (tt, want)⟩ :: r) (c :: cs) fr σ J = gdD P c (guardC want (slot tt fr)) d (.bin u x y) r cs fr σ J ⟨⟩ := aDrw_guard rfl rfl
theorem gdDQ_bin {bb : Bool} {u x y} {h : Hold (d, CO.bin u x y, r, cs, fr, σ, J)} : gdD P c (some bb) d (.bin u x y) r cs fr σ J h = bindV (.opt bb (bif bb then pf σ (evU (ev σ fr)) (.bin u x y) else .junk)) (((isLd (.bin u x y) = true → c = 1) ∧ c ≤ 1) ∧ (bb = true → optAll bb (ev σ fr) (CO.ods (.bin u x y)) ∧ ps σ (evU (ev σ fr)) (.bin u x y))) σ (drwK P d r cs fr J) ⟨⟩ := gdD_quiet rfl
theorem aDrw_eqA {n ks x y} : aDrw P (⟨d, .eqA n ks x y, none⟩ :: r) (c :: cs) fr σ J = bindV (pf σ (ev σ fr) (.eqA n ks x y)) (c ≤ 1 ∧ ps σ (ev σ fr) (.eqA n ks x y)) σ (drwK P d r cs fr J) ⟨⟩ := by
  simp only [aDrw, makesBox, makesTip, cond_false, dStep, dOp, bindV, drwK]
  apply propext; constructor
  · rintro ⟨w, s, ⟨h1, h2, h3, rfl, rfl⟩, h⟩; exact ⟨⟨h2, h3⟩, h⟩
  · rintro ⟨⟨h2, h3⟩, h⟩; exact ⟨_, _, ⟨(fun e => by simp [isLd] at e), h2, h3, rfl, rfl⟩, h⟩
theorem aDrwG_eqA {n ks x y} {tt : Nat} {want : Bool} : aDrw P (⟨d, .eqA n ks x y, some (tt, want)⟩ :: r) (c :: cs) fr σ J = gdD P c (guardC want (slot tt fr)) d (.eqA n ks x y) r cs fr σ J ⟨⟩ := aDrw_guard rfl rfl
theorem gdDQ_eqA {bb : Bool} {n ks x y} {h : Hold (d, CO.eqA n ks x y, r, cs, fr, σ, J)} : gdD P c (some bb) d (.eqA n ks x y) r cs fr σ J h = bindV (.opt bb (bif bb then pf σ (evU (ev σ fr)) (.eqA n ks x y) else .junk)) (((isLd (.eqA n ks x y) = true → c = 1) ∧ c ≤ 1) ∧ (bb = true → optAll bb (ev σ fr) (CO.ods (.eqA n ks x y)) ∧ ps σ (evU (ev σ fr)) (.eqA n ks x y))) σ (drwK P d r cs fr J) ⟨⟩ := gdD_quiet rfl
theorem aDrw_eqb {n x y} : aDrw P (⟨d, .eqb n x y, none⟩ :: r) (c :: cs) fr σ J = bindV (pf σ (ev σ fr) (.eqb n x y)) (c ≤ 1 ∧ ps σ (ev σ fr) (.eqb n x y)) σ (drwK P d r cs fr J) ⟨⟩ := by
  simp only [aDrw, makesBox, makesTip, cond_false, dStep, dOp, bindV, drwK]
  apply propext; constructor
  · rintro ⟨w, s, ⟨h1, h2, h3, rfl, rfl⟩, h⟩; exact ⟨⟨h2, h3⟩, h⟩
  · rintro ⟨⟨h2, h3⟩, h⟩; exact ⟨_, _, ⟨(fun e => by simp [isLd] at e), h2, h3, rfl, rfl⟩, h⟩
theorem aDrwG_eqb {n x y} {tt : Nat} {want : Bool} : aDrw P (⟨d, .eqb n x y, some (tt, want)⟩ :: r) (c :: cs) fr σ J = gdD P c (guardC want (slot tt fr)) d (.eqb n x y) r cs fr σ J ⟨⟩ := aDrw_guard rfl rfl
theorem gdDQ_eqb {bb : Bool} {n x y} {h : Hold (d, CO.eqb n x y, r, cs, fr, σ, J)} : gdD P c (some bb) d (.eqb n x y) r cs fr σ J h = bindV (.opt bb (bif bb then pf σ (evU (ev σ fr)) (.eqb n x y) else .junk)) (((isLd (.eqb n x y) = true → c = 1) ∧ c ≤ 1) ∧ (bb = true → optAll bb (ev σ fr) (CO.ods (.eqb n x y)) ∧ ps σ (evU (ev σ fr)) (.eqb n x y))) σ (drwK P d r cs fr J) ⟨⟩ := gdD_quiet rfl
theorem aDrw_cnv {k x} : aDrw P (⟨d, .cnv k x, none⟩ :: r) (c :: cs) fr σ J = bindV (pf σ (ev σ fr) (.cnv k x)) (c ≤ 1 ∧ ps σ (ev σ fr) (.cnv k x)) σ (drwK P d r cs fr J) ⟨⟩ := by
  simp only [aDrw, makesBox, makesTip, cond_false, dStep, dOp, bindV, drwK]
  apply propext; constructor
  · rintro ⟨w, s, ⟨h1, h2, h3, rfl, rfl⟩, h⟩; exact ⟨⟨h2, h3⟩, h⟩
  · rintro ⟨⟨h2, h3⟩, h⟩; exact ⟨_, _, ⟨(fun e => by simp [isLd] at e), h2, h3, rfl, rfl⟩, h⟩
theorem aDrwG_cnv {k x} {tt : Nat} {want : Bool} : aDrw P (⟨d, .cnv k x, some (tt, want)⟩ :: r) (c :: cs) fr σ J = gdD P c (guardC want (slot tt fr)) d (.cnv k x) r cs fr σ J ⟨⟩ := aDrw_guard rfl rfl
theorem gdDQ_cnv {bb : Bool} {k x} {h : Hold (d, CO.cnv k x, r, cs, fr, σ, J)} : gdD P c (some bb) d (.cnv k x) r cs fr σ J h = bindV (.opt bb (bif bb then pf σ (evU (ev σ fr)) (.cnv k x) else .junk)) (((isLd (.cnv k x) = true → c = 1) ∧ c ≤ 1) ∧ (bb = true → optAll bb (ev σ fr) (CO.ods (.cnv k x)) ∧ ps σ (evU (ev σ fr)) (.cnv k x))) σ (drwK P d r cs fr J) ⟨⟩ := gdD_quiet rfl
theorem aDrw_b2s {x} : aDrw P (⟨d, .b2s x, none⟩ :: r) (c :: cs) fr σ J = bindV (pf σ (ev σ fr) (.b2s x)) (c ≤ 1 ∧ ps σ (ev σ fr) (.b2s x)) σ (drwK P d r cs fr J) ⟨⟩ := by
  simp only [aDrw, makesBox, makesTip, cond_false, dStep, dOp, bindV, drwK]
  apply propext; constructor
  · rintro ⟨w, s, ⟨h1, h2, h3, rfl, rfl⟩, h⟩; exact ⟨⟨h2, h3⟩, h⟩
  · rintro ⟨⟨h2, h3⟩, h⟩; exact ⟨_, _, ⟨(fun e => by simp [isLd] at e), h2, h3, rfl, rfl⟩, h⟩
theorem aDrwG_b2s {x} {tt : Nat} {want : Bool} : aDrw P (⟨d, .b2s x, some (tt, want)⟩ :: r) (c :: cs) fr σ J = gdD P c (guardC want (slot tt fr)) d (.b2s x) r cs fr σ J ⟨⟩ := aDrw_guard rfl rfl
theorem gdDQ_b2s {bb : Bool} {x} {h : Hold (d, CO.b2s x, r, cs, fr, σ, J)} : gdD P c (some bb) d (.b2s x) r cs fr σ J h = bindV (.opt bb (bif bb then pf σ (evU (ev σ fr)) (.b2s x) else .junk)) (((isLd (.b2s x) = true → c = 1) ∧ c ≤ 1) ∧ (bb = true → optAll bb (ev σ fr) (CO.ods (.b2s x)) ∧ ps σ (evU (ev σ fr)) (.b2s x))) σ (drwK P d r cs fr J) ⟨⟩ := gdD_quiet rfl
theorem aDrw_len {x} : aDrw P (⟨d, .len x, none⟩ :: r) (c :: cs) fr σ J = bindV (pf σ (ev σ fr) (.len x)) (c ≤ 1 ∧ ps σ (ev σ fr) (.len x)) σ (drwK P d r cs fr J) ⟨⟩ := by
  simp only [aDrw, makesBox, makesTip, cond_false, dStep, dOp, bindV, drwK]
  apply propext; constructor
  · rintro ⟨w, s, ⟨h1, h2, h3, rfl, rfl⟩, h⟩; exact ⟨⟨h2, h3⟩, h⟩
  · rintro ⟨⟨h2, h3⟩, h⟩; exact ⟨_, _, ⟨(fun e => by simp [isLd] at e), h2, h3, rfl, rfl⟩, h⟩
theorem aDrwG_len {x} {tt : Nat} {want : Bool} : aDrw P (⟨d, .len x, some (tt, want)⟩ :: r) (c :: cs) fr σ J = gdD P c (guardC want (slot tt fr)) d (.len x) r cs fr σ J ⟨⟩ := aDrw_guard rfl rfl
theorem gdDQ_len {bb : Bool} {x} {h : Hold (d, CO.len x, r, cs, fr, σ, J)} : gdD P c (some bb) d (.len x) r cs fr σ J h = bindV (.opt bb (bif bb then pf σ (evU (ev σ fr)) (.len x) else .junk)) (((isLd (.len x) = true → c = 1) ∧ c ≤ 1) ∧ (bb = true → optAll bb (ev σ fr) (CO.ods (.len x)) ∧ ps σ (evU (ev σ fr)) (.len x))) σ (drwK P d r cs fr J) ⟨⟩ := gdD_quiet rfl
theorem aDrw_lenS {x} : aDrw P (⟨d, .lenS x, none⟩ :: r) (c :: cs) fr σ J = bindV (pf σ (ev σ fr) (.lenS x)) (c ≤ 1 ∧ ps σ (ev σ fr) (.lenS x)) σ (drwK P d r cs fr J) ⟨⟩ := by
  simp only [aDrw, makesBox, makesTip, cond_false, dStep, dOp, bindV, drwK]
  apply propext; constructor
  · rintro ⟨w, s, ⟨h1, h2, h3, rfl, rfl⟩, h⟩; exact ⟨⟨h2, h3⟩, h⟩
  · rintro ⟨⟨h2, h3⟩, h⟩; exact ⟨_, _, ⟨(fun e => by simp [isLd] at e), h2, h3, rfl, rfl⟩, h⟩
theorem aDrwG_lenS {x} {tt : Nat} {want : Bool} : aDrw P (⟨d, .lenS x, some (tt, want)⟩ :: r) (c :: cs) fr σ J = gdD P c (guardC want (slot tt fr)) d (.lenS x) r cs fr σ J ⟨⟩ := aDrw_guard rfl rfl
theorem gdDQ_lenS {bb : Bool} {x} {h : Hold (d, CO.lenS x, r, cs, fr, σ, J)} : gdD P c (some bb) d (.lenS x) r cs fr σ J h = bindV (.opt bb (bif bb then pf σ (evU (ev σ fr)) (.lenS x) else .junk)) (((isLd (.lenS x) = true → c = 1) ∧ c ≤ 1) ∧ (bb = true → optAll bb (ev σ fr) (CO.ods (.lenS x)) ∧ ps σ (evU (ev σ fr)) (.lenS x))) σ (drwK P d r cs fr J) ⟨⟩ := gdD_quiet rfl
theorem aDrw_fld {o z x} : aDrw P (⟨d, .fld o z x, none⟩ :: r) (c :: cs) fr σ J = bindV (pf σ (ev σ fr) (.fld o z x)) (c ≤ 1 ∧ ps σ (ev σ fr) (.fld o z x)) σ (drwK P d r cs fr J) ⟨⟩ := by
  simp only [aDrw, makesBox, makesTip, cond_false, dStep, dOp, bindV, drwK]
  apply propext; constructor
  · rintro ⟨w, s, ⟨h1, h2, h3, rfl, rfl⟩, h⟩; exact ⟨⟨h2, h3⟩, h⟩
  · rintro ⟨⟨h2, h3⟩, h⟩; exact ⟨_, _, ⟨(fun e => by simp [isLd] at e), h2, h3, rfl, rfl⟩, h⟩
theorem aDrwG_fld {o z x} {tt : Nat} {want : Bool} : aDrw P (⟨d, .fld o z x, some (tt, want)⟩ :: r) (c :: cs) fr σ J = gdD P c (guardC want (slot tt fr)) d (.fld o z x) r cs fr σ J ⟨⟩ := aDrw_guard rfl rfl
theorem gdDQ_fld {bb : Bool} {o z x} {h : Hold (d, CO.fld o z x, r, cs, fr, σ, J)} : gdD P c (some bb) d (.fld o z x) r cs fr σ J h = bindV (.opt bb (bif bb then pf σ (evU (ev σ fr)) (.fld o z x) else .junk)) (((isLd (.fld o z x) = true → c = 1) ∧ c ≤ 1) ∧ (bb = true → optAll bb (ev σ fr) (CO.ods (.fld o z x)) ∧ ps σ (evU (ev σ fr)) (.fld o z x))) σ (drwK P d r cs fr J) ⟨⟩ := gdD_quiet rfl
theorem aDrw_fldA {o x} : aDrw P (⟨d, .fldA o x, none⟩ :: r) (c :: cs) fr σ J = bindV (pf σ (ev σ fr) (.fldA o x)) (c ≤ 1 ∧ ps σ (ev σ fr) (.fldA o x)) σ (drwK P d r cs fr J) ⟨⟩ := by
  simp only [aDrw, makesBox, makesTip, cond_false, dStep, dOp, bindV, drwK]
  apply propext; constructor
  · rintro ⟨w, s, ⟨h1, h2, h3, rfl, rfl⟩, h⟩; exact ⟨⟨h2, h3⟩, h⟩
  · rintro ⟨⟨h2, h3⟩, h⟩; exact ⟨_, _, ⟨(fun e => by simp [isLd] at e), h2, h3, rfl, rfl⟩, h⟩
theorem aDrwG_fldA {o x} {tt : Nat} {want : Bool} : aDrw P (⟨d, .fldA o x, some (tt, want)⟩ :: r) (c :: cs) fr σ J = gdD P c (guardC want (slot tt fr)) d (.fldA o x) r cs fr σ J ⟨⟩ := aDrw_guard rfl rfl
theorem gdDQ_fldA {bb : Bool} {o x} {h : Hold (d, CO.fldA o x, r, cs, fr, σ, J)} : gdD P c (some bb) d (.fldA o x) r cs fr σ J h = bindV (.opt bb (bif bb then pf σ (evU (ev σ fr)) (.fldA o x) else .junk)) (((isLd (.fldA o x) = true → c = 1) ∧ c ≤ 1) ∧ (bb = true → optAll bb (ev σ fr) (CO.ods (.fldA o x)) ∧ ps σ (evU (ev σ fr)) (.fldA o x))) σ (drwK P d r cs fr J) ⟨⟩ := gdD_quiet rfl
theorem aDrw_ixA {e x i} : aDrw P (⟨d, .ixA e x i, none⟩ :: r) (c :: cs) fr σ J = bindV (pf σ (ev σ fr) (.ixA e x i)) (c ≤ 1 ∧ ps σ (ev σ fr) (.ixA e x i)) σ (drwK P d r cs fr J) ⟨⟩ := by
  simp only [aDrw, makesBox, makesTip, cond_false, dStep, dOp, bindV, drwK]
  apply propext; constructor
  · rintro ⟨w, s, ⟨h1, h2, h3, rfl, rfl⟩, h⟩; exact ⟨⟨h2, h3⟩, h⟩
  · rintro ⟨⟨h2, h3⟩, h⟩; exact ⟨_, _, ⟨(fun e => by simp [isLd] at e), h2, h3, rfl, rfl⟩, h⟩
theorem aDrwG_ixA {e x i} {tt : Nat} {want : Bool} : aDrw P (⟨d, .ixA e x i, some (tt, want)⟩ :: r) (c :: cs) fr σ J = gdD P c (guardC want (slot tt fr)) d (.ixA e x i) r cs fr σ J ⟨⟩ := aDrw_guard rfl rfl
theorem gdDQ_ixA {bb : Bool} {e x i} {h : Hold (d, CO.ixA e x i, r, cs, fr, σ, J)} : gdD P c (some bb) d (.ixA e x i) r cs fr σ J h = bindV (.opt bb (bif bb then pf σ (evU (ev σ fr)) (.ixA e x i) else .junk)) (((isLd (.ixA e x i) = true → c = 1) ∧ c ≤ 1) ∧ (bb = true → optAll bb (ev σ fr) (CO.ods (.ixA e x i)) ∧ ps σ (evU (ev σ fr)) (.ixA e x i))) σ (drwK P d r cs fr J) ⟨⟩ := gdD_quiet rfl
theorem aDrw_ixP {n e x i} : aDrw P (⟨d, .ixP n e x i, none⟩ :: r) (c :: cs) fr σ J = bindV (pf σ (ev σ fr) (.ixP n e x i)) (c ≤ 1 ∧ ps σ (ev σ fr) (.ixP n e x i)) σ (drwK P d r cs fr J) ⟨⟩ := by
  simp only [aDrw, makesBox, makesTip, cond_false, dStep, dOp, bindV, drwK]
  apply propext; constructor
  · rintro ⟨w, s, ⟨h1, h2, h3, rfl, rfl⟩, h⟩; exact ⟨⟨h2, h3⟩, h⟩
  · rintro ⟨⟨h2, h3⟩, h⟩; exact ⟨_, _, ⟨(fun e => by simp [isLd] at e), h2, h3, rfl, rfl⟩, h⟩
theorem aDrwG_ixP {n e x i} {tt : Nat} {want : Bool} : aDrw P (⟨d, .ixP n e x i, some (tt, want)⟩ :: r) (c :: cs) fr σ J = gdD P c (guardC want (slot tt fr)) d (.ixP n e x i) r cs fr σ J ⟨⟩ := aDrw_guard rfl rfl
theorem gdDQ_ixP {bb : Bool} {n e x i} {h : Hold (d, CO.ixP n e x i, r, cs, fr, σ, J)} : gdD P c (some bb) d (.ixP n e x i) r cs fr σ J h = bindV (.opt bb (bif bb then pf σ (evU (ev σ fr)) (.ixP n e x i) else .junk)) (((isLd (.ixP n e x i) = true → c = 1) ∧ c ≤ 1) ∧ (bb = true → optAll bb (ev σ fr) (CO.ods (.ixP n e x i)) ∧ ps σ (evU (ev σ fr)) (.ixP n e x i))) σ (drwK P d r cs fr J) ⟨⟩ := gdD_quiet rfl
theorem aDrw_ixS {x i} : aDrw P (⟨d, .ixS x i, none⟩ :: r) (c :: cs) fr σ J = bindV (pf σ (ev σ fr) (.ixS x i)) (c ≤ 1 ∧ ps σ (ev σ fr) (.ixS x i)) σ (drwK P d r cs fr J) ⟨⟩ := by
  simp only [aDrw, makesBox, makesTip, cond_false, dStep, dOp, bindV, drwK]
  apply propext; constructor
  · rintro ⟨w, s, ⟨h1, h2, h3, rfl, rfl⟩, h⟩; exact ⟨⟨h2, h3⟩, h⟩
  · rintro ⟨⟨h2, h3⟩, h⟩; exact ⟨_, _, ⟨(fun e => by simp [isLd] at e), h2, h3, rfl, rfl⟩, h⟩
theorem aDrwG_ixS {x i} {tt : Nat} {want : Bool} : aDrw P (⟨d, .ixS x i, some (tt, want)⟩ :: r) (c :: cs) fr σ J = gdD P c (guardC want (slot tt fr)) d (.ixS x i) r cs fr σ J ⟨⟩ := aDrw_guard rfl rfl
theorem gdDQ_ixS {bb : Bool} {x i} {h : Hold (d, CO.ixS x i, r, cs, fr, σ, J)} : gdD P c (some bb) d (.ixS x i) r cs fr σ J h = bindV (.opt bb (bif bb then pf σ (evU (ev σ fr)) (.ixS x i) else .junk)) (((isLd (.ixS x i) = true → c = 1) ∧ c ≤ 1) ∧ (bb = true → optAll bb (ev σ fr) (CO.ods (.ixS x i)) ∧ ps σ (evU (ev σ fr)) (.ixS x i))) σ (drwK P d r cs fr J) ⟨⟩ := gdD_quiet rfl
theorem aDrw_ixV {n e z x i} : aDrw P (⟨d, .ixV n e z x i, none⟩ :: r) (c :: cs) fr σ J = bindV (pf σ (ev σ fr) (.ixV n e z x i)) (c ≤ 1 ∧ ps σ (ev σ fr) (.ixV n e z x i)) σ (drwK P d r cs fr J) ⟨⟩ := by
  simp only [aDrw, makesBox, makesTip, cond_false, dStep, dOp, bindV, drwK]
  apply propext; constructor
  · rintro ⟨w, s, ⟨h1, h2, h3, rfl, rfl⟩, h⟩; exact ⟨⟨h2, h3⟩, h⟩
  · rintro ⟨⟨h2, h3⟩, h⟩; exact ⟨_, _, ⟨(fun e => by simp [isLd] at e), h2, h3, rfl, rfl⟩, h⟩
theorem aDrwG_ixV {n e z x i} {tt : Nat} {want : Bool} : aDrw P (⟨d, .ixV n e z x i, some (tt, want)⟩ :: r) (c :: cs) fr σ J = gdD P c (guardC want (slot tt fr)) d (.ixV n e z x i) r cs fr σ J ⟨⟩ := aDrw_guard rfl rfl
theorem gdDQ_ixV {bb : Bool} {n e z x i} {h : Hold (d, CO.ixV n e z x i, r, cs, fr, σ, J)} : gdD P c (some bb) d (.ixV n e z x i) r cs fr σ J h = bindV (.opt bb (bif bb then pf σ (evU (ev σ fr)) (.ixV n e z x i) else .junk)) (((isLd (.ixV n e z x i) = true → c = 1) ∧ c ≤ 1) ∧ (bb = true → optAll bb (ev σ fr) (CO.ods (.ixV n e z x i)) ∧ ps σ (evU (ev σ fr)) (.ixV n e z x i))) σ (drwK P d r cs fr J) ⟨⟩ := gdD_quiet rfl
theorem aDrw_ld {z x} : aDrw P (⟨d, .ld z x, none⟩ :: r) (c :: cs) fr σ J = bindV (pf σ (ev σ fr) (.ld z x)) (c = 1 ∧ ps σ (ev σ fr) (.ld z x)) σ (drwK P d r cs fr J) ⟨⟩ := by
  simp only [aDrw, makesBox, makesTip, cond_false, dStep, dOp, bindV, drwK]
  apply propext; constructor
  · rintro ⟨w, s, ⟨h1, h2, h3, rfl, rfl⟩, h⟩; exact ⟨⟨h1 rfl, h3⟩, h⟩
  · rintro ⟨⟨h2, h3⟩, h⟩; exact ⟨_, _, ⟨fun _ => h2, (by omega), h3, rfl, rfl⟩, h⟩
theorem aDrwG_ld {z x} {tt : Nat} {want : Bool} : aDrw P (⟨d, .ld z x, some (tt, want)⟩ :: r) (c :: cs) fr σ J = gdD P c (guardC want (slot tt fr)) d (.ld z x) r cs fr σ J ⟨⟩ := aDrw_guard rfl rfl
theorem gdDQ_ld {bb : Bool} {z x} {h : Hold (d, CO.ld z x, r, cs, fr, σ, J)} : gdD P c (some bb) d (.ld z x) r cs fr σ J h = bindV (.opt bb (bif bb then pf σ (evU (ev σ fr)) (.ld z x) else .junk)) (((isLd (.ld z x) = true → c = 1) ∧ c ≤ 1) ∧ (bb = true → optAll bb (ev σ fr) (CO.ods (.ld z x)) ∧ ps σ (evU (ev σ fr)) (.ld z x))) σ (drwK P d r cs fr J) ⟨⟩ := gdD_quiet rfl
theorem aDrw_slc {e x l hi m} : aDrw P (⟨d, .slc e x l hi m, none⟩ :: r) (c :: cs) fr σ J = bindV (pf σ (ev σ fr) (.slc e x l hi m)) (c ≤ 1 ∧ ps σ (ev σ fr) (.slc e x l hi m)) σ (drwK P d r cs fr J) ⟨⟩ := by
  simp only [aDrw, makesBox, makesTip, cond_false, dStep, dOp, bindV, drwK]
  apply propext; constructor
  · rintro ⟨w, s, ⟨h1, h2, h3, rfl, rfl⟩, h⟩; exact ⟨⟨h2, h3⟩, h⟩
  · rintro ⟨⟨h2, h3⟩, h⟩; exact ⟨_, _, ⟨(fun e => by simp [isLd] at e), h2, h3, rfl, rfl⟩, h⟩
theorem aDrwG_slc {e x l hi m} {tt : Nat} {want : Bool} : aDrw P (⟨d, .slc e x l hi m, some (tt, want)⟩ :: r) (c :: cs) fr σ J = gdD P c (guardC want (slot tt fr)) d (.slc e x l hi m) r cs fr σ J ⟨⟩ := aDrw_guard rfl rfl
theorem gdDQ_slc {bb : Bool} {e x l hi m} {h : Hold (d, CO.slc e x l hi m, r, cs, fr, σ, J)} : gdD P c (some bb) d (.slc e x l hi m) r cs fr σ J h = bindV (.opt bb (bif bb then pf σ (evU (ev σ fr)) (.slc e x l hi m) else .junk)) (((isLd (.slc e x l hi m) = true → c = 1) ∧ c ≤ 1) ∧ (bb = true → optAll bb (ev σ fr) (CO.ods (.slc e x l hi m)) ∧ ps σ (evU (ev σ fr)) (.slc e x l hi m))) σ (drwK P d r cs fr J) ⟨⟩ := gdD_quiet rfl
theorem aDrw_slcS {x l hi} : aDrw P (⟨d, .slcS x l hi, none⟩ :: r) (c :: cs) fr σ J = bindV (pf σ (ev σ fr) (.slcS x l hi)) (c ≤ 1 ∧ ps σ (ev σ fr) (.slcS x l hi)) σ (drwK P d r cs fr J) ⟨⟩ := by
  simp only [aDrw, makesBox, makesTip, cond_false, dStep, dOp, bindV, drwK]
  apply propext; constructor
  · rintro ⟨w, s, ⟨h1, h2, h3, rfl, rfl⟩, h⟩; exact ⟨⟨h2, h3⟩, h⟩
  · rintro ⟨⟨h2, h3⟩, h⟩; exact ⟨_, _, ⟨(fun e => by simp [isLd] at e), h2, h3, rfl, rfl⟩, h⟩
theorem aDrwG_slcS {x l hi} {tt : Nat} {want : Bool} : aDrw P (⟨d, .slcS x l hi, some (tt, want)⟩ :: r) (c :: cs) fr σ J = gdD P c (guardC want (slot tt fr)) d (.slcS x l hi) r cs fr σ J ⟨⟩ := aDrw_guard rfl rfl
theorem gdDQ_slcS {bb : Bool} {x l hi} {h : Hold (d, CO.slcS x l hi, r, cs, fr, σ, J)} : gdD P c (some bb) d (.slcS x l hi) r cs fr σ J h = bindV (.opt bb (bif bb then pf σ (evU (ev σ fr)) (.slcS x l hi) else .junk)) (((isLd (.slcS x l hi) = true → c = 1) ∧ c ≤ 1) ∧ (bb = true → optAll bb (ev σ fr) (CO.ods (.slcS x l hi)) ∧ ps σ (evU (ev σ fr)) (.slcS x l hi))) σ (drwK P d r cs fr J) ⟨⟩ := gdD_quiet rfl
theorem aDrw_bld {z q} : aDrw P (⟨d, .bld z q, none⟩ :: r) (c :: cs) fr σ J = bindV (pf σ (ev σ fr) (.bld z q)) (c ≤ 1 ∧ ps σ (ev σ fr) (.bld z q)) σ (drwK P d r cs fr J) ⟨⟩ := by
  simp only [aDrw, makesBox, makesTip, cond_false, dStep, dOp, bindV, drwK]
  apply propext; constructor
  · rintro ⟨w, s, ⟨h1, h2, h3, rfl, rfl⟩, h⟩; exact ⟨⟨h2, h3⟩, h⟩
  · rintro ⟨⟨h2, h3⟩, h⟩; exact ⟨_, _, ⟨(fun e => by simp [isLd] at e), h2, h3, rfl, rfl⟩, h⟩
theorem aDrwG_bld {z q} {tt : Nat} {want : Bool} : aDrw P (⟨d, .bld z q, some (tt, want)⟩ :: r) (c :: cs) fr σ J = gdD P c (guardC want (slot tt fr)) d (.bld z q) r cs fr σ J ⟨⟩ := aDrw_guard rfl rfl
theorem gdDQ_bld {bb : Bool} {z q} {h : Hold (d, CO.bld z q, r, cs, fr, σ, J)} : gdD P c (some bb) d (.bld z q) r cs fr σ J h = bindV (.opt bb (bif bb then pf σ (evU (ev σ fr)) (.bld z q) else .junk)) (((isLd (.bld z q) = true → c = 1) ∧ c ≤ 1) ∧ (bb = true → optAll bb (ev σ fr) (CO.ods (.bld z q)) ∧ ps σ (evU (ev σ fr)) (.bld z q))) σ (drwK P d r cs fr J) ⟨⟩ := gdD_quiet rfl
theorem aDrw_mkSl {e n z q} : aDrw P (⟨d, .mkSl e n z q, none⟩ :: r) (c :: cs) fr σ J = bindV (pf σ (ev σ fr) (.mkSl e n z q)) (c ≤ 1 ∧ ps σ (ev σ fr) (.mkSl e n z q)) σ (drwK P d r cs fr J) ⟨⟩ := by
  simp only [aDrw, makesBox, makesTip, cond_false, dStep, dOp, bindV, drwK]
  apply propext; constructor
  · rintro ⟨w, s, ⟨h1, h2, h3, rfl, rfl⟩, h⟩; exact ⟨⟨h2, h3⟩, h⟩
  · rintro ⟨⟨h2, h3⟩, h⟩; exact ⟨_, _, ⟨(fun e => by simp [isLd] at e), h2, h3, rfl, rfl⟩, h⟩
theorem aDrwG_mkSl {e n z q} {tt : Nat} {want : Bool} : aDrw P (⟨d, .mkSl e n z q, some (tt, want)⟩ :: r) (c :: cs) fr σ J = gdD P c (guardC want (slot tt fr)) d (.mkSl e n z q) r cs fr σ J ⟨⟩ := aDrw_guard rfl rfl
theorem gdDQ_mkSl {bb : Bool} {e n z q} {h : Hold (d, CO.mkSl e n z q, r, cs, fr, σ, J)} : gdD P c (some bb) d (.mkSl e n z q) r cs fr σ J h = bindV (.opt bb (bif bb then pf σ (evU (ev σ fr)) (.mkSl e n z q) else .junk)) (((isLd (.mkSl e n z q) = true → c = 1) ∧ c ≤ 1) ∧ (bb = true → optAll bb (ev σ fr) (CO.ods (.mkSl e n z q)) ∧ ps σ (evU (ev σ fr)) (.mkSl e n z q))) σ (drwK P d r cs fr J) ⟨⟩ := gdD_quiet rfl
theorem aDrw_mkI {t x} : aDrw P (⟨d, .mkI t x, none⟩ :: r) (c :: cs) fr σ J = bindV (pf σ (ev σ fr) (.mkI t x)) (c ≤ 1 ∧ ps σ (ev σ fr) (.mkI t x)) σ (drwK P d r cs fr J) ⟨⟩ := by
  simp only [aDrw, makesBox, makesTip, cond_false, dStep, dOp, bindV, drwK]
  apply propext; constructor
  · rintro ⟨w, s, ⟨h1, h2, h3, rfl, rfl⟩, h⟩; exact ⟨⟨h2, h3⟩, h⟩
  · rintro ⟨⟨h2, h3⟩, h⟩; exact ⟨_, _, ⟨(fun e => by simp [isLd] at e), h2, h3, rfl, rfl⟩, h⟩
theorem aDrwG_mkI {t x} {tt : Nat} {want : Bool} : aDrw P (⟨d, .mkI t x, some (tt, want)⟩ :: r) (c :: cs) fr σ J = gdD P c (guardC want (slot tt fr)) d (.mkI t x) r cs fr σ J ⟨⟩ := aDrw_guard rfl rfl
theorem gdDQ_mkI {bb : Bool} {t x} {h : Hold (d, CO.mkI t x, r, cs, fr, σ, J)} : gdD P c (some bb) d (.mkI t x) r cs fr σ J h = bindV (.opt bb (bif bb then pf σ (evU (ev σ fr)) (.mkI t x) else .junk)) (((isLd (.mkI t x) = true → c = 1) ∧ c ≤ 1) ∧ (bb = true → optAll bb (ev σ fr) (CO.ods (.mkI t x)) ∧ ps σ (evU (ev σ fr)) (.mkI t x))) σ (drwK P d r cs fr J) ⟨⟩ := gdD_quiet rfl
theorem aDrw_mkF {g xs} : aDrw P (⟨d, .mkF g xs, none⟩ :: r) (c :: cs) fr σ J = bindV (pf σ (ev σ fr) (.mkF g xs)) (c ≤ 1 ∧ ps σ (ev σ fr) (.mkF g xs)) σ (drwK P d r cs fr J) ⟨⟩ := by
  simp only [aDrw, makesBox, makesTip, cond_false, dStep, dOp, bindV, drwK]
  apply propext; constructor
  · rintro ⟨w, s, ⟨h1, h2, h3, rfl, rfl⟩, h⟩; exact ⟨⟨h2, h3⟩, h⟩
  · rintro ⟨⟨h2, h3⟩, h⟩; exact ⟨_, _, ⟨(fun e => by simp [isLd] at e), h2, h3, rfl, rfl⟩, h⟩
theorem aDrwG_mkF {g xs} {tt : Nat} {want : Bool} : aDrw P (⟨d, .mkF g xs, some (tt, want)⟩ :: r) (c :: cs) fr σ J = gdD P c (guardC want (slot tt fr)) d (.mkF g xs) r cs fr σ J ⟨⟩ := aDrw_guard rfl rfl
theorem gdDQ_mkF {bb : Bool} {g xs} {h : Hold (d, CO.mkF g xs, r, cs, fr, σ, J)} : gdD P c (some bb) d (.mkF g xs) r cs fr σ J h = bindV (.opt bb (bif bb then pf σ (evU (ev σ fr)) (.mkF g xs) else .junk)) (((isLd (.mkF g xs) = true → c = 1) ∧ c ≤ 1) ∧ (bb = true → optAll bb (ev σ fr) (CO.ods (.mkF g xs)) ∧ ps σ (evU (ev σ fr)) (.mkF g xs))) σ (drwK P d r cs fr J) ⟨⟩ := gdD_quiet rfl
theorem aDrw_ext {x i} : aDrw P (⟨d, .ext x i, none⟩ :: r) (c :: cs) fr σ J = bindV (pf σ (ev σ fr) (.ext x i)) (c ≤ 1 ∧ ps σ (ev σ fr) (.ext x i)) σ (drwK P d r cs fr J) ⟨⟩ := by
  simp only [aDrw, makesBox, makesTip, cond_false, dStep, dOp, bindV, drwK]
  apply propext; constructor
  · rintro ⟨w, s, ⟨h1, h2, h3, rfl, rfl⟩, h⟩; exact ⟨⟨h2, h3⟩, h⟩
  · rintro ⟨⟨h2, h3⟩, h⟩; exact ⟨_, _, ⟨(fun e => by simp [isLd] at e), h2, h3, rfl, rfl⟩, h⟩
theorem aDrwG_ext {x i} {tt : Nat} {want : Bool} : aDrw P (⟨d, .ext x i, some (tt, want)⟩ :: r) (c :: cs) fr σ J = gdD P c (guardC want (slot tt fr)) d (.ext x i) r cs fr σ J ⟨⟩ := aDrw_guard rfl rfl
theorem gdDQ_ext {bb : Bool} {x i} {h : Hold (d, CO.ext x i, r, cs, fr, σ, J)} : gdD P c (some bb) d (.ext x i) r cs fr σ J h = bindV (.opt bb (bif bb then pf σ (evU (ev σ fr)) (.ext x i) else .junk)) (((isLd (.ext x i) = true → c = 1) ∧ c ≤ 1) ∧ (bb = true → optAll bb (ev σ fr) (CO.ods (.ext x i)) ∧ ps σ (evU (ev σ fr)) (.ext x i))) σ (drwK P d r cs fr J) ⟨⟩ := gdD_quiet rfl
theorem aDrw_nilc {x} : aDrw P (⟨d, .nilc x, none⟩ :: r) (c :: cs) fr σ J = bindV (pf σ (ev σ fr) (.nilc x)) (c ≤ 1 ∧ ps σ (ev σ fr) (.nilc x)) σ (drwK P d r cs fr J) ⟨⟩ := by
  simp only [aDrw, makesBox, makesTip, cond_false, dStep, dOp, bindV, drwK]
  apply propext; constructor
  · rintro ⟨w, s, ⟨h1, h2, h3, rfl, rfl⟩, h⟩; exact ⟨⟨h2, h3⟩, h⟩
  · rintro ⟨⟨h2, h3⟩, h⟩; exact ⟨_, _, ⟨(fun e => by simp [isLd] at e), h2, h3, rfl, rfl⟩, h⟩
theorem aDrwG_nilc {x} {tt : Nat} {want : Bool} : aDrw P (⟨d, .nilc x, some (tt, want)⟩ :: r) (c :: cs) fr σ J = gdD P c (guardC want (slot tt fr)) d (.nilc x) r cs fr σ J ⟨⟩ := aDrw_guard rfl rfl
theorem gdDQ_nilc {bb : Bool} {x} {h : Hold (d, CO.nilc x, r, cs, fr, σ, J)} : gdD P c (some bb) d (.nilc x) r cs fr σ J h = bindV (.opt bb (bif bb then pf σ (evU (ev σ fr)) (.nilc x) else .junk)) (((isLd (.nilc x) = true → c = 1) ∧ c ≤ 1) ∧ (bb = true → optAll bb (ev σ fr) (CO.ods (.nilc x)) ∧ ps σ (evU (ev σ fr)) (.nilc x))) σ (drwK P d r cs fr J) ⟨⟩ := gdD_quiet rfl
theorem aDrw_mm {b x y} : aDrw P (⟨d, .mm b x y, none⟩ :: r) (c :: cs) fr σ J = bindV (pf σ (ev σ fr) (.mm b x y)) (c ≤ 1 ∧ ps σ (ev σ fr) (.mm b x y)) σ (drwK P d r cs fr J) ⟨⟩ := by
  simp only [aDrw, makesBox, makesTip, cond_false, dStep, dOp, bindV, drwK]
  apply propext; constructor
  · rintro ⟨w, s, ⟨h1, h2, h3, rfl, rfl⟩, h⟩; exact ⟨⟨h2, h3⟩, h⟩
  · rintro ⟨⟨h2, h3⟩, h⟩; exact ⟨_, _, ⟨(fun e => by simp [isLd] at e), h2, h3, rfl, rfl⟩, h⟩
theorem aDrwG_mm {b x y} {tt : Nat} {want : Bool} : aDrw P (⟨d, .mm b x y, some (tt, want)⟩ :: r) (c :: cs) fr σ J = gdD P c (guardC want (slot tt fr)) d (.mm b x y) r cs fr σ J ⟨⟩ := aDrw_guard rfl rfl
theorem gdDQ_mm {bb : Bool} {b x y} {h : Hold (d, CO.mm b x y, r, cs, fr, σ, J)} : gdD P c (some bb) d (.mm b x y) r cs fr σ J h = bindV (.opt bb (bif bb then pf σ (evU (ev σ fr)) (.mm b x y) else .junk)) (((isLd (.mm b x y) = true → c = 1) ∧ c ≤ 1) ∧ (bb = true → optAll bb (ev σ fr) (CO.ods (.mm b x y)) ∧ ps σ (evU (ev σ fr)) (.mm b x y))) σ (drwK P d r cs fr J) ⟨⟩ := gdD_quiet rfl
theorem aDrwG_call {args : List Od} {tt : Nat} {want : Bool} : aDrw P (⟨d, .call f args, some (tt, want)⟩ :: r) (c :: cs) fr σ J = gdD P c (guardC want (slot tt fr)) d (.call f args) r cs fr σ J ⟨⟩ := aDrw_guard rfl rfl
theorem isnilD_eq {kind : Nat} {neg : Bool} {h : Hold (σ, K)} : isnilD kind neg v σ K h = (nilOk kind v = true ∧ ∃ b0, (∀ b, nilP kind v b → b = b0) ∧ K (.bool (bif neg then !b0 else b0)) σ) := rfl
/-- A list in new memory. -/
theorem appV_own {α : Type} {g : α → List AV} {l : List α} {e es bytes : Nat} {h : Hold (σ, K)} (hf : (l.flatMap g).length = l.length * es) (hm : l.length ≤ maxLen) (hb : l.length * bytes ≤ 140737488355328) (hK : K (sl g l) σ) : appV false e es bytes (.sl true 0 []) (sl g l) σ K h :=
  appV_fresh (n := 0) (cs := []) rfl trivial rfl (by simp) hf (by omega) (by rw [Nat.zero_add]; exact hb) (by simpa using hK)
theorem appD_own {tp : Bool} {α : Type} {g : α → List AV} {l : List α} {e es bytes : Nat} {h : Hold (σ, K)} (hc : c ≤ 1) (hf : (l.flatMap g).length = l.length * es) (hm : l.length ≤ maxLen) (hb : l.length * bytes ≤ 140737488355328) (hK : K (sl g l) σ) : appD tp c e es bytes (.sl true 0 []) (sl g l) σ K h :=
  appD_fresh (n := 0) (cs := []) rfl trivial rfl hc (by simp) hf (by omega) (by rw [Nat.zero_add]; exact hb) (by simpa using hK)
end

/-! The rules for simp, under two names. -/
theorem R1 : type_of% (And.intro @aC_scope (And.intro @scopeK_normal (And.intro @scopeK_exit (And.intro @scopeK_ret (And.intro @aC_skip (And.intro @aC_ops (And.intro @aC_drw (And.intro @aC_seq (And.intro @aC_cond (And.intro @aC_block (And.intro @aC_keep (And.intro @aC_loop (And.intro @aC_exit (And.intro @aC_ret (And.intro @aOps_nil (And.intro @aOps_cons (And.intro @aOps_guard (And.intro @aOp_isnil (And.intro @aOp_alloc (And.intro @aOp_box (And.intro @aOp_st (And.intro @aOp_call (And.intro @aOp_callv (And.intro @aOp_app (And.intro @opsK_eq (And.intro @seqK_normal (And.intro @seqK_exit (And.intro @seqK_ret (And.intro @blockK_normal (And.intro @blockK_exit (And.intro @blockK_ret (And.intro @loopK_normal (And.intro @loopK_exit (And.intro @loopK_ret (And.intro @aOp_mv (And.intro @aOp_pick (And.intro @aOp_un (And.intro @aOp_bin (And.intro @aOp_eqA (And.intro @aOp_eqb (And.intro @aOp_cnv (And.intro @aOp_b2s (And.intro @aOp_len (And.intro @aOp_lenS (And.intro @aOp_fld (And.intro @aOp_fldA (And.intro @aOp_ixA (And.intro @aOp_ixP (And.intro @aOp_ixS (And.intro @aOp_ixV (And.intro @aOp_ld (And.intro @aOp_slc (And.intro @aOp_slcS (And.intro @aOp_bld (And.intro @aOp_mkSl (And.intro @aOp_mkI (And.intro @aOp_mkF (And.intro @aOp_ext (And.intro @aOp_nilc (And.intro @aOp_mm (And.intro @drwK_eq (And.intro @aDrw_nil (And.intro @aDrw_alloc (And.intro @aDrw_box (And.intro @aDrw_st (And.intro @aDrw_call (And.intro @aDrw_isnil (And.intro @aDrw_app (And.intro @aDrwG_call (And.intro @aDrw_mv (And.intro @aDrw_pick (And.intro @aDrw_un (And.intro @aDrw_bin (And.intro @aDrw_eqA (And.intro @aDrw_eqb (And.intro @aDrw_cnv (And.intro @aDrw_b2s (And.intro @aDrw_len (And.intro @aDrw_lenS (And.intro @aDrw_fld (And.intro @aDrw_fldA (And.intro @aDrw_ixA (And.intro @aDrw_ixP (And.intro @aDrw_ixS (And.intro @aDrw_ixV (And.intro @aDrw_ld (And.intro @aDrw_slc (And.intro @aDrw_slcS (And.intro @aDrw_bld (And.intro @aDrw_mkSl (And.intro @aDrw_mkI (And.intro @aDrw_mkF (And.intro @aDrw_ext (And.intro @aDrw_nilc (And.intro @aDrw_mm (And.intro @aDrwG_mv (And.intro @aDrwG_pick (And.intro @aDrwG_un (And.intro @aDrwG_bin (And.intro @aDrwG_eqA (And.intro @aDrwG_eqb (And.intro @aDrwG_cnv (And.intro @aDrwG_b2s (And.intro @aDrwG_len (And.intro @aDrwG_lenS (And.intro @aDrwG_fld (And.intro @aDrwG_fldA (And.intro @aDrwG_ixA (And.intro @aDrwG_ixP (And.intro @aDrwG_ixS (And.intro @aDrwG_ixV (And.intro @aDrwG_ld (And.intro @aDrwG_slc (And.intro @aDrwG_slcS (And.intro @aDrwG_bld (And.intro @aDrwG_mkSl (And.intro @aDrwG_mkI (And.intro @aDrwG_mkF (And.intro @aDrwG_ext (And.intro @aDrwG_nilc @aDrwG_mm)))))))))))))))))))))))))))))))))))))))))))))))))))))))))))))))))))))))))))))))))))))))))))))))))))))))))))))))))))))))) := And.intro @aC_scope (And.intro @scopeK_normal (And.intro @scopeK_exit (And.intro @scopeK_ret (And.intro @aC_skip (And.intro @aC_ops (And.intro @aC_drw (And.intro @aC_seq (And.intro @aC_cond (And.intro @aC_block (And.intro @aC_keep (And.intro @aC_loop (And.intro @aC_exit (And.intro @aC_ret (And.intro @aOps_nil (And.intro @aOps_cons (And.intro @aOps_guard (And.intro @aOp_isnil (And.intro @aOp_alloc (And.intro @aOp_box (And.intro @aOp_st (And.intro @aOp_call (And.intro @aOp_callv (And.intro @aOp_app (And.intro @opsK_eq (And.intro @seqK_normal (And.intro @seqK_exit (And.intro @seqK_ret (And.intro @blockK_normal (And.intro @blockK_exit (And.intro @blockK_ret (And.intro @loopK_normal (And.intro @loopK_exit (And.intro @loopK_ret (And.intro @aOp_mv (And.intro @aOp_pick (And.intro @aOp_un (And.intro @aOp_bin (And.intro @aOp_eqA (And.intro @aOp_eqb (And.intro @aOp_cnv (And.intro @aOp_b2s (And.intro @aOp_len (And.intro @aOp_lenS (And.intro @aOp_fld (And.intro @aOp_fldA (And.intro @aOp_ixA (And.intro @aOp_ixP (And.intro @aOp_ixS (And.intro @aOp_ixV (And.intro @aOp_ld (And.intro @aOp_slc (And.intro @aOp_slcS (And.intro @aOp_bld (And.intro @aOp_mkSl (And.intro @aOp_mkI (And.intro @aOp_mkF (And.intro @aOp_ext (And.intro @aOp_nilc (And.intro @aOp_mm (And.intro @drwK_eq (And.intro @aDrw_nil (And.intro @aDrw_alloc (And.intro @aDrw_box (And.intro @aDrw_st (And.intro @aDrw_call (And.intro @aDrw_isnil (And.intro @aDrw_app (And.intro @aDrwG_call (And.intro @aDrw_mv (And.intro @aDrw_pick (And.intro @aDrw_un (And.intro @aDrw_bin (And.intro @aDrw_eqA (And.intro @aDrw_eqb (And.intro @aDrw_cnv (And.intro @aDrw_b2s (And.intro @aDrw_len (And.intro @aDrw_lenS (And.intro @aDrw_fld (And.intro @aDrw_fldA (And.intro @aDrw_ixA (And.intro @aDrw_ixP (And.intro @aDrw_ixS (And.intro @aDrw_ixV (And.intro @aDrw_ld (And.intro @aDrw_slc (And.intro @aDrw_slcS (And.intro @aDrw_bld (And.intro @aDrw_mkSl (And.intro @aDrw_mkI (And.intro @aDrw_mkF (And.intro @aDrw_ext (And.intro @aDrw_nilc (And.intro @aDrw_mm (And.intro @aDrwG_mv (And.intro @aDrwG_pick (And.intro @aDrwG_un (And.intro @aDrwG_bin (And.intro @aDrwG_eqA (And.intro @aDrwG_eqb (And.intro @aDrwG_cnv (And.intro @aDrwG_b2s (And.intro @aDrwG_len (And.intro @aDrwG_lenS (And.intro @aDrwG_fld (And.intro @aDrwG_fldA (And.intro @aDrwG_ixA (And.intro @aDrwG_ixP (And.intro @aDrwG_ixS (And.intro @aDrwG_ixV (And.intro @aDrwG_ld (And.intro @aDrwG_slc (And.intro @aDrwG_slcS (And.intro @aDrwG_bld (And.intro @aDrwG_mkSl (And.intro @aDrwG_mkI (And.intro @aDrwG_mkF (And.intro @aDrwG_ext (And.intro @aDrwG_nilc @aDrwG_mm)))))))))))))))))))))))))))))))))))))))))))))))))))))))))))))))))))))))))))))))))))))))))))))))))))))))))))))))))))))))
theorem R2 : type_of% (And.intro @bindV_eq (And.intro @bindS_eq (And.intro @boxV_eq (And.intro @stV_eq (And.intro @stB_eq (And.intro @callvV_eq (And.intro @isnilV_eq (And.intro @condV_true (And.intro @condV_false (And.intro @bindF_eq (And.intro @gdQ_mv (And.intro @gdQ_pick (And.intro @gdQ_un (And.intro @gdQ_bin (And.intro @gdQ_eqA (And.intro @gdQ_eqb (And.intro @gdQ_cnv (And.intro @gdQ_b2s (And.intro @gdQ_len (And.intro @gdQ_lenS (And.intro @gdQ_fld (And.intro @gdQ_fldA (And.intro @gdQ_ixA (And.intro @gdQ_ixP (And.intro @gdQ_ixS (And.intro @gdQ_ixV (And.intro @gdQ_ld (And.intro @gdQ_slc (And.intro @gdQ_slcS (And.intro @gdQ_bld (And.intro @gdQ_mkSl (And.intro @gdQ_mkI (And.intro @gdQ_mkF (And.intro @gdQ_ext (And.intro @gdQ_nilc (And.intro @gdQ_mm (And.intro @gdQ_app (And.intro @gdY_isnil (And.intro @gdY_alloc (And.intro @gdY_box (And.intro @gdY_st (And.intro @gdY_call (And.intro @gdY_callv (And.intro @gdN_isnil (And.intro @gdN_alloc (And.intro @gdN_box (And.intro @gdN_st (And.intro @gdN_call (And.intro @gdN_callv (And.intro @gdD_call (And.intro @isnilD_eq (And.intro @gdDQ_mv (And.intro @gdDQ_pick (And.intro @gdDQ_un (And.intro @gdDQ_bin (And.intro @gdDQ_eqA (And.intro @gdDQ_eqb (And.intro @gdDQ_cnv (And.intro @gdDQ_b2s (And.intro @gdDQ_len (And.intro @gdDQ_lenS (And.intro @gdDQ_fld (And.intro @gdDQ_fldA (And.intro @gdDQ_ixA (And.intro @gdDQ_ixP (And.intro @gdDQ_ixS (And.intro @gdDQ_ixV (And.intro @gdDQ_ld (And.intro @gdDQ_slc (And.intro @gdDQ_slcS (And.intro @gdDQ_bld (And.intro @gdDQ_mkSl (And.intro @gdDQ_mkI (And.intro @gdDQ_mkF (And.intro @gdDQ_ext (And.intro @gdDQ_nilc @gdDQ_mm)))))))))))))))))))))))))))))))))))))))))))))))))))))))))))))))))))))))))))) := And.intro @bindV_eq (And.intro @bindS_eq (And.intro @boxV_eq (And.intro @stV_eq (And.intro @stB_eq (And.intro @callvV_eq (And.intro @isnilV_eq (And.intro @condV_true (And.intro @condV_false (And.intro @bindF_eq (And.intro @gdQ_mv (And.intro @gdQ_pick (And.intro @gdQ_un (And.intro @gdQ_bin (And.intro @gdQ_eqA (And.intro @gdQ_eqb (And.intro @gdQ_cnv (And.intro @gdQ_b2s (And.intro @gdQ_len (And.intro @gdQ_lenS (And.intro @gdQ_fld (And.intro @gdQ_fldA (And.intro @gdQ_ixA (And.intro @gdQ_ixP (And.intro @gdQ_ixS (And.intro @gdQ_ixV (And.intro @gdQ_ld (And.intro @gdQ_slc (And.intro @gdQ_slcS (And.intro @gdQ_bld (And.intro @gdQ_mkSl (And.intro @gdQ_mkI (And.intro @gdQ_mkF (And.intro @gdQ_ext (And.intro @gdQ_nilc (And.intro @gdQ_mm (And.intro @gdQ_app (And.intro @gdY_isnil (And.intro @gdY_alloc (And.intro @gdY_box (And.intro @gdY_st (And.intro @gdY_call (And.intro @gdY_callv (And.intro @gdN_isnil (And.intro @gdN_alloc (And.intro @gdN_box (And.intro @gdN_st (And.intro @gdN_call (And.intro @gdN_callv (And.intro @gdD_call (And.intro @isnilD_eq (And.intro @gdDQ_mv (And.intro @gdDQ_pick (And.intro @gdDQ_un (And.intro @gdDQ_bin (And.intro @gdDQ_eqA (And.intro @gdDQ_eqb (And.intro @gdDQ_cnv (And.intro @gdDQ_b2s (And.intro @gdDQ_len (And.intro @gdDQ_lenS (And.intro @gdDQ_fld (And.intro @gdDQ_fldA (And.intro @gdDQ_ixA (And.intro @gdDQ_ixP (And.intro @gdDQ_ixS (And.intro @gdDQ_ixV (And.intro @gdDQ_ld (And.intro @gdDQ_slc (And.intro @gdDQ_slcS (And.intro @gdDQ_bld (And.intro @gdDQ_mkSl (And.intro @gdDQ_mkI (And.intro @gdDQ_mkF (And.intro @gdDQ_ext (And.intro @gdDQ_nilc @gdDQ_mm)))))))))))))))))))))))))))))))))))))))))))))))))))))))))))))))))))))))))))
end Go.Abs
