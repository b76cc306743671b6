/-
  Rules for contracts: quiet functions, loops, rows of records.
-/
import Derived.Test.YtnmlhilckjmhnaaDoorAbs11
namespace Go.Abs

/-! ### The abstract wp as rules for simp: a continuation isn't looked at before it is reached -/
/-- What a later argument's type depends on is left alone by simp. -/
structure Hold {α : Type} (x : α) : Type where

def bindV (v : AV) (p : Prop) (σ : St) (K : AV → St → Prop) (_ : Hold (σ, K)) : Prop := p ∧ K v σ
def bindS (p : Prop) (β : Nat) (cs : List AV) (σ : St) (K : AV → St → Prop) (_ : Hold (σ, K)) : Prop := p ∧ K .junk (σ.setBox β cs)
def allocV (cs : List AV) (σ : St) (K : AV → St → Prop) (_ : Hold (σ, K)) : Prop := ∀ β, σ.box β = none → K (.ptr β 0) (σ.setBox β cs)
def boxV (p : Prop) (cs : List AV) (σ : St) (K : AV → St → Prop) (_ : Hold (σ, K)) : Prop := p ∧ ∀ β, σ.box β = none → K (.ptr β 0) (σ.setBox β cs)
def pslV (p : Prop) (n : Nat) (cs : List AV) (σ : St) (K : AV → St → Prop) (_ : Hold (σ, K)) : Prop := p ∧ ∀ β, σ.box β = none → K (.psl β 0 n) (σ.setBox β cs)
def stV (p x : AV) (n : Nat) (σ : St) (K : AV → St → Prop) (_ : Hold (σ, K)) : Prop := match p with
    | .ptr β off => match σ.box β with
      | some cs => x.fits = true ∧ x.cells.length = n ∧ off + n ≤ cs.length ∧ K .junk (σ.setBox β (cs.take off ++ x.cells ++ cs.drop (off + n)))
      | none => False
    | _ => False
def stB (b : Option (List AV)) (β off n : Nat) (x : AV) (σ : St) (K : AV → St → Prop) (_ : Hold (σ, K)) : Prop := match b with
      | some cs => x.fits = true ∧ x.cells.length = n ∧ off + n ≤ cs.length ∧ K .junk (σ.setBox β (cs.take off ++ x.cells ++ cs.drop (off + n)))
      | none => False
def callV (P : Program) (f : Nat) (as : List AV) (σ : St) (K : AV → St → Prop) (_ : Hold (σ, K)) : Prop := AC P f as σ K
def callvV (P : Program) (x : AV) (as : List AV) (σ : St) (K : AV → St → Prop) (_ : Hold (σ, K)) : Prop := match x with
    | .fn f cap => AC P f (as ++ cap) σ K
    | .yld l => YC P l as σ K
    | _ => False
def isnilV (kind : Nat) (neg : Bool) (v : AV) (σ : St) (K : AV → St → Prop) (_ : Hold (σ, K)) : Prop := nilOk kind v = true ∧ ∀ b, nilP kind v b → K (.bool (bif neg then !b else b)) σ
def ab (x y : AV) : Od → AV
  | .t 0 => x
  | _ => y
def appQ (e es bytes : Nat) (x y : AV) (σ : St) (K : AV → St → Prop) (_ : Hold (σ, K)) : Prop :=
  ps σ (ab x y) (.app false e es bytes (.t 0) (.t 1)) ∧ K (pf σ (ab x y) (.app false e es bytes (.t 0) (.t 1))) σ
def appV (tp : Bool) (e es bytes : Nat) (x y : AV) (σ : St) (K : AV → St → Prop) (_ : Hold (σ, K)) : Prop := match x with
    | .tsl τ n cs => match slv y with
      | some (m, ds) => σ.tip τ = some (e, es, n) ∧ cs.length = n * es ∧ ds.length = m * es ∧ n + m ≤ maxLen ∧ (n + m) * bytes ≤ 140737488355328 ∧ K (.tsl τ (n + m) (cs ++ ds)) (σ.setTip τ (e, es, n + m))
      | none => False
    | a => bif tp then
        match slv a, slv y with
        | some (n, cs), some (m, ds) => fresh a ∧ cs.length = n * es ∧ ds.length = m * es ∧ n + m ≤ maxLen ∧ (n + m) * bytes ≤ 140737488355328 ∧ ∀ τ, σ.tip τ = none → K (.tsl τ (n + m) (cs ++ ds)) (σ.setTip τ (e, es, n + m))
        | _, _ => False
      else appQ e es bytes a y σ K ⟨⟩
def condV (P : Program) (v : AV) (x y : CC) (fr : Fr) (σ : St) (Q : Exit → Fr → St → Prop) (_ : Hold (x, y, fr, σ, Q)) : Prop := match v with
    | .bool t => (t = true → aC P x fr σ Q) ∧ (t = false → aC P y fr σ Q)
    | _ => False
def bindF (P : Program) (fr : Fr) (x : CC) (σ : St) (Q : Exit → Fr → St → Prop) (_ : Hold (x, σ, Q)) : Prop := aC P x fr σ Q
def loopV (P : Program) (x : CC) (fr : Fr) (σ : St) (Q : Exit → Fr → St → Prop) (_ : Hold (x, σ, Q)) : Prop := aC P (.loop x) fr σ Q
def opsK (P : Program) (d : Option Nat) (r : List CI) (fr : Fr) (K : Fr → St → Prop) (v : AV) (σ : St) : Prop := aOps P r (putF d v fr) σ K
def seqK (P : Program) (y : CC) (Q : Exit → Fr → St → Prop) (e : Exit) (fr : Fr) (σ : St) : Prop := match e with
    | .normal => aC P y fr σ Q
    | e => Q e fr σ
def blockK (id : Nat) (Q : Exit → Fr → St → Prop) (e : Exit) (fr : Fr) (σ : St) : Prop := match e with
    | .exit j => if j = id then Q .normal fr σ else Q (.exit j) fr σ
    | e => Q e fr σ
def scopeK (Q : Exit → Fr → St → Prop) (e : Exit) (fr : Fr) (σ : St) : Prop := match e with
    | .goto _ => False
    | e => Q e fr σ
def loopK (N : Fr → St → Prop) (Q : Exit → Fr → St → Prop) (e : Exit) (fr : Fr) (σ : St) : Prop := match e with
    | .normal => N fr σ
    | e => Q e fr σ
def gdV (P : Program) (c : Option Bool) (d : Option Nat) (op : CO) (r : List CI) (fr : Fr) (σ : St) (K : Fr → St → Prop) (_ : Hold (d, op, r, fr, σ, K)) : Prop :=
    match c with
    | none => False
    | some c =>
      bif op.quiet then
        (c = true → optAll c (ev σ fr) op.gods ∧ ps σ (gEv op (ev σ fr)) op) ∧ aOps P r (putF d (.opt c (pf σ (gEv op (ev σ fr)) op)) fr) σ K
      else
        (c = true → optAll c (ev σ fr) op.ods ∧ aOp P (evU (ev σ fr)) σ (fun v σ' => aOps P r (putF d v fr) σ' K) op) ∧ (c = false → aOps P r (putF d (.opt false .junk) fr) σ K)

theorem aOp_mono {P : Program} {ρ : Od → AV} {σ : St} {K K' : AV → St → Prop} (co : CO) (h : aOp P ρ σ K co) (hk : ∀ v s, K v s → K' v s) : aOp P ρ σ K' co := by
  cases co <;> simp only [aOp] at h ⊢
  case isnil => exact ⟨h.1, fun b hb => hk _ _ (h.2 b hb)⟩
  case alloc => exact fun β hβ => hk _ _ (h β hβ)
  case mkP => exact ⟨h.1, h.2.1, h.2.2.1, h.2.2.2.1, fun β hβ => hk _ _ (h.2.2.2.2 β hβ)⟩
  case box => exact ⟨h.1, h.2.1, fun β hβ => hk _ _ (h.2.2 β hβ)⟩
  case st =>
    split at h
    · split at h
      · exact ⟨h.1, h.2.1, h.2.2.1, hk _ _ h.2.2.2⟩
      · exact h
    · exact h
  case call => exact AC.mono h hk
  case callv =>
    split at h
    · exact AC.mono h hk
    · exact YC.mono h hk
    · exact h
  case app tp e es bytes x y =>
    split at h
    · split at h
      · obtain ⟨a, b, c, d, e, f⟩ := h; exact ⟨a, b, c, d, e, hk _ _ f⟩
      · exact h
    · cases tp
      · simp only [cond_false] at h ⊢; exact ⟨h.1, hk _ _ h.2⟩
      · simp only [cond_true] at h ⊢
        split at h
        · obtain ⟨a, b, c, d, e, f⟩ := h; exact ⟨a, b, c, d, e, fun τ hτ => hk _ _ (f τ hτ)⟩
        · exact h
  all_goals exact ⟨h.1, hk _ _ h.2⟩
theorem aOps_mono {P : Program} : ∀ (l : List CI) {fr : Fr} {σ : St} {K K' : Fr → St → Prop}, aOps P l fr σ K → (∀ f s, K f s → K' f s) → aOps P l fr σ K'
  | [], _, _, _, _, h, hk => hk _ _ h
  | ⟨d, op, none⟩ :: r, fr, σ, K, K', h, hk => aOp_mono op h (fun v s h => aOps_mono r h hk)
  | ⟨d, op, some (t, want)⟩ :: r, fr, σ, K, K', h, hk => by
    simp only [aOps] at h ⊢
    generalize guardC want (slot t fr) = gc at *
    cases gc with
    | none => exact h
    | some c =>
      simp only at h ⊢
      cases hq : op.quiet <;> simp only [hq, cond_true, cond_false] at h ⊢
      · exact ⟨fun hc => ⟨(h.1 hc).1, aOp_mono op (h.1 hc).2 (fun v s h => aOps_mono r h hk)⟩, fun hc => aOps_mono r (h.2 hc) hk⟩
      · exact ⟨h.1, aOps_mono r h.2 hk⟩
theorem aDrw_mono {P : Program} : ∀ (l : List CI) (cs : List Nat) {fr : Fr} {σ : St} {K K' : Fr → St → Prop}, aDrw P l cs fr σ K → (∀ f s, K f s → K' f s) → aDrw P l cs fr σ K'
  | [], _, _, _, _, _, h, hk => by simp only [aDrw] at h ⊢; exact hk _ _ h
  | _ :: _, [], _, _, _, _, h, _ => by simp only [aDrw] at h
  | i :: r, c :: cs, fr, σ, K, K', h, hk => by
    simp only [aDrw] at h ⊢
    cases hm : makesBox i.op <;> simp only [hm, cond_true, cond_false] at h ⊢
    · cases hm2 : makesTip c i.op <;> simp only [hm2, cond_true, cond_false] at h ⊢
      · obtain ⟨v, s, h1, h2⟩ := h; exact ⟨v, s, h1, aDrw_mono r cs h2 hk⟩
      · intro β hβ; obtain ⟨v, s, h1, h2⟩ := h β hβ; exact ⟨v, s, h1, aDrw_mono r cs h2 hk⟩
    · intro β hβ; obtain ⟨v, s, h1, h2⟩ := h β hβ; exact ⟨v, s, h1, aDrw_mono r cs h2 hk⟩
theorem startP_mono : ∀ (regs : List (Bool × Nat × Nat × Nat × Nat)) {fr : Fr} {σ : St} {J J' : Fr → St → Prop}, startP regs fr σ J → (∀ f s, J f s → J' f s) → startP regs fr σ J'
  | [], _, _, _, _, h, hk => hk _ _ h
  | (false, t, k, e, s) :: r, fr, σ, J, J', h, hk => by
    simp only [startP] at h ⊢
    refine ⟨h.1, ?_⟩
    have h := h.2
    split at h
    · exact fun τ hτ => startP_mono r (h τ hτ) hk
    · exact h
  | (true, t, k, e, s) :: r, fr, σ, J, J', h, hk => by
    simp only [startP] at h ⊢
    split at h
    · split at h
      · split at h
        · refine ⟨h.1, ?_⟩
          have h := h.2
          split at h
          · exact fun τ hτ => startP_mono r (h τ hτ) hk
          · exact h
        · exact h
      · exact h
    · exact h
theorem anyP_mono {P : Program} : ∀ (t : AT) {fr : Fr} {σ : St} {K K' : Fr → St → Prop}, anyP P t fr σ K → (∀ f s, K f s → K' f s) → anyP P t fr σ K'
  | .done, _, _, _, _, h, hk => hk _ _ h
  | .stop, _, _, _, _, _, _ => trivial
  | .alt _ _ sub oth, _, _, _, _, h, hk => ⟨aOps_mono _ h.1 (fun _ _ h => anyP_mono sub h hk), anyP_mono oth h.2 hk⟩
theorem aC_mono {P : Program} : ∀ (c : CC) (fr : Fr) (σ : St) {Q Q' : Exit → Fr → St → Prop}, aC P c fr σ Q → (∀ e fr σ, Q e fr σ → Q' e fr σ) → aC P c fr σ Q'
  | .skip, fr, σ, Q, Q', h, hq => hq _ _ _ h
  | .ops l, fr, σ, Q, Q', h, hq => aOps_mono l h (fun f s => hq _ f s)
  | .drw l cls, fr, σ, Q, Q', h, hq => aDrw_mono l cls h (fun f s => hq _ f s)
  | .any t, fr, σ, Q, Q', h, hq => anyP_mono t h (fun f s => hq _ f s)
  | .seq x y, fr, σ, Q, Q', h, hq => by
    simp only [aC] at h ⊢
    refine aC_mono x fr σ h (fun e f s h => ?_)
    cases e <;> simp only at h ⊢ <;> first | exact aC_mono y f s h hq | exact hq _ _ _ h
  | .cond c x y, fr, σ, Q, Q', h, hq => by
    simp only [aC] at h ⊢
    split at h
    · exact ⟨fun hc => aC_mono x fr σ (h.1 hc) hq, fun hc => aC_mono y fr σ (h.2 hc) hq⟩
    · exact h
  | .block id x, fr, σ, Q, Q', h, hq => by
    simp only [aC] at h ⊢
    refine aC_mono x fr σ h (fun e f s h => ?_)
    cases e <;> simp only at h ⊢ <;> try exact hq _ _ _ h
    split at h
    · rename_i e; rw [if_pos e]; exact hq _ _ _ h
    · rename_i e; rw [if_neg e]; exact hq _ _ _ h
  | .scope x, fr, σ, Q, Q', h, hq => by
    simp only [aC] at h ⊢
    refine aC_mono x fr σ h (fun e f s h => ?_)
    cases e <;> simp only at h ⊢ <;> exact hq _ _ _ h
  | .loop x, fr, σ, Q, Q', h, hq => by
    simp only [aC] at h ⊢
    obtain ⟨regs, h⟩ := h
    refine ⟨regs, startP_mono regs h (fun f s h => ?_)⟩
    obtain ⟨α, F, S, I, μ, a0, h0, hf, hs, h⟩ := h
    refine ⟨α, F, S, I, μ, a0, h0, hf, hs, fun a ha => aC_mono x _ _ (h a ha) (fun e f s h => ?_)⟩
    cases e <;> simp only at h ⊢ <;> first | exact h | exact hq _ _ _ h
  | .keep ts x, fr, σ, Q, Q', h, hq => aC_mono x _ σ h hq
  | .rfun x ps asg body, fr, σ, Q, Q', h, hq => by
    simp only [aC] at h ⊢
    obtain ⟨regs, h⟩ := h
    refine ⟨regs, startP_mono regs h (fun f s h => ?_)⟩
    split at h
    · refine ⟨h.1, fun L r h1 h2 h3 hY => (h.2 L r h1 h2 h3 hY).mono (fun _ s hp => ?_)⟩
      rcases hp with ⟨k1, k2⟩ | ⟨k1, k2⟩ | ⟨id, k1, k2⟩
      · exact .inl ⟨k1, hq _ _ _ k2⟩
      · exact .inr (.inl ⟨k1, hq _ _ _ k2⟩)
      · exact .inr (.inr ⟨id, k1, hq _ _ _ k2⟩)
    · exact h.elim
  | .exit id, fr, σ, Q, Q', h, hq => hq _ _ _ h
  | .ret, fr, σ, Q, Q', h, hq => hq _ _ _ h

section
variable {P : Program} {σ : St} {ρ : Od → AV} {K : AV → St → Prop} {fr : Fr} {Q : Exit → Fr → St → Prop} {J : Fr → St → Prop} {d : Option Nat} {r : List CI} {v : AV} {p : Prop} {β off n f : Nat} {cs as cap : List AV} {x y : CC}
theorem bindV_eq {h : Hold (σ, K)} : bindV v p σ K h = (p ∧ K v σ) := rfl
theorem bindS_eq {h : Hold (σ, K)} : bindS p β cs σ K h = (p ∧ K .junk (σ.setBox β cs)) := rfl
theorem allocV_eq {h : Hold (σ, K)} : allocV cs σ K h = ∀ β, σ.box β = none → K (.ptr β 0) (σ.setBox β cs) := rfl
theorem boxV_eq {h : Hold (σ, K)} : boxV p cs σ K h = (p ∧ ∀ β, σ.box β = none → K (.ptr β 0) (σ.setBox β cs)) := rfl
theorem stV_eq {h : Hold (σ, K)} {x : AV} : stV (.ptr β off) x n σ K h = stB (σ.box β) β off n x σ K h := rfl
theorem stB_eq {h : Hold (σ, K)} {x : AV} : stB (some cs) β off n x σ K h = bindS (x.fits = true ∧ x.cells.length = n ∧ off + n ≤ cs.length) β (cs.take off ++ x.cells ++ cs.drop (off + n)) σ K ⟨⟩ := by
  simp only [stB, bindS, and_assoc]
theorem callvV_yld {h : Hold (σ, K)} {l : Nat} : callvV P (.yld l) as σ K h = YC P l as σ K := rfl
theorem callvV_eq {h : Hold (σ, K)} : callvV P (.fn f cap) as σ K h = callV P f (as ++ cap) σ K ⟨⟩ := rfl
theorem isnilV_eq {kind : Nat} {neg : Bool} {h : Hold (σ, K)} : isnilV kind neg v σ K h = (nilOk kind v = true ∧ ∀ b, nilP kind v b → K (.bool (bif neg then !b else b)) σ) := rfl
theorem condV_true {h : Hold (x, y, fr, σ, Q)} : condV P (.bool true) x y fr σ Q h = aC P x fr σ Q := by simp [condV]
theorem condV_false {h : Hold (x, y, fr, σ, Q)} : condV P (.bool false) x y fr σ Q h = aC P y fr σ Q := by simp [condV]
theorem condV_split {b : Bool} {h : Hold (x, y, fr, σ, Q)} (h1 : b = true → aC P x fr σ Q) (h2 : b = false → aC P y fr σ Q) : condV P (.bool b) x y fr σ Q h := ⟨h1, h2⟩
theorem bindF_eq {h : Hold (x, σ, Q)} : bindF P fr x σ Q h = aC P x fr σ Q := rfl
theorem opsK_eq : opsK P d r fr J v σ = aOps P r (putF d v fr) σ J := rfl
theorem seqK_normal : seqK P y Q .normal fr σ = aC P y fr σ Q := rfl
theorem seqK_exit {j : Nat} : seqK P y Q (.exit j) fr σ = Q (.exit j) fr σ := rfl
theorem seqK_ret : seqK P y Q .ret fr σ = Q .ret fr σ := rfl
theorem blockK_normal {id : Nat} : blockK id Q .normal fr σ = Q .normal fr σ := rfl
theorem blockK_exit {id j : Nat} : blockK id Q (.exit j) fr σ = if j = id then Q .normal fr σ else Q (.exit j) fr σ := rfl
theorem blockK_ret {id : Nat} : blockK id Q .ret fr σ = Q .ret fr σ := rfl
theorem scopeK_normal : scopeK Q .normal fr σ = Q .normal fr σ := rfl
theorem scopeK_exit {j : Nat} : scopeK Q (.exit j) fr σ = Q (.exit j) fr σ := rfl
theorem scopeK_ret : scopeK Q .ret fr σ = Q .ret fr σ := rfl
theorem aC_scope : aC P (.scope x) fr σ Q = aC P x fr σ (scopeK Q) := by
  simp only [aC]
  congr
theorem loopK_normal {N : Fr → St → Prop} : loopK N Q .normal fr σ = N fr σ := rfl
theorem loopK_exit {N : Fr → St → Prop} {j : Nat} : loopK N Q (.exit j) fr σ = Q (.exit j) fr σ := rfl
theorem loopK_ret {N : Fr → St → Prop} : loopK N Q .ret fr σ = Q .ret fr σ := rfl
theorem aC_skip : aC P .skip fr σ Q = Q .normal fr σ := rfl
theorem aC_ops {l : List CI} : aC P (.ops l) fr σ Q = aOps P l fr σ (Q .normal) := rfl
def anyK (P : Program) (t : AT) (K : Fr → St → Prop) (fr : Fr) (σ : St) : Prop := anyP P t fr σ K
theorem aC_any {t : AT} : aC P (.any t) fr σ Q = anyK P t (Q .normal) fr σ := rfl
theorem anyK_done : anyK P .done J fr σ = J fr σ := rfl
theorem anyK_stop : anyK P .stop J fr σ = True := rfl
theorem anyK_alt {j : Nat} {i : CI} {sub oth : AT} : anyK P (.alt j i sub oth) J fr σ = (aOps P [i] fr σ (anyK P sub J) ∧ anyK P oth J fr σ) := rfl
theorem aC_drw {l : List CI} {cls : List Nat} : aC P (.drw l cls) fr σ Q = aDrw P l cls fr σ (Q .normal) := rfl
theorem aC_seq : aC P (.seq x y) fr σ Q = aC P x fr σ (seqK P y Q) := by
  simp only [aC]
  congr
theorem aC_cond {c : Od} : aC P (.cond c x y) fr σ Q = condV P (ev σ fr c) x y fr σ Q ⟨⟩ := rfl
theorem aC_block {id : Nat} : aC P (.block id x) fr σ Q = aC P x fr σ (blockK id Q) := by
  simp only [aC]
  congr
theorem aC_keep {ts : List Nat} : aC P (.keep ts x) fr σ Q = bindF P (keepF ts fr) x σ Q ⟨⟩ := rfl
def rfunV (P : Program) (x : Od) (ps : List Nat) (asg body : CC) (fr : Fr) (σ : St) (Q : Exit → Fr → St → Prop) (_ : Hold (asg, body, fr, σ, Q)) : Prop := aC P (.rfun x ps asg body) fr σ Q
theorem aC_rfun {c : Od} {ps : List Nat} : aC P (.rfun c ps x y) fr σ Q = rfunV P c ps x y fr σ Q ⟨⟩ := rfl
theorem aC_loop : aC P (.loop x) fr σ Q = loopV P x fr σ Q ⟨⟩ := rfl
theorem aC_exit {id : Nat} : aC P (.exit id) fr σ Q = Q (.exit id) fr σ := rfl
theorem aC_ret : aC P .ret fr σ Q = Q .ret fr σ := rfl
theorem aOps_nil : aOps P [] fr σ J = J fr σ := rfl
theorem aOps_cons {op : CO} : aOps P (⟨d, op, none⟩ :: r) fr σ J = aOp P (ev σ fr) σ (opsK P d r fr J) op := rfl
theorem aOps_guard {op : CO} {t : Nat} {want : Bool} : aOps P (⟨d, op, some (t, want)⟩ :: r) fr σ J = gdV P (guardC want (slot t fr)) d op r fr σ J ⟨⟩ := rfl
theorem aOp_isnil {kind : Nat} {neg : Bool} {x : Od} : aOp P ρ σ K (.isnil kind neg x) = isnilV kind neg (ρ x) σ K ⟨⟩ := rfl
theorem aOp_alloc : aOp P ρ σ K (.alloc cs) = allocV cs σ K ⟨⟩ := rfl
theorem aOp_box {x : Od} : aOp P ρ σ K (.box n x) = boxV ((ρ x).fits = true ∧ (ρ x).cells.length = n) (ρ x).cells σ K ⟨⟩ := by
  simp only [aOp, boxV, and_assoc]
theorem pslV_eq {p : Prop} {h : Hold (σ, K)} : pslV p n cs σ K h = (p ∧ ∀ β, σ.box β = none → K (.psl β 0 n) (σ.setBox β cs)) := rfl
theorem aOp_mkP {es bytes : Nat} {z : List AV} {x : Od} : aOp P ρ σ K (.mkP es bytes z x) = pslV (isIntA (ρ x) ∧ 0 ≤ intOfA (ρ x) ∧ intOfA (ρ x) ≤ 9223372036854775807 ∧ (intOfA (ρ x)).toNat * bytes ≤ 140737488355328) (intOfA (ρ x)).toNat (List.replicate (intOfA (ρ x)).toNat z).flatten σ K ⟨⟩ := by
  simp only [aOp, pslV, and_assoc]
theorem aOp_s2b {x} : aOp P ρ σ K (.s2b x) = bindV (pf σ ρ (.s2b x)) (ps σ ρ (.s2b x)) σ K ⟨⟩ := rfl
theorem aOp_lenP {x} : aOp P ρ σ K (.lenP x) = bindV (pf σ ρ (.lenP x)) (ps σ ρ (.lenP x)) σ K ⟨⟩ := rfl
theorem aOp_ixQ {e x i} : aOp P ρ σ K (.ixQ e x i) = bindV (pf σ ρ (.ixQ e x i)) (ps σ ρ (.ixQ e x i)) σ K ⟨⟩ := rfl
theorem aOp_st {p x : Od} : aOp P ρ σ K (.st n p x) = stV (ρ p) (ρ x) n σ K ⟨⟩ := rfl
theorem aOp_call {args : List Od} : aOp P ρ σ K (.call f args) = callV P f (args.map ρ) σ K ⟨⟩ := rfl
theorem aOp_callv {x : Od} {args : List Od} : aOp P ρ σ K (.callv x args) = callvV P (ρ x) (args.map ρ) σ K ⟨⟩ := rfl
theorem aOp_app {tp : Bool} {e es bytes : Nat} {x y : Od} : aOp P ρ σ K (.app tp e es bytes x y) = appV tp e es bytes (ρ x) (ρ y) σ K ⟨⟩ := by
  cases h : ρ x <;> simp only [aOp, appV, appQ, ps, pf, ab, h] <;> rfl
theorem appV_tsl {tp : Bool} {e es bytes τ m : Nat} {ds : List AV} {y : AV} {h : Hold (σ, K)} (hy : slv y = some (m, ds)) : appV tp e es bytes (.tsl τ n cs) y σ K h = (σ.tip τ = some (e, es, n) ∧ cs.length = n * es ∧ ds.length = m * es ∧ n + m ≤ maxLen ∧ (n + m) * bytes ≤ 140737488355328 ∧ K (.tsl τ (n + m) (cs ++ ds)) (σ.setTip τ (e, es, n + m))) := by
  simp only [appV, hy]
theorem appV_fresh {e es bytes m : Nat} {ds : List AV} {x y : AV} {h : Hold (σ, K)} (hx : slv x = some (n, cs)) (hf : fresh x) (hy : slv y = some (m, ds)) (h1 : cs.length = n * es) (h2 : ds.length = m * es) (h3 : n + m ≤ maxLen) (h4 : (n + m) * bytes ≤ 140737488355328) (hK : K (.sl false (n + m) (cs ++ ds)) σ) : appV false e es bytes x y σ K h := by
  have : appQ e es bytes x y σ K ⟨⟩ := by
    simp only [appQ, ps, pf, ab, hx, hy]
    exact ⟨⟨hf, h1, h2, h3, h4⟩, hK⟩
  unfold appV
  split
  · exact hf.elim
  · exact this
theorem aOp_mv {x} : aOp P ρ σ K (.mv x) = bindV (pf σ ρ (.mv x)) (ps σ ρ (.mv x)) σ K ⟨⟩ := rfl
theorem aOp_pick {c a b} : aOp P ρ σ K (.pick c a b) = bindV (pf σ ρ (.pick c a b)) (ps σ ρ (.pick c a b)) σ K ⟨⟩ := rfl
theorem aOp_un {u x} : aOp P ρ σ K (.un u x) = bindV (pf σ ρ (.un u x)) (ps σ ρ (.un u x)) σ K ⟨⟩ := rfl
theorem aOp_bin {u x y} : aOp P ρ σ K (.bin u x y) = bindV (pf σ ρ (.bin u x y)) (ps σ ρ (.bin u x y)) σ K ⟨⟩ := rfl
theorem aOp_eqA {n ks x y} : aOp P ρ σ K (.eqA n ks x y) = bindV (pf σ ρ (.eqA n ks x y)) (ps σ ρ (.eqA n ks x y)) σ K ⟨⟩ := rfl
theorem aOp_eqb {n x y} : aOp P ρ σ K (.eqb n x y) = bindV (pf σ ρ (.eqb n x y)) (ps σ ρ (.eqb n x y)) σ K ⟨⟩ := rfl
theorem aOp_cnv {k x} : aOp P ρ σ K (.cnv k x) = bindV (pf σ ρ (.cnv k x)) (ps σ ρ (.cnv k x)) σ K ⟨⟩ := rfl
theorem aOp_b2sP {x} : aOp P ρ σ K (.b2sP x) = bindV (pf σ ρ (.b2sP x)) (ps σ ρ (.b2sP x)) σ K ⟨⟩ := rfl
theorem aOp_slcP {n e x} : aOp P ρ σ K (.slcP n e x) = bindV (pf σ ρ (.slcP n e x)) (ps σ ρ (.slcP n e x)) σ K ⟨⟩ := rfl
theorem aOp_b2s {x} : aOp P ρ σ K (.b2s x) = bindV (pf σ ρ (.b2s x)) (ps σ ρ (.b2s x)) σ K ⟨⟩ := rfl
theorem aOp_len {x} : aOp P ρ σ K (.len x) = bindV (pf σ ρ (.len x)) (ps σ ρ (.len x)) σ K ⟨⟩ := rfl
theorem aOp_lenS {x} : aOp P ρ σ K (.lenS x) = bindV (pf σ ρ (.lenS x)) (ps σ ρ (.lenS x)) σ K ⟨⟩ := rfl
theorem aOp_fld {o z x} : aOp P ρ σ K (.fld o z x) = bindV (pf σ ρ (.fld o z x)) (ps σ ρ (.fld o z x)) σ K ⟨⟩ := rfl
theorem aOp_fldA {o x} : aOp P ρ σ K (.fldA o x) = bindV (pf σ ρ (.fldA o x)) (ps σ ρ (.fldA o x)) σ K ⟨⟩ := rfl
theorem aOp_ixA {e x i} : aOp P ρ σ K (.ixA e x i) = bindV (pf σ ρ (.ixA e x i)) (ps σ ρ (.ixA e x i)) σ K ⟨⟩ := rfl
theorem aOp_ixP {n e x i} : aOp P ρ σ K (.ixP n e x i) = bindV (pf σ ρ (.ixP n e x i)) (ps σ ρ (.ixP n e x i)) σ K ⟨⟩ := rfl
theorem aOp_ixS {x i} : aOp P ρ σ K (.ixS x i) = bindV (pf σ ρ (.ixS x i)) (ps σ ρ (.ixS x i)) σ K ⟨⟩ := rfl
theorem aOp_ixV {n e z x i} : aOp P ρ σ K (.ixV n e z x i) = bindV (pf σ ρ (.ixV n e z x i)) (ps σ ρ (.ixV n e z x i)) σ K ⟨⟩ := rfl
theorem aOp_ld {z x} : aOp P ρ σ K (.ld z x) = bindV (pf σ ρ (.ld z x)) (ps σ ρ (.ld z x)) σ K ⟨⟩ := rfl
theorem aOp_slc {e x l h m} : aOp P ρ σ K (.slc e x l h m) = bindV (pf σ ρ (.slc e x l h m)) (ps σ ρ (.slc e x l h m)) σ K ⟨⟩ := rfl
theorem aOp_slcS {x l h} : aOp P ρ σ K (.slcS x l h) = bindV (pf σ ρ (.slcS x l h)) (ps σ ρ (.slcS x l h)) σ K ⟨⟩ := rfl
theorem aOp_bld {z q} : aOp P ρ σ K (.bld z q) = bindV (pf σ ρ (.bld z q)) (ps σ ρ (.bld z q)) σ K ⟨⟩ := rfl
theorem aOp_mkSl {e n z q} : aOp P ρ σ K (.mkSl e n z q) = bindV (pf σ ρ (.mkSl e n z q)) (ps σ ρ (.mkSl e n z q)) σ K ⟨⟩ := rfl
theorem aOp_mkI {t x} : aOp P ρ σ K (.mkI t x) = bindV (pf σ ρ (.mkI t x)) (ps σ ρ (.mkI t x)) σ K ⟨⟩ := rfl
theorem aOp_mkF {f cs} : aOp P ρ σ K (.mkF f cs) = bindV (pf σ ρ (.mkF f cs)) (ps σ ρ (.mkF f cs)) σ K ⟨⟩ := rfl
theorem aOp_ext {x i} : aOp P ρ σ K (.ext x i) = bindV (pf σ ρ (.ext x i)) (ps σ ρ (.ext x i)) σ K ⟨⟩ := rfl
theorem aOp_nilc {x} : aOp P ρ σ K (.nilc x) = bindV (pf σ ρ (.nilc x)) (ps σ ρ (.nilc x)) σ K ⟨⟩ := rfl
theorem aOp_mm {b x y} : aOp P ρ σ K (.mm b x y) = bindV (pf σ ρ (.mm b x y)) (ps σ ρ (.mm b x y)) σ K ⟨⟩ := rfl


/-- A guarded quiet operation. -/
theorem gdV_quiet {c : Bool} {op : CO} {h : Hold (d, op, r, fr, σ, J)} (hq : op.quiet = true) : gdV P (some c) d op r fr σ J h = bindV (.opt c (pf σ (gEv op (ev σ fr)) op)) (c = true → optAll c (ev σ fr) op.gods ∧ ps σ (gEv op (ev σ fr)) op) σ (opsK P d r fr J) ⟨⟩ := by
  simp only [gdV, hq, cond_true, bindV, opsK]
theorem gdV_yes {op : CO} {h : Hold (d, op, r, fr, σ, J)} (hq : op.quiet = false) : gdV P (some true) d op r fr σ J h = (optAll true (ev σ fr) op.ods ∧ aOp P (evU (ev σ fr)) σ (opsK P d r fr J) op) := by
  simp only [gdV, hq, cond_false, opsK, forall_const, reduceCtorEq, false_implies, and_true]
  rfl
theorem gdV_no {op : CO} {h : Hold (d, op, r, fr, σ, J)} (hq : op.quiet = false) : gdV P (some false) d op r fr σ J h = aOps P r (putF d (.opt false .junk) fr) σ J := by
  simp [gdV, hq]
theorem gdQ_mv {c : Bool} {x} {h : Hold (d, CO.mv x, r, fr, σ, J)} : gdV P (some c) d (.mv x) r fr σ J h = bindV (.opt c (pf σ (evU (ev σ fr)) (.mv x))) (c = true → optAll c (ev σ fr) (CO.ods (.mv x)) ∧ ps σ (evU (ev σ fr)) (.mv x)) σ (opsK P d r fr J) ⟨⟩ := gdV_quiet rfl
theorem gdQ_pick {c : Bool} {x a b} {h : Hold (d, CO.pick x a b, r, fr, σ, J)} : gdV P (some c) d (.pick x a b) r fr σ J h = bindV (.opt c (pf σ (pickE x (ev σ fr)) (.pick x a b))) (c = true → optAll c (ev σ fr) [x] ∧ ps σ (pickE x (ev σ fr)) (.pick x a b)) σ (opsK P d r fr J) ⟨⟩ := gdV_quiet rfl
theorem gdQ_un {c : Bool} {u x} {h : Hold (d, CO.un u x, r, fr, σ, J)} : gdV P (some c) d (.un u x) r fr σ J h = bindV (.opt c (pf σ (evU (ev σ fr)) (.un u x))) (c = true → optAll c (ev σ fr) (CO.ods (.un u x)) ∧ ps σ (evU (ev σ fr)) (.un u x)) σ (opsK P d r fr J) ⟨⟩ := gdV_quiet rfl
theorem gdQ_bin {c : Bool} {u x y} {h : Hold (d, CO.bin u x y, r, fr, σ, J)} : gdV P (some c) d (.bin u x y) r fr σ J h = bindV (.opt c (pf σ (evU (ev σ fr)) (.bin u x y))) (c = true → optAll c (ev σ fr) (CO.ods (.bin u x y)) ∧ ps σ (evU (ev σ fr)) (.bin u x y)) σ (opsK P d r fr J) ⟨⟩ := gdV_quiet rfl
theorem gdQ_eqA {c : Bool} {n ks x y} {h : Hold (d, CO.eqA n ks x y, r, fr, σ, J)} : gdV P (some c) d (.eqA n ks x y) r fr σ J h = bindV (.opt c (pf σ (evU (ev σ fr)) (.eqA n ks x y))) (c = true → optAll c (ev σ fr) (CO.ods (.eqA n ks x y)) ∧ ps σ (evU (ev σ fr)) (.eqA n ks x y)) σ (opsK P d r fr J) ⟨⟩ := gdV_quiet rfl
theorem gdQ_eqb {c : Bool} {n x y} {h : Hold (d, CO.eqb n x y, r, fr, σ, J)} : gdV P (some c) d (.eqb n x y) r fr σ J h = bindV (.opt c (pf σ (evU (ev σ fr)) (.eqb n x y))) (c = true → optAll c (ev σ fr) (CO.ods (.eqb n x y)) ∧ ps σ (evU (ev σ fr)) (.eqb n x y)) σ (opsK P d r fr J) ⟨⟩ := gdV_quiet rfl
theorem gdQ_cnv {c : Bool} {k x} {h : Hold (d, CO.cnv k x, r, fr, σ, J)} : gdV P (some c) d (.cnv k x) r fr σ J h = bindV (.opt c (pf σ (evU (ev σ fr)) (.cnv k x))) (c = true → optAll c (ev σ fr) (CO.ods (.cnv k x)) ∧ ps σ (evU (ev σ fr)) (.cnv k x)) σ (opsK P d r fr J) ⟨⟩ := gdV_quiet rfl
theorem gdQ_b2sP {c : Bool} {x} {h : Hold (d, CO.b2sP x, r, fr, σ, J)} : gdV P (some c) d (.b2sP x) r fr σ J h = bindV (.opt c (pf σ (evU (ev σ fr)) (.b2sP x))) (c = true → optAll c (ev σ fr) (CO.ods (.b2sP x)) ∧ ps σ (evU (ev σ fr)) (.b2sP x)) σ (opsK P d r fr J) ⟨⟩ := gdV_quiet rfl
theorem gdQ_b2s {c : Bool} {x} {h : Hold (d, CO.b2s x, r, fr, σ, J)} : gdV P (some c) d (.b2s x) r fr σ J h = bindV (.opt c (pf σ (evU (ev σ fr)) (.b2s x))) (c = true → optAll c (ev σ fr) (CO.ods (.b2s x)) ∧ ps σ (evU (ev σ fr)) (.b2s x)) σ (opsK P d r fr J) ⟨⟩ := gdV_quiet rfl
theorem gdQ_len {c : Bool} {x} {h : Hold (d, CO.len x, r, fr, σ, J)} : gdV P (some c) d (.len x) r fr σ J h = bindV (.opt c (pf σ (evU (ev σ fr)) (.len x))) (c = true → optAll c (ev σ fr) (CO.ods (.len x)) ∧ ps σ (evU (ev σ fr)) (.len x)) σ (opsK P d r fr J) ⟨⟩ := gdV_quiet rfl
theorem gdQ_lenS {c : Bool} {x} {h : Hold (d, CO.lenS x, r, fr, σ, J)} : gdV P (some c) d (.lenS x) r fr σ J h = bindV (.opt c (pf σ (evU (ev σ fr)) (.lenS x))) (c = true → optAll c (ev σ fr) (CO.ods (.lenS x)) ∧ ps σ (evU (ev σ fr)) (.lenS x)) σ (opsK P d r fr J) ⟨⟩ := gdV_quiet rfl
theorem gdQ_fld {c : Bool} {o z x} {h : Hold (d, CO.fld o z x, r, fr, σ, J)} : gdV P (some c) d (.fld o z x) r fr σ J h = bindV (.opt c (pf σ (evU (ev σ fr)) (.fld o z x))) (c = true → optAll c (ev σ fr) (CO.ods (.fld o z x)) ∧ ps σ (evU (ev σ fr)) (.fld o z x)) σ (opsK P d r fr J) ⟨⟩ := gdV_quiet rfl
theorem gdQ_fldA {c : Bool} {o x} {h : Hold (d, CO.fldA o x, r, fr, σ, J)} : gdV P (some c) d (.fldA o x) r fr σ J h = bindV (.opt c (pf σ (evU (ev σ fr)) (.fldA o x))) (c = true → optAll c (ev σ fr) (CO.ods (.fldA o x)) ∧ ps σ (evU (ev σ fr)) (.fldA o x)) σ (opsK P d r fr J) ⟨⟩ := gdV_quiet rfl
theorem gdQ_ixA {c : Bool} {e x i} {h : Hold (d, CO.ixA e x i, r, fr, σ, J)} : gdV P (some c) d (.ixA e x i) r fr σ J h = bindV (.opt c (pf σ (evU (ev σ fr)) (.ixA e x i))) (c = true → optAll c (ev σ fr) (CO.ods (.ixA e x i)) ∧ ps σ (evU (ev σ fr)) (.ixA e x i)) σ (opsK P d r fr J) ⟨⟩ := gdV_quiet rfl
theorem gdQ_ixP {c : Bool} {n e x i} {h : Hold (d, CO.ixP n e x i, r, fr, σ, J)} : gdV P (some c) d (.ixP n e x i) r fr σ J h = bindV (.opt c (pf σ (evU (ev σ fr)) (.ixP n e x i))) (c = true → optAll c (ev σ fr) (CO.ods (.ixP n e x i)) ∧ ps σ (evU (ev σ fr)) (.ixP n e x i)) σ (opsK P d r fr J) ⟨⟩ := gdV_quiet rfl
theorem gdQ_ixS {c : Bool} {x i} {h : Hold (d, CO.ixS x i, r, fr, σ, J)} : gdV P (some c) d (.ixS x i) r fr σ J h = bindV (.opt c (pf σ (evU (ev σ fr)) (.ixS x i))) (c = true → optAll c (ev σ fr) (CO.ods (.ixS x i)) ∧ ps σ (evU (ev σ fr)) (.ixS x i)) σ (opsK P d r fr J) ⟨⟩ := gdV_quiet rfl
theorem gdQ_ixV {c : Bool} {n e z x i} {h : Hold (d, CO.ixV n e z x i, r, fr, σ, J)} : gdV P (some c) d (.ixV n e z x i) r fr σ J h = bindV (.opt c (pf σ (evU (ev σ fr)) (.ixV n e z x i))) (c = true → optAll c (ev σ fr) (CO.ods (.ixV n e z x i)) ∧ ps σ (evU (ev σ fr)) (.ixV n e z x i)) σ (opsK P d r fr J) ⟨⟩ := gdV_quiet rfl
theorem gdQ_ld {c : Bool} {z x} {h : Hold (d, CO.ld z x, r, fr, σ, J)} : gdV P (some c) d (.ld z x) r fr σ J h = bindV (.opt c (pf σ (evU (ev σ fr)) (.ld z x))) (c = true → optAll c (ev σ fr) (CO.ods (.ld z x)) ∧ ps σ (evU (ev σ fr)) (.ld z x)) σ (opsK P d r fr J) ⟨⟩ := gdV_quiet rfl
theorem gdQ_slc {c : Bool} {e x l hi m} {h : Hold (d, CO.slc e x l hi m, r, fr, σ, J)} : gdV P (some c) d (.slc e x l hi m) r fr σ J h = bindV (.opt c (pf σ (evU (ev σ fr)) (.slc e x l hi m))) (c = true → optAll c (ev σ fr) (CO.ods (.slc e x l hi m)) ∧ ps σ (evU (ev σ fr)) (.slc e x l hi m)) σ (opsK P d r fr J) ⟨⟩ := gdV_quiet rfl
theorem gdQ_slcS {c : Bool} {x l hi} {h : Hold (d, CO.slcS x l hi, r, fr, σ, J)} : gdV P (some c) d (.slcS x l hi) r fr σ J h = bindV (.opt c (pf σ (evU (ev σ fr)) (.slcS x l hi))) (c = true → optAll c (ev σ fr) (CO.ods (.slcS x l hi)) ∧ ps σ (evU (ev σ fr)) (.slcS x l hi)) σ (opsK P d r fr J) ⟨⟩ := gdV_quiet rfl
theorem gdQ_bld {c : Bool} {z q} {h : Hold (d, CO.bld z q, r, fr, σ, J)} : gdV P (some c) d (.bld z q) r fr σ J h = bindV (.opt c (pf σ (evU (ev σ fr)) (.bld z q))) (c = true → optAll c (ev σ fr) (CO.ods (.bld z q)) ∧ ps σ (evU (ev σ fr)) (.bld z q)) σ (opsK P d r fr J) ⟨⟩ := gdV_quiet rfl
theorem gdQ_mkSl {c : Bool} {e n z q} {h : Hold (d, CO.mkSl e n z q, r, fr, σ, J)} : gdV P (some c) d (.mkSl e n z q) r fr σ J h = bindV (.opt c (pf σ (evU (ev σ fr)) (.mkSl e n z q))) (c = true → optAll c (ev σ fr) (CO.ods (.mkSl e n z q)) ∧ ps σ (evU (ev σ fr)) (.mkSl e n z q)) σ (opsK P d r fr J) ⟨⟩ := gdV_quiet rfl
theorem gdQ_mkI {c : Bool} {t x} {h : Hold (d, CO.mkI t x, r, fr, σ, J)} : gdV P (some c) d (.mkI t x) r fr σ J h = bindV (.opt c (pf σ (evU (ev σ fr)) (.mkI t x))) (c = true → optAll c (ev σ fr) (CO.ods (.mkI t x)) ∧ ps σ (evU (ev σ fr)) (.mkI t x)) σ (opsK P d r fr J) ⟨⟩ := gdV_quiet rfl
theorem gdQ_mkF {c : Bool} {g cs} {h : Hold (d, CO.mkF g cs, r, fr, σ, J)} : gdV P (some c) d (.mkF g cs) r fr σ J h = bindV (.opt c (pf σ (evU (ev σ fr)) (.mkF g cs))) (c = true → optAll c (ev σ fr) (CO.ods (.mkF g cs)) ∧ ps σ (evU (ev σ fr)) (.mkF g cs)) σ (opsK P d r fr J) ⟨⟩ := gdV_quiet rfl
theorem gdQ_ext {c : Bool} {x i} {h : Hold (d, CO.ext x i, r, fr, σ, J)} : gdV P (some c) d (.ext x i) r fr σ J h = bindV (.opt c (pf σ (evU (ev σ fr)) (.ext x i))) (c = true → optAll c (ev σ fr) (CO.ods (.ext x i)) ∧ ps σ (evU (ev σ fr)) (.ext x i)) σ (opsK P d r fr J) ⟨⟩ := gdV_quiet rfl
theorem gdQ_nilc {c : Bool} {x} {h : Hold (d, CO.nilc x, r, fr, σ, J)} : gdV P (some c) d (.nilc x) r fr σ J h = bindV (.opt c (pf σ (evU (ev σ fr)) (.nilc x))) (c = true → optAll c (ev σ fr) (CO.ods (.nilc x)) ∧ ps σ (evU (ev σ fr)) (.nilc x)) σ (opsK P d r fr J) ⟨⟩ := gdV_quiet rfl
theorem gdQ_mm {c : Bool} {b x y} {h : Hold (d, CO.mm b x y, r, fr, σ, J)} : gdV P (some c) d (.mm b x y) r fr σ J h = bindV (.opt c (pf σ (evU (ev σ fr)) (.mm b x y))) (c = true → optAll c (ev σ fr) (CO.ods (.mm b x y)) ∧ ps σ (evU (ev σ fr)) (.mm b x y)) σ (opsK P d r fr J) ⟨⟩ := gdV_quiet rfl
theorem gdQ_app {c : Bool} {t e s b x y} {h : Hold (d, CO.app t e s b x y, r, fr, σ, J)} : gdV P (some c) d (.app t e s b x y) r fr σ J h = bindV (.opt c (pf σ (evU (ev σ fr)) (.app t e s b x y))) (c = true → optAll c (ev σ fr) (CO.ods (.app t e s b x y)) ∧ ps σ (evU (ev σ fr)) (.app t e s b x y)) σ (opsK P d r fr J) ⟨⟩ := gdV_quiet rfl
theorem gdY_isnil {k n x} {h : Hold (d, CO.isnil k n x, r, fr, σ, J)} : gdV P (some true) d (.isnil k n x) r fr σ J h = (optAll true (ev σ fr) (CO.ods (.isnil k n x)) ∧ aOp P (evU (ev σ fr)) σ (opsK P d r fr J) (.isnil k n x)) := gdV_yes rfl
theorem gdN_isnil {k n x} {h : Hold (d, CO.isnil k n x, r, fr, σ, J)} : gdV P (some false) d (.isnil k n x) r fr σ J h = aOps P r (putF d (.opt false .junk) fr) σ J := gdV_no rfl
theorem gdY_alloc {z} {h : Hold (d, CO.alloc z, r, fr, σ, J)} : gdV P (some true) d (.alloc z) r fr σ J h = (optAll true (ev σ fr) (CO.ods (.alloc z)) ∧ aOp P (evU (ev σ fr)) σ (opsK P d r fr J) (.alloc z)) := gdV_yes rfl
theorem gdN_alloc {z} {h : Hold (d, CO.alloc z, r, fr, σ, J)} : gdV P (some false) d (.alloc z) r fr σ J h = aOps P r (putF d (.opt false .junk) fr) σ J := gdV_no rfl
theorem gdY_box {n x} {h : Hold (d, CO.box n x, r, fr, σ, J)} : gdV P (some true) d (.box n x) r fr σ J h = (optAll true (ev σ fr) (CO.ods (.box n x)) ∧ aOp P (evU (ev σ fr)) σ (opsK P d r fr J) (.box n x)) := gdV_yes rfl
theorem gdN_box {n x} {h : Hold (d, CO.box n x, r, fr, σ, J)} : gdV P (some false) d (.box n x) r fr σ J h = aOps P r (putF d (.opt false .junk) fr) σ J := gdV_no rfl
theorem gdY_st {n q x} {h : Hold (d, CO.st n q x, r, fr, σ, J)} : gdV P (some true) d (.st n q x) r fr σ J h = (optAll true (ev σ fr) (CO.ods (.st n q x)) ∧ aOp P (evU (ev σ fr)) σ (opsK P d r fr J) (.st n q x)) := gdV_yes rfl
theorem gdN_st {n q x} {h : Hold (d, CO.st n q x, r, fr, σ, J)} : gdV P (some false) d (.st n q x) r fr σ J h = aOps P r (putF d (.opt false .junk) fr) σ J := gdV_no rfl
theorem gdY_call {g xs} {h : Hold (d, CO.call g xs, r, fr, σ, J)} : gdV P (some true) d (.call g xs) r fr σ J h = (optAll true (ev σ fr) (CO.ods (.call g xs)) ∧ aOp P (evU (ev σ fr)) σ (opsK P d r fr J) (.call g xs)) := gdV_yes rfl
theorem gdN_call {g xs} {h : Hold (d, CO.call g xs, r, fr, σ, J)} : gdV P (some false) d (.call g xs) r fr σ J h = aOps P r (putF d (.opt false .junk) fr) σ J := gdV_no rfl
theorem gdY_callv {x xs} {h : Hold (d, CO.callv x xs, r, fr, σ, J)} : gdV P (some true) d (.callv x xs) r fr σ J h = (optAll true (ev σ fr) (CO.ods (.callv x xs)) ∧ aOp P (evU (ev σ fr)) σ (opsK P d r fr J) (.callv x xs)) := gdV_yes rfl
theorem gdN_callv {x xs} {h : Hold (d, CO.callv x xs, r, fr, σ, J)} : gdV P (some false) d (.callv x xs) r fr σ J h = aOps P r (putF d (.opt false .junk) fr) σ J := gdV_no rfl
theorem loopV_st {α : Type} (F : α → Fr) (S : α → St) (I : α → Prop) (μ : α → Nat) (a0 : α) {h : Hold (x, σ, Q)} (hf : subF (F a0) fr) (hs : St.le (S a0) σ) (h0 : I a0)
    (hr : ∀ a, I a → aC P x (F a) (S a) (loopK (fun fr' σ' => ∃ b, I b ∧ subF (F b) fr' ∧ St.le (S b) σ' ∧ μ b < μ a) Q)) : loopV P x fr σ Q h := by
  refine ⟨[], α, F, S, I, μ, a0, h0, hf, hs, fun a ha => ?_⟩
  have := hr a ha
  unfold loopK at this
  exact this
/-- A loop that counts up to n. -/
theorem loopV_for (n : Nat) (F : Nat → Fr) (S : Nat → St) (I : Nat → Prop) {h : Hold (x, σ, Q)} (hf : subF (F 0) fr) (hs : St.le (S 0) σ) (h0 : I 0)
    (hr : ∀ k, k ≤ n → I k → aC P x (F k) (S k) (loopK (fun fr' σ' => k < n ∧ I (k + 1) ∧ subF (F (k + 1)) fr' ∧ St.le (S (k + 1)) σ') Q)) : loopV P x fr σ Q h := by
  refine loopV_st F S (fun k => k ≤ n ∧ I k) (fun k => n - k) 0 hf hs ⟨Nat.zero_le _, h0⟩ (fun k ⟨hk, hI⟩ => ?_)
  have := hr k hk hI
  have e : (loopK (fun fr' σ' => k < n ∧ I (k + 1) ∧ subF (F (k + 1)) fr' ∧ St.le (S (k + 1)) σ') Q) = (loopK (fun fr' σ' => k < n ∧ I (k + 1) ∧ subF (F (k + 1)) fr' ∧ St.le (S (k + 1)) σ') Q) := rfl
  refine aC_mono _ _ _ this ?_
  intro ex fr' σ' hx
  cases ex <;> simp only [loopK] at hx ⊢ <;> try exact hx
  exact ⟨k + 1, ⟨hx.1, hx.2.1⟩, hx.2.2.1, hx.2.2.2, by omega⟩
theorem gdV_split {c : Bool} {op : CO} {h : Hold (d, op, r, fr, σ, J)} (h1 : c = true → gdV P (some true) d op r fr σ J ⟨⟩) (h2 : c = false → gdV P (some false) d op r fr σ J ⟨⟩) : gdV P (some c) d op r fr σ J h := by
  cases c
  · exact h2 rfl
  · exact h1 rfl
end

/-- A quiet function: whatever the state, it gives this value and leaves the state. -/
def Pu (P : Program) (f : Nat) (as : List AV) (v : AV) : Prop := ∀ σ, AC P f as σ (fun r s => r = v ∧ s = σ)

section
variable {P : Program} {f : Nat} {as bs : List AV} {σ : St} {R K : AV → St → Prop} {v : AV}

theorem AC.wk (h : AC P f bs σ R) (hw : wkL as bs) : AC P f as σ R := fun g w vs hI hv => h g w vs hI (wkL_rel hw hv)

theorem Pu.to (h : Pu P f bs v) (hw : wkL as bs) (hK : K v σ) : AC P f as σ K :=
  AC.mono ((h σ).wk hw) (fun r s ⟨e1, e2⟩ => by subst e1; subst e2; exact hK)
theorem Pu.up (h : Pu P f bs v) (hw : wkL as bs) : Pu P f as v := fun σ => (h σ).wk hw

/-- For a draw's call. -/
theorem Pu.all (h : Pu P f bs v) (hw : wkL as bs) : ∀ σ2, St.le σ σ2 → AC P f as σ2 (fun x s => x = v ∧ s = σ2) := fun σ2 _ => (h σ2).wk hw

theorem wkL2 {a b : AV} {as bs : List AV} (h : wk a b) (hs : wkL as bs) : wkL (a :: as) (b :: bs) := .cons h hs

theorem endP_intro {res : List RV} {R : AV → St → Prop} {e : Exit} {fr : Fr} {σ σ' : St} {r : AV} (he : e = .ret ∨ e = .normal) (hs : rvsS σ fr res) (hw : wk (resAV (res.map (rvV σ fr))) r) (hl : St.le σ' σ) (hR : R r σ') : endP res R e fr σ :=
  ⟨he, hs, r, σ', hw, hl, hR⟩

theorem Pu_intro (cf : CF) (hf : fB P f cf = true) (hn : as.length ≤ cf.n) (h : ∀ σ, aC P cf.body (initF 0 as) σ (endP cf.res (fun r s => r = v ∧ s = σ))) : Pu P f as v := fun σ => AC_intro cf hf hn (h σ)
theorem endP_pu {res : List RV} {v : AV} {σ0 : St} {e : Exit} {fr : Fr} {σ : St} (he : e = .ret ∨ e = .normal) (hs : rvsS σ fr res) (hw : wk (resAV (res.map (rvV σ fr))) v) (hl : St.le σ0 σ) : endP res (fun r s => r = v ∧ s = σ0) e fr σ :=
  ⟨he, hs, v, σ0, hw, hl, rfl, rfl⟩

theorem upd_none {α : Type} {f : Nat → Option α} {k j : Nat} {v : α} : upd f k v j = none ↔ j ≠ k ∧ f j = none := by
  unfold upd; split <;> simp_all
theorem St.set_set (σ : St) (β : Nat) (c d : List AV) : (σ.setBox β c).setBox β d = σ.setBox β d := by
  simp only [St.setBox, St.mk.injEq, and_true]
  funext j; simp only [upd]; split <;> rfl
theorem St.set_comm (σ : St) {β γ : Nat} (h : β ≠ γ) (c d : List AV) : (σ.setBox β c).setBox γ d = (σ.setBox γ d).setBox β c := by
  simp only [St.setBox, St.mk.injEq, and_true]
  funext j; simp only [upd]
  by_cases h1 : j = γ <;> by_cases h2 : j = β
  · subst h1; subst h2; exact (h rfl).elim
  · simp [h1, Ne.symm h]
  · simp [h2, h]
  · simp [h1, h2]
theorem St.box_same (σ : St) (β : Nat) (c : List AV) : (σ.setBox β c).box β = some c := by simp [St.setBox, upd]
theorem St.box_other (σ : St) {β γ : Nat} (c : List AV) (h : γ ≠ β) : (σ.setBox β c).box γ = σ.box γ := by simp [St.setBox, upd, h]
theorem St.box_none {σ : St} {β γ : Nat} {c : List AV} : (σ.setBox β c).box γ = none ↔ γ ≠ β ∧ σ.box γ = none := upd_none
theorem St.glob_set (σ : St) (β : Nat) (c : List AV) : (σ.setBox β c).glob = σ.glob := rfl
theorem St.le_new {σ σ' : St} {β : Nat} {c : List AV} (h : St.le σ σ') (hn : σ.box β = none) : St.le σ (σ'.setBox β c) := St.le_setBox h hn
/-- A box of both. -/
theorem St.le_both {σ σ' : St} {β : Nat} {c : List AV} (h : ∀ γ d, γ ≠ β → σ.box γ = some d → σ'.box γ = some d) (ht : ∀ τ x, σ.tip τ = some x → σ'.tip τ = some x) (hg : ∀ k d, σ.glob k = some d → σ'.glob k = some d) (hl : ∀ k d, σ.lp k = some d → σ'.lp k = some d) : St.le (σ.setBox β c) (σ'.setBox β c) := by
  refine ⟨fun γ d hd => ?_, ht, hg, hl⟩
  simp only [St.setBox, upd] at hd ⊢
  split
  · rename_i e; subst e; simpa using hd
  · rename_i e; rw [if_neg e] at hd; exact h γ d e hd
theorem St.le_cong {σ σ' : St} (β : Nat) (c : List AV) (h : St.le σ σ') : St.le (σ.setBox β c) (σ'.setBox β c) :=
  St.le_both (fun γ d _ hd => h.1 γ d hd) h.2.1 h.2.2.1 h.2.2.2
theorem St.le_over {σ σ' : St} (β : Nat) (c d : List AV) (h : St.le σ σ') : St.le (σ.setBox β c) ((σ'.setBox β d).setBox β c) := by
  rw [St.set_set]; exact St.le_cong β c h

/-- A loop whose state is told by 'a'. -/
theorem loop_st {α : Type} (F : α → Fr) (S : α → St) (I : α → Prop) (μ : α → Nat) (a0 : α) {x : CC} {fr : Fr} {σ : St} {Q : Exit → Fr → St → Prop} (hf : subF (F a0) fr) (hs : St.le (S a0) σ) (h0 : I a0)
    (h : ∀ a, I a → aC P x (F a) (S a) (fun e fr' σ' => match e with
      | .normal => ∃ b, I b ∧ subF (F b) fr' ∧ St.le (S b) σ' ∧ μ b < μ a
      | e => Q e fr' σ')) : aC P (.loop x) fr σ Q := by
  exact ⟨[], α, F, S, I, μ, a0, h0, hf, hs, h⟩
end

/-! ### Rows of records -/
/-- The slice of a list, each element by its cells. -/
abbrev sl {α : Type} (f : α → List AV) (l : List α) : AV := .sl false l.length (l.flatMap f)
abbrev tsl {α : Type} (τ : Nat) (f : α → List AV) (l : List α) : AV := .tsl τ l.length (l.flatMap f)

section
variable {α : Type} {f : α → List AV} {s : Nat}
theorem flat_len (hf : ∀ x, (f x).length = s) : ∀ l : List α, (l.flatMap f).length = l.length * s
  | [] => by simp
  | x :: l => by simp [List.flatMap_cons, hf, flat_len hf l, Nat.succ_mul, Nat.add_comm]
theorem flat_drop (hf : ∀ x, (f x).length = s) : ∀ (l : List α) (k : Nat), (l.flatMap f).drop (k * s) = (l.drop k).flatMap f
  | l, 0 => by simp
  | [], k + 1 => by simp
  | x :: l, k + 1 => by
    rw [List.flatMap_cons, Nat.succ_mul, Nat.add_comm, List.drop_append, hf]
    simp only [List.drop_succ_cons]
    rw [List.drop_eq_nil_of_le (by rw [hf]; omega), List.nil_append, show s + k * s - s = k * s by omega, flat_drop hf l k]
theorem flat_take (hf : ∀ x, (f x).length = s) : ∀ (l : List α) (k : Nat), (l.flatMap f).take (k * s) = (l.take k).flatMap f
  | l, 0 => by simp
  | [], k + 1 => by simp
  | x :: l, k + 1 => by
    rw [List.flatMap_cons, Nat.succ_mul, Nat.add_comm, List.take_append, hf]
    simp only [List.take_succ_cons, List.flatMap_cons]
    rw [List.take_of_length_le (by rw [hf]; omega), show s + k * s - s = k * s by omega, flat_take hf l k]
theorem flat_get (hf : ∀ x, (f x).length = s) (l : List α) (k : Nat) (h : k < l.length) : ((l.flatMap f).drop (k * s)).take s = f l[k] := by
  rw [flat_drop hf, List.drop_eq_getElem_cons h, List.flatMap_cons, List.take_append, hf]
  simp only [Nat.sub_self, List.take_zero, List.append_nil]
  exact List.take_of_length_le (by rw [hf]; omega)
theorem flat_one (l : List α) (x : α) : l.flatMap f ++ f x = (l ++ [x]).flatMap f := by simp [List.flatMap_append]
theorem flat_app (l m : List α) : l.flatMap f ++ m.flatMap f = (l ++ m).flatMap f := by simp [List.flatMap_append]
theorem flat_step {l : List α} {k : Nat} (h : k < l.length) : (l.take k).flatMap f ++ f l[k] = (l.take (k + 1)).flatMap f := by
  rw [flat_one, List.take_append_getElem]
end
theorem sl_eq {α : Type} {f : α → List AV} {l m : List α} (h : l = m) : sl f l = sl f m := by rw [h]
theorem wk_sl_true (n : Nat) (cs : List AV) : wk (.sl true n cs) (.sl false n cs) := wk_full n cs
theorem wrap64 {n : Int} (h1 : -9223372036854775808 ≤ n) (h2 : n ≤ 9223372036854775807) : IntKind.i64.wrap n = n := by
  simp [IntKind.wrap, IntKind.bits, IntKind.signed]
  split <;> omega
theorem wrapU64 {n : Int} (h1 : 0 ≤ n) (h2 : n ≤ 18446744073709551615) : IntKind.u64.wrap n = n := by
  simp [IntKind.wrap, IntKind.bits, IntKind.signed]
  omega
/-- A counter's step. -/
theorem wrap_succ {k n : Nat} (h : k < n) (hn : n ≤ maxLen) : IntKind.i64.wrap ((k : Int) + 1) = ((k + 1 : Nat) : Int) := by
  unfold maxLen at hn
  rw [wrap64 (by omega) (by omega)]
  simp
end Go.Abs
