/-
  Code and functions: the abstract wp is sound.
-/
import Derived.Test.YtnmlhilckjmhnaaDoorAbs9f
import Derived.Scope
import Derived.Control
import Derived.TacticsIn
import Derived.RangeFuncRecord
namespace Go.Abs

/-- All orders of a region, one operation after the other. -/
inductive AT where
  | done
  | stop
  | alt (j : Nat) (i : CI) (sub oth : AT)
def anyP (P : Program) : AT → Fr → St → (Fr → St → Prop) → Prop
  | .done, fr, σ, K => K fr σ
  | .stop, _, _, _ => True
  | .alt _ i sub oth, fr, σ, K => aOps P [i] fr σ (fun fr' σ' => anyP P sub fr' σ' K) ∧ anyP P oth fr σ K
def anyB (P : Program) (N : Nat) (ops : Array Oper) : AT → Array Bool → Option (List Nat) → Bool
  | .done, listed, m => m.isNone && (Region.ready .any ops listed).isEmpty
  | .stop, _, m => match m with | some [] => true | _ => false
  | .alt j i sub oth, listed, m => match m.getD (Region.ready .any ops listed) with
    | k :: r => Nat.beq j k && (match ops[k]? with
      | some o => (o.dst == i.d) && dB N i.d && gdB ops o.guard i.gd && lk2 P o.op i.op
      | none => false) && anyB P N ops sub (listed.setIfInBounds k true) none && anyB P N ops oth listed (some r)
    | [] => false
inductive CC where
  | skip
  | ops (l : List CI)
  | drw (l : List CI) (cls : List Nat)
  | any (t : AT)
  | seq (x y : CC)
  | cond (c : Od) (x y : CC)
  | block (id : Nat) (x : CC)
  | scope (x : CC)
  | loop (x : CC)
  | keep (ts : List Nat) (x : CC)
  | exit (id : Nat)
  | ret
  | rfun (x : Od) (ps : List Nat) (asg body : CC)

/-- Whatever the first stands for, the second does. -/
def wk (v v' : AV) : Prop := ∀ g w u, Rel g w v u → Rel g w v' u
theorem wk_refl (v : AV) : wk v v := fun _ _ _ h => h
theorem wk_of_eq {v v' : AV} (h : v = v') : wk v v' := h ▸ wk_refl v
theorem wk_trans {a b c : AV} (h : wk a b) (k : wk b c) : wk a c := fun g w u x => k g w u (h g w u x)
theorem wk_junk (v : AV) : wk v .junk := fun _ _ u _ => .junk u
theorem wk_tsl (τ n : Nat) (cs : List AV) : wk (.tsl τ n cs) (.sl false n cs) := by
  intro g w u h
  rcases h.slv_inv (n := n) (cs := cs) rfl with ⟨_, rfl, rfl, rfl⟩ | ⟨b, off, cap, us, rfl, hnc, hl⟩
  · exact .sl0 _ _
  · exact .sl_mk hnc (by simp) hl
theorem wk_full (n : Nat) (cs : List AV) : wk (.sl true n cs) (.sl false n cs) := by
  intro g w u h
  rcases h.slv_inv (n := n) (cs := cs) rfl with ⟨_, rfl, rfl, rfl⟩ | ⟨b, off, cap, us, rfl, hnc, hl⟩
  · exact .sl0 _ _
  · exact .sl_mk hnc (by simp) hl
theorem wk_nils : wk .nils (.sl false 0 []) := by
  intro g w u h
  cases h; exact .sl0 _ _
inductive wkL : List AV → List AV → Prop where
  | nil : wkL [] []
  | cons {a b : AV} {as bs : List AV} : wk a b → wkL as bs → wkL (a :: as) (b :: bs)
theorem wkL_rel {as bs : List AV} (h : wkL as bs) : ∀ {g w vs}, RelL g w as vs → RelL g w bs vs := by
  induction h with
  | nil => intro g w vs h; exact h
  | cons h1 _ ih =>
    intro g w vs h
    obtain ⟨v, vs', rfl, k1, k2⟩ := h.cons_inv
    exact .cons (h1 _ _ _ k1) (ih k2)
theorem wkL_refl : ∀ (as : List AV), wkL as as
  | [] => .nil
  | _ :: as => .cons (wk_refl _) (wkL_refl as)
theorem wk_tup {as bs : List AV} (h : wkL as bs) : wk (.tup as) (.tup bs) := by
  intro g w u hu
  obtain ⟨us, rfl, hr⟩ := hu.tup_inv
  exact .tup_mk (wkL_rel h hr)
theorem wk_agg {as bs : List AV} (h : wkL as bs) : wk (.agg as) (.agg bs) := by
  intro g w u hu
  obtain ⟨us, rfl, hr⟩ := hu.agg_inv
  exact .agg_mk ⟨wkL_rel h hr.1, hr.2⟩

/-- Less is known. -/
def subF : Fr → Fr → Prop
  | [], _ => True
  | (t, v) :: r, f => wk (slot t f) v ∧ subF r f
theorem Inv.le {g : Gh} {s s' : St} {w : World} (h : Inv g s' w) (hl : St.le s s') : Inv g s w :=
  ⟨fun β cs hb => h.box β cs (hl.1 _ _ hb), h.boxcl, h.boxinj, h.boxfresh, fun τ e s n ht => h.tip τ e s n (hl.2.1 _ _ ht), fun τ τ' x x' v v' b h1 h2 => h.tipinj τ τ' x x' v v' b (hl.2.1 _ _ h1) (hl.2.1 _ _ h2), h.tipfresh, fun k cs hk => h.glob k cs (hl.2.2.1 _ _ hk), fun l r hr => h.lp l r (hl.2.2.2 _ _ hr)⟩

theorem subF_slot : ∀ {r f : Fr} (t : Nat), subF r f → wk (slot t f) (slot t r)
  | [], _, _, _ => wk_junk _
  | (s, v) :: r, f, t, h => by
    simp only [slot]
    split
    · rename_i e; subst e; exact h.1
    · exact subF_slot t h.2

theorem Sim.le {g : Gh} {s s' : St} {w : World} {fr fr' : Fr} {a : Act} {N : Nat} (h : Sim g s' w fr' a N) (hs : St.le s s') (hf : subF fr fr') : Sim g s w fr a N :=
  ⟨h.inv.le hs, fun t => subF_slot t hf _ _ _ (h.rel t), h.size, h.defers⟩

/-- The start of a loop: slices without room become tips (in a temporary, or in a box), then less is known. -/
def startP : List (Bool × Nat × Nat × Nat × Nat) → Fr → St → (Fr → St → Prop) → Prop
  | [], fr, σ, J => J fr σ
  | (false, t, _, e, s) :: r, fr, σ, J => fresh (slot t fr) ∧ match slv (slot t fr) with
    | some (n, cs) => ∀ τ, σ.tip τ = none → startP r ((t, .tsl τ n cs) :: fr) (σ.setTip τ (e, s, n)) J
    | none => False
  | (true, t, k, e, s) :: r, fr, σ, J => match slot t fr with
    | .ptr β o => match σ.box β with
      | some c0 => match c0[o + k]? with
        | some a => fresh a ∧ match slv a with
          | some (n, cs) => ∀ τ, σ.tip τ = none → startP r fr ((σ.setTip τ (e, s, n)).setBox β (c0.set (o + k) (.tsl τ n cs))) J
          | none => False
        | none => False
      | none => False
    | _ => False

theorem Inv.setBox_same {g : Gh} {σ : St} {w : World} (hI : Inv g σ w) {β k : Nat} {c0 : List AV} {a a' : AV} (hb : σ.box β = some c0) (hk : c0[k]? = some a) (hw : ∀ v, Rel g w a v → Rel g w a' v) : Inv g (σ.setBox β (c0.set k a')) w := by
  refine ⟨fun β' cs hb' => ?_, hI.boxcl, hI.boxinj, hI.boxfresh, hI.tip, hI.tipinj, hI.tipfresh, hI.glob, hI.lp⟩
  simp only [St.setBox, upd] at hb'
  split at hb'
  · rename_i e; subst e
    cases hb'
    obtain ⟨b, vs, T, h1, h2, h3⟩ := hI.box _ _ hb
    refine ⟨b, vs, T, h1, h2, ⟨⟨by have := h3.1.1; simpa using this, fun i c v hc hv => ?_⟩, h3.2⟩⟩
    rw [List.getElem?_set] at hc
    split at hc
    · rename_i e; subst e
      split at hc
      · cases hc; exact hw v (h3.1.2 _ _ _ hk hv)
      · cases hc
    · exact h3.1.2 _ _ _ hc hv
  · exact hI.box _ _ hb'

theorem startP_sound : ∀ (regs : List (Bool × Nat × Nat × Nat × Nat)) {g : Gh} {σ : St} {w : World} {fr : Fr} {a : Act} {N : Nat} {J : Fr → St → Prop}, Sim g σ w fr a N → startP regs fr σ J →
    ∃ g' fr' σ', Sim g' σ' w fr' a N ∧ Ext g w g' w ∧ J fr' σ'
  | [], g, σ, w, fr, a, N, J, hS, h => ⟨g, fr, σ, hS, .refl g w, h⟩
  | (false, t, k, e, s) :: r, g, σ, w, fr, a, N, J, hS, h => by
    simp only [startP] at h
    obtain ⟨hf, h⟩ := h
    split at h
    · rename_i n cs hs
      obtain ⟨g1, hI1, he1, hr1⟩ := tip_fresh hS.inv e s (hS.rel t) hf hs
      have hS1 : Sim g1 (σ.setTip g.nt (e, s, n)) w ((t, .tsl g.nt n cs) :: fr) a N := by
        refine ⟨hI1, fun t' => ?_, hS.size, hS.defers.mono he1⟩
        simp only [slot]
        split
        · rename_i ht; subst ht; exact hr1
        · exact (hS.rel t').mono he1
      obtain ⟨g2, fr2, σ2, k1, k2, k3⟩ := startP_sound r hS1 (h g.nt (fresh_tip hS.inv))
      exact ⟨g2, fr2, σ2, k1, he1.trans k2, k3⟩
    · exact h.elim
  | (true, t, k, e, s) :: r, g, σ, w, fr, a, N, J, hS, h => by
    simp only [startP] at h
    split at h
    · rename_i β o hp
      split at h
      · rename_i c0 hb
        split at h
        · rename_i x hk
          obtain ⟨hf, h⟩ := h
          split at h
          · rename_i n cs hs
            obtain ⟨b, vs, T, h1, h2, h3⟩ := hS.inv.box _ _ hb
            obtain ⟨v, hv, hr⟩ := h3.1.get hk
            obtain ⟨g1, hI1, he1, hr1⟩ := tip_fresh hS.inv e s hr hf hs
            have hb1 : (σ.setTip g.nt (e, s, n)).box β = some c0 := hb
            -- the cell's very value
            have hI2 : Inv g1 ((σ.setTip g.nt (e, s, n)).setBox β (c0.set (o + k) (.tsl g.nt n cs))) w := by
              refine ⟨fun β' cs' hb' => ?_, hI1.boxcl, hI1.boxinj, hI1.boxfresh, hI1.tip, hI1.tipinj, hI1.tipfresh, hI1.glob, hI1.lp⟩
              simp only [St.setBox, upd] at hb'
              split at hb'
              · rename_i e'; subst e'
                cases hb'
                refine ⟨b, vs, T, he1.box _ _ h1, h2, ⟨⟨by have := h3.1.1; simpa using this, fun i c u hc hu => ?_⟩, h3.2⟩⟩
                rw [List.getElem?_set] at hc
                split at hc
                · rename_i e'; subst e'
                  rw [hv] at hu; cases hu
                  split at hc
                  · cases hc; exact hr1
                  · cases hc
                · exact (h3.1.2 _ _ _ hc hu).mono he1
              · exact hI1.box _ _ hb'
            obtain ⟨g2, fr2, σ2, k1, k2, k3⟩ := startP_sound r ⟨hI2, hS.rel.mono he1, hS.size, hS.defers.mono he1⟩ (h g.nt (fresh_tip hS.inv))
            exact ⟨g2, fr2, σ2, k1, he1.trans k2, k3⟩
          · exact h.elim
        · exact h.elim
      · exact h.elim
    · exact h.elim

/-- Only these slots are kept. -/
def keepF : List Nat → Fr → Fr
  | [], _ => []
  | t :: ts, fr => (t, slot t fr) :: keepF ts fr
theorem keepF_slot (t : Nat) (fr : Fr) : ∀ ts, slot t (keepF ts fr) = slot t fr ∨ slot t (keepF ts fr) = .junk
  | [] => .inr rfl
  | s :: ts => by
    simp only [keepF, slot]
    split
    · rename_i e; subst e; exact .inl rfl
    · exact keepF_slot t fr ts

/-- Records of loops over functions. -/
def St.setLp (σ : St) (L : Nat) (x : Loop × Fr) : St := { σ with lp := upd σ.lp L x }
def St.dropLp (σ : St) (L : Nat) : St := { σ with lp := fun j => if j = L then none else σ.lp j }
def putL : List Nat → List AV → Fr → Fr
  | p :: ps, a :: xs, fr => putL ps xs ((p, a) :: fr)
  | _, _, fr => fr
def busy (r : Loop) : Loop := { r with state := .busy }
def left (r : Loop) (c : Code) : Loop := { r with state := .done, pending := some c }
def isFn (P : Program) (f : Nat) : Bool := match P.funcs[f]? with
  | some fn => fn.body.isSome && fn.name != "runtime.NumGoroutine"
  | none => false

def aC (P : Program) : CC → Fr → St → (Exit → Fr → St → Prop) → Prop
  | .skip, fr, σ, Q => Q .normal fr σ
  | .ops l, fr, σ, Q => aOps P l fr σ (Q .normal)
  | .drw l cls, fr, σ, Q => aDrw P l cls fr σ (Q .normal)
  | .any t, fr, σ, Q => anyP P t fr σ (Q .normal)
  | .seq x y, fr, σ, Q => aC P x fr σ (fun e fr' σ' => match e with
    | .normal => aC P y fr' σ' Q
    | e => Q e fr' σ')
  | .cond c x y, fr, σ, Q => match ev σ fr c with
    | .bool t => (t = true → aC P x fr σ Q) ∧ (t = false → aC P y fr σ Q)
    | _ => False
  | .block id x, fr, σ, Q => aC P x fr σ (fun e fr' σ' => match e with
    | .exit j => if j = id then Q .normal fr' σ' else Q (.exit j) fr' σ'
    | e => Q e fr' σ')
  | .scope x, fr, σ, Q => aC P x fr σ (fun e fr' σ' => match e with
    | .goto _ => False
    | e => Q e fr' σ')
  | .loop x, fr, σ, Q => ∃ regs, startP regs fr σ fun fr0 σ0 => ∃ (α : Type) (F : α → Fr) (S : α → St) (I : α → Prop) (μ : α → Nat) (a0 : α), I a0 ∧ subF (F a0) fr0 ∧ St.le (S a0) σ0 ∧
      ∀ a, I a → aC P x (F a) (S a) (fun e fr' σ' => match e with
        | .normal => ∃ b, I b ∧ subF (F b) fr' ∧ St.le (S b) σ' ∧ μ b < μ a
        | e => Q e fr' σ')
  | .keep ts x, fr, σ, Q => aC P x (keepF ts fr) σ Q
  | .exit id, fr, σ, Q => Q (.exit id) fr σ
  | .ret, fr, σ, Q => Q .ret fr σ
  | .rfun x ps asg body, fr, σ, Q => ∃ regs, startP regs fr σ fun fr σ => match ev σ fr x with
    | .fn f cap => isFn P f = true ∧ ∀ (L : Nat) (r : Loop), σ.lp L = none → r.state = .ready → r.pending = none →
        (∀ (xs : List AV) (σ1 : St) (K : AV → St → Prop), xs.length = ps.length → σ1.lp L = some (r, fr) →
          aC P asg (putL ps xs fr) σ1 (fun e fr1 σ2 => e = .normal ∧ σ2.lp L = some (r, fr) ∧ aC P body fr1 (σ2.setLp L (busy r, fr)) (fun e _ σ3 => σ3.lp L = some (busy r, fr) ∧ match e with
            | .normal => K (.bool true) (σ3.setLp L (r, fr))
            | .ret => K (.bool false) (σ3.setLp L (left r .ret, fr))
            | .exit id => K (.bool false) (σ3.setLp L (left r (.exit id), fr))
            | _ => False)) → YC P L xs σ1 K) →
        AC P f (.yld L :: cap) (σ.setLp L (r, fr)) (fun _ s => (s.lp L = some (r, fr) ∧ Q .normal fr (s.dropLp L)) ∨ (s.lp L = some (left r .ret, fr) ∧ Q .ret fr (s.dropLp L)) ∨ ∃ id, s.lp L = some (left r (.exit id), fr) ∧ Q (.exit id) fr (s.dropLp L))
    | _ => False

/-- No loop over a function in it. -/
def noR : CC → Bool
  | .rfun _ _ _ _ => false
  | .seq x y | .cond _ x y => noR x && noR y
  | .block _ x | .scope x | .loop x | .keep _ x => noR x
  | _ => true

def lkC (P : Program) (N : Nat) : CC → Code → Bool
  | .keep _ x, c => lkC P N x c
  | .scope x', c => match c with
    | .scope x => lkC P N x' x
    | _ => false
  | .skip, c => match c with
    | .skip => true
    | .label _ => true
    | _ => false
  | .ops l, c => match c with
    | .region _ ops false => lkOps P N ops ops.toList l
    | _ => false
  | .drw l cls, c => match c with
    | .region _ ops true => drwB ops l cls && lkOps P N ops ops.toList l && P.follows .mixedOrders
    | _ => false
  | .any t, c => match c with
    | .region _ ops true => anyB P N ops t (Array.replicate ops.size false) none && P.follows .mixedOrders
    | _ => false
  | .seq x' y', c => match c with
    | .seq x y => lkC P N x' x && lkC P N y' y
    | _ => false
  | .cond c' x' y', c => match c with
    | .cond c x y => odB c c' && lkC P N x' x && lkC P N y' y
    | _ => false
  | .block id' x', c => match c with
    | .block id x => id == id' && lkC P N x' x
    | _ => false
  | .loop x', c => match c with
    | .loop x => lkC P N x' x
    | _ => false
  | .exit id', c => match c with
    | .exit id => id == id'
    | _ => false
  | .ret, c => match c with
    | .ret => true
    | _ => false
  | .rfun x ps asg' body', c => match c with
    | .rangeFunc g params asg body => odB g x && params.toList == ps && (ps.all fun t => decide (t < N)) && lkC P N asg' asg && noR asg' && lkC P N body' body && noR body'
    | _ => false

section
variable {P : Program} {g : Gh} {σ : St} {w : World} {a : Act} {fr : Fr} {N : Nat}

theorem aOps_sound (ops : Array Oper) {rn : Option Nat} {nn : Nat} {Q : Exit → Act → World → Prop} : ∀ (l : List Oper) (cl : List CI) (g : Gh) (σ : St) (w : World) (fr : Fr) (a : Act) (K : Fr → St → Prop), lkOps P N ops l cl = true → Sim g σ w fr a N → aOps P cl fr σ K →
    (∀ fr' σ' g' w' a', K fr' σ' → Sim g' σ' w' fr' a' N → Ext g w g' w' → a'.defers = a.defers → Q .normal a' w') → wpListIn (Wd rn) nn P ops Q l a w
  | [], [], g, σ, w, fr, a, K, _, hS, h, hQ => hQ fr σ g w a h hS (.refl g w) rfl
  | [], _ :: _, _, _, _, _, _, _, hl, _, _, _ => by simp [lkOps] at hl
  | _ :: _, [], _, _, _, _, _, _, hl, _, _, _ => by simp [lkOps] at hl
  | o :: l, ⟨d, op, gd⟩ :: cl, g, σ, w, fr, a, K, hl, hS, h, hQ => by
    simp only [lkOps, Bool.and_eq_true, beq_iff_eq] at hl
    obtain ⟨⟨⟨⟨hd, hdN⟩, hgd⟩, hop⟩, hrest⟩ := hl
    have hdN' : ∀ k, d = some k → k < N := by
      intro k hk; subst hk; simpa [dB] using hdN
    have hdef : ∀ u, (a.put o.dst u).defers = a.defers := fun u => by cases o.dst <;> rfl
    have step : ∀ (v : AV) (σ' : St) (u : Value) (w' : World) (g' : Gh), aOps P cl (putF d v fr) σ' K → Inv g' σ' w' → Ext g w g' w' → Rel g' w' v u → wpListIn (Wd rn) nn P ops Q l (a.put o.dst u) w' := by
      intro v σ' u w' g' hK hI he hr
      have hd2 := hdef u
      rw [hd] at hd2 ⊢
      exact aOps_sound ops l cl g' σ' w' _ _ K hrest (hS.put hI he hdN' hr) hK (fun fr' σ2 g2 w2 a2 k1 k2 k3 k4 => hQ fr' σ2 g2 w2 a2 k1 k2 (he.trans k3) (k4.trans hd2))
    unfold wpListIn
    cases gd with
    | none =>
      have hw : Region.wanted o (yielded ops a.tmps) = true := by
        unfold gdB at hgd
        split at hgd
        · rename_i e1 _; simp [Region.wanted, e1]
        · rename_i e2; cases e2
        · cases hgd
      rw [if_pos hw]
      simp only [aOps] at h
      exact aOp_sound hS.inv hop (fun x y _ hb => ev_rel hS.inv hS.rel hb) h step
    | some gw =>
      obtain ⟨t, want⟩ := gw
      simp only [aOps] at h
      cases hc : guardC want (slot t fr) with
      | none => rw [hc] at h; exact h.elim
      | some c =>
        simp only [hc] at h
        have hw := wanted_of hS hgd hc
        rw [hw]
        cases hq : op.quiet with
        | true =>
          simp only [hq, cond_true] at h
          obtain ⟨h1, h2⟩ := h
          cases c with
          | true =>
            rw [if_pos rfl]
            obtain ⟨h3, h4⟩ := h1 rfl
            have hlk : lkB P o.op op = true := by cases op <;> simp [CO.quiet] at hq <;> exact hop
            refine wpIn_of_wp (lk2_nodefer hop) (upon_yields (quiet_sound hS.inv op hlk (gEv_rel hS rfl h3) h4) (fun u w' g' k1 k2 k3 => ?_))
            exact step _ _ u w' g' h2 k1 k2 (.opt _ _ _ (fun _ => k3) (fun e => by cases e))
          | false =>
            rw [if_neg (by simp)]
            exact ⟨fun _ _ => trivial, step _ _ undef w g h2 hS.inv (.refl g w) (.opt _ _ _ (fun e => by cases e) (fun _ => rfl))⟩
        | false =>
          simp only [hq, cond_false] at h
          obtain ⟨h1, h2⟩ := h
          cases c with
          | true =>
            rw [if_pos rfl]
            obtain ⟨h3, h4⟩ := h1 rfl
            exact aOp_sound hS.inv hop (evU_rel hS rfl h3) h4 step
          | false =>
            rw [if_neg (by simp)]
            exact ⟨fun _ _ => trivial, step _ _ undef w g (h2 rfl) hS.inv (.refl g w) (.opt _ _ _ (fun e => by cases e) (fun _ => rfl))⟩

/-! ### Records -/
/-- A block that holds no cells is exchanged for another such: what values stand for stays. -/
theorem aStep_sound (ops : Array Oper) {rn : Option Nat} {nn : Nat} {Q : Exit → Act → World → Prop} {next : Act → World → Prop} {o : Oper} {d : Option Nat} {op : CO} {gd : Option (Nat × Bool)} {K : Fr → St → Prop} (hl : ((o.dst == d) && dB N d && gdB ops o.guard gd && lk2 P o.op op) = true) (hS : Sim g σ w fr a N) (h : aOps P [⟨d, op, gd⟩] fr σ K)
    (hQ : ∀ fr' σ' g' w' a', K fr' σ' → Sim g' σ' w' fr' a' N → Ext g w g' w' → a'.defers = a.defers → next a' w') : if Region.wanted o (yielded ops a.tmps) = true then Oper.wpIn (Wd rn) nn P o a w next Q else next (a.put o.dst undef) w := by
  simp only [Bool.and_eq_true, beq_iff_eq] at hl
  obtain ⟨⟨⟨hd, hdN⟩, hgd⟩, hop⟩ := hl
  have hdN' : ∀ k, d = some k → k < N := by
    intro k hk; subst hk; simpa [dB] using hdN
  have hdef : ∀ u, (a.put o.dst u).defers = a.defers := fun u => by cases o.dst <;> rfl
  have step : ∀ (v : AV) (σ' : St) (u : Value) (w' : World) (g' : Gh), aOps P [] (putF d v fr) σ' K → Inv g' σ' w' → Ext g w g' w' → Rel g' w' v u → next (a.put o.dst u) w' := by
    intro v σ' u w' g' hK hI he hr
    have hd2 := hdef u
    rw [hd] at hd2 ⊢
    exact hQ _ _ _ _ _ hK (hS.put hI he hdN' hr) he hd2
  cases gd with
  | none =>
    have hw : Region.wanted o (yielded ops a.tmps) = true := by
      unfold gdB at hgd
      split at hgd
      · rename_i e1 _; simp [Region.wanted, e1]
      · rename_i e2; cases e2
      · cases hgd
    rw [if_pos hw]
    simp only [aOps] at h
    exact aOp_sound hS.inv hop (fun x y _ hb => ev_rel hS.inv hS.rel hb) h step
  | some gw =>
    obtain ⟨t, want⟩ := gw
    simp only [aOps] at h
    cases hc : guardC want (slot t fr) with
    | none => rw [hc] at h; exact h.elim
    | some c =>
      simp only [hc] at h
      have hw := wanted_of hS hgd hc
      rw [hw]
      cases hq : op.quiet with
      | true =>
        simp only [hq, cond_true] at h
        obtain ⟨h1, h2⟩ := h
        cases c with
        | true =>
          rw [if_pos rfl]
          obtain ⟨h3, h4⟩ := h1 rfl
          have hlk : lkB P o.op op = true := by cases op <;> simp [CO.quiet] at hq <;> exact hop
          refine wpIn_of_wp (lk2_nodefer hop) (upon_yields (quiet_sound hS.inv op hlk (gEv_rel hS rfl h3) h4) (fun u w' g' k1 k2 k3 => ?_))
          exact step _ _ u w' g' h2 k1 k2 (.opt _ _ _ (fun _ => k3) (fun e => by cases e))
        | false =>
          rw [if_neg (by simp)]
          exact step _ _ undef w g h2 hS.inv (.refl g w) (.opt _ _ _ (fun e => by cases e) (fun _ => rfl))
      | false =>
        simp only [hq, cond_false] at h
        obtain ⟨h1, h2⟩ := h
        cases c with
        | true =>
          rw [if_pos rfl]
          obtain ⟨h3, h4⟩ := h1 rfl
          exact aOp_sound hS.inv hop (evU_rel hS rfl h3) h4 step
        | false =>
          rw [if_neg (by simp)]
          exact step _ _ undef w g (h2 rfl) hS.inv (.refl g w) (.opt _ _ _ (fun e => by cases e) (fun _ => rfl))
theorem any_sound {ops : Array Oper} {r : Option Nat} {nn : Nat} {Q : Exit → Act → World → Prop} {g0 : Gh} {w0 : World} {a0 : Act} {K : Fr → St → Prop} (hQ : ∀ fr' σ' g' w' a', K fr' σ' → Sim g' σ' w' fr' a' N → Ext g0 w0 g' w' → a'.defers = a0.defers → Q .normal a' w') :
    ∀ (t : AT) (listed : Array Bool) (m : Option (List Nat)) (g : Gh) (σ : St) (w : World) (fr : Fr) (a : Act), anyB P N ops t listed m = true → listed.size = ops.size → Sim g σ w fr a N → Ext g0 w0 g w → a.defers = a0.defers → anyP P t fr σ K →
      (∀ rs, m = some rs → (∀ j ∈ rs, j ∈ Region.ready .any ops listed) → ∀ j ∈ rs, ∀ fuel, listed.toList.count false = fuel + 1 → wpOpIn (Wd r) nn P ops Q j (wpAnyIn (Wd r) nn P .any ops Q fuel (listed.setIfInBounds j true)) a w) ∧
      (m = none → ∀ fuel, listed.toList.count false = fuel → wpAnyIn (Wd r) nn P .any ops Q fuel listed a w) := by
  intro t
  induction t with
  | done =>
    intro listed m g σ w fr a hB hsz hS he hd h
    simp only [anyB, Bool.and_eq_true, Option.isNone_iff_eq_none, List.isEmpty_iff] at hB
    obtain ⟨rfl, hB⟩ := hB
    refine ⟨(fun rs hr => by cases hr), fun _ fuel _ => ?_⟩
    have hq := hQ fr σ g w a h hS he hd
    cases fuel with
    | zero => exact ⟨hB, hq⟩
    | succ fuel => exact ⟨fun _ => hq, fun i hi => by rw [hB] at hi; cases hi⟩
  | stop =>
    intro listed m g σ w fr a hB hsz hS he hd h
    simp only [anyB] at hB
    split at hB
    · exact ⟨(fun rs hr _ j hj => by cases hr; cases hj), (fun hr => by cases hr)⟩
    · cases hB
  | alt j i sub oth ihs iho =>
    intro listed m g σ w fr a hB hsz hS he hd h
    obtain ⟨d, op, gd⟩ := i
    simp only [anyB] at hB
    obtain ⟨h1, h2⟩ := h
    have key : ∀ rs : List Nat, m.getD (Region.ready .any ops listed) = rs → (∀ j ∈ rs, j ∈ Region.ready .any ops listed) → ∀ j ∈ rs, ∀ fuel, listed.toList.count false = fuel + 1 → wpOpIn (Wd r) nn P ops Q j (wpAnyIn (Wd r) nn P .any ops Q fuel (listed.setIfInBounds j true)) a w := by
      intro rs hrs hready j' hj' fuel hc
      rw [hrs] at hB
      cases rs with
      | nil => cases hj'
      | cons k rs =>
        simp only [Bool.and_eq_true] at hB
        obtain ⟨⟨⟨b1, b2⟩, b3⟩, b4⟩ := hB
        have b1 := Nat.eq_of_beq_eq_true b1
        subst b1
        rcases List.mem_cons.1 hj' with rfl | hj'
        · obtain ⟨o, ho, l1, l2⟩ := (mem_ready hsz).1 (hready j' (by simp))
          rw [ho] at b2
          simp only at b2
          have hlt : j' < listed.size := by
            rw [hsz]
            exact (Array.getElem?_eq_some_iff.1 ho).1
          refine wpOpIn_step2 ho (aStep_sound ops (by simpa using b2) hS h1 (fun fr' σ' g' w' a' k1 k2 k3 k4 => ?_))
          exact (ihs _ none g' σ' w' fr' a' b3 (by simp [hsz]) k2 (he.trans k3) (k4.trans hd) k1).2 rfl fuel (count_set hlt l1 hc)
        · exact (iho listed (some rs) g σ w fr a b4 hsz hS he hd h2).1 rs rfl (fun x hx => hready x (by simp [hx])) j' hj' fuel hc
    refine ⟨fun rs hr hready => key rs (by rw [hr]; rfl) hready, fun hm fuel hc => ?_⟩
    subst hm
    have hkey := key _ rfl (fun _ h => h)
    cases fuel with
    | zero =>
      cases hrd : Region.ready .any ops listed with
      | nil => simp only [Option.getD_none, hrd] at hB; cases hB
      | cons k rs =>
        obtain ⟨o, ho, l1, l2⟩ := (mem_ready hsz).1 (show k ∈ Region.ready .any ops listed by rw [hrd]; simp)
        have hlt : k < listed.size := by
          rw [hsz]
          exact (Array.getElem?_eq_some_iff.1 ho).1
        rw [List.count_eq_zero] at hc
        rw [Array.getD_eq_getD_getElem?, Array.getElem?_eq_getElem hlt] at l1
        simp only [Option.getD_some] at l1
        exact (hc (by rw [← l1]; simp)).elim
    | succ fuel =>
      refine ⟨fun hnil => ?_, fun i hi => hkey i hi fuel hc⟩
      simp only [Option.getD_none, hnil] at hB; cases hB
theorem aAny_sound {id : Nat} {ops : Array Oper} {t : AT} (hm : P.follows .mixedOrders = true) (hb : anyB P N ops t (Array.replicate ops.size false) none = true) {K : Fr → St → Prop} {Q : Exit → Act → World → Prop} (hS : Sim g σ w fr a N) (h : anyP P t fr σ K)
    {r : Option Nat} {nn : Nat} (hQ : ∀ fr' σ' g' w' a', K fr' σ' → Sim g' σ' w' fr' a' N → Ext g w g' w' → a'.defers = a.defers → Q .normal a' w') : (Code.region id ops true).wpIn (Wd r) nn P Q a w := by
  refine wpIn_region_any hm ?_
  have hExt : Ext g w g { w with drawn := w.drawn + 1 } :=
    ⟨rfl, rfl, rfl, Nat.le_refl _, fun _ _ h => h, fun _ _ => rfl, Nat.le_refl _, Nat.le_refl _, fun _ _ _ h => h, fun _ _ hc => ⟨hc, rfl⟩, fun _ F _ hc => ⟨F, hc, Nat.le_refl _, fun _ _ => rfl⟩, fun _ _ h => h⟩
  have hI := hS.inv
  have hInv : Inv g σ { w with drawn := w.drawn + 1 } := by
    refine ⟨fun β cs hb => ?_, hI.boxcl, hI.boxinj, hI.boxfresh, hI.tip, hI.tipinj, hI.tipfresh, fun k cs hk => (hI.glob k cs hk).mono hExt, fun l r hl => ⟨(hI.lp l r hl).1, (hI.lp l r hl).2.1, fun t => ((hI.lp l r hl).2.2 t).mono hExt⟩⟩
    obtain ⟨b, vs, T, h1, h2, h3⟩ := hI.box β cs hb
    exact ⟨b, vs, T, h1, h2, h3.mono hExt⟩
  have hS2 : Sim g σ { w with drawn := w.drawn + 1 } fr a N := ⟨hInv, fun t => (hS.rel t).mono hExt, hS.size, hS.defers.mono hExt⟩
  exact (any_sound (K := K) hQ t _ none g σ _ fr a hb (by simp) hS2 hExt rfl h).2 rfl _ (by simp)

theorem Rel.putNC {w : World} {D : Nat} {o o' : Obj} (hD : w.heap[D]? = some o) (ho : o.isCells = false) {c : AV} {u : Value} (h : Rel g w c u) : Rel g (w.putObj D o') c u := by
  have hc : ∀ (b i : Nat) (v : Value), w.cell? ⟨b, i, none⟩ = some v → (w.putObj D o').cell? ⟨b, i, none⟩ = some v := by
    intro b i v hv
    by_cases hb : b = D
    · subst hb
      rw [World.cell?, hD] at hv
      cases o <;> simp_all [Obj.isCells]
    · rw [World.cell?_of_block (World.putObj_heap_other hb)]; exact hv
  have hcl : ∀ b k, Claim g w b k → Claim g (w.putObj D o') b k := fun b k ⟨h1, h2⟩ => ⟨by simpa using h1, h2⟩
  induction h with
  | junk v => exact .junk v
  | bool b => exact .bool b
  | int k n => exact .int k n
  | str l => exact .str l
  | nils => exact .nils
  | sl0 f x => exact .sl0 f x
  | sl f n cs b off cap u h1 h2 h4 h5 h6 h7 ih => exact .sl f n cs b off cap u h1 h2 (hcl _ _ h4) h5 (fun i v hv => ⟨hc _ _ _ (h6 i v hv).1, (h6 i v hv).2⟩) ih
  | tsl0 τ x h => exact .tsl0 τ x h
  | tsl τ n cs b off cap u h1 h2 h4 h5 h6 h7 ih => exact .tsl τ n cs b off cap u h1 h2 (hcl _ _ h4) h5 (fun i v hv => ⟨hc _ _ _ (h6 i v hv).1, (h6 i v hv).2⟩) ih
  | agg cs vs h1 h0 h2 ih => exact .agg cs vs h1 h0 ih
  | tup cs vs h1 h2 ih => exact .tup cs vs h1 ih
  | ptr β off b h => exact .ptr β off b h
  | nilp => exact .nilp
  | el cs b off u h4 h5 h6 h7 ih => exact .el cs b off u (hcl _ _ h4) h5 (fun i v hv => ⟨hc _ _ _ (h6 i v hv).1, (h6 i v hv).2⟩) ih
  | ifc t v u h ih => exact .ifc t v u ih
  | nili => exact .nili
  | fn f cap vs h1 h2 ih => exact .fn f cap vs h1 ih
  | nilf => exact .nilf
  | opt c v u h h0 ih => exact .opt c v u ih h0
  | yld l => exact .yld l
  | psl β off n b cap h h1 => exact .psl β off n b cap h h1

theorem GlobOk.putNC {w : World} {D k : Nat} {o o' : Obj} {cs : List AV} (hD : w.heap[D]? = some o) (ho : o.isCells = false) (h : GlobOk g w k cs) : GlobOk g (w.putObj D o') k cs := by
  obtain ⟨vs, T, q, hv, hl⟩ := h.row
  refine ⟨h.rel.putNC hD ho, h.cl, vs, T, q, ?_, hl⟩
  rw [World.putObj_heap_other (fun e => by subst e; rw [hD] at hv; cases hv; cases ho)]
  exact hv

/-- The state stands, its records aside, when a block without cells is exchanged. -/
theorem Inv.putNC {w : World} {D : Nat} {o o' : Obj} (hI : Inv g σ w) (hD : w.heap[D]? = some o) (ho : o.isCells = false) {lp' : Nat → Option (Loop × Fr)}
    (hlp : ∀ l r, lp' l = some r → (w.putObj D o').heap[l]? = some (.loop r.1) ∧ g.cl l = some 0 ∧ ∀ t, Rel g w (slot t r.2) (r.1.tmps.getD t undef)) : Inv g { σ with lp := lp' } (w.putObj D o') := by
  refine ⟨fun β cs hb => ?_, fun β b hb => ?_, hI.boxinj, hI.boxfresh, fun τ e s n ht => ?_, hI.tipinj, hI.tipfresh, fun k cs hk => (hI.glob k cs hk).putNC hD ho, fun l r hl => ?_⟩
  · obtain ⟨b, vs, T, h1, h2, h3⟩ := hI.box β cs hb
    refine ⟨b, vs, T, h1, ?_, ⟨h3.1.1, fun i c v hc hv => (h3.1.2 i c v hc hv).putNC hD ho⟩, h3.2⟩
    rw [World.putObj_heap_other (fun e => by subst e; rw [hD] at h2; cases h2; cases ho)]
    exact h2
  · obtain ⟨h1, h2⟩ := hI.boxcl β b hb
    exact ⟨by simpa using h1, h2⟩
  · obtain ⟨v, k1, k2, k4⟩ := hI.tip τ e s n ht
    refine ⟨v, k1, fun hs => ?_, k4⟩
    obtain ⟨xs, k2, k3⟩ := k2 hs
    have hne : v.ownBlock = none ∨ v.ownBlock ≠ some D := by
      rcases k2.2 with ⟨rfl, _⟩ | ⟨gg, cap, cur, rfl, _, hb, _⟩
      · exact .inl rfl
      · refine .inr (fun e => ?_)
        simp only [Value.ownBlock, Option.some.injEq] at e
        subst e
        rw [hD] at hb; cases hb; cases ho
    exact ⟨xs, k2.kept (row := some D) ⟨rfl, rfl, rfl, by simp, fun k _ hk => World.putObj_heap_other (fun e => hk (by rw [e]))⟩ hne, k3⟩
  · obtain ⟨h1, h2, h3⟩ := hlp l r hl
    exact ⟨h1, h2, fun t => (h3 t).putNC hD ho⟩

theorem ext_putNC {w : World} {L : Nat} (o' : Obj) (hc : g.cl L = some 0) : Ext g w g (w.putObj L o') := by
  refine ⟨rfl, rfl, rfl, by simp, fun _ _ h => h, fun _ _ => rfl, Nat.le_refl _, Nat.le_refl _, fun _ _ _ h => h, fun b _ hb => ⟨hb, ?_⟩, fun b F _ hb => ⟨F, hb, Nat.le_refl _, fun i hi => ?_⟩, fun _ _ h => h⟩
  · rw [World.putObj_heap_other (fun e => by subst e; rw [hc] at hb; cases hb)]
  · by_cases e : b = L
    · subst e; rw [hc] at hb; cases hb; omega
    · exact World.cell?_of_block (World.putObj_heap_other e)

theorem Inv.setLp {w : World} {L : Nat} {r r' : Loop} {fr : Fr} (hI : Inv g σ w) (hl : σ.lp L = some (r, fr)) (ht : r'.tmps = r.tmps) : Inv g (σ.setLp L (r', fr)) (w.putObj L (.loop r')) := by
  obtain ⟨h1, h2, h3⟩ := hI.lp L _ hl
  have hlt := (Array.getElem?_eq_some_iff.1 h1).1
  refine hI.putNC (o := .loop r) h1 rfl (fun l x hx => ?_)
  simp only [upd] at hx
  split at hx
  · rename_i e; subst e; cases hx
    exact ⟨World.putObj_heap_same hlt, h2, fun t => by rw [ht]; exact h3 t⟩
  · rename_i e
    obtain ⟨q1, q2, q3⟩ := hI.lp l x hx
    exact ⟨by rw [World.putObj_heap_other e]; exact q1, q2, q3⟩
theorem Inv.dropLp {w : World} {L : Nat} {r : Loop} {fr : Fr} {o' : Obj} (hI : Inv g σ w) (hl : σ.lp L = some (r, fr)) : Inv g (σ.dropLp L) (w.putObj L o') := by
  obtain ⟨h1, h2, h3⟩ := hI.lp L _ hl
  refine hI.putNC (o := .loop r) h1 rfl (fun l x hx => ?_)
  split at hx
  · cases hx
  · rename_i e
    obtain ⟨q1, q2, q3⟩ := hI.lp l x hx
    exact ⟨by rw [World.putObj_heap_other e]; exact q1, q2, q3⟩

/-- What 'a' defers, 'a'' defers; more than that are marks on new blocks. -/
def NewD (w : World) (a a' : Act) : Prop := ∀ D, markOf D ∈ a'.defers → markOf D ∈ a.defers ∨ w.heap.size ≤ D
theorem NewD.refl {w : World} {a : Act} : NewD w a a := fun _ h => .inl h
theorem NewD.of_eq {w : World} {a a' : Act} (h : a'.defers = a.defers) : NewD w a a' := fun _ k => .inl (h ▸ k)
theorem NewD.trans {g g1 : Gh} {w w1 : World} {a b c : Act} (h : NewD w a b) (he : Ext g w g1 w1) (k : NewD w1 b c) : NewD w a c := fun D hD =>
  (k D hD).elim (h D) (fun hh => .inr (Nat.le_trans he.size hh))

/-! ### Loops over functions -/
def Gh.looped (g : Gh) (w : World) : Gh := { g with cl := fun b => if b = w.heap.size then none else if b = w.heap.size + 1 then some 0 else g.cl b }
theorem heap_two (w : World) (o1 o2 : Obj) : ((w.alloc o1).alloc o2).heap[w.heap.size]? = some o1 ∧ ((w.alloc o1).alloc o2).heap[w.heap.size + 1]? = some o2 ∧ ∀ b, b < w.heap.size → ((w.alloc o1).alloc o2).heap[b]? = w.heap[b]? := by
  refine ⟨?_, ?_, fun b hb => ?_⟩
  · rw [RowKit.Below.heap_alloc (w.alloc o1) o2 _ (by simp)]; exact World.alloc_heap_new w o1
  · have := World.alloc_heap_new (w.alloc o1) o2; rwa [World.size_alloc] at this
  · rw [RowKit.Below.heap_alloc (w.alloc o1) o2 _ (by simp; omega), RowKit.Below.heap_alloc w o1 _ hb]
theorem Ext.looped (o1 o2 : Obj) : Ext g w (g.looped w) ((w.alloc o1).alloc o2) := by
  have hc : ∀ b, b < w.heap.size → (g.looped w).cl b = g.cl b := fun b hb => by simp only [Gh.looped]; rw [if_neg (by omega), if_neg (by omega)]
  refine ⟨rfl, rfl, rfl, by simp; omega, fun _ _ h => h, fun _ _ => rfl, Nat.le_refl _, Nat.le_refl _, fun _ _ _ h => h, fun b hb h => ⟨by rw [hc b hb]; exact h, (heap_two w o1 o2).2.2 b hb⟩, fun b F hb h => ⟨F, by rw [hc b hb]; exact h, Nat.le_refl _, fun i _ => World.cell?_of_block ((heap_two w o1 o2).2.2 b hb)⟩, fun _ _ h => h⟩
theorem Inv.looped (hI : Inv g σ w) {r : Loop} (hR : ∀ t, Rel g w (slot t fr) (r.tmps.getD t undef)) : Inv (g.looped w) (σ.setLp (w.heap.size + 1) (r, fr)) ((w.alloc (.deferred (some []))).alloc (.loop r)) := by
  have he := Ext.looped (g := g) (w := w) (.deferred (some [])) (.loop r)
  have hc : ∀ b, b < w.heap.size → (g.looped w).cl b = g.cl b := fun b hb => by simp only [Gh.looped]; rw [if_neg (by omega), if_neg (by omega)]
  have hh := heap_two w (.deferred (some [])) (.loop r)
  refine ⟨fun β cs hb => ?_, fun β b hb => ?_, hI.boxinj, hI.boxfresh, fun τ e s n ht => ?_, hI.tipinj, hI.tipfresh, fun k cs hk => (hI.glob k cs hk).mono he, fun l x hl => ?_⟩
  · obtain ⟨b, vs, T, h1, h2, h3⟩ := hI.box β cs hb
    exact ⟨b, vs, T, h1, by rw [hh.2.2 b (hI.boxcl β b h1).1]; exact h2, h3.mono he⟩
  · obtain ⟨h1, h2⟩ := hI.boxcl β b hb
    exact ⟨by simp; omega, by rw [hc b h1]; exact h2⟩
  · obtain ⟨v, h1, h2, h4⟩ := hI.tip τ e s n ht
    refine ⟨v, h1, fun hs => ?_, h4⟩
    obtain ⟨xs, h2, h3⟩ := h2 hs
    refine ⟨xs, (h2.alloc _).alloc _, fun b hb => ?_⟩
    obtain ⟨h5, h6⟩ := h3 b hb
    exact ⟨by rw [hc b (h2.lt b hb).2]; exact h5, h6⟩
  · simp only [St.setLp, upd] at hl
    split at hl
    · rename_i e; subst e; cases hl
      exact ⟨hh.2.1, by simp [Gh.looped], fun t => (hR t).mono he⟩
    · obtain ⟨q1, q2, q3⟩ := hI.lp l x hl
      have hlt := (Array.getElem?_eq_some_iff.1 q1).1
      exact ⟨by rw [hh.2.2 l hlt]; exact q1, by rw [hc l hlt]; exact q2, fun t => (q3 t).mono he⟩

theorem putL_rel : ∀ (ps : List Nat) (xs : List AV) (vs : List Value) (tmps : Array Value) (fr : Fr), RelF g w fr tmps → RelL g w xs vs → (∀ t ∈ ps, t < tmps.size) → xs.length = ps.length →
    RelF g w (putL ps xs fr) ((ps.zip vs).foldl (fun t (x : Nat × Value) => t.setIfInBounds x.1 x.2) tmps) ∧ ((ps.zip vs).foldl (fun t (x : Nat × Value) => t.setIfInBounds x.1 x.2) tmps).size = tmps.size
  | [], [], vs, tmps, fr, hF, hv, ht, hn => by rw [hv.nil_inv]; exact ⟨hF, rfl⟩
  | [], _ :: _, vs, tmps, fr, hF, hv, ht, hn => by simp at hn
  | _ :: _, [], vs, tmps, fr, hF, hv, ht, hn => by simp at hn
  | p :: ps, x :: xs, vs, tmps, fr, hF, hv, ht, hn => by
    obtain ⟨v, vs', rfl, h1, h2⟩ := hv.cons_inv
    have hput := RelF.put (a := { tmps := tmps, defers := [] }) (d := some p) (v := x) (u := v) hF (fun k hk => by cases hk; exact ht p (by simp)) h1
    have := putL_rel ps xs vs' (tmps.setIfInBounds p v) ((p, x) :: fr) hput h2 (fun t h => by simp; exact ht t (by simp [h])) (by simpa using hn)
    simp only [List.zip_cons_cons, List.foldl_cons, putL]
    exact ⟨this.1, by rw [this.2]; simp⟩

theorem isFn_enter {f : Nat} (h : isFn P f = true) (args : Array Value) (w : World) : (callFunc f args).run P w = .ok (.enter f args) w := by
  unfold isFn at h
  split at h
  · rename_i fn hfn
    simp only [Bool.and_eq_true, bne_iff_ne, Option.isSome_iff_exists] at h
    obtain ⟨⟨c, hc⟩, hname⟩ := h
    simp [callFunc, hfn, hname, hc]
  · cases h

theorem stepR_scope {b : Frame} {k : List Item} {cs : List Frame} {c : Code} : step P (lone (b.atR a (.code (.scope c) :: k)) cs w) = .next (lone (b.atR a (.code c :: .inScope c :: k)) cs w) :=
  step_lone_go (by simp [stepG, stepG.exec, Frame.atR])
theorem stepR_inScope {b : Frame} {k : List Item} {cs : List Frame} {c : Code} : step P (lone (b.atR a (.inScope c :: k)) cs w) = .next (lone (b.atR a k) cs w) :=
  step_lone_go (by simp [stepG, stepG.exec, Frame.atR])
theorem wpIn_scope_straight {F : Fence} {n : Nat} {c : Code} {Q : Exit → Act → World → Prop} (h : c.wpIn F n P (Exit.noGoto Q) a w) : (Code.scope c).wpIn F n P Q a w := by
  intro b k cs hro hb hr
  have h0 : (lone (b.atR a (.code (.scope c) :: k)) cs w).fenced P F := fenced_calm hb hr rfl
  obtain ⟨e, a₁, w₁, hq, harr⟩ := h b (.inScope c :: k) cs hro hb hr
  cases e with
  | normal => exact ⟨.normal, a₁, w₁, hq, .head h0 stepR_scope (StepsIn.trans harr (.one (fenced_calm hb hr rfl) stepR_inScope))⟩
  | exit id => exact ⟨.exit id, a₁, w₁, hq, fun k' hk => .head h0 stepR_scope (harr.1 k' (by simp [exitTo, hk])), fun hr' hk => let ⟨k₁, h1, h2⟩ := harr.2 hr' (by simp [exitTo, hk]); ⟨k₁, h1, .head h0 stepR_scope h2⟩⟩
  | goto l => exact hq.elim
  | ret => exact ⟨_, a₁, w₁, hq, .of_steps (.one h0 stepR_scope) harr⟩
  | panic ch => exact ⟨_, a₁, w₁, hq, .of_steps (.one h0 stepR_scope) harr⟩
  | outgrown => exact ⟨_, a₁, w₁, hq, .of_steps (.one h0 stepR_scope) harr⟩

theorem aC_sound : ∀ (cc : CC) (c : Code), lkC P N cc c = true → ∀ (rn : Option Nat), (rn = none ∨ noR cc = true) → ∀ (g : Gh) (σ : St) (w : World) (fr : Fr) (a : Act) (R : Exit → Fr → St → Prop) (Q : Exit → Act → World → Prop), Sim g σ w fr a N → aC P cc fr σ R →
    (∀ e fr' σ' g' w' a', R e fr' σ' → Sim g' σ' w' fr' a' N → Ext g w g' w' → NewD w a a' → Q e a' w') → c.wpIn (Wd rn) 0 P Q a w := by
  intro cc
  induction cc with
  | skip =>
    intro c hl rn hrn g σ w fr a R Q hS h hQ
    cases c <;> simp [lkC] at hl
    · exact wpIn_skip (hQ _ _ _ _ _ _ h hS (.refl g w) .refl)
    · exact wpIn_label (hQ _ _ _ _ _ _ h hS (.refl g w) .refl)
  | ops l =>
    intro c hl rn hrn g σ w fr a R Q hS h hQ
    cases c <;> try (simp [lkC] at hl; done)
    rename_i id ops draw
    cases draw <;> simp [lkC] at hl
    exact wpIn_region_list (aOps_sound ops _ _ g σ w fr a _ hl hS h (fun fr' σ' g' w' a' k1 k2 k3 k4 => hQ _ _ _ _ _ _ k1 k2 k3 (.of_eq k4)))
  | drw l cls =>
    intro c hl rn hrn g σ w fr a R Q hS h hQ
    cases c <;> try (simp [lkC] at hl; done)
    rename_i id ops draw
    cases draw <;> simp [lkC] at hl
    exact aDrw_sound hl.2 hl.1.1 hl.1.2 hS h (fun fr' σ' g' w' a' k1 k2 k3 k4 => hQ _ _ _ _ _ _ k1 k2 k3 (.of_eq k4))
  | any t =>
    intro c hl rn hrn g σ w fr a R Q hS h hQ
    cases c <;> try (simp [lkC] at hl; done)
    rename_i id ops draw
    cases draw <;> simp [lkC] at hl
    exact aAny_sound hl.2 hl.1 hS h (fun fr' σ' g' w' a' k1 k2 k3 k4 => hQ _ _ _ _ _ _ k1 k2 k3 (.of_eq k4))
  | seq x y ihx ihy =>
    intro c hl rn hrn g σ w fr a R Q hS h hQ
    cases c <;> simp [lkC] at hl
    simp only [noR, Bool.and_eq_true] at hrn
    refine wpIn_seq (ihx _ hl.1 rn (hrn.imp id And.left) g σ w fr a _ _ hS h (fun e fr' σ' g' w' a' k1 k2 k3 k4 => ?_))
    cases e with
    | normal => exact ihy _ hl.2 rn (hrn.imp id And.right) g' σ' w' fr' a' R Q k2 k1 (fun e2 fr2 σ2 g2 w2 a2 q1 q2 q3 q4 => hQ _ _ _ _ _ _ q1 q2 (k3.trans q3) (k4.trans k3 q4))
    | _ => exact hQ _ _ _ _ _ _ k1 k2 k3 k4
  | cond b x y ihx ihy =>
    intro c hl rn hrn g σ w fr a R Q hS h hQ
    cases c <;> simp [lkC] at hl
    simp only [noR, Bool.and_eq_true] at hrn
    simp only [aC] at h
    have hr := ev_rel hS.inv hS.rel hl.1.1
    cases hv : ev σ fr b <;> simp only [hv] at h
    rw [hv] at hr
    exact wpIn_cond_split hr.bool_inv (fun ht => ihx _ hl.1.2 rn (hrn.imp id And.left) g σ w fr a R Q hS (h.1 ht) hQ) (fun ht => ihy _ hl.2 rn (hrn.imp id And.right) g σ w fr a R Q hS (h.2 ht) hQ)
  | block id x ih =>
    intro c hl rn hrn g σ w fr a R Q hS h hQ
    cases c <;> simp [lkC] at hl
    obtain ⟨rfl, hl⟩ := hl
    refine wpIn_block (ih _ hl rn hrn g σ w fr a _ _ hS h (fun e fr' σ' g' w' a' k1 k2 k3 k4 => ?_))
    cases e with
    | exit j =>
      simp only at k1
      simp only [Exit.inBlock]
      split
      · rename_i hj; rw [if_pos hj] at k1; exact hQ _ _ _ _ _ _ k1 k2 k3 k4
      · rename_i hj; rw [if_neg hj] at k1; exact hQ _ _ _ _ _ _ k1 k2 k3 k4
    | _ => exact hQ _ _ _ _ _ _ k1 k2 k3 k4
  | scope x ih =>
    intro c hl rn hrn g σ w fr a R Q hS h hQ
    cases c <;> simp [lkC] at hl
    simp only [aC] at h
    refine wpIn_scope_straight (ih _ hl rn hrn g σ w fr a _ _ hS h (fun e fr' σ' g' w' a' k1 k2 k3 k4 => ?_))
    cases e with
    | goto l => exact k1.elim
    | _ => exact hQ _ _ _ _ _ _ k1 k2 k3 k4
  | loop x ih =>
    intro c hl rn hrn g σ w fr a R Q hS h hQ
    cases c <;> simp [lkC] at hl
    rename_i body
    obtain ⟨regs, h⟩ := h
    obtain ⟨g0, fr0, σ0, hS0, he0, α, F, S, I, μ, a0, h0, hf0, hs0, hround⟩ := startP_sound regs hS h
    -- the ghost goes with the round: the measure is chosen
    have key : ∀ (n : Nat) (g1 : Gh) (z : α) (w1 : World) (a1 : Act), I z → Sim g1 (S z) w1 (F z) a1 N → Ext g w g1 w1 → NewD w a a1 → μ z = n →
        ∀ (b : Frame) (k : List Item) (cs : List Frame), b.roundOf = (Wd rn).round → ∃ e a' w', Q e a' w' ∧ ArrivesIn (Machine.fenced P (Wd rn)) P (lone (b.atR a1 (.code body :: .inLoop body :: k)) cs w1) b k cs e a' w' := by
      intro n
      induction n using Nat.strongRecOn with
      | _ n ihn =>
        intro g1 z w1 a1 hI1 hS1 he1 hn1 hm
        have hb := ih _ hl rn hrn g1 (S z) w1 (F z) a1 _ (Exit.then (fun a2 w2 => ∀ (b : Frame) (k : List Item) (cs : List Frame), b.roundOf = (Wd rn).round → ∃ e a' w', Q e a' w' ∧ ArrivesIn (Machine.fenced P (Wd rn)) P (lone (b.atR a2 (.code body :: .inLoop body :: k)) cs w2) b k cs e a' w') Q) hS1 (hround z hI1) (fun e fr' σ' g' w' a' k1 k2 k3 k4 => by
          cases e with
          | normal =>
            obtain ⟨z2, q1, q2, q3, q4⟩ := k1
            exact ihn _ (by omega) g' z2 w' a' q1 (k2.le q3 q2) (he1.trans k3) (hn1.trans he1 k4) rfl
          | _ => exact hQ _ _ _ _ _ _ k1 k2 (he1.trans k3) (hn1.trans he1 k4))
        intro b k cs hro
        obtain ⟨e, a₁, w₁, hq, harr⟩ := hb b (.inLoop body :: k) cs hro trivial wd_room
        cases e with
        | normal =>
          obtain ⟨e₂, a₂, w₂, hq₂, harr₂⟩ := hq b k cs hro
          exact ⟨e₂, a₂, w₂, hq₂, .of_steps (StepsIn.trans harr (.one (fenced_calm (n := 0) trivial wd_room rfl) stepR_inLoop)) harr₂⟩
        | exit id => exact ⟨_, a₁, w₁, hq, .pass (x := .inLoop body) rfl (fun _ _ => .inl (by simp)) harr⟩
        | goto l => exact ⟨_, a₁, w₁, hq, .pass (x := .inLoop body) rfl (fun _ _ => .inl (by simp)) harr⟩
        | ret => exact ⟨_, a₁, w₁, hq, .pass (x := .inLoop body) rfl (fun _ _ => .inl (by simp)) harr⟩
        | panic ch => exact ⟨_, a₁, w₁, hq, .pass (x := .inLoop body) rfl (fun _ _ => .inl (by simp)) harr⟩
        | outgrown => exact ⟨_, a₁, w₁, hq, .pass (x := .inLoop body) rfl (fun _ _ => .inl (by simp)) harr⟩
    intro b k cs hro hb hr
    obtain ⟨e, a', w', hq, harr⟩ := key _ g0 a0 w a h0 (hS0.le hs0 hf0) he0 .refl rfl b k cs hro
    exact ⟨e, a', w', hq, .of_steps (.one (fenced_calm hb hr rfl) stepR_loop) harr⟩
  | keep ts x ih =>
    intro c hl rn hrn g σ w fr a R Q hS h hQ
    simp only [lkC] at hl
    refine ih c hl rn hrn g σ w (keepF ts fr) a R Q ⟨hS.inv, fun t => ?_, hS.size, hS.defers⟩ h hQ
    rcases keepF_slot t fr ts with e | e
    · rw [e]; exact hS.rel t
    · rw [e]; exact .junk _
  | exit id =>
    intro c hl rn hrn g σ w fr a R Q hS h hQ
    cases c <;> simp [lkC] at hl
    subst hl
    exact wpIn_exit (hQ _ _ _ _ _ _ h hS (.refl g w) .refl)
  | ret =>
    intro c hl rn hrn g σ w fr a R Q hS h hQ
    cases c <;> simp [lkC] at hl
    exact wpIn_ret (hQ _ _ _ _ _ _ h hS (.refl g w) .refl)
  | rfun x ps asg body ihA ihB =>
    intro c hl rn hrn g σ w fr a R Q hS h hQ
    have hrn0 : rn = none := by simpa [noR] using hrn
    subst hrn0
    cases c <;> simp only [lkC] at hl <;> try (cases hl; done)
    rename_i gg params assign bodyc
    simp only [Bool.and_eq_true, beq_iff_eq] at hl
    obtain ⟨⟨⟨⟨⟨⟨hod, hps⟩, hpN⟩, hlA⟩, hnA⟩, hlB⟩, hnB⟩ := hl
    obtain ⟨regs, h⟩ := h
    obtain ⟨g0, fr0, σ0, hS0, he0, h⟩ := startP_sound regs hS h
    have hx := ev_rel hS0.inv hS0.rel hod
    cases hv : ev σ0 fr0 x <;> simp only [hv] at h
    rename_i f cap
    rw [hv] at hx
    obtain ⟨us, hev, hus⟩ := hx.fn_inv
    obtain ⟨hfn, h⟩ := h
    refine wpIn_rangeFunc (F := Wd none) ?_
    intro fn _
    obtain ⟨rec, hrec⟩ : ∃ rec : Loop, rec = { state := .ready, pending := none, fn := fn, tmps := a.tmps, params := params, assign := assign, body := bodyc, defers := w.heap.size } := ⟨_, rfl⟩
    have hready : rec.state = .ready := by rw [hrec]
    have hpend : rec.pending = none := by rw [hrec]
    have htm : rec.tmps = a.tmps := by rw [hrec]
    have hE1 := Ext.looped (g := g0) (w := w) (.deferred (some [])) (.loop rec)
    have hI1 := hS0.inv.looped (fr := fr0) (r := rec) (fun t => by rw [htm]; exact hS0.rel t)
    have hh := heap_two w (.deferred (some [])) (.loop rec)
    have hnone : σ0.lp (w.heap.size + 1) = none := by
      cases hq : σ0.lp (w.heap.size + 1) with
      | none => rfl
      | some y => have := (Array.getElem?_eq_some_iff.1 (hS0.inv.lp _ _ hq).1).1; omega
    have hcD : (g0.looped w).cl w.heap.size = none := by simp [Gh.looped]
    refine ⟨w.heap.size + 1, [markOf w.heap.size], (w.alloc (.deferred (some []))).alloc (.loop rec), { target := .fn (.func f) us.toArray, args := #[.func (.yield (w.heap.size + 1)) #[] #[]] }, (w.alloc (.deferred (some []))).alloc (.loop rec), f,
      #[.func (.yield (w.heap.size + 1)) #[] #[]] ++ us.toArray, (w.alloc (.deferred (some []))).alloc (.loop rec), ?_, ?_, fun _ _ => trivial, ?_, fun e => by simp [Wd, Fence.wide] at e, ?_⟩
    · rw [hrec]; exact run_enterLoop_outer _ _ _ _ _
    · simp only [resolve, hev]
      simp [Act.eval, Deferred.ofValue]
    · simp only [invoke]
      simp [isFn_enter hfn]
    · have hac := h (w.heap.size + 1) rec hnone hready hpend ?_
      · -- BEHIND THE LOOP
        rcases hac (g0.looped w) _ (Value.func (.yield (w.heap.size + 1)) #[] #[] :: us) hI1 (.cons (.yld _) (hus.mono hE1)) with ⟨_, hcalls⟩ | ⟨v, w', hrun, _⟩
        · have hcalls2 : CallsIn (Wd none) (0 - 1) P f (#[.func (.yield (w.heap.size + 1)) #[] #[]] ++ us.toArray) ((w.alloc (.deferred (some []))).alloc (.loop rec)) _ := wd_calls (by simpa using hcalls)
          refine hcalls2.mono ?_
          rintro e W3 ⟨v, rr, σ3, g3, rfl, hpost, hI3, he3, _⟩
          have fin : ∀ (x : Loop), σ3.lp (w.heap.size + 1) = some (x, fr0) → x.state ≠ .busy → ∃ W4, (Instr.endLoop (w.heap.size + 1)).run P W3 = .ok x.pending W4 ∧ Sim g3 (σ3.dropLp (w.heap.size + 1)) W4 fr0 { a with defers := [markOf w.heap.size] ++ a.defers } N ∧ Ext g w g3 W4 ∧ NewD w a { a with defers := [markOf w.heap.size] ++ a.defers } := by
            intro x hx hb
            obtain ⟨q1, q2, _⟩ := hI3.lp _ _ hx
            have hE4 := ext_putNC (g := g3) (w := W3) (L := w.heap.size + 1) (.loop { x with state := .exhausted }) q2
            have hEx : Ext g0 w g3 (W3.putObj (w.heap.size + 1) (.loop { x with state := .exhausted })) := (hE1.trans he3).trans hE4
            refine ⟨_, run_endLoop q1 hb, ⟨hI3.dropLp hx, fun t => (hS0.rel t).mono hEx, hS0.size, ?_⟩, he0.trans hEx, ?_⟩
            · obtain ⟨l, hl1, hl2, hl3⟩ := hS0.defers
              have hE2 := he3.trans hE4
              obtain ⟨m1, m2⟩ := hE2.cln w.heap.size (by simp; omega) hcD
              refine ⟨w.heap.size :: l, by simp [hl1], List.nodup_cons.2 ⟨fun hm => ?_, hl2⟩, fun D hD => ?_⟩
              · have := (Array.getElem?_eq_some_iff.1 (hl3 _ hm).1).1; omega
              · rcases List.mem_cons.1 hD with rfl | hD
                · exact ⟨by rw [m2]; exact hh.1, m1⟩
                · obtain ⟨h4, h5⟩ := hl3 D hD
                  obtain ⟨h6, h7⟩ := hEx.cln D (Array.getElem?_eq_some_iff.1 h4).1 h5
                  exact ⟨by rw [h7]; exact h4, h6⟩
            · intro D hD
              simp only [List.cons_append, List.nil_append, List.mem_cons] at hD
              rcases hD with hD | hD
              · have : D = w.heap.size := by simpa [markOf] using hD
                exact .inr (by omega)
              · exact .inl hD
          rcases hpost with ⟨hl3, hQ3⟩ | ⟨hl3, hQ3⟩ | ⟨id, hl3, hQ3⟩
          · obtain ⟨W4, f1, f2, f3, f4⟩ := fin _ hl3 (by rw [hready]; decide)
            exact ⟨none, W4, by rw [f1, hpend], hQ _ _ _ _ _ _ hQ3 f2 f3 f4⟩
          · obtain ⟨W4, f1, f2, f3, f4⟩ := fin _ hl3 (by simp [left])
            exact ⟨some .ret, W4, f1, wpIn_ret (hQ _ _ _ _ _ _ hQ3 f2 f3 f4)⟩
          · obtain ⟨W4, f1, f2, f3, f4⟩ := fin _ hl3 (by simp [left])
            exact ⟨some (.exit id), W4, f1, wpIn_exit (hQ _ _ _ _ _ _ hQ3 f2 f3 f4)⟩
        · rw [isFn_enter hfn] at hrun; cases hrun
      · -- A ROUND
        intro xs σ1 K hlen hlp hbody g2 w2 vs hI2 hv2
        obtain ⟨q1, q2, q3⟩ := hI2.lp _ _ hlp
        have hs : vs.toArray.size = rec.params.size := by
          have := hv2.1
          have e2 : rec.params.size = ps.length := by rw [hrec, ← hps]; simp
          simp only [List.size_toArray]; omega
        have hy := run_yield (P := P) (args := vs.toArray) q1 hs
        refine ⟨_, _, _, _, hy, roundIn_of_wpIn trivial ?_⟩
        have hput := putL_rel ps xs vs rec.tmps fr0 q3 hv2 (fun t ht => by
          have := List.all_eq_true.1 hpN t ht
          rw [htm, hS0.size]; simpa using this) hlen
        have hfold : (rec.params.zip vs.toArray).foldl (fun tmps (x : Nat × Value) => tmps.setIfInBounds x.1 x.2) rec.tmps = (ps.zip vs).foldl (fun t (x : Nat × Value) => t.setIfInBounds x.1 x.2) rec.tmps := by
          rw [← Array.foldl_toList, Array.toList_zip, ← hps, hrec]
        have hS2 : Sim g2 σ1 w2 (putL ps xs fr0) { tmps := (rec.params.zip vs.toArray).foldl (fun tmps (x : Nat × Value) => tmps.setIfInBounds x.1 x.2) rec.tmps, defers := [] } N := by
          refine ⟨hI2, ?_, ?_, .nil⟩
          · show RelF g2 w2 _ ((rec.params.zip vs.toArray).foldl (fun tmps (x : Nat × Value) => tmps.setIfInBounds x.1 x.2) rec.tmps)
            rw [hfold]; exact hput.1
          · show ((rec.params.zip vs.toArray).foldl (fun tmps (x : Nat × Value) => tmps.setIfInBounds x.1 x.2) rec.tmps).size = N
            rw [hfold, hput.2, htm]; exact hS0.size
        have ea : rec.assign = assign := by rw [hrec]
        have eb : rec.body = bodyc := by rw [hrec]
        rw [ea, eb]
        refine ihA _ hlA (some (w.heap.size + 1)) (.inr hnA) g2 σ1 w2 _ _ _ _ hS2 hbody ?_
        rintro e fr1 σ2 g4 w4 a4 ⟨rfl, hl2, hb⟩ hS4 he4 hn4
        obtain ⟨u1, u2, u3⟩ := hS4.inv.lp _ _ hl2
        refine ⟨w4.putObj (w.heap.size + 1) (.loop (busy rec)), run_beginRound u1 hready, ?_⟩
        have hE5 := ext_putNC (g := g4) (w := w4) (L := w.heap.size + 1) (.loop (busy rec)) u2
        refine ihB _ hlB (some (w.heap.size + 1)) (.inr hnB) g4 _ _ fr1 a4 _ _ ⟨hS4.inv.setLp hl2 rfl, fun t => (hS4.rel t).mono hE5, hS4.size, hS4.defers.mono hE5⟩ hb ?_
        rintro e fr3 σ3 g5 w5 a5 ⟨hl3, hK⟩ hS5 he5 hn5
        obtain ⟨v1, v2, v3⟩ := hS5.inv.lp _ _ hl3
        have fin : ∀ (jump : Option Code) (r' : Loop), r' = { busy rec with state := if jump.isNone then .ready else .done, pending := jump } → K (.bool jump.isNone) (σ3.setLp (w.heap.size + 1) (r', fr0)) → ∃ v w', (Instr.endRound (w.heap.size + 1) jump).run P w5 = .ok v w' ∧ CP g2 w2 K (.returned v) w' := by
          rintro jump r' hr' hk
          have hE6 := ext_putNC (g := g5) (w := w5) (L := w.heap.size + 1) (.loop r') v2
          refine ⟨_, _, run_endRound jump v1, _, _, _, g5, rfl, hk, ?_, ((he4.trans hE5).trans he5).trans (by rw [hr'] at hE6; exact hE6), .bool _⟩
          have := hS5.inv.setLp (r' := r') hl3 (by rw [hr'])
          rw [hr'] at this ⊢; exact this
        cases e with
        | normal => exact fin none rec (by rw [hrec]; rfl) hK
        | ret => exact fin (some .ret) _ rfl hK
        | exit id => exact fin (some (.exit id)) _ rfl hK
        | goto l => exact hK.elim
        | panic ch => exact hK.elim
        | outgrown => exact hK.elim

end
end Go.Abs
