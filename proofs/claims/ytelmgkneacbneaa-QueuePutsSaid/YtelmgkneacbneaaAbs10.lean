/-
  Code and functions: the abstract wp is sound.
-/
import Derived.Test.YtelmgkneacbneaaAbs9f
import Derived.Scope
import Derived.Control
namespace Go.Abs

inductive CC where
  | skip
  | ops (l : List CI)
  | drw (l : List CI) (cls : List Nat)
  | seq (x y : CC)
  | cond (c : Od) (x y : CC)
  | block (id : Nat) (x : CC)
  | scope (x : CC)
  | loop (x : CC)
  | keep (ts : List Nat) (x : CC)
  | exit (id : Nat)
  | ret

/-- Whatever the first stands for, the second does. -/
def wk (v v' : AV) : Prop := ∀ g w u, Rel g w v u → Rel g w v' u
theorem wk_refl (v : AV) : wk v v := fun _ _ _ h => h
theorem wk_of_eq {v v' : AV} (h : v = v') : wk v v' := h ▸ wk_refl v
theorem wk_trans {a b c : AV} (h : wk a b) (k : wk b c) : wk a c := fun g w u x => k g w u (h g w u x)
theorem wk_junk (v : AV) : wk v .junk := fun _ _ u _ => .junk u
theorem wk_tsl (τ n : Nat) (cs : List AV) : wk (.tsl τ n cs) (.sl false n cs) := by
  intro g w u h
  rcases h.slv_inv (n := n) (cs := cs) rfl with ⟨_, rfl, rfl, rfl⟩ | ⟨b, off, cap, us, rfl, hnc, hl⟩
  · exact .sl0 _ _
  · exact .sl_mk hnc (by simp) hl
theorem wk_full (n : Nat) (cs : List AV) : wk (.sl true n cs) (.sl false n cs) := by
  intro g w u h
  rcases h.slv_inv (n := n) (cs := cs) rfl with ⟨_, rfl, rfl, rfl⟩ | ⟨b, off, cap, us, rfl, hnc, hl⟩
  · exact .sl0 _ _
  · exact .sl_mk hnc (by simp) hl
theorem wk_nils : wk .nils (.sl false 0 []) := by
  intro g w u h
  cases h; exact .sl0 _ _
inductive wkL : List AV → List AV → Prop where
  | nil : wkL [] []
  | cons {a b : AV} {as bs : List AV} : wk a b → wkL as bs → wkL (a :: as) (b :: bs)
theorem wkL_rel {as bs : List AV} (h : wkL as bs) : ∀ {g w vs}, RelL g w as vs → RelL g w bs vs := by
  induction h with
  | nil => intro g w vs h; exact h
  | cons h1 _ ih =>
    intro g w vs h
    obtain ⟨v, vs', rfl, k1, k2⟩ := h.cons_inv
    exact .cons (h1 _ _ _ k1) (ih k2)
theorem wkL_refl : ∀ (as : List AV), wkL as as
  | [] => .nil
  | _ :: as => .cons (wk_refl _) (wkL_refl as)
theorem wk_tup {as bs : List AV} (h : wkL as bs) : wk (.tup as) (.tup bs) := by
  intro g w u hu
  obtain ⟨us, rfl, hr⟩ := hu.tup_inv
  exact .tup_mk (wkL_rel h hr)
theorem wk_agg {as bs : List AV} (h : wkL as bs) : wk (.agg as) (.agg bs) := by
  intro g w u hu
  obtain ⟨us, rfl, hr⟩ := hu.agg_inv
  exact .agg_mk ⟨wkL_rel h hr.1, hr.2⟩

/-- Less is known. -/
def subF : Fr → Fr → Prop
  | [], _ => True
  | (t, v) :: r, f => wk (slot t f) v ∧ subF r f
theorem Inv.le {g : Gh} {s s' : St} {w : World} (h : Inv g s' w) (hl : St.le s s') : Inv g s w :=
  ⟨fun β cs hb => h.box β cs (hl.1 _ _ hb), h.boxcl, h.boxinj, h.boxfresh, fun τ e s n ht => h.tip τ e s n (hl.2.1 _ _ ht), fun τ τ' x x' v v' b h1 h2 => h.tipinj τ τ' x x' v v' b (hl.2.1 _ _ h1) (hl.2.1 _ _ h2), h.tipfresh, fun k cs hk => h.glob k cs (hl.2.2 _ _ hk)⟩

theorem subF_slot : ∀ {r f : Fr} (t : Nat), subF r f → wk (slot t f) (slot t r)
  | [], _, _, _ => wk_junk _
  | (s, v) :: r, f, t, h => by
    simp only [slot]
    split
    · rename_i e; subst e; exact h.1
    · exact subF_slot t h.2

theorem Sim.le {g : Gh} {s s' : St} {w : World} {fr fr' : Fr} {a : Act} {N : Nat} (h : Sim g s' w fr' a N) (hs : St.le s s') (hf : subF fr fr') : Sim g s w fr a N :=
  ⟨h.inv.le hs, fun t => subF_slot t hf _ _ _ (h.rel t), h.size, h.defers⟩

/-- The start of a loop: slices without room become tips (in a temporary, or in a box), then less is known. -/
def startP : List (Bool × Nat × Nat × Nat × Nat) → Fr → St → (Fr → St → Prop) → Prop
  | [], fr, σ, J => J fr σ
  | (false, t, _, e, s) :: r, fr, σ, J => fresh (slot t fr) ∧ match slv (slot t fr) with
    | some (n, cs) => ∀ τ, σ.tip τ = none → startP r ((t, .tsl τ n cs) :: fr) (σ.setTip τ (e, s, n)) J
    | none => False
  | (true, t, k, e, s) :: r, fr, σ, J => match slot t fr with
    | .ptr β o => match σ.box β with
      | some c0 => match c0[o + k]? with
        | some a => fresh a ∧ match slv a with
          | some (n, cs) => ∀ τ, σ.tip τ = none → startP r fr ((σ.setTip τ (e, s, n)).setBox β (c0.set (o + k) (.tsl τ n cs))) J
          | none => False
        | none => False
      | none => False
    | _ => False

theorem Inv.setBox_same {g : Gh} {σ : St} {w : World} (hI : Inv g σ w) {β k : Nat} {c0 : List AV} {a a' : AV} (hb : σ.box β = some c0) (hk : c0[k]? = some a) (hw : ∀ v, Rel g w a v → Rel g w a' v) : Inv g (σ.setBox β (c0.set k a')) w := by
  refine ⟨fun β' cs hb' => ?_, hI.boxcl, hI.boxinj, hI.boxfresh, hI.tip, hI.tipinj, hI.tipfresh, hI.glob⟩
  simp only [St.setBox, upd] at hb'
  split at hb'
  · rename_i e; subst e
    cases hb'
    obtain ⟨b, vs, T, h1, h2, h3⟩ := hI.box _ _ hb
    refine ⟨b, vs, T, h1, h2, ⟨⟨by have := h3.1.1; simpa using this, fun i c v hc hv => ?_⟩, h3.2⟩⟩
    rw [List.getElem?_set] at hc
    split at hc
    · rename_i e; subst e
      split at hc
      · cases hc; exact hw v (h3.1.2 _ _ _ hk hv)
      · cases hc
    · exact h3.1.2 _ _ _ hc hv
  · exact hI.box _ _ hb'

theorem startP_sound : ∀ (regs : List (Bool × Nat × Nat × Nat × Nat)) {g : Gh} {σ : St} {w : World} {fr : Fr} {a : Act} {N : Nat} {J : Fr → St → Prop}, Sim g σ w fr a N → startP regs fr σ J →
    ∃ g' fr' σ', Sim g' σ' w fr' a N ∧ Ext g w g' w ∧ J fr' σ'
  | [], g, σ, w, fr, a, N, J, hS, h => ⟨g, fr, σ, hS, .refl g w, h⟩
  | (false, t, k, e, s) :: r, g, σ, w, fr, a, N, J, hS, h => by
    simp only [startP] at h
    obtain ⟨hf, h⟩ := h
    split at h
    · rename_i n cs hs
      obtain ⟨g1, hI1, he1, hr1⟩ := tip_fresh hS.inv e s (hS.rel t) hf hs
      have hS1 : Sim g1 (σ.setTip g.nt (e, s, n)) w ((t, .tsl g.nt n cs) :: fr) a N := by
        refine ⟨hI1, fun t' => ?_, hS.size, hS.defers⟩
        simp only [slot]
        split
        · rename_i ht; subst ht; exact hr1
        · exact (hS.rel t').mono he1
      obtain ⟨g2, fr2, σ2, k1, k2, k3⟩ := startP_sound r hS1 (h g.nt (fresh_tip hS.inv))
      exact ⟨g2, fr2, σ2, k1, he1.trans k2, k3⟩
    · exact h.elim
  | (true, t, k, e, s) :: r, g, σ, w, fr, a, N, J, hS, h => by
    simp only [startP] at h
    split at h
    · rename_i β o hp
      split at h
      · rename_i c0 hb
        split at h
        · rename_i x hk
          obtain ⟨hf, h⟩ := h
          split at h
          · rename_i n cs hs
            obtain ⟨b, vs, T, h1, h2, h3⟩ := hS.inv.box _ _ hb
            obtain ⟨v, hv, hr⟩ := h3.1.get hk
            obtain ⟨g1, hI1, he1, hr1⟩ := tip_fresh hS.inv e s hr hf hs
            have hb1 : (σ.setTip g.nt (e, s, n)).box β = some c0 := hb
            -- the cell's very value
            have hI2 : Inv g1 ((σ.setTip g.nt (e, s, n)).setBox β (c0.set (o + k) (.tsl g.nt n cs))) w := by
              refine ⟨fun β' cs' hb' => ?_, hI1.boxcl, hI1.boxinj, hI1.boxfresh, hI1.tip, hI1.tipinj, hI1.tipfresh, hI1.glob⟩
              simp only [St.setBox, upd] at hb'
              split at hb'
              · rename_i e'; subst e'
                cases hb'
                refine ⟨b, vs, T, he1.box _ _ h1, h2, ⟨⟨by have := h3.1.1; simpa using this, fun i c u hc hu => ?_⟩, h3.2⟩⟩
                rw [List.getElem?_set] at hc
                split at hc
                · rename_i e'; subst e'
                  rw [hv] at hu; cases hu
                  split at hc
                  · cases hc; exact hr1
                  · cases hc
                · exact (h3.1.2 _ _ _ hc hu).mono he1
              · exact hI1.box _ _ hb'
            obtain ⟨g2, fr2, σ2, k1, k2, k3⟩ := startP_sound r ⟨hI2, hS.rel.mono he1, hS.size, hS.defers⟩ (h g.nt (fresh_tip hS.inv))
            exact ⟨g2, fr2, σ2, k1, he1.trans k2, k3⟩
          · exact h.elim
        · exact h.elim
      · exact h.elim
    · exact h.elim

/-- Only these slots are kept. -/
def keepF : List Nat → Fr → Fr
  | [], _ => []
  | t :: ts, fr => (t, slot t fr) :: keepF ts fr
theorem keepF_slot (t : Nat) (fr : Fr) : ∀ ts, slot t (keepF ts fr) = slot t fr ∨ slot t (keepF ts fr) = .junk
  | [] => .inr rfl
  | s :: ts => by
    simp only [keepF, slot]
    split
    · rename_i e; subst e; exact .inl rfl
    · exact keepF_slot t fr ts

def aC (P : Program) : CC → Fr → St → (Exit → Fr → St → Prop) → Prop
  | .skip, fr, σ, Q => Q .normal fr σ
  | .ops l, fr, σ, Q => aOps P l fr σ (Q .normal)
  | .drw l cls, fr, σ, Q => aDrw P l cls fr σ (Q .normal)
  | .seq x y, fr, σ, Q => aC P x fr σ (fun e fr' σ' => match e with
    | .normal => aC P y fr' σ' Q
    | e => Q e fr' σ')
  | .cond c x y, fr, σ, Q => match ev σ fr c with
    | .bool t => (t = true → aC P x fr σ Q) ∧ (t = false → aC P y fr σ Q)
    | _ => False
  | .block id x, fr, σ, Q => aC P x fr σ (fun e fr' σ' => match e with
    | .exit j => if j = id then Q .normal fr' σ' else Q (.exit j) fr' σ'
    | e => Q e fr' σ')
  | .scope x, fr, σ, Q => aC P x fr σ (fun e fr' σ' => match e with
    | .goto _ => False
    | e => Q e fr' σ')
  | .loop x, fr, σ, Q => ∃ regs, startP regs fr σ fun fr0 σ0 => ∃ (α : Type) (F : α → Fr) (S : α → St) (I : α → Prop) (μ : α → Nat) (a0 : α), I a0 ∧ subF (F a0) fr0 ∧ St.le (S a0) σ0 ∧
      ∀ a, I a → aC P x (F a) (S a) (fun e fr' σ' => match e with
        | .normal => ∃ b, I b ∧ subF (F b) fr' ∧ St.le (S b) σ' ∧ μ b < μ a
        | e => Q e fr' σ')
  | .keep ts x, fr, σ, Q => aC P x (keepF ts fr) σ Q
  | .exit id, fr, σ, Q => Q (.exit id) fr σ
  | .ret, fr, σ, Q => Q .ret fr σ

def lkC (P : Program) (N : Nat) : CC → Code → Bool
  | .keep _ x, c => lkC P N x c
  | .scope x', c => match c with
    | .scope x => lkC P N x' x
    | _ => false
  | .skip, c => match c with
    | .skip => true
    | .label _ => true
    | _ => false
  | .ops l, c => match c with
    | .region _ ops false => lkOps P N ops ops.toList l
    | _ => false
  | .drw l cls, c => match c with
    | .region _ ops true => drwB ops l cls && lkOps P N ops ops.toList l && P.follows .mixedOrders
    | _ => false
  | .seq x' y', c => match c with
    | .seq x y => lkC P N x' x && lkC P N y' y
    | _ => false
  | .cond c' x' y', c => match c with
    | .cond c x y => odB c c' && lkC P N x' x && lkC P N y' y
    | _ => false
  | .block id' x', c => match c with
    | .block id x => id == id' && lkC P N x' x
    | _ => false
  | .loop x', c => match c with
    | .loop x => lkC P N x' x
    | _ => false
  | .exit id', c => match c with
    | .exit id => id == id'
    | _ => false
  | .ret, c => match c with
    | .ret => true
    | _ => false

section
variable {P : Program} {g : Gh} {σ : St} {w : World} {a : Act} {fr : Fr} {N : Nat}

theorem aOps_sound (ops : Array Oper) {Q : Exit → Act → World → Prop} : ∀ (l : List Oper) (cl : List CI) (g : Gh) (σ : St) (w : World) (fr : Fr) (a : Act) (K : Fr → St → Prop), lkOps P N ops l cl = true → Sim g σ w fr a N → aOps P cl fr σ K →
    (∀ fr' σ' g' w' a', K fr' σ' → Sim g' σ' w' fr' a' N → Ext g w g' w' → Q .normal a' w') → wpList P ops Q l a w
  | [], [], g, σ, w, fr, a, K, _, hS, h, hQ => hQ fr σ g w a h hS (.refl g w)
  | [], _ :: _, _, _, _, _, _, _, hl, _, _, _ => by simp [lkOps] at hl
  | _ :: _, [], _, _, _, _, _, _, hl, _, _, _ => by simp [lkOps] at hl
  | o :: l, ⟨d, op, gd⟩ :: cl, g, σ, w, fr, a, K, hl, hS, h, hQ => by
    simp only [lkOps, Bool.and_eq_true, beq_iff_eq] at hl
    obtain ⟨⟨⟨⟨hd, hdN⟩, hgd⟩, hop⟩, hrest⟩ := hl
    have hdN' : ∀ k, d = some k → k < N := by
      intro k hk; subst hk; simpa [dB] using hdN
    have step : ∀ (v : AV) (σ' : St) (u : Value) (w' : World) (g' : Gh), aOps P cl (putF d v fr) σ' K → Inv g' σ' w' → Ext g w g' w' → Rel g' w' v u → wpList P ops Q l (a.put o.dst u) w' := by
      intro v σ' u w' g' hK hI he hr
      rw [hd]
      exact aOps_sound ops l cl g' σ' w' _ _ K hrest (hS.put hI he hdN' hr) hK (fun fr' σ2 g2 w2 a2 k1 k2 k3 => hQ fr' σ2 g2 w2 a2 k1 k2 (he.trans k3))
    unfold wpList
    cases gd with
    | none =>
      have hw : Region.wanted o (yielded ops a.tmps) = true := by
        unfold gdB at hgd
        split at hgd
        · rename_i e1 _; simp [Region.wanted, e1]
        · rename_i e2; cases e2
        · cases hgd
      rw [if_pos hw]
      simp only [aOps] at h
      exact .inl (aOp_sound hS.inv hop (fun x y _ hb => ev_rel hS.inv hS.rel hb) h step)
    | some gw =>
      obtain ⟨t, want⟩ := gw
      simp only [aOps] at h
      cases hc : guardC want (slot t fr) with
      | none => rw [hc] at h; exact h.elim
      | some c =>
        simp only [hc] at h
        have hw := wanted_of hS hgd hc
        rw [hw]
        cases hq : op.quiet with
        | true =>
          simp only [hq, cond_true] at h
          obtain ⟨h1, h2⟩ := h
          cases c with
          | true =>
            rw [if_pos rfl]
            obtain ⟨h3, h4⟩ := h1 rfl
            have hlk : lkB P o.op op = true := by cases op <;> simp [CO.quiet] at hq <;> exact hop
            refine .inl (upon_yields (quiet_sound hS.inv op hlk (gEv_rel hS rfl h3) h4) (fun u w' g' k1 k2 k3 => ?_))
            exact step _ _ u w' g' h2 k1 k2 (.opt _ _ _ (fun _ => k3) (fun e => by cases e))
          | false =>
            rw [if_neg (by simp)]
            exact step _ _ undef w g h2 hS.inv (.refl g w) (.opt _ _ _ (fun e => by cases e) (fun _ => rfl))
        | false =>
          simp only [hq, cond_false] at h
          obtain ⟨h1, h2⟩ := h
          cases c with
          | true =>
            rw [if_pos rfl]
            obtain ⟨h3, h4⟩ := h1 rfl
            exact .inl (aOp_sound hS.inv hop (evU_rel hS rfl h3) h4 step)
          | false =>
            rw [if_neg (by simp)]
            exact step _ _ undef w g (h2 rfl) hS.inv (.refl g w) (.opt _ _ _ (fun e => by cases e) (fun _ => rfl))

theorem aC_sound : ∀ (cc : CC) (c : Code), lkC P N cc c = true → ∀ (g : Gh) (σ : St) (w : World) (fr : Fr) (a : Act) (R : Exit → Fr → St → Prop) (Q : Exit → Act → World → Prop), Sim g σ w fr a N → aC P cc fr σ R →
    (∀ e fr' σ' g' w' a', R e fr' σ' → Sim g' σ' w' fr' a' N → Ext g w g' w' → Q e a' w') → c.wp P Q a w := by
  intro cc
  induction cc with
  | skip =>
    intro c hl g σ w fr a R Q hS h hQ
    cases c <;> simp [lkC] at hl
    · exact wp_skip (hQ _ _ _ _ _ _ h hS (.refl g w))
    · exact wp_label (hQ _ _ _ _ _ _ h hS (.refl g w))
  | ops l =>
    intro c hl g σ w fr a R Q hS h hQ
    cases c <;> try (simp [lkC] at hl; done)
    rename_i id ops draw
    cases draw <;> simp [lkC] at hl
    exact wp_region_list (aOps_sound ops _ _ g σ w fr a _ hl hS h (fun fr' σ' g' w' a' k1 k2 k3 => hQ _ _ _ _ _ _ k1 k2 k3))
  | drw l cls =>
    intro c hl g σ w fr a R Q hS h hQ
    cases c <;> try (simp [lkC] at hl; done)
    rename_i id ops draw
    cases draw <;> simp [lkC] at hl
    exact aDrw_sound hl.2 hl.1.1 hl.1.2 hS h (fun fr' σ' g' w' a' k1 k2 k3 => hQ _ _ _ _ _ _ k1 k2 k3)
  | seq x y ihx ihy =>
    intro c hl g σ w fr a R Q hS h hQ
    cases c <;> simp [lkC] at hl
    refine wp_seq (ihx _ hl.1 g σ w fr a _ _ hS h (fun e fr' σ' g' w' a' k1 k2 k3 => ?_))
    cases e with
    | normal => exact ihy _ hl.2 g' σ' w' fr' a' R Q k2 k1 (fun e2 fr2 σ2 g2 w2 a2 q1 q2 q3 => hQ _ _ _ _ _ _ q1 q2 (k3.trans q3))
    | _ => exact hQ _ _ _ _ _ _ k1 k2 k3
  | cond b x y ihx ihy =>
    intro c hl g σ w fr a R Q hS h hQ
    cases c <;> simp [lkC] at hl
    simp only [aC] at h
    have hr := ev_rel hS.inv hS.rel hl.1.1
    cases hv : ev σ fr b <;> simp only [hv] at h
    rw [hv] at hr
    exact wp_cond_split hr.bool_inv (fun ht => ihx _ hl.1.2 g σ w fr a R Q hS (h.1 ht) hQ) (fun ht => ihy _ hl.2 g σ w fr a R Q hS (h.2 ht) hQ)
  | block id x ih =>
    intro c hl g σ w fr a R Q hS h hQ
    cases c <;> simp [lkC] at hl
    obtain ⟨rfl, hl⟩ := hl
    refine wp_block (ih _ hl g σ w fr a _ _ hS h (fun e fr' σ' g' w' a' k1 k2 k3 => ?_))
    cases e with
    | exit j =>
      simp only at k1
      simp only [Exit.inBlock]
      split
      · rename_i hj; rw [if_pos hj] at k1; exact hQ _ _ _ _ _ _ k1 k2 k3
      · rename_i hj; rw [if_neg hj] at k1; exact hQ _ _ _ _ _ _ k1 k2 k3
    | _ => exact hQ _ _ _ _ _ _ k1 k2 k3
  | scope x ih =>
    intro c hl g σ w fr a R Q hS h hQ
    cases c <;> simp [lkC] at hl
    simp only [aC] at h
    refine wp_scope_straight (ih _ hl g σ w fr a _ _ hS h (fun e fr' σ' g' w' a' k1 k2 k3 => ?_))
    cases e with
    | goto l => exact k1.elim
    | _ => exact hQ _ _ _ _ _ _ k1 k2 k3
  | loop x ih =>
    intro c hl g σ w fr a R Q hS h hQ
    cases c <;> simp [lkC] at hl
    rename_i body
    obtain ⟨regs, h⟩ := h
    obtain ⟨g0, fr0, σ0, hS0, he0, α, F, S, I, μ, a0, h0, hf0, hs0, hround⟩ := startP_sound regs hS h
    -- the ghost goes with the round: the measure is chosen
    have key : ∀ (n : Nat) (g1 : Gh) (z : α) (w1 : World) (a1 : Act), I z → Sim g1 (S z) w1 (F z) a1 N → Ext g w g1 w1 → μ z = n →
        ∀ b k cs, ∃ e a' w', Q e a' w' ∧ Arrives P (lone (b.at a1 (.code body :: .inLoop body :: k)) cs w1) b k cs e a' w' := by
      intro n
      induction n using Nat.strongRecOn with
      | _ n ihn =>
        intro g1 z w1 a1 hI1 hS1 he1 hm
        have hb := ih _ hl g1 (S z) w1 (F z) a1 _ (Exit.then (fun a2 w2 => ∀ b k cs, ∃ e a' w', Q e a' w' ∧ Arrives P (lone (b.at a2 (.code body :: .inLoop body :: k)) cs w2) b k cs e a' w') Q) hS1 (hround z hI1) (fun e fr' σ' g' w' a' k1 k2 k3 => by
          cases e with
          | normal =>
            obtain ⟨z2, q1, q2, q3, q4⟩ := k1
            exact ihn _ (by omega) g' z2 w' a' q1 (k2.le q3 q2) (he1.trans k3) rfl
          | _ => exact hQ _ _ _ _ _ _ k1 k2 (he1.trans k3))
        intro b k cs
        obtain ⟨e, a₁, w₁, hq, harr⟩ := hb b (.inLoop body :: k) cs
        cases e with
        | normal =>
          obtain ⟨e₂, a₂, w₂, hq₂, harr₂⟩ := hq b k cs
          exact ⟨e₂, a₂, w₂, hq₂, .of_steps (Steps.trans harr (.one step_inLoop)) harr₂⟩
        | exit id => exact ⟨_, a₁, w₁, hq, .pass (x := .inLoop body) rfl (fun _ _ => .inl (by simp)) harr⟩
        | goto l => exact ⟨_, a₁, w₁, hq, .pass (x := .inLoop body) rfl (fun _ _ => .inl (by simp)) harr⟩
        | ret => exact ⟨_, a₁, w₁, hq, .pass (x := .inLoop body) rfl (fun _ _ => .inl (by simp)) harr⟩
        | panic ch => exact ⟨_, a₁, w₁, hq, .pass (x := .inLoop body) rfl (fun _ _ => .inl (by simp)) harr⟩
        | outgrown => exact ⟨_, a₁, w₁, hq, .pass (x := .inLoop body) rfl (fun _ _ => .inl (by simp)) harr⟩
    intro b k cs
    obtain ⟨e, a', w', hq, harr⟩ := key _ g0 a0 w a h0 (hS0.le hs0 hf0) he0 rfl b k cs
    exact ⟨e, a', w', hq, .of_steps (.one step_loop) harr⟩
  | keep ts x ih =>
    intro c hl g σ w fr a R Q hS h hQ
    simp only [lkC] at hl
    refine ih c hl g σ w (keepF ts fr) a R Q ⟨hS.inv, fun t => ?_, hS.size, hS.defers⟩ h hQ
    rcases keepF_slot t fr ts with e | e
    · rw [e]; exact hS.rel t
    · rw [e]; exact .junk _
  | exit id =>
    intro c hl g σ w fr a R Q hS h hQ
    cases c <;> simp [lkC] at hl
    subst hl
    exact wp_exit (hQ _ _ _ _ _ _ h hS (.refl g w))
  | ret =>
    intro c hl g σ w fr a R Q hS h hQ
    cases c <;> simp [lkC] at hl
    exact wp_ret (hQ _ _ _ _ _ _ h hS (.refl g w))

end
end Go.Abs
