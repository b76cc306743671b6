/-
  A region that draws its order: sound.
-/
import Derived.Test.YtnmlhilckjmhnaaDoorAbs9d
namespace Go.Abs

def dB (N : Nat) : Option Nat → Bool
  | none => true
  | some d => decide (d < N)
def gdB (ops : Array Oper) (x : Option (Nat × Bool)) (y : Option (Nat × Bool)) : Bool :=
  match x, y with
  | none, none => true
  | some (j, want), some (t, want') => want == want' && (match (ops[j]?).bind (·.dst) with | some t' => t' == t | none => false)
  | _, _ => false
def lkOps (P : Program) (N : Nat) (ops : Array Oper) : List Oper → List CI → Bool
  | [], [] => true
  | o :: r, i :: r' => (o.dst == i.d) && dB N i.d && gdB ops o.guard i.gd && lk2 P o.op i.op && lkOps P N ops r r'
  | _, _ => false

section
variable {P : Program} {g : Gh} {σ σ' : St} {w : World} {a : Act} {fr : Fr} {N : Nat}

theorem wanted_at {ops : Array Oper} {o : Oper} {t : Nat} {want c : Bool} (hrt : Rel g w (slot t fr) (a.tmps.getD t undef)) (hg : gdB ops o.guard (some (t, want)) = true) (hc : guardC want (slot t fr) = some c) : Region.wanted o (yielded ops a.tmps) = c := by
  unfold gdB at hg
  split at hg
  · rename_i e2; cases e2
  · rename_i j want0 t0 want' e1 e2
    cases e2
    simp only [Bool.and_eq_true, beq_iff_eq] at hg
    obtain ⟨rfl, hg⟩ := hg
    split at hg
    · rename_i t' ht'
      have : t' = t := by simpa using hg
      subst this
      simp only [Region.wanted, e1, yielded, ht', Option.bind_some]
      have hr := hrt
      have hget : ∀ b, a.tmps.getD t' undef = .bool b → a.tmps[t']? = some (.bool b) := by
        intro b hb
        rw [Array.getD_eq_getD_getElem?] at hb
        cases hq : a.tmps[t']? with
        | none => rw [hq] at hb; cases hb
        | some v => rw [hq] at hb; simp at hb; rw [hb]
      have hget0 : a.tmps.getD t' undef = undef → a.tmps[t']? = none ∨ a.tmps[t']? = some undef := by
        intro hb
        rw [Array.getD_eq_getD_getElem?] at hb
        cases hq : a.tmps[t']? with
        | none => exact .inl rfl
        | some v => rw [hq] at hb; simp at hb; subst hb; exact .inr rfl
      cases hl : slot t' fr <;> rw [hl] at hc hr <;> simp only [guardC, reduceCtorEq] at hc
      · rename_i b
        cases hc
        rw [hget b hr.bool_inv]
        cases b <;> cases want0 <;> rfl
      · rename_i c0 v
        cases hr with
        | opt _ _ _ h1 h2 =>
          cases c0
          · have : c = false := by
              have := guardC_no want0 v
              simp only [guardC] at this
              rw [this] at hc
              exact (Option.some.inj hc).symm
            subst this
            rcases hget0 (h2 rfl) with e | e <;> rw [e] <;> rfl
          · cases v <;> simp only [reduceCtorEq] at hc
            cases hc
            rename_i b
            rw [hget b (h1 rfl).bool_inv]; cases b <;> cases want0 <;> rfl
    · cases hg
  · cases hg

theorem wanted_of {ops : Array Oper} {o : Oper} {t : Nat} {want c : Bool} (h : Sim g σ w fr a N) (hg : gdB ops o.guard (some (t, want)) = true) (hc : guardC want (slot t fr) = some c) : Region.wanted o (yielded ops a.tmps) = c :=
  wanted_at (h.rel t) hg hc

theorem evU_at {ρ : Od → AV} {c : Bool} (hc : c = true) : ∀ {L : List Od}, optAll c ρ L → (∀ x y, y ∈ L → odB x y = true → Rel g w (ρ y) (a.eval x)) → ∀ x y, y ∈ L → odB x y = true → Rel g w (evU ρ y) (a.eval x)
  | [], _, _, _, _, hy, _ => by simp at hy
  | z :: L, ho, hh, x, y, hy, hb => by
    obtain ⟨h1, h2⟩ := ho
    rcases List.mem_cons.1 hy with rfl | hy
    · have hr := hh x y (by simp) hb
      unfold evU
      cases hv : ρ y <;> rw [hv] at hr <;> try exact hr
      rw [hv] at h1
      cases hr with
      | opt _ _ _ k1 _ => exact k1 (h1 hc)
    · exact evU_at hc h2 (fun x y hy => hh x y (by simp [hy])) x y hy hb

theorem gEv_at {ρ : Od → AV} {c : Bool} (hc : c = true) {op : CO} (ho : optAll c ρ op.gods) (hh : ∀ x y, y ∈ op.ods → odB x y = true → Rel g w (ρ y) (a.eval x)) : ∀ x y, y ∈ op.ods → odB x y = true → Rel g w (gEv op ρ y) (a.eval x) := by
  cases op with
  | pick b x1 x2 =>
    intro x y hy hb
    simp only [gEv]
    unfold pickE
    split
    · rename_i s t
      split
      · rename_i e; subst e
        exact evU_at (L := [.t s]) hc ho (fun x y hy hb => hh x y (by simp at hy; subst hy; simp [CO.ods]) hb) x (.t s) (by simp) hb
      · exact hh x _ hy hb
    · exact hh x y hy hb
  | _ => exact evU_at hc ho hh

theorem gEv_rel (h : Sim g σ w fr a N) {c : Bool} (hc : c = true) {op : CO} (ho : optAll c (ev σ fr) op.gods) : ∀ x y, y ∈ op.ods → odB x y = true → Rel g w (gEv op (ev σ fr) y) (a.eval x) :=
  gEv_at hc ho (fun _ _ _ hb => ev_rel h.inv h.rel hb)

theorem evU_rel (h : Sim g σ w fr a N) {c : Bool} (hc : c = true) {L : List Od} (ho : optAll c (ev σ fr) L) : ∀ x y, y ∈ L → odB x y = true → Rel g w (evU (ev σ fr) y) (a.eval x) :=
  evU_at hc ho (fun _ _ _ hb => ev_rel h.inv h.rel hb)

/-! ### Boxes made at a number that was kept for them -/
/-- What a step leaves: k is the number from which boxes are kept, β the one that the step makes. -/
structure DExt (k β : Nat) (g : Gh) (w : World) (g' : Gh) (w' : World) : Prop where
  ext : Ext { g with nb := k, nt := k } w g' w'
  nb : g.nb ≤ g'.nb
  pend : ∀ β', β' < g.nb → β' ≠ β → g'.box β' = g.box β'
  nt : g.nt ≤ g'.nt
  tpend : ∀ τ, τ < g.nt → τ ≠ β → (∀ n, g.tip τ n = none) → ∀ n, g'.tip τ n = none

theorem Ext.low {g' : Gh} {w' : World} (h : Ext g w g' w') {k : Nat} (hk : k ≤ g.nb) (hk' : k ≤ g.nt) : Ext { g with nb := k, nt := k } w g' w' :=
  ⟨h.os, h.tape, h.output, h.size, h.box, fun β hβ => h.boxold β (Nat.lt_of_lt_of_le hβ hk), Nat.le_trans hk h.nb, Nat.le_trans hk' h.nt, h.tip, h.cln, h.cls, fun m hm => h.tipn m (Nat.lt_of_lt_of_le hm hk')⟩
theorem Ext.low2 {g0 : Gh} {w0 : World} (h : Ext g0 w0 g w) : Ext g0 w0 { g with nb := g0.nb, nt := g0.nt } w :=
  ⟨h.os, h.tape, h.output, h.size, h.box, h.boxold, Nat.le_refl _, Nat.le_refl _, h.tip, h.cln, h.cls, h.tipn⟩
theorem Ext.dext {g' : Gh} {w' : World} (h : Ext g w g' w') {k : Nat} (β : Nat) (hk : k ≤ g.nb) (hk' : k ≤ g.nt) : DExt k β g w g' w' :=
  ⟨h.low hk hk', h.nb, fun β' hβ _ => h.boxold β' hβ, h.nt, fun τ hτ _ => h.tipn τ hτ⟩

def Gh.boxAt (g : Gh) (w : World) (β0 : Nat) : Gh :=
  { g with box := fun β => if β = β0 then some w.heap.size else g.box β, cl := fun b => if b = w.heap.size then some 0 else g.cl b }

theorem DExt.boxAt {k β0 : Nat} (hk : k ≤ β0) (hn : g.box β0 = none) (hkn : k ≤ g.nb) (hkt : k ≤ g.nt) (ob : Obj) : DExt k β0 g w (g.boxAt w β0) (w.alloc ob) := by
  refine ⟨⟨rfl, rfl, rfl, by simp, fun β b hb => ?_, fun β hβ => ?_, hkn, hkt, fun _ _ _ h => h, fun b hb hc => ⟨?_, RowKit.Below.heap_alloc w _ b hb⟩, fun b F' hb hc => ⟨F', ?_, Nat.le_refl _, fun i _ => World.cell?_alloc_lt w _ _ hb⟩, fun _ _ h => h⟩, Nat.le_refl _, fun β' _ hβ => ?_, Nat.le_refl _, fun _ _ _ h => h⟩
  · simp only [Gh.boxAt]
    rw [if_neg]
    · exact hb
    · rintro rfl; simp only at hb; rw [hn] at hb; cases hb
  · simp only at hβ; simp only [Gh.boxAt]; rw [if_neg (by omega)]
  · simp only [Gh.boxAt, if_neg (Nat.ne_of_lt hb)]; exact hc
  · simp only [Gh.boxAt, if_neg (Nat.ne_of_lt hb)]; exact hc
  · simp only [Gh.boxAt, if_neg hβ]

theorem Inv.boxAt (hI : Inv g σ w) {β0 : Nat} (hn : g.box β0 = none) (hlt : β0 < g.nb) {cs : List AV} {vs : Array Value} {T : TypeId} (hr : RelC g w cs vs.toList) : Inv (g.boxAt w β0) (σ.setBox β0 cs) (w.alloc (.cells vs T)) := by
  have he := (DExt.boxAt (w := w) (k := 0) (Nat.zero_le _) hn (Nat.zero_le _) (Nat.zero_le _) (.cells vs T)).ext
  have mono : ∀ {c v}, Rel g w c v → Rel (g.boxAt w β0) (w.alloc (.cells vs T)) c v := fun h => (h.setnb 0 0).mono he
  have monoC : ∀ {c v}, RelC g w c v → RelC (g.boxAt w β0) (w.alloc (.cells vs T)) c v := fun h => ⟨⟨h.1.1, fun i c v h1 h2 => mono (h.1.2 i c v h1 h2)⟩, h.2⟩
  refine ⟨fun β cs' hb => ?_, fun β b hb => ?_, fun β β' b h1 h2 => ?_, fun β hβ => ?_, fun τ e s n ht => ?_, hI.tipinj, hI.tipfresh, fun k cs hk => GlobOk.mono (g := { g with nb := 0, nt := 0 }) ⟨(hI.glob k cs hk).rel.setnb 0 0, (hI.glob k cs hk).cl, (hI.glob k cs hk).row⟩ he, fun l r hl => ?_⟩
  · simp only [St.setBox, upd] at hb
    by_cases hβ : β = β0
    · subst hβ
      simp at hb; subst hb
      exact ⟨w.heap.size, vs, T, by simp [Gh.boxAt], heap_alloc_new w _, monoC hr⟩
    · rw [if_neg hβ] at hb
      obtain ⟨b, us, T', h1, h2, h3⟩ := hI.box β cs' hb
      exact ⟨b, us, T', by simp only [Gh.boxAt, if_neg hβ]; exact h1, by rw [RowKit.Below.heap_alloc w _ b (hI.boxcl β b h1).1]; exact h2, monoC h3⟩
  · simp only [Gh.boxAt] at hb ⊢
    by_cases hβ : β = β0
    · rw [if_pos hβ] at hb; cases hb; exact ⟨by simp, by simp⟩
    · rw [if_neg hβ] at hb
      obtain ⟨h1, h2⟩ := hI.boxcl β b hb
      exact ⟨by simp; omega, by rw [if_neg (Nat.ne_of_lt h1)]; exact h2⟩
  · simp only [Gh.boxAt] at h1 h2
    by_cases hβ : β = β0 <;> by_cases hβ' : β' = β0
    · rw [hβ, hβ']
    · rw [if_pos hβ] at h1; rw [if_neg hβ'] at h2; cases h1; have := (hI.boxcl β' _ h2).1; omega
    · rw [if_neg hβ] at h1; rw [if_pos hβ'] at h2; cases h2; have := (hI.boxcl β _ h1).1; omega
    · rw [if_neg hβ] at h1; rw [if_neg hβ'] at h2; exact hI.boxinj _ _ _ h1 h2
  · simp only [Gh.boxAt] at hβ ⊢
    rw [if_neg (by omega)]
    exact hI.boxfresh β (by omega)
  · obtain ⟨v, h1, h2, h4⟩ := hI.tip τ e s n ht
    refine ⟨v, h1, fun hs => ?_, h4⟩
    obtain ⟨xs, h2, h3⟩ := h2 hs
    refine ⟨xs, h2.alloc _, fun b hb => ?_⟩
    have hlt := (h2.lt b hb).2
    obtain ⟨h5, h6⟩ := h3 b hb
    refine ⟨by simp only [Gh.boxAt, if_neg (Nat.ne_of_lt hlt)]; exact h5, fun β => ?_⟩
    simp only [Gh.boxAt]
    split
    · intro e'; cases e'; omega
    · exact h6 β
  · obtain ⟨h1, h2, h3⟩ := hI.lp l r hl
    have hlt := (Array.getElem?_eq_some_iff.1 h1).1
    exact ⟨by rw [RowKit.Below.heap_alloc w _ l hlt]; exact h1, by simp only [Gh.boxAt, if_neg (Nat.ne_of_lt hlt)]; exact h2, fun t => mono (h3 t)⟩

theorem dOp_sound {o : Oper} {ρ : Od → AV} (hI : Inv g σ w) {co : CO} (hl : lk2 P o.op co = true) (hρ : ∀ x y, y ∈ co.ods → odB x y = true → Rel g w (ρ y) (a.eval x)) {c β k : Nat} {v : AV} (h : dOp P c β ρ σ co v σ')
    (hn0 : g.box β = none) (hlt : β < g.nb) (ht0 : ∀ n, g.tip β n = none) (htl : β < g.nt) (hkβ : k ≤ β) {next : Act → World → Prop} {Q : Exit → Act → World → Prop}
    (hn : ∀ u w' g', Inv g' σ' w' → DExt k β g w g' w' → Rel g' w' v u → next (a.put o.dst u) w') : o.wp P a w next Q := by
  have hkn : k ≤ g.nb := by omega
  have hkt : k ≤ g.nt := by omega
  have viaA : (∀ x args l, co = .callv x args → ρ x ≠ .yld l) → aOp P ρ σ (fun x s => x = v ∧ s = σ') co → o.wp P a w next Q := fun hny h2 =>
    aOp_sound0 hI hl hρ h2 hny (fun v2 s2 u w' g' k0 k1 k2 k3 => by obtain ⟨rfl, rfl⟩ := k0; exact hn u w' g' k1 (k2.dext β hkn hkt) k3)
  cases co <;> simp only [dOp] at h
  case alloc cells =>
    obtain ⟨_, rfl, rfl⟩ := h
    simp only [lk2] at hl
    split at hl
    · rename_i t ho
      split at hl
      · rename_i i hi
        split at hl
        · rename_i z hz
          have hc := cBL_rel g w _ _ hl
          have hrun : (execOp a.eval o).run P w = .ok (.value (.pointer (some ⟨w.heap.size, 0, none⟩))) (w.alloc (.cells z.cells t)) := by
            simp [execOp, ho, Instr.alloc, zeroValue, typeInfo, hi, hz, newVar, newRow]
          unfold Oper.wp
          rw [hrun, Oper.upon_value]
          exact hn _ _ _ (hI.boxAt hn0 hlt hc) (DExt.boxAt hkβ hn0 hkn hkt _) (.ptr _ _ _ (by simp [Gh.boxAt]))
        · cases hl
      · cases hl
    · cases hl
  case box n x =>
    obtain ⟨_, q1, q2, rfl, rfl⟩ := h
    simp only [lk2] at hl
    split at hl
    · rename_i t x' ho
      have rx := hρ x' x (by simp [CO.ods]) hl
      have hc := rx.cells q1
      have hrun : (execOp a.eval o).run P w = .ok (.value (.pointer (some ⟨w.heap.size, 0, none⟩))) (w.alloc (.cells (a.eval x').cells t)) := by
        simp [execOp, ho, Instr.box, newVar, newRow]
      unfold Oper.wp
      rw [hrun, Oper.upon_value]
      exact hn _ _ _ (hI.boxAt hn0 hlt hc) (DExt.boxAt hkβ hn0 hkn hkt _) (.ptr _ _ _ (by simp [Gh.boxAt]))
    · cases hl
  case st n p x =>
    refine viaA (fun _ _ _ e => by cases e) ?_
    obtain ⟨_, h⟩ := h
    simp only [aOp]
    split at h
    · rename_i γ off hp
      split at h
      · rename_i cs hb
        obtain ⟨q1, q2, q3, rfl, rfl⟩ := h
        simp only [hp, hb]
        exact ⟨q1, q2, q3, trivial, trivial⟩
      · exact h.elim
    · exact h.elim
  case isnil kind neg x =>
    obtain ⟨_, h1, rfl, b0, h2, rfl⟩ := h
    refine viaA (fun _ _ _ e => by cases e) ?_
    simp only [aOp]
    exact ⟨h1, fun b hb => by rw [h2 b hb]; simp⟩
  case call f args => obtain ⟨_, rfl, h⟩ := h; exact viaA (fun _ _ _ e => by cases e) (h _ (St.le_refl _))
  case callv x args =>
    obtain ⟨_, rfl, h⟩ := h
    refine viaA (fun x2 args2 l e hx => by cases e; rw [hx] at h; exact h) ?_
    simp only [aOp]
    split at h
    · rename_i f cap hx; simp only [hx]; exact h _ (St.le_refl _)
    · exact h.elim
  case app tp e es bytes x y =>
    split at h
    · rename_i τ n cs hx
      obtain ⟨_, h⟩ := h
      refine viaA (fun _ _ _ e => by cases e) ?_
      simp only [aOp, hx]
      split at h
      · rename_i m ds hy
        obtain ⟨q1, q2, q3, q4, q5, rfl, rfl⟩ := h
        simp only [hy]
        exact ⟨q1, q2, q3, q4, q5, trivial, trivial⟩
      · exact h.elim
    · rename_i hx
      have hlb : lkB P o.op (.app tp e es bytes x y) = true := by
        simp only [lk2] at hl; exact hl
      cases hb4 : Nat.beq c 4 with
      | true =>
        simp only [hb4, cond_true] at h
        obtain ⟨_, h⟩ := h
        split at h
        · rename_i n cs m ds hx hy
          obtain ⟨q0, q2, q3, q4, q5, rfl, rfl⟩ := h
          simp only [lkB] at hlb
          split at hlb
          · rename_i x' y' t t' ho
            simp only [Bool.and_eq_true, beq_iff_eq] at hlb
            obtain ⟨⟨⟨rfl, h1⟩, h2⟩, h3⟩ := hlb
            have rx := hρ x' x (by simp [CO.ods]) h2
            have ry := hρ y' y (by simp [CO.ods]) h3
            obtain ⟨hI', rx'⟩ := tip_at hI e es ht0 htl rx q0 hx
            have hset : (σ.setTip β (e, es, n)).tip β = some (e, es, n) := by simp [St.setTip, upd]
            have hσ : (σ.setTip β (e, es, n)).setTip β (e, es, n + m) = σ.setTip β (e, es, n + m) := by
              simp only [St.setTip, St.mk.injEq, true_and, and_true]
              funext j
              simp only [upd]
              split <;> rfl
            have hy' := appT_sound (P := P) hI' ho h1 rx' (tipped_rel (ht0 n) ry) hy hset q2 q3 q4 q5
            rw [hσ] at hy'
            refine upon_yields hy' (fun u w' g2 k1 k2 k3 => hn _ _ _ k1 ⟨(tipped_low (v := a.eval x') (ht0 n) hkβ).trans (k2.low hkn hkt), k2.nb, fun β' hβ _ => k2.boxold β' hβ, k2.nt, fun τ hτ hne h0 => k2.tipn τ hτ (fun n' => ?_)⟩ k3)
            simp only [Gh.tipped]
            rw [if_neg (fun q => hne q.1)]
            exact h0 n'
          · cases hlb
        · exact h.elim
      | false =>
      simp only [hb4, cond_false] at h
      obtain ⟨_, h1, rfl, rfl⟩ := h
      exact upon_yields (quiet_sound hI (.app tp e es bytes x y) hlb hρ h1) (fun u w' g' k1 k2 k3 => hn u w' g' k1 (k2.dext β hkn hkt) k3)
  all_goals first
    | exact h.elim
    | (obtain ⟨_, _, h1, rfl, rfl⟩ := h; exact (show False from h1).elim)
    | (obtain ⟨_, _, h1, rfl, rfl⟩ := h; exact viaA (fun _ _ _ e => by cases e) ⟨h1, rfl, rfl⟩)

theorem dStep_sound {ops : Array Oper} {o : Oper} {i : CI} (hI : Inv g σ w) (hgd : gdB ops o.guard i.gd = true) (hl : lk2 P o.op i.op = true) (hrd : ∀ t ∈ readsOf i, Rel g w (slot t fr) (a.tmps.getD t undef))
    {c β k : Nat} {v : AV} (h : dStep P c β i fr σ v σ') (hn0 : g.box β = none) (hlt : β < g.nb) (ht0 : ∀ n, g.tip β n = none) (htl : β < g.nt) (hkβ : k ≤ β) {r : Option Nat} {nn : Nat} {next : Act → World → Prop} {Q : Exit → Act → World → Prop}
    (hn : ∀ u w' g', Inv g' σ' w' → DExt k β g w g' w' → Rel g' w' v u → next (a.put o.dst u) w') :
    if Region.wanted o (yielded ops a.tmps) then o.wpIn (Wd r) nn P a w next Q else next (a.put o.dst undef) w := by
  have hkn : k ≤ g.nb := by omega
  have hkt : k ≤ g.nt := by omega
  have hρ : ∀ x y, y ∈ i.op.ods → odB x y = true → Rel g w (ev σ fr y) (a.eval x) := by
    intro x y hy hb
    cases y with
    | t t =>
      have ht : t ∈ readsOf i := by
        simp only [readsOf, List.mem_append, List.mem_filterMap]
        exact .inl ⟨.t t, hy, rfl⟩
      have hr := hrd t ht
      cases x <;> simp [odB] at hb
      subst hb; exact hr
    | c v => exact ev_rel (fr := []) (σ := σ) hI (fun t => .junk _) hb
    | g k => exact ev_rel (fr := []) (σ := σ) hI (fun t => .junk _) hb
    | f k => exact ev_rel (fr := []) (σ := σ) hI (fun t => .junk _) hb
  obtain ⟨d, op, gd⟩ := i
  cases gd with
  | none =>
    have hw : Region.wanted o (yielded ops a.tmps) = true := by
      unfold gdB at hgd
      split at hgd
      · rename_i e1 _; simp [Region.wanted, e1]
      · rename_i e2; cases e2
      · cases hgd
    rw [if_pos hw]
    simp only [dStep] at h
    exact wpIn_of_wp (lk2_nodefer hl) (dOp_sound hI hl hρ h hn0 hlt ht0 htl hkβ hn)
  | some gw =>
    obtain ⟨t, want⟩ := gw
    simp only [dStep] at h
    have hrt := hrd t (by simp [readsOf])
    cases hc : guardC want (slot t fr) with
    | none => rw [hc] at h; exact h.elim
    | some b =>
      simp only [hc] at h
      rw [wanted_at hrt hgd hc]
      cases hq : op.quiet with
      | true =>
        simp only [hq, cond_true] at h
        obtain ⟨_, _, h1, rfl, rfl⟩ := h
        cases b with
        | true =>
          rw [if_pos rfl]
          obtain ⟨h3, h4⟩ := h1 rfl
          have hlk : lkB P o.op op = true := by cases op <;> simp [CO.quiet] at hq <;> exact hl
          exact wpIn_of_wp (lk2_nodefer hl) (upon_yields (quiet_sound hI op hlk (gEv_at rfl h3 hρ) h4) (fun u w' g' k1 k2 k3 => hn _ _ _ k1 (k2.dext β hkn hkt) (.opt _ _ _ (fun _ => k3) (fun e => by cases e))))
        | false =>
          rw [if_neg (by simp)]
          exact hn _ _ _ hI ((Ext.refl g w).dext β hkn hkt) (.opt _ _ _ (fun e => by cases e) (fun _ => rfl))
      | false =>
        simp only [hq, cond_false] at h
        split at h
        · rename_i f args
          obtain ⟨_, rfl, v0, rfl, h⟩ := h
          cases b with
          | true =>
            rw [if_pos rfl]
            obtain ⟨h3, h4⟩ := h rfl
            exact (aOp_sound hI hl (evU_at rfl h3 hρ) (h4 _ (St.le_refl _)) (fun v2 s2 u w' g' k0 k1 k2 k3 => by
              obtain ⟨rfl, rfl⟩ := k0
              exact hn _ _ _ k1 (k2.dext β hkn hkt) (.opt _ _ _ (fun _ => k3) (fun e => by cases e))))
          | false =>
            rw [if_neg (by simp)]
            exact hn _ _ _ hI ((Ext.refl g w).dext β hkn hkt) (.opt _ _ _ (fun e => by cases e) (fun _ => rfl))
        · exact h.elim

end
end Go.Abs
