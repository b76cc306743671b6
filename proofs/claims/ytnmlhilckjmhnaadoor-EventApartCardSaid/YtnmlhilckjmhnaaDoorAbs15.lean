/-
  The evaluator over code and functions, and that what it finds is so.
-/
import Derived.Test.YtnmlhilckjmhnaaDoorAbs14
namespace Go.Abs

structure ES where
  bx : List (Nat × List AV)
  nb : Nat
  tp : List (Nat × (Nat × Nat × Nat))
  nt : Nat
def ES.new : ES := ⟨[], 0, [], 0⟩

def look {α : Type} (i : Nat) : List (Nat × α) → Option α
  | [] => none
  | (j, x) :: r => bif Nat.beq i j then some x else look i r
def repl {α : Type} (i : Nat) (v : α) : List (Nat × α) → List (Nat × α)
  | [] => []
  | (j, x) :: r => bif Nat.beq i j then (j, v) :: r else (j, x) :: repl i v r
theorem beq_false_ne {i j : Nat} (h : Nat.beq i j = false) : i ≠ j := by
  rintro rfl; simp at h
theorem look_repl {α : Type} {i : Nat} {v : α} : ∀ {l : List (Nat × α)} {j : Nat} {x : α}, look j (repl i v l) = some x → (j = i ∧ x = v) ∨ (j ≠ i ∧ look j l = some x)
  | [], j, x, h => by simp [repl, look] at h
  | (k, y) :: r, j, x, h => by
    simp only [repl] at h
    cases hik : Nat.beq i k with
    | true =>
      rw [hik] at h
      simp only [cond_true, look] at h
      have := Nat.eq_of_beq_eq_true hik
      subst this
      cases hji : Nat.beq j i with
      | true => rw [hji] at h; simp at h; exact .inl ⟨Nat.eq_of_beq_eq_true hji, h.symm⟩
      | false => rw [hji] at h; simp only [cond_false] at h; refine .inr ⟨beq_false_ne hji, ?_⟩; simp only [look, hji, cond_false]; exact h
    | false =>
      rw [hik] at h
      simp only [cond_false, look] at h
      cases hjk : Nat.beq j k with
      | true =>
        rw [hjk] at h; simp at h; subst h
        have := Nat.eq_of_beq_eq_true hjk
        subst this
        exact .inr ⟨(beq_false_ne hik).symm, by simp [look]⟩
      | false =>
        rw [hjk] at h; simp only [cond_false] at h
        rcases look_repl h with h | ⟨h1, h2⟩
        · exact .inl h
        · exact .inr ⟨h1, by simp only [look, hjk, cond_false]; exact h2⟩

def Sub (m m' : List Nat) : Prop := ∀ (i x : Nat), m[i]? = some x → m'[i]? = some x
theorem Sub.refl (m : List Nat) : Sub m m := fun _ _ h => h
theorem Sub.trans {a b c : List Nat} (h : Sub a b) (k : Sub b c) : Sub a c := fun i x hx => k i x (h i x hx)
theorem Sub.app (m : List Nat) (x : Nat) : Sub m (m ++ [x]) := fun i y h => by
  rw [List.getElem?_append_left (List.getElem?_eq_some_iff.1 h).1]; exact h
theorem VRL.mono {m t m' t' : List Nat} (hm : Sub m m') (ht : Sub t t') {a b : List AV} (h : VRL m t a b) : VRL m' t' a b := F2.mono (fun _ _ => VR.mono hm ht) h

structure RS (σb : St) (gl : List (Nat × List AV)) (m t : List Nat) (es : ES) (σ : St) : Prop where
  bx : ∀ i cs, look i es.bx = some cs → ∃ β ds, m[i]? = some β ∧ σ.box β = some ds ∧ VRL m t cs ds
  tp : ∀ i x, look i es.tp = some x → ∃ τ, t[i]? = some τ ∧ σ.tip τ = some x
  nb : m.length = es.nb
  nt : t.length = es.nt
  mi : ∀ (i j β : Nat), m[i]? = some β → m[j]? = some β → i = j
  ti : ∀ (i j τ : Nat), t[i]? = some τ → t[j]? = some τ → i = j
  md : ∀ (i β : Nat), m[i]? = some β → σ.box β ≠ none
  td : ∀ (i τ : Nat), t[i]? = some τ → σ.tip τ ≠ none
  le : St.le σb σ
  mb : ∀ (i β : Nat), m[i]? = some β → σb.box β = none
  tb : ∀ (i τ : Nat), t[i]? = some τ → σb.tip τ = none
  gl : ∀ k cs, look k gl = some cs → σ.glob k = some cs ∧ clL cs = true

def ES.newB (es : ES) (cs : List AV) : ES := ⟨(es.nb, cs) :: es.bx, es.nb + 1, es.tp, es.nt⟩
def ES.setB (es : ES) (i : Nat) (cs : List AV) : ES := ⟨repl i cs es.bx, es.nb, es.tp, es.nt⟩
def ES.newT (es : ES) (x : Nat × Nat × Nat) : ES := ⟨es.bx, es.nb, (es.nt, x) :: es.tp, es.nt + 1⟩
def ES.setT (es : ES) (i : Nat) (x : Nat × Nat × Nat) : ES := ⟨es.bx, es.nb, repl i x es.tp, es.nt⟩

section
variable {σb σ : St} {gl : List (Nat × List AV)} {m t : List Nat} {es : ES}

theorem get_app {m : List Nat} {β i x : Nat} (h : (m ++ [β])[i]? = some x) : m[i]? = some x ∨ (i = m.length ∧ x = β) := by
  rcases Nat.lt_or_ge i m.length with hi | hi
  · rw [List.getElem?_append_left hi] at h; exact .inl h
  · rw [List.getElem?_append_right hi] at h
    have : i - m.length = 0 := by
      rcases Nat.eq_zero_or_pos (i - m.length) with e | e
      · exact e
      · rw [List.getElem?_eq_none (by simp; omega)] at h; cases h
    rw [this] at h
    simp at h
    exact .inr ⟨by omega, h.symm⟩

theorem RS.newB (h : RS σb gl m t es σ) {β : Nat} (hβ : σ.box β = none) {cs ds : List AV} (hc : VRL m t cs ds) : RS σb gl (m ++ [β]) t (es.newB cs) (σ.setBox β ds) := by
  have hne : ∀ i γ, m[i]? = some γ → γ ≠ β := fun i γ hg e => h.md i γ hg (e ▸ hβ)
  have hsb : σb.box β = none := by
    cases hb : σb.box β with
    | none => rfl
    | some c => rw [h.le.1 _ _ hb] at hβ; cases hβ
  refine ⟨fun i cs' hl => ?_, h.tp, by simp [h.nb, ES.newB], h.nt, fun i j γ h1 h2 => ?_, h.ti, fun i γ hg => ?_, h.td, St.le_setBox h.le hsb, fun i γ hg => ?_, h.tb, h.gl⟩
  · simp only [ES.newB, look] at hl
    cases hb : Nat.beq i es.nb with
    | true =>
      rw [hb] at hl; simp at hl; subst hl
      have := Nat.eq_of_beq_eq_true hb
      subst this
      exact ⟨β, ds, by rw [← h.nb]; simp, by simp [St.setBox, upd], hc.mono (.app _ _) (.refl _)⟩
    | false =>
      rw [hb] at hl; simp only [cond_false] at hl
      obtain ⟨γ, ds', h1, h2, h3⟩ := h.bx i cs' hl
      exact ⟨γ, ds', Sub.app _ _ _ _ h1, by simp only [St.setBox, upd, if_neg (hne i γ h1)]; exact h2, h3.mono (.app _ _) (.refl _)⟩
  · rcases get_app h1 with h1 | ⟨h1, e1⟩ <;> rcases get_app h2 with h2 | ⟨h2, e2⟩
    · exact h.mi i j γ h1 h2
    · exact (hne i γ h1 e2).elim
    · exact (hne j γ h2 e1).elim
    · omega
  · simp only [St.setBox, upd]
    split
    · simp
    · rename_i e
      rcases get_app hg with h1 | ⟨h1, e1⟩
      · exact h.md i γ h1
      · exact (e e1).elim
  · rcases get_app hg with h1 | ⟨h1, rfl⟩
    · exact h.mb i γ h1
    · exact hsb

theorem RS.setB (h : RS σb gl m t es σ) {i β : Nat} (hi : m[i]? = some β) {cs ds : List AV} (hc : VRL m t cs ds) : RS σb gl m t (es.setB i cs) (σ.setBox β ds) := by
  refine ⟨fun j cs' hl => ?_, h.tp, h.nb, h.nt, h.mi, h.ti, fun j γ hg => ?_, h.td, St.le_setBox h.le (h.mb i β hi), h.mb, h.tb, h.gl⟩
  · rcases look_repl hl with ⟨rfl, rfl⟩ | ⟨h1, h2⟩
    · exact ⟨β, ds, hi, by simp [St.setBox, upd], hc⟩
    · obtain ⟨γ, ds', k1, k2, k3⟩ := h.bx j cs' h2
      refine ⟨γ, ds', k1, ?_, k3⟩
      simp only [St.setBox, upd]
      rw [if_neg]
      · exact k2
      · rintro rfl; exact h1 (h.mi j i _ k1 hi)
  · simp only [St.setBox, upd]
    split
    · simp
    · exact h.md j γ hg

theorem RS.newT (h : RS σb gl m t es σ) {τ : Nat} (hτ : σ.tip τ = none) (x : Nat × Nat × Nat) : RS σb gl m (t ++ [τ]) (es.newT x) (σ.setTip τ x) := by
  have hne : ∀ i γ, t[i]? = some γ → γ ≠ τ := fun i γ hg e => h.td i γ hg (e ▸ hτ)
  have hsb : σb.tip τ = none := by
    cases hb : σb.tip τ with
    | none => rfl
    | some c => rw [h.le.2.1 _ _ hb] at hτ; cases hτ
  refine ⟨fun i cs' hl => ?_, fun i y hl => ?_, h.nb, by simp [h.nt, ES.newT], h.mi, fun i j γ h1 h2 => ?_, h.md, fun i γ hg => ?_, St.le_setTip h.le hsb, h.mb, fun i γ hg => ?_, h.gl⟩
  · obtain ⟨γ, ds', h1, h2, h3⟩ := h.bx i cs' hl
    exact ⟨γ, ds', h1, h2, h3.mono (.refl _) (.app _ _)⟩
  · simp only [ES.newT, look] at hl
    cases hb : Nat.beq i es.nt with
    | true =>
      rw [hb] at hl; simp at hl; subst hl
      have := Nat.eq_of_beq_eq_true hb
      subst this
      exact ⟨τ, by rw [← h.nt]; simp, by simp [St.setTip, upd]⟩
    | false =>
      rw [hb] at hl; simp only [cond_false] at hl
      obtain ⟨γ, h1, h2⟩ := h.tp i y hl
      exact ⟨γ, Sub.app _ _ _ _ h1, by simp only [St.setTip, upd, if_neg (hne i γ h1)]; exact h2⟩
  · rcases get_app h1 with h1 | ⟨h1, e1⟩ <;> rcases get_app h2 with h2 | ⟨h2, e2⟩
    · exact h.ti i j γ h1 h2
    · exact (hne i γ h1 e2).elim
    · exact (hne j γ h2 e1).elim
    · omega
  · simp only [St.setTip, upd]
    split
    · simp
    · rename_i e
      rcases get_app hg with h1 | ⟨h1, e1⟩
      · exact h.td i γ h1
      · exact (e e1).elim
  · rcases get_app hg with h1 | ⟨h1, rfl⟩
    · exact h.tb i γ h1
    · exact hsb

theorem RS.setT (h : RS σb gl m t es σ) {i τ : Nat} (hi : t[i]? = some τ) (x : Nat × Nat × Nat) : RS σb gl m t (es.setT i x) (σ.setTip τ x) := by
  refine ⟨h.bx, fun j y hl => ?_, h.nb, h.nt, h.mi, h.ti, h.md, fun j γ hg => ?_, St.le_setTip h.le (h.tb i τ hi), h.mb, h.tb, h.gl⟩
  · rcases look_repl hl with ⟨rfl, rfl⟩ | ⟨h1, h2⟩
    · exact ⟨τ, hi, by simp [St.setTip, upd]⟩
    · obtain ⟨γ, k1, k2⟩ := h.tp j y h2
      refine ⟨γ, k1, ?_⟩
      simp only [St.setTip, upd]
      rw [if_neg]
      · exact k2
      · rintro rfl; exact h1 (h.ti j i _ k1 hi)
  · simp only [St.setTip, upd]
    split
    · simp
    · exact h.td j γ hg
end

/-! ### Values without numbers -/
mutual
def norm : AV → Option AV
  | .ptr _ _ => none
  | .yld _ => none
  | .psl _ _ _ => none
  | .opt _ _ => none
  | .tsl _ n cs => match normL cs with | some ds => some (.sl false n ds) | none => none
  | .sl f n cs => match normL cs with | some ds => some (.sl f n ds) | none => none
  | .agg cs => match normL cs with | some ds => some (.agg ds) | none => none
  | .tup cs => match normL cs with | some ds => some (.tup ds) | none => none
  | .el cs => match normL cs with | some ds => some (.el ds) | none => none
  | .fn f cs => match normL cs with | some ds => some (.fn f ds) | none => none
  | .ifc y v => match norm v with | some u => some (.ifc y u) | none => none
  | .junk => some .junk
  | .bool b => some (.bool b)
  | .int k n => some (.int k n)
  | .str l => some (.str l)
  | .nils => some .nils
  | .nilp => some .nilp
  | .nili => some .nili
  | .nilf => some .nilf
def normL : List AV → Option (List AV)
  | [] => some []
  | v :: vs => match norm v, normL vs with
    | some u, some us => some (u :: us)
    | _, _ => none
end

theorem wkL_pt {ds es : List AV} (h : wkL ds es) {g : Gh} {w : World} {u : List Value} (hl : u.length = ds.length) (hr : ∀ (i : Nat) (c : AV) (v : Value), ds[i]? = some c → u[i]? = some v → Rel g w c v) :
    u.length = es.length ∧ es.length = ds.length ∧ ∀ (i : Nat) (c : AV) (v : Value), es[i]? = some c → u[i]? = some v → Rel g w c v := by
  have := wkL_rel h (g := g) (w := w) (vs := u) ⟨hl, hr⟩
  exact ⟨this.1, by rw [← this.1, hl], this.2⟩
theorem wk_sl {f : Bool} {n : Nat} {ds es : List AV} (h : wkL ds es) : wk (.sl f n ds) (.sl f n es) := by
  intro g w v hv
  cases hv with
  | sl0 => cases h; exact .sl0 _ _
  | sl _ _ _ b off cap u h1 h2 h4 h5 h6 h7 =>
    obtain ⟨k1, k2, k3⟩ := wkL_pt h h5 h7
    exact .sl f n es b off cap u h1 h2 (by rw [k2]; exact h4) k1 h6 k3
theorem wk_el {ds es : List AV} (h : wkL ds es) : wk (.el ds) (.el es) := by
  intro g w v hv
  cases hv with
  | el _ b off u h4 h5 h6 h7 =>
    obtain ⟨k1, k2, k3⟩ := wkL_pt h h5 h7
    exact .el es b off u (by rw [k2]; exact h4) k1 h6 k3
theorem wk_fn {f : Nat} {ds es : List AV} (h : wkL ds es) : wk (.fn f ds) (.fn f es) := by
  intro g w v hv
  obtain ⟨u, rfl, hu⟩ := hv.fn_inv
  have := wkL_rel h hu
  exact .fn f es u this.1 this.2
theorem wk_ifc {y : Nat} {a b : AV} (h : wk a b) : wk (.ifc y a) (.ifc y b) := by
  intro g w v hv
  obtain ⟨u, rfl, hu⟩ := hv.ifc_inv
  exact .ifc y b u (h _ _ _ hu)

section
variable {m t : List Nat}
mutual
theorem norm_wk : ∀ (a : AV) {b c : AV}, VR m t a b → norm a = some c → wk b c
  | .ptr _ _, b, c, h, hn => by simp [norm] at hn
  | .yld _, b, c, h, hn => by simp [norm] at hn
  | .psl _ _ _, b, c, h, hn => by simp [norm] at hn
  | .opt _ _, b, c, h, hn => by simp [norm] at hn
  | .junk, b, c, h, hn => by simp [norm] at hn; subst hn; exact wk_junk _
  | .bool _, b, c, h, hn => by simp [norm] at hn; subst hn; rw [h.bool_inv]; exact wk_refl _
  | .int _ _, b, c, h, hn => by simp [norm] at hn; subst hn; rw [h.int_inv]; exact wk_refl _
  | .str _, b, c, h, hn => by simp [norm] at hn; subst hn; rw [h.str_inv]; exact wk_refl _
  | .nils, b, c, h, hn => by simp [norm] at hn; subst hn; cases h; exact wk_refl _
  | .nilp, b, c, h, hn => by simp [norm] at hn; subst hn; cases h; exact wk_refl _
  | .nili, b, c, h, hn => by simp [norm] at hn; subst hn; cases h; exact wk_refl _
  | .nilf, b, c, h, hn => by simp [norm] at hn; subst hn; cases h; exact wk_refl _
  | .ifc y v, b, c, h, hn => by
    simp only [norm] at hn
    cases hv : norm v with
    | none => simp [hv] at hn
    | some u =>
      simp only [hv, Option.some.injEq] at hn; subst hn
      cases h with
      | ifc _ _ u' h => exact wk_ifc (norm_wk v h hv)
  | .sl f n cs, b, c, h, hn => by
    simp only [norm] at hn
    cases hv : normL cs with
    | none => simp [hv] at hn
    | some us =>
      simp only [hv, Option.some.injEq] at hn; subst hn
      cases h with
      | sl _ _ _ ds h1 h2 => exact wk_sl (normL_wk cs ⟨h1, h2⟩ hv)
  | .tsl i n cs, b, c, h, hn => by
    simp only [norm] at hn
    cases hv : normL cs with
    | none => simp [hv] at hn
    | some us =>
      simp only [hv, Option.some.injEq] at hn; subst hn
      cases h with
      | tsl _ τ _ _ ds h0 h1 h2 => exact wk_trans (wk_tsl _ _ _) (wk_sl (normL_wk cs ⟨h1, h2⟩ hv))
  | .agg cs, b, c, h, hn => by
    simp only [norm] at hn
    cases hv : normL cs with
    | none => simp [hv] at hn
    | some us =>
      simp only [hv, Option.some.injEq] at hn; subst hn
      cases h with
      | agg _ ds h1 h2 => exact wk_agg (normL_wk cs ⟨h1, h2⟩ hv)
  | .tup cs, b, c, h, hn => by
    simp only [norm] at hn
    cases hv : normL cs with
    | none => simp [hv] at hn
    | some us =>
      simp only [hv, Option.some.injEq] at hn; subst hn
      cases h with
      | tup _ ds h1 h2 => exact wk_tup (normL_wk cs ⟨h1, h2⟩ hv)
  | .el cs, b, c, h, hn => by
    simp only [norm] at hn
    cases hv : normL cs with
    | none => simp [hv] at hn
    | some us =>
      simp only [hv, Option.some.injEq] at hn; subst hn
      cases h with
      | el _ ds h1 h2 => exact wk_el (normL_wk cs ⟨h1, h2⟩ hv)
  | .fn f cs, b, c, h, hn => by
    simp only [norm] at hn
    cases hv : normL cs with
    | none => simp [hv] at hn
    | some us =>
      simp only [hv, Option.some.injEq] at hn; subst hn
      cases h with
      | fn _ _ ds h1 h2 => exact wk_fn (normL_wk cs ⟨h1, h2⟩ hv)
theorem normL_wk : ∀ (as : List AV) {bs cs : List AV}, VRL m t as bs → normL as = some cs → wkL bs cs
  | [], bs, cs, h, hn => by simp [normL] at hn; subst hn; rw [h.nil_inv]; exact .nil
  | a :: as, bs, cs, h, hn => by
    obtain ⟨b, bs, rfl, h1, h2⟩ := h.cons_inv
    simp only [normL] at hn
    cases hv : norm a with
    | none => simp [hv] at hn
    | some u =>
      cases hl : normL as with
      | none => simp [hv, hl] at hn
      | some us =>
        simp only [hv, hl, Option.some.injEq] at hn
        subst hn
        exact .cons (norm_wk a h1 hv) (normL_wk as h2 hl)
end
end

theorem AC.weaken {P : Program} {f : Nat} {as : List AV} {σ : St} {R R' : AV → St → Prop} (h : AC P f as σ R) (hr : ∀ r s, R r s → ∃ r' s', Go.Abs.wk r r' ∧ St.le s' s ∧ R' r' s') : AC P f as σ R' := by
  have hcp : ∀ g w e w', CP g w R e w' → CP g w R' e w' := by
    rintro g w e w' ⟨v, r, σ', g', h1, h2, h3, h4, h5⟩
    obtain ⟨r', s', k1, k2, k3⟩ := hr _ _ h2
    exact ⟨v, r', s', g', h1, k3, h3.le k2, h4, k1 _ _ _ h5⟩
  intro g w vs hI hv
  rcases h g w vs hI hv with ⟨h1, h2⟩ | ⟨v, w', h1, h2⟩
  · exact .inl ⟨h1, h2.mono fun e w' => hcp g w e w'⟩
  · exact .inr ⟨v, w', h1, hcp _ _ _ _ h2⟩

abbrev Call := Nat → List AV → ES → Option (AV × ES)

def CallOk (P : Program) (gl : List (Nat × List AV)) (call : Call) : Prop :=
  ∀ f as es v es' σb m t σ as', call f as es = some (v, es') → RS σb gl m t es σ → VRL m t as as' →
    AC P f as' σ (fun v' σ' => ∃ m' t', Sub m m' ∧ Sub t t' ∧ VR m' t' v v' ∧ RS σb gl m' t' es' σ')

def evE (gl : List (Nat × List AV)) (fr : Fr) : Od → AV
  | .t t => slot t fr
  | .c v => bif cl v then v else .junk
  | .g k => match look k gl with
    | some cs => .el cs
    | none => .junk
  | .f f => .fn f []

def FR (m t : List Nat) (fr fr' : Fr) : Prop := ∀ k, VR m t (slot k fr) (slot k fr')

def nilE (kind : Nat) (v : AV) : Option Bool :=
  match kind, v with
  | 0, .nils => some true
  | 0, .sl _ (n + 1) _ => some false
  | 0, .tsl _ (n + 1) _ => some false
  | 1, .nilp => some true
  | 1, .ptr _ _ => some false
  | 1, .el _ => some false
  | 2, .nilf => some true
  | 2, .fn _ _ => some false
  | 3, .nili => some true
  | 3, .ifc _ _ => some false
  | _, _ => none
def freshE : AV → Option (Nat × List AV)
  | .nils => some (0, [])
  | .sl true n cs => some (n, cs)
  | _ => none
def okApp (n s k by_ : Nat) (cs ds : List AV) : Bool := Nat.beq cs.length (n * s) && Nat.beq ds.length (k * s) && Nat.ble (n + k) 1000000 && Nat.ble ((n + k) * by_) 140737488355328

/-- The quiet ones. -/
def eQ (ρ : Od → AV) (es : ES) : CO → Option AV
  | .ld sz p => match ρ p with
    | .ptr i o => match look i es.bx with
      | some cs => lds cs o sz
      | none => none
    | .el cs => lds cs 0 sz
    | _ => none
  | op => qE ρ op

def eOp (call : Call) (ρ : Od → AV) (es : ES) : CO → Option (AV × ES)
  | .isnil kind neg x => match nilE kind (ρ x) with
    | some b => some (.bool (bif neg then !b else b), es)
    | none => none
  | .alloc cells => bif clL cells then some (.ptr es.nb 0, es.newB cells) else none
  | .box n x => bif (ρ x).fits && Nat.beq (ρ x).cells.length n then some (.ptr es.nb 0, es.newB (ρ x).cells) else none
  | .st n p x => match ρ p with
    | .ptr i off => match look i es.bx with
      | some cs => bif (ρ x).fits && Nat.beq (ρ x).cells.length n && Nat.ble (off + n) cs.length then some (.junk, es.setB i (cs.take off ++ (ρ x).cells ++ cs.drop (off + n))) else none
      | none => none
    | _ => none
  | .call f args => call f (args.map ρ) es
  | .callv x args => match ρ x with
    | .fn f cap => call f (args.map ρ ++ cap) es
    | _ => none
  | .app tp e s b x y => match slv (ρ y) with
    | some (k, ds) => match ρ x with
      | .tsl i n cs => match look i es.tp with
        | some (e', s', n') => bif Nat.beq e' e && Nat.beq s' s && Nat.beq n' n && okApp n s k b cs ds then some (.tsl i (n + k) (cs ++ ds), es.setT i (e, s, n + k)) else none
        | none => none
      | a => match freshE a with
        | some (n, cs) => bif okApp n s k b cs ds then (bif tp then some (.tsl es.nt (n + k) (cs ++ ds), es.newT (e, s, n + k)) else some (.sl false (n + k) (cs ++ ds), es)) else none
        | none => none
    | none => none
  | op => match eQ ρ es op with
    | some v => some (v, es)
    | none => none

section
variable {P : Program} {σb σ : St} {gl : List (Nat × List AV)} {m t : List Nat} {es es' : ES} {ρe ρ : Od → AV} {v : AV}

theorem nilE_inv {kind : Nat} {a u : AV} {b : Bool} (h : VR m t a u) (hn : nilE kind a = some b) : nilOk kind u = true ∧ ∀ b', nilP kind u b' → b' = b := by
  unfold nilE at hn
  split at hn <;> first | (cases hn; done) | (cases hn; cases h; simp_all [nilOk, nilP])
theorem freshE_inv {a u : AV} {n : Nat} {cs : List AV} (h : VR m t a u) (hf : freshE a = some (n, cs)) : fresh u ∧ ∃ ds, slv u = some (n, ds) ∧ VRL m t cs ds ∧ ∀ τ k xs, u ≠ .tsl τ k xs := by
  unfold freshE at hf
  split at hf
  · cases hf; cases h; exact ⟨trivial, [], rfl, .nil, by simp⟩
  · cases hf
    cases h with
    | sl _ _ _ ds h1 h2 => exact ⟨trivial, ds, rfl, ⟨h1, h2⟩, by simp⟩
  · cases hf
theorem okApp_inv {n s k b : Nat} {cs ds cs' ds' : List AV} (h : okApp n s k b cs ds = true) (h1 : VRL m t cs cs') (h2 : VRL m t ds ds') : cs'.length = n * s ∧ ds'.length = k * s ∧ n + k ≤ maxLen ∧ (n + k) * b ≤ 140737488355328 := by
  unfold okApp at h
  simp only [Bool.and_eq_true] at h
  obtain ⟨⟨⟨a1, a2⟩, a3⟩, a4⟩ := h
  have a3 := Nat.le_of_ble_eq_true a3
  refine ⟨by rw [h1.1]; exact Nat.eq_of_beq_eq_true a1, by rw [h2.1]; exact Nat.eq_of_beq_eq_true a2, by unfold maxLen; omega, Nat.le_of_ble_eq_true a4⟩

theorem eQ_sound {op : CO} (hR : RS σb gl m t es σ) (hρ : ∀ y ∈ op.ods, VR m t (ρe y) (ρ y)) (h : eQ ρe es op = some v) : ps σ ρ op ∧ VR m t v (pf σ ρ op) := by
  by_cases hl : ∃ sz p, op = .ld sz p
  · obtain ⟨sz, p, rfl⟩ := hl
    have hp := hρ p (by simp [CO.ods])
    simp only [eQ] at h
    split at h
    · rename_i i o e
      rw [e] at hp
      obtain ⟨β, e2, hm⟩ := hp.ptr_inv
      split at h
      · rename_i cs hb
        obtain ⟨β', ds, k1, k2, k3⟩ := hR.bx _ _ hb
        rw [hm] at k1; cases k1
        simp only [ps, pf, e2, pcells, k2, Option.map_some]
        exact lds_inv k3 h
      · cases h
    · rename_i cs e
      rw [e] at hp
      obtain ⟨ds, e2, hd⟩ := hp.el_inv
      simp only [ps, pf, e2, pcells]
      exact lds_inv hd h
    · cases h
  · have : eQ ρe es op = qE ρe op := by
      cases op <;> first | rfl | exact (hl ⟨_, _, rfl⟩).elim
    rw [this] at h
    exact qE_sound hρ h

theorem eQ_aOp {op : CO} {K : AV → St → Prop} (hq : qE ρe op ≠ none ∨ ∃ sz p, op = .ld sz p) (hp : ps σ ρ op) (hK : K (pf σ ρ op) σ) : aOp P ρ σ K op := by
  cases op <;> first | exact ⟨hp, hK⟩ | (rcases hq with hq | ⟨_, _, hq⟩ <;> first | (exact (hq rfl).elim) | (cases hq))

theorem vrl_map {args : List Od} (hρ : ∀ y ∈ args, VR m t (ρe y) (ρ y)) : VRL m t (args.map ρe) (args.map ρ) := by
  refine ⟨by simp, fun i c d hc hd => ?_⟩
  simp only [List.getElem?_map, Option.map_eq_some_iff] at hc hd
  obtain ⟨y, h1, rfl⟩ := hc
  obtain ⟨y', h2, rfl⟩ := hd
  rw [h1] at h2; cases h2
  exact hρ y (List.mem_of_getElem? h1)

theorem eOp_sound {call : Call} (hc : CallOk P gl call) {op : CO} (hR : RS σb gl m t es σ) (hρ : ∀ y ∈ op.ods, VR m t (ρe y) (ρ y)) (h : eOp call ρe es op = some (v, es')) {K : AV → St → Prop}
    (hK : ∀ m' t' v' σ', Sub m m' → Sub t t' → VR m' t' v v' → RS σb gl m' t' es' σ' → K v' σ') : aOp P ρ σ K op := by
  have quiet : (match eQ ρe es op with | some v => some (v, es) | none => none) = some (v, es') → (qE ρe op ≠ none ∨ ∃ sz p, op = .ld sz p) → aOp P ρ σ K op := by
    intro h hq
    split at h
    · rename_i u hu
      cases h
      obtain ⟨h1, h2⟩ := eQ_sound hR hρ hu
      exact eQ_aOp hq h1 (hK m t _ _ (.refl _) (.refl _) h2 hR)
    · cases h
  have q2 : (match eQ ρe es op with | some v => some (v, es) | none => none) = some (v, es') → eQ ρe es op = qE ρe op → aOp P ρ σ K op := by
    intro h e
    refine quiet h (.inl fun hn => ?_)
    rw [e, hn] at h
    cases h
  cases op <;> simp only [eOp] at h <;> try (exact q2 h rfl)
  case isnil kind neg x =>
    have hx := hρ x (by simp [CO.ods])
    split at h
    · rename_i b hb
      cases h
      obtain ⟨h1, h2⟩ := nilE_inv hx hb
      refine ⟨h1, fun b' hb' => ?_⟩
      rw [h2 b' hb']
      exact hK m t _ _ (.refl _) (.refl _) (.bool _) hR
    · cases h
  case alloc cells =>
    cases hb : clL cells with
    | false => rw [hb] at h; cases h
    | true =>
      rw [hb] at h
      simp only [cond_true, Option.some.injEq, Prod.mk.injEq] at h
      obtain ⟨rfl, rfl⟩ := h
      intro β hβ
      exact hK _ _ _ _ (.app _ β) (.refl _) (.ptr _ _ _ (by rw [← hR.nb]; simp)) (hR.newB hβ (clL_vr _ hb))
  case box n x =>
    have hx := hρ x (by simp [CO.ods])
    cases hb : (ρe x).fits && Nat.beq (ρe x).cells.length n with
    | false => rw [hb] at h; cases h
    | true =>
      rw [hb] at h
      simp only [cond_true, Option.some.injEq, Prod.mk.injEq] at h
      obtain ⟨rfl, rfl⟩ := h
      simp only [Bool.and_eq_true] at hb
      have hcs := hx.cells hb.1
      refine ⟨hx.fits hb.1, by rw [hcs.1]; exact Nat.eq_of_beq_eq_true hb.2, fun β hβ => ?_⟩
      exact hK _ _ _ _ (.app _ β) (.refl _) (.ptr _ _ _ (by rw [← hR.nb]; simp)) (hR.newB hβ hcs)
  case st n p x =>
    have hp := hρ p (by simp [CO.ods])
    have hx := hρ x (by simp [CO.ods])
    split at h
    · rename_i i off e
      rw [e] at hp
      obtain ⟨β, e2, hm⟩ := hp.ptr_inv
      split at h
      · rename_i cs hl
        obtain ⟨β', ds, k1, k2, k3⟩ := hR.bx _ _ hl
        rw [hm] at k1; cases k1
        cases hb : (ρe x).fits && Nat.beq (ρe x).cells.length n && Nat.ble (off + n) cs.length with
        | false => rw [hb] at h; cases h
        | true =>
          rw [hb] at h
          simp only [cond_true, Option.some.injEq, Prod.mk.injEq] at h
          obtain ⟨rfl, rfl⟩ := h
          simp only [Bool.and_eq_true] at hb
          have hcs := hx.cells hb.1.1
          simp only [aOp, e2, k2]
          refine ⟨hx.fits hb.1.1, by rw [hcs.1]; exact Nat.eq_of_beq_eq_true hb.1.2, by rw [k3.1]; exact Nat.le_of_ble_eq_true hb.2, ?_⟩
          exact hK _ _ _ _ (.refl _) (.refl _) (.junk _) (hR.setB hm (((k3.take off).append hcs).append (k3.drop _)))
      · cases h
    · cases h
  case call f args =>
    refine AC.mono (hc _ _ _ _ _ σb m t σ _ h hR (vrl_map fun y hy => hρ y (by simpa [CO.ods] using hy))) ?_
    rintro r s ⟨m', t', h1, h2, h3, h4⟩
    exact hK _ _ _ _ h1 h2 h3 h4
  case callv x args =>
    have hx := hρ x (by simp [CO.ods])
    split at h
    · rename_i f cap e
      rw [e] at hx
      obtain ⟨ds, e2, hd⟩ := hx.fn_inv
      simp only [aOp, e2]
      refine AC.mono (hc _ _ _ _ _ σb m t σ _ h hR ((vrl_map fun y hy => hρ y (by simp [CO.ods, hy])).append hd)) ?_
      rintro r s ⟨m', t', h1, h2, h3, h4⟩
      exact hK _ _ _ _ h1 h2 h3 h4
    · cases h
  case app tp e s b x y =>
    have hx := hρ x (by simp [CO.ods])
    have hy := hρ y (by simp [CO.ods])
    split at h
    · rename_i k ds ey
      obtain ⟨ds', ey', hd⟩ := hy.slv_inv ey
      split at h
      · rename_i i n cs ex
        rw [ex] at hx
        obtain ⟨τ, cs', ex', hτ, hcs⟩ := hx.tsl_inv
        split at h
        · rename_i e' s' n' hl
          cases hb : Nat.beq e' e && Nat.beq s' s && Nat.beq n' n && okApp n s k b cs ds with
          | false => rw [hb] at h; cases h
          | true =>
            rw [hb] at h
            simp only [cond_true, Option.some.injEq, Prod.mk.injEq] at h
            obtain ⟨rfl, rfl⟩ := h
            simp only [Bool.and_eq_true] at hb
            obtain ⟨⟨⟨b1, b2⟩, b3⟩, b4⟩ := hb
            have b1 := Nat.eq_of_beq_eq_true b1
            have b2 := Nat.eq_of_beq_eq_true b2
            have b3 := Nat.eq_of_beq_eq_true b3
            subst b1; subst b2; subst b3
            obtain ⟨τ', k1, k2⟩ := hR.tp _ _ hl
            rw [hτ] at k1; cases k1
            obtain ⟨c1, c2, c3, c4⟩ := okApp_inv b4 hcs hd
            simp only [aOp, ex', ey']
            refine ⟨k2, c1, c2, c3, c4, ?_⟩
            have happ := hcs.append hd
            exact hK _ _ _ _ (.refl _) (.refl _) (.tsl _ _ _ _ _ hτ happ.1 happ.2) (hR.setT hτ _)
        · cases h
      · rename_i a hne
        split at h
        · rename_i n cs hf
          obtain ⟨f1, cs', f2, f3, f4⟩ := freshE_inv hx hf
          cases hb : okApp n s k b cs ds with
          | false => rw [hb] at h; cases h
          | true =>
            rw [hb] at h
            obtain ⟨c1, c2, c3, c4⟩ := okApp_inv hb f3 hd
            have happ := f3.append hd
            have key : (bif tp then
                match slv (ρ x), slv (ρ y) with
                | some (n, cs), some (m, ds) => fresh (ρ x) ∧ cs.length = n * s ∧ ds.length = m * s ∧ n + m ≤ maxLen ∧ (n + m) * b ≤ 140737488355328 ∧ ∀ τ, σ.tip τ = none → K (.tsl τ (n + m) (cs ++ ds)) (σ.setTip τ (e, s, n + m))
                | _, _ => False
              else ps σ ρ (.app tp e s b x y) ∧ K (pf σ ρ (.app tp e s b x y)) σ) := by
              cases tp with
              | true =>
                simp only [cond_true, Option.some.injEq, Prod.mk.injEq] at h ⊢
                obtain ⟨rfl, rfl⟩ := h
                simp only [f2, ey']
                refine ⟨f1, c1, c2, c3, c4, fun τ hτ => ?_⟩
                have h2 := hR.newT hτ (e, s, n + k)
                have h3 := VRL.mono (.refl m) (.app t τ) happ
                exact hK _ _ _ _ (.refl _) (.app _ τ) (.tsl _ τ _ _ _ (by rw [← hR.nt]; simp) h3.1 h3.2) h2
              | false =>
                simp only [cond_true, cond_false, Option.some.injEq, Prod.mk.injEq] at h ⊢
                obtain ⟨rfl, rfl⟩ := h
                simp only [ps, pf, f2, ey']
                exact ⟨⟨f1, c1, c2, c3, c4⟩, hK _ _ _ _ (.refl _) (.refl _) (.sl _ _ _ _ happ.1 happ.2) hR⟩
            cases hu : ρ x with
            | tsl τ k' xs => exact (f4 _ _ _ hu).elim
            | _ => simp only [aOp, hu]; rw [hu] at key; exact key
        · cases h
    · cases h
  case ld sz p => exact quiet h (.inr ⟨_, _, rfl⟩)
end
end Go.Abs
