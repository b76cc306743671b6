/-
  Calls, boxes, stores, tips: what an operation does to the abstract state, and that it is so.
-/
import Derived.Test.YtnmlhilckjmhnaaDoorAbs6
import Derived.RangeFuncRecord
import Derived.RangeFuncSeq
import Derived.RangeFuncCalls
import Derived.OwnWalkIn
namespace Go.Abs

/-- What a call comes to. -/
def CP (g : Gh) (w : World) (R : AV → St → Prop) : Ending → World → Prop := fun e w' =>
  ∃ v r σ' g', e = .returned v ∧ R r σ' ∧ Inv g' σ' w' ∧ Ext g w g' w' ∧ Rel g' w' r v

/-- THE CONTRACT: called with whatever values these abstract ones stand for, in whatever world this state stands for. -/
def AC (P : Program) (f : Nat) (as : List AV) (σ : St) (R : AV → St → Prop) : Prop :=
  ∀ g w (vs : List Value), Inv g σ w → RelL g w as vs →
    ((callFunc f vs.toArray).run P w = .ok (.enter f vs.toArray) w ∧ Calls P f vs.toArray w (CP g w R)) ∨
    ∃ v w', (callFunc f vs.toArray).run P w = .ok (.value v) w' ∧ CP g w R (.returned v) w'

theorem AC.mono {P : Program} {f : Nat} {as : List AV} {σ : St} {R R' : AV → St → Prop} (h : AC P f as σ R) (hr : ∀ r s, R r s → R' r s) : AC P f as σ R' := by
  have hcp : ∀ g w e w', CP g w R e w' → CP g w R' e w' := fun g w e w' ⟨v, r, σ', g', h1, h2, h3⟩ => ⟨v, r, σ', g', h1, hr _ _ h2, h3⟩
  intro g w vs hI hv
  rcases h g w vs hI hv with ⟨h1, h2⟩ | ⟨v, w', h1, h2⟩
  · exact .inl ⟨h1, h2.mono fun e w' => hcp g w e w'⟩
  · exact .inr ⟨v, w', h1, hcp _ _ _ _ h2⟩

/-- The contract of a call of yield. -/
def YC (P : Program) (l : Nat) (as : List AV) (σ : St) (R : AV → St → Prop) : Prop :=
  ∀ g w (vs : List Value), Inv g σ w → RelL g w as vs → YieldAt Fence.wide 0 P l vs.toArray w (CP g w R)
theorem CP.mono {g : Gh} {w : World} {R R' : AV → St → Prop} (hr : ∀ r s, R r s → R' r s) {e : Ending} {w' : World} (h : CP g w R e w') : CP g w R' e w' :=
  let ⟨v, r, σ', g', h1, h2, h3⟩ := h; ⟨v, r, σ', g', h1, hr _ _ h2, h3⟩
theorem YC.mono {P : Program} {l : Nat} {as : List AV} {σ : St} {R R' : AV → St → Prop} (h : YC P l as σ R) (hr : ∀ r s, R r s → R' r s) : YC P l as σ R' := fun g w vs hI hv => by
  obtain ⟨fn, tmps, assign, body, h1, h2⟩ := h g w vs hI hv
  exact ⟨fn, tmps, assign, body, h1, h2.mono fun e w' hc => hc.mono hr⟩

def St.setBox (σ : St) (β : Nat) (cs : List AV) : St := { σ with box := upd σ.box β cs }
def St.setTip (σ : St) (τ : Nat) (x : Nat × Nat × Nat) : St := { σ with tip := upd σ.tip τ x }

/-- May the value be nil ('b')? By the kind: 0 a slice, 1 a pointer, 2 a function, 3 an interface. -/
def nilP (kind : Nat) (a : AV) (b : Bool) : Prop :=
  match kind, a with
  | 0, .nils => b = true
  | 0, .sl _ n _ => n ≠ 0 → b = false
  | 0, .tsl _ n _ => n ≠ 0 → b = false
  | 1, .nilp => b = true
  | 1, .ptr _ _ => b = false
  | 1, .el _ => b = false
  | 2, .nilf => b = true
  | 2, .fn _ _ => b = false
  | 3, .nili => b = true
  | 3, .ifc _ _ => b = false
  | _, _ => False
def nilOk (kind : Nat) (a : AV) : Bool :=
  match kind, a with
  | 0, .nils | 0, .sl _ _ _ | 0, .tsl _ _ _ | 1, .nilp | 1, .ptr _ _ | 1, .el _ | 2, .nilf | 2, .fn _ _ | 3, .nili | 3, .ifc _ _ => true
  | _, _ => false

def aOp (P : Program) (ρ : Od → AV) (σ : St) (K : AV → St → Prop) : CO → Prop
  | .isnil kind neg x => nilOk kind (ρ x) = true ∧ ∀ b, nilP kind (ρ x) b → K (.bool (bif neg then !b else b)) σ
  | .alloc cells => ∀ β, σ.box β = none → K (.ptr β 0) (σ.setBox β cells)
  | .mkP _ bytes z x => isIntA (ρ x) ∧ 0 ≤ intOfA (ρ x) ∧ intOfA (ρ x) ≤ 9223372036854775807 ∧ (intOfA (ρ x)).toNat * bytes ≤ 140737488355328 ∧ ∀ β, σ.box β = none → K (.psl β 0 (intOfA (ρ x)).toNat) (σ.setBox β (List.replicate (intOfA (ρ x)).toNat z).flatten)
  | .box n x => (ρ x).fits = true ∧ (ρ x).cells.length = n ∧ ∀ β, σ.box β = none → K (.ptr β 0) (σ.setBox β (ρ x).cells)
  | .st n p x => match ρ p with
    | .ptr β off => match σ.box β with
      | some cs => (ρ x).fits = true ∧ (ρ x).cells.length = n ∧ off + n ≤ cs.length ∧ K .junk (σ.setBox β (cs.take off ++ (ρ x).cells ++ cs.drop (off + n)))
      | none => False
    | _ => False
  | .call f args => AC P f (args.map ρ) σ K
  | .callv x args => match ρ x with
    | .fn f cap => AC P f (args.map ρ ++ cap) σ K
    | .yld l => YC P l (args.map ρ) σ K
    | _ => False
  | .app tp e es bytes x y => match ρ x with
    | .tsl τ n cs => match slv (ρ y) with
      | some (m, ds) => σ.tip τ = some (e, es, n) ∧ cs.length = n * es ∧ ds.length = m * es ∧ n + m ≤ maxLen ∧ (n + m) * bytes ≤ 140737488355328 ∧ K (.tsl τ (n + m) (cs ++ ds)) (σ.setTip τ (e, es, n + m))
      | none => False
    | a => bif tp then
        match slv a, slv (ρ y) with
        | some (n, cs), some (m, ds) => fresh a ∧ cs.length = n * es ∧ ds.length = m * es ∧ n + m ≤ maxLen ∧ (n + m) * bytes ≤ 140737488355328 ∧ ∀ τ, σ.tip τ = none → K (.tsl τ (n + m) (cs ++ ds)) (σ.setTip τ (e, es, n + m))
        | _, _ => False
      else ps σ ρ (.app tp e es bytes x y) ∧ K (pf σ ρ (.app tp e es bytes x y)) σ
  | co => ps σ ρ co ∧ K (pf σ ρ co) σ

def nilConst : Operand → Nat → Bool
  | .const (.slice none 0 0), 0 => true
  | .const (.pointer none), 1 => true
  | .const .nilFunc, 2 => true
  | .const .nilIface, 3 => true
  | _, _ => false
def nilT (P : Program) (t : TypeId) (kind : Nat) : Bool :=
  match P.underlying t, kind with
  | some (.slice _), 0 | some (.pointer _), 1 | some (.func ..), 2 | some (.interface _), 3 => true
  | _, _ => false

/-- The link, effects too. -/
def lk2 (P : Program) (op : Op) : CO → Bool
  | .isnil kind neg x => match op with
    | .binOp b t x' y' _ => b == (if neg then .neq else .eql) && nilT P t kind && odB x' x && nilConst y' kind
    | _ => false
  | .alloc cells => match op with
    | .alloc t => (match P.info? t with
      | some i => match i.zero with
        | some z => cBL z.cells.toList cells
        | none => false
      | none => false)
    | _ => false
  | .mkP es bytes z y => match op with
    | .makeSlice t x x' => odB x y && odB x' y && (match P.underlying t with
      | some (.slice e) => match P.info? e with
        | some i => i.size == es && i.bytes == bytes && z.length == es && (match i.zero with
          | some zv => cBL zv.cells.toList z
          | none => false)
        | none => false
      | _ => false)
    | _ => false
  | .box _ y => match op with
    | .box _ x => odB x y
    | _ => false
  | .st n p x => match op with
    | .store t p' x' => (match P.info? t with | some i => i.size == n | none => false) && odB p' p && odB x' x
    | _ => false
  | .call f args => match op with
    | .call ⟨.value (.func f'), ⟨as⟩, _⟩ => f' == f && odBL as args
    | _ => false
  | .callv x args => match op with
    | .call ⟨.value x', ⟨as⟩, _⟩ => odB x' x && odBL as args
    | _ => false
  | co => lkB P op co

section
variable {P : Program} {g : Gh} {σ : St} {w : World} {a : Act} {o : Oper} {ρ : Od → AV}

theorem fresh_box (hI : Inv g σ w) : σ.box g.nb = none := by
  cases h : σ.box g.nb with
  | none => rfl
  | some cs =>
    obtain ⟨b, _, _, h1, _⟩ := hI.box _ _ h
    rw [hI.boxfresh _ (Nat.le_refl _)] at h1
    cases h1

def Gh.newBox (g : Gh) (w : World) : Gh :=
  { g with box := fun β => if β = g.nb then some w.heap.size else g.box β, cl := fun b => if b = w.heap.size then some 0 else g.cl b, nb := g.nb + 1 }

theorem Ext.newBox (hI : Inv g σ w) (ob : Obj) : Ext g w (g.newBox w) (w.alloc ob) := by
  refine ⟨rfl, rfl, rfl, by simp, fun β b hb => ?_, fun β hβ => ?_, Nat.le_succ _, Nat.le_refl _, fun _ _ _ h => h, fun b hb hc => ⟨?_, RowKit.Below.heap_alloc w _ b hb⟩, fun b F' hb hc => ⟨F', ?_, Nat.le_refl _, fun i _ => World.cell?_alloc_lt w _ _ hb⟩, fun _ _ h => h⟩
  · simp only [Gh.newBox]
    rw [if_neg]
    · exact hb
    · rintro rfl; rw [hI.boxfresh _ (Nat.le_refl _)] at hb; cases hb
  · simp only [Gh.newBox, if_neg (Nat.ne_of_lt hβ)]
  · simp only [Gh.newBox, if_neg (Nat.ne_of_lt hb)]; exact hc
  · simp only [Gh.newBox, if_neg (Nat.ne_of_lt hb)]; exact hc

theorem Inv.newBox (hI : Inv g σ w) {cs : List AV} {vs : Array Value} {T : TypeId} (hr : RelC g w cs vs.toList) : Inv (g.newBox w) (σ.setBox g.nb cs) (w.alloc (.cells vs T)) := by
  have he := Ext.newBox hI (.cells vs T)
  refine ⟨fun β cs' hb => ?_, fun β b hb => ?_, fun β β' b h1 h2 => ?_, fun β hβ => ?_, fun τ e s n ht => ?_, hI.tipinj, hI.tipfresh, fun k cs hk => (hI.glob k cs hk).mono he, fun l r hl => ?_⟩
  · simp only [St.setBox, upd] at hb
    by_cases hβ : β = g.nb
    · subst hβ
      simp at hb; subst hb
      exact ⟨w.heap.size, vs, T, by simp [Gh.newBox], heap_alloc_new w _, hr.mono he⟩
    · rw [if_neg hβ] at hb
      obtain ⟨b, us, T', h1, h2, h3⟩ := hI.box β cs' hb
      exact ⟨b, us, T', by simp only [Gh.newBox, if_neg hβ]; exact h1, by rw [RowKit.Below.heap_alloc w _ b (hI.boxcl β b h1).1]; exact h2, h3.mono he⟩
  · simp only [Gh.newBox] at hb ⊢
    by_cases hβ : β = g.nb
    · rw [if_pos hβ] at hb; cases hb; exact ⟨by simp, by simp⟩
    · rw [if_neg hβ] at hb
      obtain ⟨h1, h2⟩ := hI.boxcl β b hb
      exact ⟨by simp; omega, by rw [if_neg (Nat.ne_of_lt h1)]; exact h2⟩
  · simp only [Gh.newBox] at h1 h2
    by_cases hβ : β = g.nb <;> by_cases hβ' : β' = g.nb
    · rw [hβ, hβ']
    · rw [if_pos hβ] at h1; rw [if_neg hβ'] at h2; cases h1; have := (hI.boxcl β' _ h2).1; omega
    · rw [if_neg hβ] at h1; rw [if_pos hβ'] at h2; cases h2; have := (hI.boxcl β _ h1).1; omega
    · rw [if_neg hβ] at h1; rw [if_neg hβ'] at h2; exact hI.boxinj _ _ _ h1 h2
  · simp only [Gh.newBox] at hβ ⊢
    rw [if_neg (by omega)]
    exact hI.boxfresh β (by omega)
  · obtain ⟨v, h1, h2, h4⟩ := hI.tip τ e s n ht
    refine ⟨v, h1, fun hs => ?_, h4⟩
    obtain ⟨xs, h2, h3⟩ := h2 hs
    refine ⟨xs, h2.alloc _, fun b hb => ?_⟩
    have hlt := (h2.lt b hb).2
    obtain ⟨h5, h6⟩ := h3 b hb
    refine ⟨by simp only [Gh.newBox, if_neg (Nat.ne_of_lt hlt)]; exact h5, fun β => ?_⟩
    simp only [Gh.newBox]
    split
    · intro e'; cases e'; omega
    · exact h6 β
  · obtain ⟨h1, h2, h3⟩ := hI.lp l r hl
    have hlt := (Array.getElem?_eq_some_iff.1 h1).1
    exact ⟨by rw [RowKit.Below.heap_alloc w _ l hlt]; exact h1, by simp only [Gh.newBox, if_neg (Nat.ne_of_lt hlt)]; exact h2, fun t => (h3 t).mono he⟩

/-- A store into a box. -/
theorem store_sound (hI : Inv g σ w) {β : Nat} {cs : List AV} {off : Nat} {us : List Value} {cs' : List AV} {b : Nat} (hb : σ.box β = some cs) (hg : g.box β = some b) (hr : RelC g w cs' us) (hle : off + us.length ≤ cs.length) :
    ∃ w', (storeCells ⟨b, off, none⟩ us).run P w = .ok () w' ∧ Inv g (σ.setBox β (cs.take off ++ cs' ++ cs.drop (off + us.length))) w' ∧ Ext g w g w' := by
  obtain ⟨b', vs, T, h1, h2, h3⟩ := hI.box β cs hb
  rw [hg] at h1; cases h1
  have hsz : vs.size = cs.length := by have := h3.1.1; simpa using this
  have hrun := run_storeCells_at P b off T us 0 vs w h2 (by simp; omega) hr.2
  simp only [Nat.add_zero] at hrun
  refine ⟨_, hrun, ?_⟩
  have hblt := (hI.boxcl β b hg).1
  have hcl := (hI.boxcl β b hg).2
  have hother : ∀ k, k ≠ b → (w.setRow b (vs.toList.take off ++ us ++ vs.toList.drop (off + us.length)).toArray).heap[k]? = w.heap[k]? := fun k hk => setRow_other w b k _ hk
  have he : Ext g w g (w.setRow b (vs.toList.take off ++ us ++ vs.toList.drop (off + us.length)).toArray) := by
    refine ⟨rfl, rfl, rfl, by simp, fun _ _ h => h, fun _ _ => rfl, Nat.le_refl _, Nat.le_refl _, fun _ _ _ h => h, fun k hk hc => ⟨hc, hother k ?_⟩, fun k F hk hc => ⟨F, hc, Nat.le_refl _, fun i hi => ?_⟩, fun _ _ h => h⟩
    · rintro rfl; rw [hcl] at hc; cases hc
    · by_cases hkb : k = b
      · subst hkb; rw [hcl] at hc; cases hc; omega
      · exact World.cell?_of_block (hother k hkb)
  refine ⟨?_, he⟩
  refine ⟨fun β' cs2 hb2 => ?_, fun β' b2 hb2 => ?_, hI.boxinj, hI.boxfresh, fun τ e s n ht => ?_, hI.tipinj, hI.tipfresh, fun k cs hk => (hI.glob k cs hk).mono he, fun l r hl => by
    obtain ⟨q1, q2, q3⟩ := hI.lp l r hl
    exact ⟨by rw [hother l (fun e => by subst e; rw [h2] at q1; cases q1)]; exact q1, q2, fun t => (q3 t).mono he⟩⟩
  · simp only [St.setBox, upd] at hb2
    by_cases hβ : β' = β
    · subst hβ
      rw [if_pos rfl] at hb2
      cases hb2
      refine ⟨b, _, T, hg, setRow_heap w b vs _ T _ h2, ?_⟩
      have hmid := ((h3.take off).append hr).append (h3.drop (off + us.length))
      exact hmid.mono he
    · rw [if_neg hβ] at hb2
      obtain ⟨b2, us2, T2, k1, k2, k3⟩ := hI.box β' cs2 hb2
      refine ⟨b2, us2, T2, k1, ?_, k3.mono he⟩
      rw [hother b2 (fun e => hβ (hI.boxinj _ _ _ (e ▸ k1) hg))]
      exact k2
  · obtain ⟨k1, k2⟩ := hI.boxcl β' b2 hb2
    exact ⟨by simpa using k1, k2⟩
  · obtain ⟨v, k1, k2, k4⟩ := hI.tip τ e s n ht
    refine ⟨v, k1, fun hs => ?_, k4⟩
    obtain ⟨xs, k2, k3⟩ := k2 hs
    refine ⟨xs, ?_, k3⟩
    refine k2.kept (row := some b) ⟨rfl, rfl, rfl, by simp, fun k _ hk => hother k (fun e => hk (by rw [e]))⟩ ?_
    right
    intro hv
    exact (k3 b hv).2 β hg

end
end Go.Abs
