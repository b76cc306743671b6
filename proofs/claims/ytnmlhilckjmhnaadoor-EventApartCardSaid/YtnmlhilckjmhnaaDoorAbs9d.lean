/-
  A region that draws its order: one run in the text's order serves every order, where a check on the edges holds.
-/
import Derived.Test.YtnmlhilckjmhnaaDoorAbs9
import Derived.Orders
namespace Go.Abs

/-- The one state knows all that the other knows. -/
def St.le (s s' : St) : Prop := (∀ β c, s.box β = some c → s'.box β = some c) ∧ (∀ τ x, s.tip τ = some x → s'.tip τ = some x) ∧ (∀ k c, s.glob k = some c → s'.glob k = some c) ∧ (∀ l r, s.lp l = some r → s'.lp l = some r)

theorem St.le_refl (s : St) : St.le s s := ⟨fun _ _ h => h, fun _ _ h => h, fun _ _ h => h, fun _ _ h => h⟩
theorem St.le_trans {a b c : St} (h : St.le a b) (k : St.le b c) : St.le a c := ⟨fun β x hx => k.1 β x (h.1 β x hx), fun τ x hx => k.2.1 τ x (h.2.1 τ x hx), fun τ x hx => k.2.2.1 τ x (h.2.2.1 τ x hx), fun τ x hx => k.2.2.2 τ x (h.2.2.2 τ x hx)⟩
theorem St.le_setBox {s s' : St} {β : Nat} {c : List AV} (h : St.le s s') (hn : s.box β = none) : St.le s (s'.setBox β c) := by
  refine ⟨fun β' x hx => ?_, h.2⟩
  simp only [St.setBox, upd]
  rw [if_neg]
  · exact h.1 _ _ hx
  · rintro rfl; rw [hn] at hx; cases hx
theorem St.le_setTip {s s' : St} {τ : Nat} {c : Nat × Nat × Nat} (h : St.le s s') (hn : s.tip τ = none) : St.le s (s'.setTip τ c) := by
  refine ⟨h.1, fun β' x hx => ?_, h.2.2⟩
  simp only [St.setTip, upd]
  rw [if_neg]
  · exact h.2.1 _ _ hx
  · rintro rfl; rw [hn] at hx; cases hx

def isLd : CO → Bool
  | .ld _ _ | .b2sP _ => true
  | _ => false

/-- One operation in the text's order. Class 0: it doesn't look at the state; 1: it only reads it; 2: it changes it; 3: it only makes a box. β: the box that it makes. -/
def dOp (P : Program) (c β : Nat) (ρ : Od → AV) (σ : St) (op : CO) (v : AV) (σ' : St) : Prop :=
  match op with
  | .alloc cells => (c = 2 ∨ c = 3) ∧ v = .ptr β 0 ∧ σ' = σ.setBox β cells
  | .box n x => c = 2 ∧ (ρ x).fits = true ∧ (ρ x).cells.length = n ∧ v = .ptr β 0 ∧ σ' = σ.setBox β (ρ x).cells
  | .st n p x => c = 2 ∧ match ρ p with
    | .ptr γ off => match σ.box γ with
      | some cs => (ρ x).fits = true ∧ (ρ x).cells.length = n ∧ off + n ≤ cs.length ∧ v = .junk ∧ σ' = σ.setBox γ (cs.take off ++ (ρ x).cells ++ cs.drop (off + n))
      | none => False
    | _ => False
  | .call f args => c = 1 ∧ σ' = σ ∧ ∀ σ2, St.le σ σ2 → AC P f (args.map ρ) σ2 (fun x s => x = v ∧ s = σ2)
  | .callv x args => c = 1 ∧ σ' = σ ∧ match ρ x with
    | .fn f cap => ∀ σ2, St.le σ σ2 → AC P f (args.map ρ ++ cap) σ2 (fun x s => x = v ∧ s = σ2)
    | _ => False
  | .isnil kind neg x => c ≤ 1 ∧ nilOk kind (ρ x) = true ∧ σ' = σ ∧ ∃ b0, (∀ b, nilP kind (ρ x) b → b = b0) ∧ v = .bool (bif neg then !b0 else b0)
  | .bad => False
  | .app tp e es bytes x y => match ρ x with
    | .tsl τ n cs => (c = 2 ∨ c = 4) ∧ match slv (ρ y) with
      | some (m, ds) => σ.tip τ = some (e, es, n) ∧ cs.length = n * es ∧ ds.length = m * es ∧ n + m ≤ maxLen ∧ (n + m) * bytes ≤ 140737488355328 ∧ v = .tsl τ (n + m) (cs ++ ds) ∧ σ' = σ.setTip τ (e, es, n + m)
      | none => False
    | a => bif Nat.beq c 4 then (tp = true ∧ match slv a, slv (ρ y) with
        | some (n, cs), some (m, ds) => fresh a ∧ cs.length = n * es ∧ ds.length = m * es ∧ n + m ≤ maxLen ∧ (n + m) * bytes ≤ 140737488355328 ∧ v = .tsl β (n + m) (cs ++ ds) ∧ σ' = σ.setTip β (e, es, n + m)
        | _, _ => False)
      else (c ≤ 1 ∧ ps σ ρ (.app tp e es bytes x y) ∧ v = pf σ ρ (.app tp e es bytes x y) ∧ σ' = σ)
  | op => (isLd op = true → c = 1) ∧ c ≤ 1 ∧ ps σ ρ op ∧ v = pf σ ρ op ∧ σ' = σ

def dStep (P : Program) (c β : Nat) (i : CI) (fr : Fr) (σ : St) (v : AV) (σ' : St) : Prop :=
  match i.gd with
  | none => dOp P c β (ev σ fr) σ i.op v σ'
  | some (t, want) => match guardC want (slot t fr) with
    | none => False
    | some b => bif i.op.quiet then
        (isLd i.op = true → c = 1) ∧ c ≤ 1 ∧ (b = true → optAll b (ev σ fr) i.op.gods ∧ ps σ (gEv i.op (ev σ fr)) i.op) ∧ v = .opt b (bif b then pf σ (gEv i.op (ev σ fr)) i.op else .junk) ∧ σ' = σ
      else match i.op with
        | .call f args => c = 1 ∧ σ' = σ ∧ ∃ v0, v = .opt b v0 ∧ (b = true → optAll b (ev σ fr) args ∧ ∀ σ2, St.le σ σ2 → AC P f (args.map (evU (ev σ fr))) σ2 (fun x s => x = v0 ∧ s = σ2))
        | _ => False

def makesBox : CO → Bool
  | .alloc _ | .box _ _ => true
  | _ => false

/-- An append that may make a tip. -/
def makesTip (c : Nat) : CO → Bool
  | .app tp _ _ _ _ _ => tp && Nat.beq c 4
  | _ => false

def aDrw (P : Program) : List CI → List Nat → Fr → St → (Fr → St → Prop) → Prop
  | [], _, fr, σ, K => K fr σ
  | i :: r, c :: cs, fr, σ, K =>
    bif makesBox i.op then ∀ β, σ.box β = none → ∃ v σ', dStep P c β i fr σ v σ' ∧ aDrw P r cs (putF i.d v fr) σ' K
    else bif makesTip c i.op then ∀ β, σ.tip β = none → ∃ v σ', dStep P c β i fr σ v σ' ∧ aDrw P r cs (putF i.d v fr) σ' K
    else ∃ v σ', dStep P c 0 i fr σ v σ' ∧ aDrw P r cs (putF i.d v fr) σ' K
  | _ :: _, [], _, _, _ => False

/-! ### The check on the edges -/
def depsOf (o : Oper) : List Nat := (o.after.toList.filter (Region.binds .any)).map (·.on)
def befs : List (List Nat) → List (List Nat) → List (List Nat)
  | acc, [] => acc
  | acc, d :: r => befs (acc ++ [d ++ d.flatMap fun k => acc.getD k []]) r
def readsOf (i : CI) : List Nat :=
  (i.op.ods.filterMap fun | .t t => some t | _ => none) ++ (match i.gd with | some (t, _) => [t] | none => [])
/-- What is owed of a pair, i before j in the text. -/
def pairB (bj : List Nat) (i : Nat) (x y : CI) (cx cy : Nat) : Bool :=
  bj.contains i ||
  ((Nat.ble cx 1 || cy == 0 || (cx == 4 && cy == 1 && isLd y.op)) && ((cy != 2 && cy != 4) || cx == 0 || (cy == 4 && cx == 1 && isLd x.op)) &&
   (match x.d with | some t => !(readsOf y).contains t && y.d != some t | none => true) &&
   (match y.d with | some t => !(readsOf x).contains t | none => true))
def pairsB (l : List CI) (cls : List Nat) (bs : List (List Nat)) : Bool :=
  (List.range l.length).all fun j => (List.range j).all fun i =>
    match l[i]?, l[j]?, cls[i]?, cls[j]?, bs[j]? with
    | some x, some y, some cx, some cy, some bj => pairB bj i x y cx cy && (x.d == none || x.d != y.d)
    | _, _, _, _, _ => false
def depsB (ds : List (List Nat)) : Bool := (List.range ds.length).all fun j => (ds.getD j []).all fun k => decide (k < j)
def drwB (ops : Array Oper) (l : List CI) (cls : List Nat) : Bool :=
  l.length == ops.size && cls.length == l.length && depsB (ops.toList.map depsOf) && pairsB l cls (befs [] (ops.toList.map depsOf)) && cls.all (fun c => Nat.ble c 4)

theorem flatMap_congr' {α β : Type} {f g : α → List β} : ∀ (l : List α), (∀ x ∈ l, f x = g x) → l.flatMap f = l.flatMap g
  | [], _ => rfl
  | x :: l, h => by rw [List.flatMap_cons, List.flatMap_cons, h x (by simp), flatMap_congr' l (fun y hy => h y (by simp [hy]))]

section
theorem befs_len : ∀ (ds acc : List (List Nat)), (befs acc ds).length = acc.length + ds.length
  | [], acc => by simp [befs]
  | d :: r, acc => by rw [befs, befs_len r]; simp; omega

theorem befs_old : ∀ (ds acc : List (List Nat)) (k : Nat), k < acc.length → (befs acc ds)[k]? = acc[k]?
  | [], acc, k, _ => rfl
  | d :: r, acc, k, h => by
    rw [befs, befs_old r _ k (by simp; omega), List.getElem?_append_left h]

theorem befs_at : ∀ (ds acc : List (List Nat)) (k : Nat) (d : List Nat), ds[k]? = some d → (∀ x ∈ d, x < acc.length + k) →
    (befs acc ds)[acc.length + k]? = some (d ++ d.flatMap fun x => (befs acc ds).getD x [])
  | [], _, _, _, h, _ => by simp at h
  | e :: r, acc, 0, d, h, hd => by
    simp at h; subst h
    rw [befs, Nat.add_zero, befs_old r _ _ (by simp)]
    rw [List.getElem?_append_right (Nat.le_refl _), Nat.sub_self]
    simp only [List.getElem?_cons_zero, Option.some.injEq, List.append_cancel_left_eq]
    refine flatMap_congr' _ (fun x hx => ?_)
    have hx' := hd x hx
    rw [List.getD_eq_getElem?_getD, List.getD_eq_getElem?_getD, befs_old r _ x (by simp; omega), List.getElem?_append_left (by omega)]
  | e :: r, acc, k + 1, d, h, hd => by
    simp at h
    have := befs_at r (acc ++ [e ++ e.flatMap fun k => acc.getD k []]) k d h (fun x hx => by have := hd x hx; simp; omega)
    simp only [List.length_append, List.length_cons, List.length_nil] at this
    rw [befs, show acc.length + (k + 1) = acc.length + (0 + 1) + k by omega]
    exact this


/-! ### What a step keeps -/
variable {P : Program} {g : Gh} {σ σ' : St} {w : World} {a : Act} {o : Oper} {fr : Fr} {c β : Nat} {i : CI} {v : AV}

theorem dOp_same {ρ : Od → AV} {op : CO} (h : dOp P c β ρ σ op v σ') (hc : c ≤ 1) : σ' = σ := by
  have b4 : Nat.beq c 4 = false := by rcases (by omega : c = 0 ∨ c = 1) with rfl | rfl <;> rfl
  unfold dOp at h
  split at h
  · exact absurd h.1 (by omega)
  · exact absurd h.1 (by omega)
  · exact absurd h.1 (by omega)
  · exact h.2.1
  · exact h.2.1
  · exact h.2.2.1
  · exact h.elim
  · split at h
    · exact absurd h.1 (by omega)
    · simp only [b4, cond_false] at h; exact h.2.2.2
  · exact h.2.2.2.2

theorem dStep_same (h : dStep P c β i fr σ v σ') (hc : c ≤ 1) : σ' = σ := by
  unfold dStep at h
  split at h
  · exact dOp_same h hc
  · split at h
    · exact h.elim
    · cases hq : i.op.quiet <;> simp only [hq, cond_true, cond_false] at h
      · split at h
        · exact h.2.1
        · exact h.elim
      · exact h.2.2.2.2

theorem dOp_keep {ρ : Od → AV} {op : CO} (h : dOp P c β ρ σ op v σ') : σ'.glob = σ.glob ∧ (∀ γ, γ ≠ β → σ.box γ = none → σ'.box γ = none) ∧ ∀ γ, γ ≠ β → σ.tip γ = none → σ'.tip γ = none := by
  by_cases hc : c ≤ 1
  · rw [dOp_same h hc]; exact ⟨rfl, fun _ _ h => h, fun _ _ h => h⟩
  · unfold dOp at h
    split at h
    · obtain ⟨_, _, rfl⟩ := h
      exact ⟨rfl, fun γ hγ hn => by simp only [St.setBox, upd, if_neg hγ]; exact hn, fun _ _ h => h⟩
    · obtain ⟨_, _, _, _, rfl⟩ := h
      exact ⟨rfl, fun γ hγ hn => by simp only [St.setBox, upd, if_neg hγ]; exact hn, fun _ _ h => h⟩
    · obtain ⟨_, h⟩ := h
      split at h
      · split at h
        · rename_i δ off cs hb
          obtain ⟨_, _, _, _, rfl⟩ := h
          refine ⟨rfl, fun γ _ hn => ?_, fun _ _ h => h⟩
          simp only [St.setBox, upd]
          rw [if_neg]
          · exact hn
          · rintro rfl; rw [hn] at hb; cases hb
        · exact h.elim
      · exact h.elim
    · rw [h.2.1]; exact ⟨rfl, fun _ _ h => h, fun _ _ h => h⟩
    · rw [h.2.1]; exact ⟨rfl, fun _ _ h => h, fun _ _ h => h⟩
    · rw [h.2.2.1]; exact ⟨rfl, fun _ _ h => h, fun _ _ h => h⟩
    · exact h.elim
    · split at h
      · obtain ⟨_, h⟩ := h
        split at h
        · obtain ⟨ht, _, _, _, _, _, rfl⟩ := h
          refine ⟨rfl, fun _ _ h => h, fun γ _ hn => ?_⟩
          simp only [St.setTip, upd]
          rw [if_neg]
          · exact hn
          · rintro rfl; rw [hn] at ht; cases ht
        · exact h.elim
      · cases hb : Nat.beq c 4 <;> simp only [hb, cond_true, cond_false] at h
        · rw [h.2.2.2]; exact ⟨rfl, fun _ _ h => h, fun _ _ h => h⟩
        · obtain ⟨_, h⟩ := h
          split at h
          · obtain ⟨_, _, _, _, _, _, rfl⟩ := h
            exact ⟨rfl, fun _ _ h => h, fun γ hγ hn => by simp only [St.setTip, upd, if_neg hγ]; exact hn⟩
          · exact h.elim
    · rw [h.2.2.2.2]; exact ⟨rfl, fun _ _ h => h, fun _ _ h => h⟩

theorem dStep_keep (h : dStep P c β i fr σ v σ') : σ'.glob = σ.glob ∧ (∀ γ, γ ≠ β → σ.box γ = none → σ'.box γ = none) ∧ ∀ γ, γ ≠ β → σ.tip γ = none → σ'.tip γ = none := by
  by_cases hc : c ≤ 1
  · rw [dStep_same h hc]; exact ⟨rfl, fun _ _ h => h, fun _ _ h => h⟩
  · unfold dStep at h
    split at h
    · exact dOp_keep h
    · split at h
      · exact h.elim
      · cases hq : i.op.quiet <;> simp only [hq, cond_true, cond_false] at h
        · split at h
          · rw [h.2.1]; exact ⟨rfl, fun _ _ h => h, fun _ _ h => h⟩
          · exact h.elim
        · rw [h.2.2.2.2]; exact ⟨rfl, fun _ _ h => h, fun _ _ h => h⟩

/-- Class 3: the state afterwards knows all that was known. -/
theorem dOp_grow {ρ : Od → AV} {op : CO} (h : dOp P c β ρ σ op v σ') (hc : c = 3) (hn : σ.box β = none) : St.le σ σ' := by
  unfold dOp at h
  split at h
  · obtain ⟨_, _, rfl⟩ := h; exact St.le_setBox (St.le_refl σ) hn
  · exact absurd h.1 (by omega)
  · exact absurd h.1 (by omega)
  · rw [h.2.1]; exact St.le_refl σ
  · rw [h.2.1]; exact St.le_refl σ
  · rw [h.2.2.1]; exact St.le_refl σ
  · exact h.elim
  · split at h
    · exact absurd h.1 (by omega)
    · subst hc; simp only [show Nat.beq 3 4 = false from rfl, cond_false] at h; rw [h.2.2.2]; exact St.le_refl σ
  · rw [h.2.2.2.2]; exact St.le_refl σ
theorem dStep_grow (h : dStep P c β i fr σ v σ') (hc : c = 3) (hn : σ.box β = none) : St.le σ σ' := by
  unfold dStep at h
  split at h
  · exact dOp_grow h hc hn
  · split at h
    · exact h.elim
    · cases hq : i.op.quiet <;> simp only [hq, cond_true, cond_false] at h
      · split at h
        · rw [h.2.1]; exact St.le_refl σ
        · exact h.elim
      · rw [h.2.2.2.2]; exact St.le_refl σ

theorem dStep_beta (hb : makesBox i.op = false) (ht : makesTip c i.op = false) (β' : Nat) (h : dStep P c β i fr σ v σ') : dStep P c β' i fr σ v σ' := by
  unfold dStep at h ⊢
  split at h
  · cases hop : i.op <;> rw [hop] at h hb ht
    case app tp e es bytes x y =>
      simp only [dOp] at h ⊢
      split at h
      · exact h
      · cases hb4 : Nat.beq c 4 <;> simp only [hb4, cond_true, cond_false] at h ⊢
        · exact h
        · obtain ⟨rfl, _⟩ := h
          simp [makesTip, hb4] at ht
    all_goals first | exact h | (simp [makesBox] at hb)
  · exact h

theorem ps_indep {ρ : Od → AV} {op : CO} (h : isLd op = false) (σ σ2 : St) : ps σ ρ op = ps σ2 ρ op ∧ pf σ ρ op = pf σ2 ρ op := by
  cases op <;> first | exact ⟨rfl, rfl⟩ | (simp [isLd] at h)

theorem ev_glob {σ σ2 : St} (h : σ2.glob = σ.glob) : ev σ2 fr = ev σ fr := by
  funext y
  cases y <;> simp [ev, h]

theorem pcells_le {σ2 : St} (hl : St.le σ σ2) {x : AV} {q : List AV × Nat} (h : pcells σ x = some q) : pcells σ2 x = some q := by
  cases x <;> simp only [pcells] at h ⊢ <;> try exact h
  all_goals (try (rename_i β off; cases hb : σ.box β with
    | none => rw [hb] at h; cases h
    | some cs => rw [hb] at h; rw [hl.1 β cs hb]; exact h))

theorem ps_le {ρ : Od → AV} {op : CO} {σ2 : St} (hl : St.le σ σ2) (h : ps σ ρ op) : ps σ2 ρ op ∧ pf σ2 ρ op = pf σ ρ op := by
  cases hi : isLd op with
  | false => have q := ps_indep (ρ := ρ) hi σ σ2; exact ⟨q.1 ▸ h, q.2.symm⟩
  | true =>
    cases op <;> simp [isLd] at hi
    · simp only [ps, pf] at h ⊢
      split at h
      · rename_i γ off n hx
        split at h
        · rename_i cs hc
          simp only [hx, hc, hl.1 _ _ hc]
          exact ⟨h, trivial⟩
        · exact h.elim
      · exact h.elim
    simp only [ps, pf] at h ⊢
    split at h
    · rename_i cs o hp
      simp only [hp, pcells_le hl hp]
      exact ⟨h, trivial⟩
    · exact h.elim

theorem dOp_up {ρ : Od → AV} {op : CO} (h : dOp P c β ρ σ op v σ') (hc : c ≤ 1) {σ2 : St} (hl : St.le σ σ2) : dOp P c β ρ σ2 op v σ2 := by
  have b4 : Nat.beq c 4 = false := by rcases (by omega : c = 0 ∨ c = 1) with rfl | rfl <;> rfl
  unfold dOp at h ⊢
  split at h
  · exact absurd h.1 (by omega)
  · exact absurd h.1 (by omega)
  · exact absurd h.1 (by omega)
  · exact ⟨h.1, rfl, fun σ3 h3 => h.2.2 σ3 (St.le_trans hl h3)⟩
  · obtain ⟨h1, _, h2⟩ := h
    refine ⟨h1, rfl, ?_⟩
    split at h2
    · rename_i f cap hx; exact fun σ3 h3 => h2 σ3 (St.le_trans hl h3)
    · exact h2.elim
  · exact ⟨h.1, h.2.1, rfl, h.2.2.2⟩
  · exact h.elim
  · split at h
    · exact absurd h.1 (by omega)
    · simp only [b4, cond_false] at h ⊢
      obtain ⟨h1, h2, h3, _⟩ := h
      have q := ps_le hl h2
      exact ⟨h1, q.1, q.2 ▸ h3, trivial⟩
  · obtain ⟨h1, h2, h3, h4, _⟩ := h
    have q := ps_le hl h3
    exact ⟨h1, h2, q.1, q.2 ▸ h4, rfl⟩

theorem dStep_up (h : dStep P c β i fr σ v σ') (hc : c ≤ 1) {σ2 : St} (hl : St.le σ σ2) (hg : σ2.glob = σ.glob) : dStep P c β i fr σ2 v σ2 := by
  unfold dStep at h ⊢
  rw [ev_glob hg]
  split at h
  · exact dOp_up h hc hl
  · rename_i t want _
    generalize guardC want (slot t fr) = gc at *
    cases gc with
    | none => exact h.elim
    | some b =>
      simp only at h ⊢
      cases hq : i.op.quiet <;> simp only [hq, cond_true, cond_false] at h ⊢
      · split at h
        · obtain ⟨h1, _, v0, h2, h3⟩ := h
          exact ⟨h1, trivial, v0, h2, fun hb => ⟨(h3 hb).1, fun σ3 k3 => (h3 hb).2 σ3 (St.le_trans hl k3)⟩⟩
        · exact h.elim
      · obtain ⟨h1, h2, h3, h4, _⟩ := h
        cases b with
        | true =>
          have q := ps_le hl (h3 rfl).2
          simp only [cond_true] at h4 ⊢
          exact ⟨h1, h2, fun _ => ⟨(h3 rfl).1, q.1⟩, q.2 ▸ h4, trivial⟩
        | false => exact ⟨h1, h2, fun hb => (by cases hb), h4, trivial⟩

/-- Class 4: only a tip is changed. -/
theorem dOp_tip {ρ : Od → AV} {op : CO} (h : dOp P c β ρ σ op v σ') (hc : c = 4) : σ'.box = σ.box := by
  unfold dOp at h
  split at h
  · exact absurd h.1 (by omega)
  · exact absurd h.1 (by omega)
  · exact absurd h.1 (by omega)
  · rw [h.2.1]
  · rw [h.2.1]
  · rw [h.2.2.1]
  · exact h.elim
  · split at h
    · obtain ⟨_, h⟩ := h
      split at h
      · obtain ⟨_, _, _, _, _, _, rfl⟩ := h; rfl
      · exact h.elim
    · subst hc
      simp only [show Nat.beq 4 4 = true from rfl, cond_true] at h
      obtain ⟨_, h⟩ := h
      split at h
      · obtain ⟨_, _, _, _, _, _, rfl⟩ := h; rfl
      · exact h.elim
  · rw [h.2.2.2.2]
theorem dStep_tip (h : dStep P c β i fr σ v σ') (hc : c = 4) : σ'.box = σ.box := by
  unfold dStep at h
  split at h
  · exact dOp_tip h hc
  · split at h
    · exact h.elim
    · cases hq : i.op.quiet <;> simp only [hq, cond_true, cond_false] at h
      · split at h
        · rw [h.2.1]
        · exact h.elim
      · rw [h.2.2.2.2]
theorem pcells_box {σ2 : St} (hl : ∀ β c, σ.box β = some c → σ2.box β = some c) {x : AV} {q : List AV × Nat} (h : pcells σ x = some q) : pcells σ2 x = some q := by
  cases x <;> simp only [pcells] at h ⊢ <;> try exact h
  all_goals (try (rename_i β off; cases hb : σ.box β with
    | none => rw [hb] at h; cases h
    | some cs => rw [hb] at h; rw [hl β cs hb]; exact h))
theorem ps_box {ρ : Od → AV} {op : CO} {σ2 : St} (hi : isLd op = true) (hl : ∀ β c, σ.box β = some c → σ2.box β = some c) (h : ps σ ρ op) : ps σ2 ρ op ∧ pf σ2 ρ op = pf σ ρ op := by
  cases op <;> simp [isLd] at hi
  · simp only [ps, pf] at h ⊢
    split at h
    · rename_i γ off n hx
      split at h
      · rename_i cs hc
        simp only [hx, hc, hl _ _ hc]
        exact ⟨h, trivial⟩
      · exact h.elim
    · exact h.elim
  simp only [ps, pf] at h ⊢
  split at h
  · rename_i cs o hp
    simp only [hp, pcells_box hl hp]
    exact ⟨h, trivial⟩
  · exact h.elim
/-- A load looks at the boxes alone. -/
theorem dStep_ld (hi : isLd i.op = true) (h : dStep P c β i fr σ v σ') {σ2 : St} (hl : ∀ β c, σ.box β = some c → σ2.box β = some c) (hg : σ2.glob = σ.glob) : dStep P c β i fr σ2 v σ2 := by
  unfold dStep at h ⊢
  rw [ev_glob hg]
  obtain ⟨d, op, gd⟩ := i
  cases op <;> simp [isLd] at hi
  all_goals cases gd with
  | none =>
    simp only [dOp] at h ⊢
    obtain ⟨h1, h2, h3, h4, _⟩ := h
    have q := ps_box (σ := σ) rfl hl h3
    exact ⟨h1, h2, q.1, q.2 ▸ h4, trivial⟩
  | some tw =>
    obtain ⟨t, want⟩ := tw
    simp only at h ⊢
    generalize guardC want (slot t fr) = gc at *
    cases gc with
    | none => exact h.elim
    | some b =>
      simp only [CO.quiet, cond_true] at h ⊢
      obtain ⟨h1, h2, h3, h4, _⟩ := h
      cases b with
      | true =>
        have q := ps_box (σ := σ) rfl hl (h3 rfl).2
        simp only [cond_true] at h4 ⊢
        exact ⟨h1, h2, fun _ => ⟨(h3 rfl).1, q.1⟩, q.2 ▸ h4, trivial⟩
      | false => exact ⟨h1, h2, fun hb => (by cases hb), h4, trivial⟩

theorem dStep_indep (h : dStep P 0 β i fr σ v σ') {σ2 : St} (hg : σ2.glob = σ.glob) : dStep P 0 β i fr σ2 v σ2 := by
  unfold dStep at h ⊢
  rw [ev_glob hg]
  split at h
  · unfold dOp at h ⊢
    split at h
    · exact absurd h.1 (by decide)
    · exact absurd h.1 (by decide)
    · exact absurd h.1 (by decide)
    · exact absurd h.1 (by decide)
    · exact absurd h.1 (by decide)
    · exact ⟨h.1, h.2.1, rfl, h.2.2.2⟩
    · exact h.elim
    · rename_i tp e es bytes x y hop
      simp only [hop]
      split at h
      · exact absurd h.1 (by decide)
      · rename_i hx
        simp only [show Nat.beq 0 4 = false from rfl, cond_false] at h ⊢
        obtain ⟨h1, h2, h3, _⟩ := h
        have q := ps_indep (ρ := ev σ fr) (op := .app tp e es bytes x y) rfl σ σ2
        exact ⟨h1, q.1 ▸ h2, q.2 ▸ h3, trivial⟩
    · obtain ⟨h1, h2, h3, h4, _⟩ := h
      have hl : isLd i.op = false := by
        cases hl : isLd i.op with
        | false => rfl
        | true => exact absurd (h1 hl) (by decide)
      have q := ps_indep (ρ := ev σ fr) hl σ σ2
      exact ⟨h1, h2, q.1 ▸ h3, q.2 ▸ h4, rfl⟩
  · split at h
    · exact h.elim
    · cases hq : i.op.quiet <;> simp only [hq, cond_true, cond_false] at h ⊢
      · split at h
        · exact absurd h.1 (by decide)
        · exact h.elim
      · obtain ⟨h1, h2, h3, h4, _⟩ := h
        have hl : isLd i.op = false := by
          cases hl : isLd i.op with
          | false => rfl
          | true => exact absurd (h1 hl) (by decide)
        have q := ps_indep (ρ := gEv i.op (ev σ fr)) hl σ σ2
        rw [q.2] at h4
        exact ⟨h1, h2, fun hb => ⟨(h3 hb).1, q.1 ▸ (h3 hb).2⟩, h4, trivial⟩

end
end Go.Abs
