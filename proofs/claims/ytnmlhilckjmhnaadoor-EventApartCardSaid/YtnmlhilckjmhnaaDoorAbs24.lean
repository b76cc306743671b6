/-
  strings.Join: a contract out of its call in the model; for the evaluator, too.
-/
import Derived.Test.YtnmlhilckjmhnaaDoorAbs18
import Derived.Lib.Join
import Derived.Shelf.Strconv.Itoa3
namespace Go.Abs
open Go.RowKit Go.Lib
/-- What strings.Join is. -/
def Joins (P : Program) (f : Nat) : Prop := ∀ (a : AV) (l : List (List UInt8)) (sep : List UInt8) (σ : St), slv a = some (l.length, l.map AV.str) → l.length ≤ 140737488355328 → (Lib.join l sep).length ≤ 140737488355328 →
  AC P f [a, .str sep] σ (fun r s => r = .str (Lib.join l sep) ∧ s = σ)

theorem joins_of {P : Program} {f : Nat} (he : ∀ args w, (callFunc f args).run P w = .ok (.enter f args) w)
    (h0 : ∀ (x : Option Addr) (sep : ByteArray) (w : World), Calls P f #[.slice x 0 0, .string sep] w fun e w' => e = .returned (.string ByteArray.empty) ∧ w' = w)
    (h : ∀ (bk o c : Nat) (xs : List ByteArray) (sep : ByteArray) (w : World), (∀ (j : Nat) x, xs[j]? = some x → w.cell? ⟨bk, o + j, none⟩ = some (.string x)) → bk < w.heap.size → xs.length ≤ 140737488355328 → xs.length ≤ c →
      (Lib.join (xs.map (·.data.toList)) sep.data.toList).length ≤ 140737488355328 →
      Calls P f #[.slice (some ⟨bk, o, none⟩) xs.length c, .string sep] w fun e w' => e = .returned (.string ⟨(Lib.join (xs.map (·.data.toList)) sep.data.toList).toArray⟩) ∧ Below w.heap.size w w') : Joins P f := by
  intro a l sep σ ha hN hlen
  refine AC.of_calls he ?_
  intro g w vs hI hv
  obtain ⟨v1, vs, rfl, r1, hv⟩ := hv.cons_inv
  obtain ⟨v2, vs, rfl, r2, hv⟩ := hv.cons_inv
  rw [hv.nil_inv, r2.str_inv]
  rcases r1.slv_inv ha with ⟨x, rfl, hn, hc⟩ | ⟨b, off, cap, u, rfl, hnc, hl⟩
  · have : l = [] := List.eq_nil_of_length_eq_zero hn
    subst this
    refine (h0 x _ w).mono ?_
    rintro e w' ⟨rfl, rfl⟩
    exact ⟨_, rfl, Below.refl _ _, fun g' _ => .str _⟩
  · have hu : u = (l.map fun x => (⟨x.toArray⟩ : ByteArray)).map Value.string := by
      apply List.ext_getElem?
      intro i
      have h1 := hl.rel.1.1
      simp only [List.length_map] at h1
      rcases Nat.lt_or_ge i l.length with hi | hi
      · have h2 : (l.map AV.str)[i]? = some (.str l[i]) := by simp [hi]
        have h3 : u[i]? = some u[i] := List.getElem?_eq_getElem (by omega)
        have := hl.rel.1.2 i _ _ h2 h3
        rw [h3, this.str_inv]
        simp [hi]
      · rw [List.getElem?_eq_none (by omega), List.getElem?_eq_none (by simpa using hi)]
    have hm : (l.map fun x => (⟨x.toArray⟩ : ByteArray)).map (·.data.toList) = l := by
      rw [List.map_map]
      conv => rhs; rw [← List.map_id l]
      exact List.map_congr_left fun x _ => by simp
    have := h b off cap (l.map fun x => (⟨x.toArray⟩ : ByteArray)) ⟨sep.toArray⟩ w (fun j x hx => hl.cell j _ (by rw [hu, List.getElem?_map, hx]; rfl)) hl.claim.1 (by simpa using hN) (by simpa using hnc) (by rw [hm]; simpa using hlen)
    rw [hm, List.length_map] at this
    refine this.mono ?_
    rintro e w' ⟨rfl, hb⟩
    exact ⟨_, rfl, hb, fun g' _ => by
      have := Rel.str (g := g') (w := w') (Lib.join l sep)
      simpa using this⟩

def strsOf : List AV → Option (List (List UInt8))
  | [] => some []
  | .str x :: r => (strsOf r).map (x :: ·)
  | _ => none
theorem strsOf_vr {m t : List Nat} : ∀ {cs ds : List AV} {l : List (List UInt8)}, strsOf cs = some l → VRL m t cs ds → ds = l.map AV.str ∧ cs.length = l.length
  | [], ds, l, h, hv => by cases h; rw [hv.nil_inv]; exact ⟨rfl, rfl⟩
  | c :: r, ds, l, h, hv => by
    cases c <;> simp only [strsOf] at h <;> try (cases h; done)
    rename_i x
    cases hr : strsOf r with
    | none => rw [hr] at h; cases h
    | some l' =>
      rw [hr] at h
      simp only [Option.map_some, Option.some.injEq] at h
      subst h
      obtain ⟨d, ds', rfl, h1, h2⟩ := hv.cons_inv
      have := strsOf_vr hr h2
      rw [h1.str_inv, this.1]
      exact ⟨rfl, by simp [this.2]⟩
def xJoin (f : Nat) : Call := fun g xs s => bif Nat.beq g f then
    match xs with
    | [a, .str sep] => match slv a with
      | some (n, cs) => match strsOf cs with
        | some l => bif Nat.beq n l.length && Nat.ble l.length 140737488355328 && Nat.ble (Lib.join l sep).length 140737488355328 then some (.str (Lib.join l sep), s) else none
        | none => none
      | none => none
    | _ => none
  else none
theorem xJoin_ok {P : Program} {gl : List (Nat × List AV)} {f : Nat} (h : Joins P f) : CallOk P gl (xJoin f) := by
  intro g xs s v s' σb m t σ xs' hx hR hv
  unfold xJoin at hx
  cases hg : Nat.beq g f with
  | false => rw [hg] at hx; cases hx
  | true =>
    rw [hg] at hx
    have := Nat.eq_of_beq_eq_true hg
    subst this
    simp only [cond_true] at hx
    split at hx
    · rename_i a sep
      split at hx
      · rename_i n cs ha
        split at hx
        · rename_i l hs
          cases hb : Nat.beq n l.length && Nat.ble l.length 140737488355328 && Nat.ble (Lib.join l sep).length 140737488355328 with
          | false => rw [hb] at hx; cases hx
          | true =>
            rw [hb] at hx
            simp only [cond_true, Option.some.injEq, Prod.mk.injEq] at hx
            obtain ⟨rfl, rfl⟩ := hx
            simp only [Bool.and_eq_true] at hb
            obtain ⟨⟨b1, b2⟩, b3⟩ := hb
            have b1 := Nat.eq_of_beq_eq_true b1
            obtain ⟨a1, _, rfl, h1, h2⟩ := hv.cons_inv
            obtain ⟨a2, _, rfl, h3, h4⟩ := h2.cons_inv
            rw [h4.nil_inv, h3.str_inv]
            obtain ⟨ds, hd1, hd2⟩ := h1.slv_inv ha
            have h5 := strsOf_vr hs hd2
            rw [h5.1, b1] at hd1
            refine (h a1 l sep σ hd1 (Nat.le_of_ble_eq_true b2) (Nat.le_of_ble_eq_true b3)).mono ?_
            rintro r s2 ⟨rfl, rfl⟩
            exact ⟨m, t, .refl _, .refl _, .str _, hR⟩
        · cases hx
      · cases hx
    · cases hx

/-- strconv.Itoa of a number below 100. -/
def Itoas (P : Program) (f : Nat) : Prop := ∀ i : Nat, i < 100 → Pu P f [.int .i64 i] (.str (Lib.decDigits i))
theorem itoas_of {P : Program} {f : Nat} (he : ∀ args w, (callFunc f args).run P w = .ok (.enter f args) w)
    (h : ∀ (i : Nat), i < 100 → ∀ w : World, Calls P f #[.int .i64 i] w fun e w' => e = .returned (.string ⟨(Lib.decDigits i).toArray⟩) ∧ w' = w) : Itoas P f := by
  intro i hi σ
  refine AC.of_calls he ?_
  intro g w vs hI hv
  obtain ⟨v1, vs, rfl, r1, hv⟩ := hv.cons_inv
  rw [hv.nil_inv, r1.int_inv]
  refine (h i hi w).mono ?_
  rintro e w' ⟨rfl, rfl⟩
  exact ⟨_, rfl, Below.refl _ _, fun g' _ => .str _⟩
def xItoa (f : Nat) : Call := fun g xs s => bif Nat.beq g f then
    match xs with
    | [.int .i64 (.ofNat i)] => bif Nat.ble (i + 1) 100 then some (.str (Lib.decDigits i), s) else none
    | _ => none
  else none
theorem xItoa_ok {P : Program} {gl : List (Nat × List AV)} {f : Nat} (h : Itoas P f) : CallOk P gl (xItoa f) := by
  intro g xs s v s' σb m t σ xs' hx hR hv
  unfold xItoa at hx
  cases hg : Nat.beq g f with
  | false => rw [hg] at hx; cases hx
  | true =>
    rw [hg] at hx
    have := Nat.eq_of_beq_eq_true hg
    subst this
    simp only [cond_true] at hx
    split at hx
    · rename_i i
      cases hb : Nat.ble (i + 1) 100 with
      | false => rw [hb] at hx; cases hx
      | true =>
        rw [hb] at hx
        simp only [cond_true, Option.some.injEq, Prod.mk.injEq] at hx
        obtain ⟨rfl, rfl⟩ := hx
        obtain ⟨a1, _, rfl, h1, h2⟩ := hv.cons_inv
        rw [h2.nil_inv, h1.int_inv]
        refine (h i (Nat.le_of_ble_eq_true hb) σ).mono ?_
        rintro r s2 ⟨rfl, rfl⟩
        exact ⟨m, t, .refl _, .refl _, .str _, hR⟩
    · cases hx
end Go.Abs
