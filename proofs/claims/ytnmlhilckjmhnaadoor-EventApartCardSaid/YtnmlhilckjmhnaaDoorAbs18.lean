/-
  Contracts of the library's functions, taken over from their calls in the model: what changes nothing below the heap's end keeps every state.
-/
import Derived.Test.YtnmlhilckjmhnaaDoorAbs17
import Derived.Shelf.Strconv.Itoa4
namespace Go.Abs
open Go.RowKit Go.Lib

/-- The ghost of a world that only grew. -/
def Gh.on (g : Gh) (w : World) : Gh := { g with cl := fun b => if b < w.heap.size then g.cl b else none }
section
variable {P : Program} {g : Gh} {σ : St} {w w' : World}
theorem Ext.below (g : Gh) (hb : Below w.heap.size w w') : Ext g w (g.on w) w' := by
  refine ⟨hb.os, hb.tape, hb.output, hb.size, fun β b h => h, fun β _ => rfl, Nat.le_refl _, Nat.le_refl _, fun m n v h => h, fun b h hc => ⟨by simp only [Gh.on, if_pos h]; exact hc, hb.block b h⟩, fun b F h hc => ⟨F, by simp only [Gh.on, if_pos h]; exact hc, Nat.le_refl _, fun i _ => World.cell?_of_block (hb.block b h)⟩, fun _ _ h => h⟩
theorem Inv.below (hI : Inv g σ w) (hb : Below w.heap.size w w') : Inv (g.on w) σ w' := by
  have he := Ext.below g hb
  refine ⟨fun β cs h => ?_, fun β b h => ?_, hI.boxinj, hI.boxfresh, fun τ e s n ht => ?_, hI.tipinj, hI.tipfresh, fun k cs hk => (hI.glob k cs hk).mono he, fun l r hl => by
    obtain ⟨q1, q2, q3⟩ := hI.lp l r hl
    have hlt := (Array.getElem?_eq_some_iff.1 q1).1
    exact ⟨by rw [hb.block l hlt]; exact q1, by simp only [Gh.on, if_pos hlt]; exact q2, fun t => (q3 t).mono he⟩⟩
  · obtain ⟨b, vs, T, h1, h2, h3⟩ := hI.box β cs h
    exact ⟨b, vs, T, h1, by rw [hb.block b (hI.boxcl β b h1).1]; exact h2, h3.mono he⟩
  · obtain ⟨h1, h2⟩ := hI.boxcl β b h
    exact ⟨Nat.lt_of_lt_of_le h1 hb.size, by simp only [Gh.on, if_pos h1]; exact h2⟩
  · obtain ⟨v, h1, h2, h4⟩ := hI.tip τ e s n ht
    refine ⟨v, h1, fun hs => ?_, h4⟩
    obtain ⟨xs, h2, h3⟩ := h2 hs
    refine ⟨xs, h2.kept (row := none) ⟨hb.os, hb.tape, hb.output, hb.size, fun k hk _ => hb.block k hk⟩ (by cases h : v.ownBlock <;> simp), fun b hbb => ?_⟩
    have hlt := (h2.lt b hbb).2
    obtain ⟨h5, h6⟩ := h3 b hbb
    exact ⟨by simp only [Gh.on, if_pos hlt]; exact h5, h6⟩

/-- A call in the model that only grows the heap is a contract. -/
theorem AC.of_calls {f : Nat} {xs : List AV} {r : AV} (he : ∀ args w, (callFunc f args).run P w = .ok (.enter f args) w)
    (h : ∀ g w (vs : List Value), Inv g σ w → RelL g w xs vs → Calls P f vs.toArray w (fun e w' => ∃ v, e = .returned v ∧ Below w.heap.size w w' ∧ ∀ g' , Ext g w g' w' → Rel g' w' r v)) : AC P f xs σ (fun x s => x = r ∧ s = σ) := by
  intro g w vs hI hv
  refine .inl ⟨he _ _, (h g w vs hI hv).mono ?_⟩
  rintro e w' ⟨v, rfl, hb, hr⟩
  exact ⟨v, r, σ, g.on w, rfl, ⟨rfl, rfl⟩, hI.below hb, Ext.below g hb, hr _ (Ext.below g hb)⟩

def tabAV : List AV := pow10Tab.map (AV.int .u64)

theorem var_of_glob {k : Nat} {name : String} {l : List Int} {kk : IntKind} (hI : Inv g σ w) (hg : P.globalNamed name = some k) (hσ : σ.glob k = some (l.map (AV.int kk))) : TabIs P w name kk l := by
  obtain ⟨hr, hc, vs, T, q, hv, hl⟩ := hI.glob k _ hσ
  obtain ⟨b, off, u, e, hL⟩ := hr.el_inv
  cases e
  have hu : u = l.map (Value.int kk) := by
    apply List.ext_getElem?
    intro i
    have h1 := hL.rel.1.1
    simp only [List.length_map] at h1
    rcases Nat.lt_or_ge i l.length with hi | hi
    · have h2 : (l.map (AV.int kk))[i]? = some (.int kk l[i]) := by simp [hi]
      have h3 : u[i]? = some u[i] := List.getElem?_eq_getElem (by omega)
      have := hL.rel.1.2 i _ _ h2 h3
      rw [h3, this.int_inv]
      simp [hi]
    · rw [List.getElem?_eq_none (by omega), List.getElem?_eq_none (by simpa using hi)]
  have : vs = u.toArray := by
    apply Array.ext'
    apply List.ext_getElem?
    intro i
    have h1 := hL.rel.1.1
    have hl' : vs.toList.length = u.length := by simp only [Array.length_toList, hl, h1]
    rcases Nat.lt_or_ge i u.length with hi | hi
    · have h3 : u[i]? = some u[i] := List.getElem?_eq_getElem hi
      have h4 := hL.cell i _ h3
      simp only [World.cell?, hv, Nat.zero_add] at h4
      simp only [List.toList_toArray, h3]
      rw [← h4]
      simp [hi]
    · rw [List.getElem?_eq_none (by omega), List.getElem?_eq_none (by simpa using hi)]
  unfold TabIs
  simp only [World.var?, hg, Option.bind_some, hv, this, hu]

/-- strconv.FormatInt at base 10. -/
def Fmts (P : Program) (f k : Nat) : Prop := ∀ (n : Int) (σ : St), -9223372036854775808 ≤ n → n ≤ 9223372036854775807 → σ.glob k = some tabAV → AC P f [.int .i64 n, .int .i64 10] σ (fun x s => x = .str (itoa n) ∧ s = σ)

theorem fmts_of {f k : Nat} (he : ∀ args w, (callFunc f args).run P w = .ok (.enter f args) w) (hg : P.globalNamed "internal/strconv.uint64pow10" = some k)
    (h : ∀ (n : Int), -9223372036854775808 ≤ n → n ≤ 9223372036854775807 → ∀ w, TabIs P w "internal/strconv.uint64pow10" .u64 pow10Tab → Calls P f #[.int .i64 n, .int .i64 10] w fun e w' => e = .returned (.string ⟨(itoa n).toArray⟩) ∧ ∃ k os, w' = Go.Sort.grow (w.drewN k) os) : Fmts P f k := by
  intro n σ h0 h1 hσ
  refine AC.of_calls he ?_
  intro g w vs hI hv
  obtain ⟨v1, vs, rfl, r1, hv⟩ := hv.cons_inv
  obtain ⟨v2, vs, rfl, r2, hv⟩ := hv.cons_inv
  rw [hv.nil_inv, r1.int_inv, r2.int_inv]
  refine (h n h0 h1 w (var_of_glob hI hg hσ)).mono ?_
  rintro e w' ⟨rfl, k', os, rfl⟩
  refine ⟨_, rfl, ⟨rfl, rfl, rfl, by simp [Go.Sort.grow, World.drewN], fun i hi => ?_⟩, fun g' _ => .str _⟩
  simp only [Go.Sort.grow, World.drewN]
  rw [Array.getElem?_append_left hi]

/-- For the evaluator. -/
def xFmt (f k : Nat) (gl : List (Nat × List AV)) : Call := fun g xs s => bif Nat.beq g f && (look k gl).isSome then
    match xs with
    | [.int .i64 n, .int .i64 (.ofNat 10)] => bif decide (-9223372036854775808 ≤ n) && decide (n ≤ 9223372036854775807) then some (.str (itoa n), s) else none
    | _ => none
  else none
theorem xFmt_ok {gl : List (Nat × List AV)} {f k : Nat} (h : Fmts P f k) (hgl : look k gl = some tabAV) : CallOk P gl (xFmt f k gl) := by
  intro g xs s v s' σb m t σ xs' hx hR hv
  unfold xFmt at hx
  cases hg : Nat.beq g f && (look k gl).isSome with
  | false => rw [hg] at hx; cases hx
  | true =>
    rw [hg] at hx
    simp only [Bool.and_eq_true] at hg
    have := Nat.eq_of_beq_eq_true hg.1
    subst this
    simp only [cond_true] at hx
    split at hx
    · rename_i n
      cases hb : decide (-9223372036854775808 ≤ n) && decide (n ≤ 9223372036854775807) with
      | false => rw [hb] at hx; cases hx
      | true =>
        rw [hb] at hx
        simp only [cond_true, Option.some.injEq, Prod.mk.injEq] at hx
        obtain ⟨rfl, rfl⟩ := hx
        simp only [Bool.and_eq_true, decide_eq_true_eq] at hb
        obtain ⟨a1, _, rfl, h1, h2⟩ := hv.cons_inv
        obtain ⟨a2, _, rfl, h3, h4⟩ := h2.cons_inv
        rw [h4.nil_inv, h1.int_inv, h3.int_inv]
        refine (h n σ hb.1 hb.2 (hR.gl k _ hgl).1).mono ?_
        rintro r s2 ⟨rfl, rfl⟩
        exact ⟨m, t, .refl _, .refl _, .str _, hR⟩
    · cases hx
end
end Go.Abs

namespace Go.Abs
open Go.RowKit Go.Lib
def eBg (X : Call) (T : List (Nat × CF)) (gl : List (Nat × List AV)) (k n f : Nat) (xs : List AV) (w : AV → Bool) : Bool :=
  match eF X T gl k n f xs ES.new with
  | some (v, _) => w v
  | none => false
def clG : List (Nat × List AV) → Bool
  | [] => true
  | (_, cs) :: r => clL cs && clG r
theorem clG_ok : ∀ {gl : List (Nat × List AV)}, clG gl = true → ∀ k cs, look k gl = some cs → clL cs = true
  | [], _, k, cs, h => by simp [look] at h
  | (g, x) :: r, hg, k, cs, h => by
    simp only [clG, Bool.and_eq_true] at hg
    simp only [look] at h
    cases hk : Nat.beq k g with
    | true => rw [hk] at h; simp only [cond_true, Option.some.injEq] at h; subst h; exact hg.1
    | false => rw [hk] at h; exact clG_ok hg.2 k cs h
/-- The state of the package's variables. -/
def PuG (P : Program) (gl : List (Nat × List AV)) (f : Nat) (xs : List AV) (v : AV) : Prop := ∀ σ, (∀ k cs, look k gl = some cs → σ.glob k = some cs) → AC P f xs σ (fun r s => r = v ∧ s = σ)
theorem closed_trueG {P : Program} {gl : List (Nat × List AV)} {X : Call} (hX : CallOk P gl X) {T : List (Nat × CF)} {k n f : Nat} {xs : List AV} (hT : ∀ f cf, look f T = some cf → fB P f cf = true) (hcl : clL xs = true) (hg : clG gl = true) (h : eBg X T gl k n f xs isTrue = true) : PuG P gl f xs (.bool true) := by
  unfold eBg at h
  split at h
  · rename_i v es he
    have : v = .bool true := by
      unfold isTrue at h
      split at h
      · rw [h]
      · cases h
    subst this
    exact fun σ hσ => closed (gl := gl) hX (w := .bool true) hT hcl he rfl (clG_ok hg) σ hσ
  · cases h
theorem Pu.g {P : Program} {gl : List (Nat × List AV)} {f : Nat} {xs : List AV} {v : AV} (h : Pu P f xs v) : PuG P gl f xs v := fun σ _ => h σ

/-- A package's table of integers, at the start of a call. -/
theorem glob_of_tab {P : Program} {w : World} {name : String} {kk : IntKind} {l : List Int} {k : Nat} (h : TabIs P w name kk l) (hg : P.globalNamed name = some k) : GlobOk g0 w k (l.map (AV.int kk)) := by
  have hrow : ∃ T q, w.heap[k]? = some (.cells (l.map (Value.int kk)).toArray T q) := by
    unfold TabIs at h
    simp only [World.var?, hg, Option.bind_some] at h
    split at h
    · rename_i cs T q hh
      cases h
      exact ⟨T, q, hh⟩
    · cases h
  obtain ⟨T, q, hh⟩ := hrow
  have hlt : k < w.heap.size := (Array.getElem?_eq_some_iff.1 hh).1
  refine ⟨Rel.el_mk (u := l.map (Value.int kk)) ⟨⟨hlt, .inl rfl⟩, ⟨⟨by simp, fun i c v hc hv => ?_⟩, fun v hv => ?_⟩, fun i v hv => ?_⟩, rfl, _, T, q, hh, by simp⟩
  · simp only [List.getElem?_map, Option.map_eq_some_iff] at hc hv
    obtain ⟨n, h1, rfl⟩ := hc
    obtain ⟨n', h2, rfl⟩ := hv
    rw [h1] at h2; cases h2
    exact .int _ _
  · simp only [List.mem_map] at hv
    obtain ⟨n, _, rfl⟩ := hv
    rfl
  · simp only [World.cell?, hh, Nat.zero_add]
    simpa using hv

/-- A law whose package variables are tables, that answers true. -/
theorem law_callsG {P : Program} {gl : List (Nat × List AV)} {f : Nat} {cf : CF} {xs : List AV} {vs : List Value} {w : World} (hf : fB P f cf = true) (h : PuG P gl f xs (.bool true)) (hg : ∀ k cs, look k gl = some cs → GlobOk g0 w k cs) (hv : RelL g0 w xs vs) :
    Calls P f vs.toArray w (fun e w' => e = .returned (.bool true) ∧ Below w.heap.size w w') := by
  refine (calls_of (gl := fun k => look k gl) hf (h _ (fun k cs hk => hk)) hg hv).mono ?_
  rintro e w' ⟨u, g', rfl, hr, hb⟩
  rw [hr.bool_inv]
  exact ⟨rfl, hb⟩
end Go.Abs

namespace Go.Abs
/-- A function that the model answers itself. -/
theorem extern_run {P : Program} {f : Nat} {fn : Func} {e : Array Value → Sem Value} {args : Array Value} {v : Value} {w : World} (hf : P.funcs[f]? = some fn) (hname : (fn.name == "runtime.NumGoroutine") = false) (hb : fn.body = none)
    (hn : Extern.findNext fn = none) (he : Extern.find fn = some e) (hr : (e args).run P w = .ok v w) : (callFunc f args).run P w = .ok (.value v) w := by
  have h1 : fn.name ≠ "runtime.NumGoroutine" := by simpa using hname
  have hm : ∀ (m : Mark) (w : World), Sem.run P (Sem.mark m (Sem.pure ())) w = .ok () w := fun m w => rfl
  simp [callFunc, hf, h1, hb, mark, hn, he, hr, hm]
theorem three_eq (s : String) (a b c : Value) : Extern.MathBitsCarry.three s #[a, b, c] = (do
    let c := (← asInt c).toNat
    if c > 1 then unsupported (.noEntry ("extern/math/bits." ++ s ++ ": a carry that is neither 0 nor 1"))
    pure ((← asInt a).toNat, (← asInt b).toNat, c)) := rfl
theorem three_run {P : Program} {w : World} (s : String) (x y c : Int) (hc : c.toNat ≤ 1) : (Extern.MathBitsCarry.three s #[.int .u64 x, .int .u64 y, .int .u64 c]).run P w = .ok (x.toNat, y.toNat, c.toNat) w := by
  rw [three_eq]
  have h1 : ¬ 1 < c.toNat := by omega
  simp [asInt, asIntOf]
  omega
def add64 : Array Value → Sem Value := fun args => do
    let (x, y, c) ← Extern.MathBitsCarry.three "Add64" args
    pure (Extern.MathBitsCarry.pair ((x + y + c) % Extern.MathBitsCarry.m64) ((x + y + c) / Extern.MathBitsCarry.m64))
def add64V (x y c : Int) : AV := .tup [.int .u64 (Int.ofNat ((x.toNat + y.toNat + c.toNat) % Extern.MathBitsCarry.m64)), .int .u64 (Int.ofNat ((x.toNat + y.toNat + c.toNat) / Extern.MathBitsCarry.m64))]
theorem add64_pu {P : Program} {f : Nat} {fn : Func} (hf : P.funcs[f]? = some fn) (hname : (fn.name == "runtime.NumGoroutine") = false) (hb : fn.body = none)
    (hn : Extern.findNext fn = none) (he : Extern.find fn = some add64) (x y c : Int) (hc : c.toNat ≤ 1) : Pu P f [.int .u64 x, .int .u64 y, .int .u64 c] (add64V x y c) := by
  intro σ g w vs hI hv
  obtain ⟨v1, vs, rfl, r1, hv⟩ := hv.cons_inv
  obtain ⟨v2, vs, rfl, r2, hv⟩ := hv.cons_inv
  obtain ⟨v3, vs, rfl, r3, hv⟩ := hv.cons_inv
  rw [hv.nil_inv, r1.int_inv, r2.int_inv, r3.int_inv]
  refine .inr ⟨_, w, extern_run hf hname hb hn he (v := Extern.MathBitsCarry.pair ((x.toNat + y.toNat + c.toNat) % Extern.MathBitsCarry.m64) ((x.toNat + y.toNat + c.toNat) / Extern.MathBitsCarry.m64)) ?_, _, add64V x y c, σ, g, rfl, ⟨rfl, rfl⟩, hI, .refl _ _, ?_⟩
  · have h2 := three_run (P := P) (w := w) "Add64" x y c hc
    simp only [add64]
    simp [h2]
  · exact .tup_mk (.cons (.int _ _) (.cons (.int _ _) .nil))
def xAdd64 (f : Nat) : Call := fun g xs s => bif Nat.beq g f then
    match xs with
    | [.int .u64 x, .int .u64 y, .int .u64 c] => bif Nat.ble c.toNat 1 then some (add64V x y c, s) else none
    | _ => none
  else none
theorem xAdd64_ok {P : Program} {gl : List (Nat × List AV)} {f : Nat} (h : ∀ x y c : Int, c.toNat ≤ 1 → Pu P f [.int .u64 x, .int .u64 y, .int .u64 c] (add64V x y c)) : CallOk P gl (xAdd64 f) := by
  intro g xs s v s' σb m t σ as' hx hR hv
  unfold xAdd64 at hx
  cases hg : Nat.beq g f with
  | false => rw [hg] at hx; cases hx
  | true =>
    rw [hg] at hx
    have := Nat.eq_of_beq_eq_true hg
    subst this
    simp only [cond_true] at hx
    split at hx
    · rename_i x y c
      cases hb : Nat.ble c.toNat 1 with
      | false => rw [hb] at hx; cases hx
      | true =>
        rw [hb] at hx
        simp only [cond_true, Option.some.injEq, Prod.mk.injEq] at hx
        obtain ⟨rfl, rfl⟩ := hx
        obtain ⟨a1, _, rfl, h1, h2⟩ := hv.cons_inv
        obtain ⟨a2, _, rfl, h3, h4⟩ := h2.cons_inv
        obtain ⟨a3, _, rfl, h5, h6⟩ := h4.cons_inv
        rw [h6.nil_inv, h1.int_inv, h3.int_inv, h5.int_inv]
        refine (h x y c (Nat.le_of_ble_eq_true hb) σ).mono ?_
        rintro r s2 ⟨rfl, rfl⟩
        exact ⟨m, t, .refl _, .refl _, cl_vr _ rfl, hR⟩
    · cases hx
end Go.Abs
