/- Part 14 of the proof of MatchSorts: an abstract semantics that is proved sound for the model, contracts of functions in it, and plain facts (Abs18 Abs26 Abs27 Abs29 Abs31). No condition. -/
import Derived.Test.YtncadbcjikekhaaGreatDoorKMatchSorts13
import Derived.Shelf.Strconv.Itoa4
set_option linter.all false
namespace Go.Abs
open Go.RowKit Go.Lib
def Gh.on (g : Gh) (w : World) : Gh := { g with cl := fun b => if b < w.heap.size then g.cl b else none }
section
variable {P : Program} {g : Gh} {σ : St} {w w' : World}
theorem Ext.below (g : Gh) (hb : Below w.heap.size w w') : Ext g w (g.on w) w' := by
  refine ⟨hb.os, hb.tape, hb.output, hb.size, fun β b h => h, fun β _ => rfl, Nat.le_refl _, Nat.le_refl _, fun m n v h => h, fun b h hc => ⟨by simp only [Gh.on, if_pos h]; exact hc, hb.block b h⟩, fun b F h hc => ⟨F, by simp only [Gh.on, if_pos h]; exact hc, Nat.le_refl _, fun i _ => World.cell?_of_block (hb.block b h)⟩, fun _ _ h => h, fun b us _ _ h => ⟨us, by rw [hb.block b (Array.getElem?_eq_some_iff.1 h).1]; exact h, rfl⟩⟩
theorem Inv.below (hI : Inv g σ w) (hb : Below w.heap.size w w') : Inv (g.on w) σ w' := by
  have he := Ext.below g hb
  refine ⟨fun β cs h => ?_, fun β b h => ?_, hI.boxinj, hI.boxfresh, fun τ e s n ht => ?_, hI.tipinj, hI.tipfresh, fun k cs hk => (hI.glob k cs hk).mono he, fun l r hl => by
    obtain ⟨q1, q2, q3⟩ := hI.lp l r hl
    have hlt := (Array.getElem?_eq_some_iff.1 q1).1
    exact ⟨by rw [hb.block l hlt]; exact q1, by simp only [Gh.on, if_pos hlt]; exact q2, fun t => (q3 t).mono he⟩, fun β T h => by
    obtain ⟨b, vs, h1, h2⟩ := hI.bty β T h
    exact ⟨b, vs, h1, by rw [hb.block b (hI.boxcl β b h1).1]; exact h2⟩⟩
  · obtain ⟨b, vs, T, h1, h2, h3⟩ := hI.box β cs h
    exact ⟨b, vs, T, h1, by rw [hb.block b (hI.boxcl β b h1).1]; exact h2, h3.mono he⟩
  · obtain ⟨h1, h2⟩ := hI.boxcl β b h
    exact ⟨Nat.lt_of_lt_of_le h1 hb.size, fun hl => by simp only [Gh.on, if_pos h1]; exact h2 hl⟩
  · obtain ⟨v, h1, h2, h4⟩ := hI.tip τ e s n ht
    refine ⟨v, h1, fun hs => ?_, h4⟩
    obtain ⟨xs, h2, h3⟩ := h2 hs
    refine ⟨xs, h2.kept (row := none) ⟨hb.os, hb.tape, hb.output, hb.size, fun k hk _ => hb.block k hk⟩ (by cases h : v.ownBlock <;> simp), fun b hbb => ?_⟩
    have hlt := (h2.lt b hbb).2
    obtain ⟨h5, h6⟩ := h3 b hbb
    exact ⟨by simp only [Gh.on, if_pos hlt]; exact h5, h6.1, h6.2.same (hb.block b hlt)⟩
theorem AC.of_calls {f : Nat} {xs : List AV} {r : AV} (he : ∀ args w, (callFunc f args).run P w = .ok (.enter f args) w)
    (h : ∀ g w (vs : List Value), Inv g σ w → RelL g w xs vs → Calls P f vs.toArray w (fun e w' => ∃ v, e = .returned v ∧ Below w.heap.size w w' ∧ ∀ g' , Ext g w g' w' → Rel g' w' r v)) : AC P f xs σ (fun x s => x = r ∧ s = σ) := by
  intro g w vs hI hv
  refine .inl ⟨he _ _, (h g w vs hI hv).mono ?_⟩
  rintro e w' ⟨v, rfl, hb, hr⟩
  exact ⟨v, r, σ, g.on w, rfl, ⟨rfl, rfl⟩, hI.below hb, Ext.below g hb, hr _ (Ext.below g hb)⟩
def tabAV : List AV := pow10Tab.map (AV.int .u64)
theorem var_of_glob {k : Nat} {name : String} {l : List Int} {kk : IntKind} (hI : Inv g σ w) (hg : P.globalNamed name = some k) (hσ : σ.glob k = some (l.map (AV.int kk))) : TabIs P w name kk l := by
  obtain ⟨hr, hc, vs, T, q, hv, hl⟩ := hI.glob k _ hσ
  obtain ⟨b, off, u, e, hL⟩ := hr.el_inv
  cases e
  have hu : u = l.map (Value.int kk) := by
    apply List.ext_getElem?
    intro i
    have h1 := hL.rel.1.1
    simp only [List.length_map] at h1
    rcases Nat.lt_or_ge i l.length with hi | hi
    · have h2 : (l.map (AV.int kk))[i]? = some (.int kk l[i]) := by simp [hi]
      have h3 : u[i]? = some u[i] := List.getElem?_eq_getElem (by omega)
      have := hL.rel.1.2 i _ _ h2 h3
      rw [h3, this.int_inv]
      simp [hi]
    · rw [List.getElem?_eq_none (by omega), List.getElem?_eq_none (by simpa using hi)]
  have : vs = u.toArray := by
    apply Array.ext'
    apply List.ext_getElem?
    intro i
    have h1 := hL.rel.1.1
    have hl' : vs.toList.length = u.length := by simp only [Array.length_toList, hl, h1]
    rcases Nat.lt_or_ge i u.length with hi | hi
    · have h3 : u[i]? = some u[i] := List.getElem?_eq_getElem hi
      have h4 := hL.cell i _ h3
      simp only [World.cell?, hv, Nat.zero_add] at h4
      simp only [List.toList_toArray, h3]
      rw [← h4]
      simp [hi]
    · rw [List.getElem?_eq_none (by omega), List.getElem?_eq_none (by simpa using hi)]
  unfold TabIs
  simp only [World.var?, hg, Option.bind_some, hv, this, hu]
def Fmts (P : Program) (f k : Nat) : Prop := ∀ (n : Int) (σ : St), -9223372036854775808 ≤ n → n ≤ 9223372036854775807 → σ.glob k = some tabAV → AC P f [.int .i64 n, .int .i64 10] σ (fun x s => x = .str (itoa n) ∧ s = σ)
theorem fmts_of {f k : Nat} (he : ∀ args w, (callFunc f args).run P w = .ok (.enter f args) w) (hg : P.globalNamed "internal/strconv.uint64pow10" = some k)
    (h : ∀ (n : Int), -9223372036854775808 ≤ n → n ≤ 9223372036854775807 → ∀ w, TabIs P w "internal/strconv.uint64pow10" .u64 pow10Tab → Calls P f #[.int .i64 n, .int .i64 10] w fun e w' => e = .returned (.string ⟨(itoa n).toArray⟩) ∧ ∃ k os, w' = Go.Sort.grow (w.drewN k) os) : Fmts P f k := by
  intro n σ h0 h1 hσ
  refine AC.of_calls he ?_
  intro g w vs hI hv
  obtain ⟨v1, vs, rfl, r1, hv⟩ := hv.cons_inv
  obtain ⟨v2, vs, rfl, r2, hv⟩ := hv.cons_inv
  rw [hv.nil_inv, r1.int_inv, r2.int_inv]
  refine (h n h0 h1 w (var_of_glob hI hg hσ)).mono ?_
  rintro e w' ⟨rfl, k', os, rfl⟩
  refine ⟨_, rfl, ⟨rfl, rfl, rfl, by simp [Go.Sort.grow, World.drewN], fun i hi => ?_⟩, fun g' _ => .str _⟩
  simp only [Go.Sort.grow, World.drewN]
  rw [Array.getElem?_append_left hi]
end
end Go.Abs
namespace Go.Abs
open Go.RowKit Go.Lib
def PuG (P : Program) (gl : List (Nat × List AV)) (f : Nat) (xs : List AV) (v : AV) : Prop := ∀ σ, (∀ k cs, look k gl = some cs → σ.glob k = some cs) → AC P f xs σ (fun r s => r = v ∧ s = σ)
theorem Pu.g {P : Program} {gl : List (Nat × List AV)} {f : Nat} {xs : List AV} {v : AV} (h : Pu P f xs v) : PuG P gl f xs v := fun σ _ => h σ
theorem glob_of_tab {P : Program} {w : World} {name : String} {kk : IntKind} {l : List Int} {k : Nat} (h : TabIs P w name kk l) (hg : P.globalNamed name = some k) : GlobOk g0 w k (l.map (AV.int kk)) := by
  have hrow : ∃ T q, w.heap[k]? = some (.cells (l.map (Value.int kk)).toArray T q) := by
    unfold TabIs at h
    simp only [World.var?, hg, Option.bind_some] at h
    split at h
    · rename_i cs T q hh
      cases h
      exact ⟨T, q, hh⟩
    · cases h
  obtain ⟨T, q, hh⟩ := hrow
  have hlt : k < w.heap.size := (Array.getElem?_eq_some_iff.1 hh).1
  refine ⟨Rel.el_mk (u := l.map (Value.int kk)) ⟨⟨hlt, .inl rfl⟩, ⟨⟨by simp, fun i c v hc hv => ?_⟩, fun v hv => ?_⟩, fun i v hv => ?_⟩, rfl, _, T, q, hh, by simp⟩
  · simp only [List.getElem?_map, Option.map_eq_some_iff] at hc hv
    obtain ⟨n, h1, rfl⟩ := hc
    obtain ⟨n', h2, rfl⟩ := hv
    rw [h1] at h2; cases h2
    exact .int _ _
  · simp only [List.mem_map] at hv
    obtain ⟨n, _, rfl⟩ := hv
    rfl
  · simp only [World.cell?, hh, Nat.zero_add]
    simpa using hv
theorem law_callsG {P : Program} {gl : List (Nat × List AV)} {f : Nat} {cf : CF} {xs : List AV} {vs : List Value} {w : World} (hf : fB P f cf = true) (h : PuG P gl f xs (.bool true)) (hg : ∀ k cs, look k gl = some cs → GlobOk g0 w k cs) (hv : RelL g0 w xs vs) :
    Calls P f vs.toArray w (fun e w' => e = .returned (.bool true) ∧ Below w.heap.size w w') := by
  refine (calls_of (gl := fun k => look k gl) hf (h _ (fun k cs hk => hk)) hg hv).mono ?_
  rintro e w' ⟨u, g', rfl, hr, hb⟩
  rw [hr.bool_inv]
  exact ⟨rfl, hb⟩
end Go.Abs
namespace Go.Abs
theorem extern_run {P : Program} {f : Nat} {fn : Func} {e : Array Value → Sem Value} {args : Array Value} {v : Value} {w : World} (hf : P.funcs[f]? = some fn) (hname : (fn.name == "runtime.NumGoroutine") = false) (hb : fn.body = none)
    (hn : Extern.findNext fn = none) (he : Extern.find fn = some e) (hr : (e args).run P w = .ok v w) : (callFunc f args).run P w = .ok (.value v) w := by
  have h1 : fn.name ≠ "runtime.NumGoroutine" := by simpa using hname
  have hm : ∀ (m : Mark) (w : World), Sem.run P (Sem.mark m (Sem.pure ())) w = .ok () w := fun m w => rfl
  simp [callFunc, hf, h1, hb, mark, hn, he, hr, hm]
theorem three_eq (s : String) (a b c : Value) : Extern.MathBitsCarry.three s #[a, b, c] = (do
    let c := (← asInt c).toNat
    if c > 1 then unsupported (.noEntry ("extern/math/bits." ++ s ++ ": a carry that is neither 0 nor 1"))
    pure ((← asInt a).toNat, (← asInt b).toNat, c)) := rfl
theorem three_run {P : Program} {w : World} (s : String) (x y c : Int) (hc : c.toNat ≤ 1) : (Extern.MathBitsCarry.three s #[.int .u64 x, .int .u64 y, .int .u64 c]).run P w = .ok (x.toNat, y.toNat, c.toNat) w := by
  rw [three_eq]
  have h1 : ¬ 1 < c.toNat := by omega
  simp [asInt, asIntOf]
  omega
def add64 : Array Value → Sem Value := fun args => do
    let (x, y, c) ← Extern.MathBitsCarry.three "Add64" args
    pure (Extern.MathBitsCarry.pair ((x + y + c) % Extern.MathBitsCarry.m64) ((x + y + c) / Extern.MathBitsCarry.m64))
def add64V (x y c : Int) : AV := .tup [.int .u64 (Int.ofNat ((x.toNat + y.toNat + c.toNat) % Extern.MathBitsCarry.m64)), .int .u64 (Int.ofNat ((x.toNat + y.toNat + c.toNat) / Extern.MathBitsCarry.m64))]
theorem add64_pu {P : Program} {f : Nat} {fn : Func} (hf : P.funcs[f]? = some fn) (hname : (fn.name == "runtime.NumGoroutine") = false) (hb : fn.body = none)
    (hn : Extern.findNext fn = none) (he : Extern.find fn = some add64) (x y c : Int) (hc : c.toNat ≤ 1) : Pu P f [.int .u64 x, .int .u64 y, .int .u64 c] (add64V x y c) := by
  intro σ g w vs hI hv
  obtain ⟨v1, vs, rfl, r1, hv⟩ := hv.cons_inv
  obtain ⟨v2, vs, rfl, r2, hv⟩ := hv.cons_inv
  obtain ⟨v3, vs, rfl, r3, hv⟩ := hv.cons_inv
  rw [hv.nil_inv, r1.int_inv, r2.int_inv, r3.int_inv]
  refine .inr ⟨_, w, extern_run hf hname hb hn he (v := Extern.MathBitsCarry.pair ((x.toNat + y.toNat + c.toNat) % Extern.MathBitsCarry.m64) ((x.toNat + y.toNat + c.toNat) / Extern.MathBitsCarry.m64)) ?_, _, add64V x y c, σ, g, rfl, ⟨rfl, rfl⟩, hI, .refl _ _, ?_⟩
  · have h2 := three_run (P := P) (w := w) "Add64" x y c hc
    simp only [add64]
    simp [h2]
  · exact .tup_mk (.cons (.int _ _) (.cons (.int _ _) .nil))
end Go.Abs
namespace Go.Abs
theorem St.lp_box (σ : St) (β : Nat) (c : List AV) : (σ.setBox β c).lp = σ.lp := rfl
theorem St.lp_tip (σ : St) (τ : Nat) (x : Nat × Nat × Nat) : (σ.setTip τ x).lp = σ.lp := rfl
theorem St.lp_same (σ : St) (L : Nat) (x : Loop × Fr) : (σ.setLp L x).lp L = some x := by simp [St.setLp, upd]
theorem St.box_lp (σ : St) (L : Nat) (x : Loop × Fr) : (σ.setLp L x).box = σ.box := rfl
theorem St.tip_lp (σ : St) (L : Nat) (x : Loop × Fr) : (σ.setLp L x).tip = σ.tip := rfl
theorem St.glob_lp (σ : St) (L : Nat) (x : Loop × Fr) : (σ.setLp L x).glob = σ.glob := rfl
theorem St.setBox_setLp (σ : St) (β L : Nat) (c : List AV) (x : Loop × Fr) : (σ.setBox β c).setLp L x = (σ.setLp L x).setBox β c := rfl
theorem St.setTip_setLp (σ : St) (τ L : Nat) (y : Nat × Nat × Nat) (x : Loop × Fr) : (σ.setTip τ y).setLp L x = (σ.setLp L x).setTip τ y := rfl
theorem St.setLp_setLp (σ : St) (L : Nat) (x y : Loop × Fr) : (σ.setLp L x).setLp L y = σ.setLp L y := by
  simp only [St.setLp, St.mk.injEq, true_and, and_true]
  funext j; simp only [upd]; split <;> rfl
theorem St.drop_box (σ : St) (β L : Nat) (c : List AV) : (σ.setBox β c).dropLp L = (σ.dropLp L).setBox β c := rfl
theorem St.drop_tip (σ : St) (τ L : Nat) (y : Nat × Nat × Nat) : (σ.setTip τ y).dropLp L = (σ.dropLp L).setTip τ y := rfl
theorem St.drop_set {σ : St} {L : Nat} {x : Loop × Fr} (h : σ.lp L = none) : (σ.setLp L x).dropLp L = σ := by
  obtain ⟨b, t, g, l⟩ := σ
  simp only [St.setLp, St.dropLp, St.mk.injEq, true_and, and_true]
  funext j; simp only [upd]
  split
  · rename_i e; subst e; exact h.symm
  · rfl
def RF (P : Program) (f : Nat) (cap : List AV) (ps : List Nat) (asg body : CC) (fr : Fr) (σ : St) (Q : Exit → Fr → St → Prop) : Prop :=
  isFn P f = true ∧ ∀ (L : Nat) (r : Loop), σ.lp L = none → r.state = .ready → r.pending = none →
    (∀ (xs : List AV) (σ1 : St) (K : AV → St → Prop), xs.length = ps.length → σ1.lp L = some (r, fr) →
      aC P asg (putL ps xs fr) σ1 (fun e fr1 σ2 => e = .normal ∧ σ2.lp L = some (r, fr) ∧ aC P body fr1 (σ2.setLp L (busy r, fr)) (fun e _ σ3 => σ3.lp L = some (busy r, fr) ∧ match e with
        | .normal => K (.bool true) (σ3.setLp L (r, fr))
        | .ret => K (.bool false) (σ3.setLp L (left r .ret, fr))
        | .exit id => K (.bool false) (σ3.setLp L (left r (.exit id), fr))
        | _ => False)) → YC P L xs σ1 K) →
    AC P f (.yld L :: cap) (σ.setLp L (r, fr)) (fun _ s => (s.lp L = some (r, fr) ∧ Q .normal fr (s.dropLp L)) ∨ (s.lp L = some (left r .ret, fr) ∧ Q .ret fr (s.dropLp L)) ∨ ∃ id, s.lp L = some (left r (.exit id), fr) ∧ Q (.exit id) fr (s.dropLp L))
section
variable {P : Program} {σ : St} {fr : Fr} {Q : Exit → Fr → St → Prop} {K : AV → St → Prop} {x : Od} {ps : List Nat} {asg body : CC} {f : Nat} {cap xs ys : List AV} {v : AV} {gl : List (Nat × List AV)}
theorem rfunV_start {h : Hold (asg, body, fr, σ, Q)} (regs : List (Bool × Nat × Nat × Nat × Nat)) (hh : startP regs fr σ fun fr σ => ∃ f cap, ev σ fr x = .fn f cap ∧ RF P f cap ps asg body fr σ Q) : rfunV P x ps asg body fr σ Q h := by
  refine ⟨regs, startP_mono regs hh (fun fr σ hq => ?_)⟩
  obtain ⟨f, cap, h1, h2⟩ := hq
  rw [h1]
  exact h2
theorem RF_round {L : Nat} {r : Loop} {σ1 : St} (hl : σ1.lp L = none)
    (hY : ∀ (xs : List AV) (σ1 : St) (K : AV → St → Prop), xs.length = ps.length → σ1.lp L = some (r, fr) →
      aC P asg (putL ps xs fr) σ1 (fun e fr1 σ2 => e = .normal ∧ σ2.lp L = some (r, fr) ∧ aC P body fr1 (σ2.setLp L (busy r, fr)) (fun e _ σ3 => σ3.lp L = some (busy r, fr) ∧ match e with
        | .normal => K (.bool true) (σ3.setLp L (r, fr))
        | .ret => K (.bool false) (σ3.setLp L (left r .ret, fr))
        | .exit id => K (.bool false) (σ3.setLp L (left r (.exit id), fr))
        | _ => False)) → YC P L xs σ1 K) (hlen : xs.length = ps.length) {N : St → Prop} {R : St → Prop} {E : Nat → St → Prop}
    (hb : aC P asg (putL ps xs fr) (σ1.setLp L (r, fr)) (fun e fr1 σ2 => e = .normal ∧ σ2 = σ1.setLp L (r, fr) ∧ aC P body fr1 (σ1.setLp L (busy r, fr)) (fun e _ σ3 => match e with
        | .normal => ∃ s, σ3 = s.setLp L (busy r, fr) ∧ s.lp L = none ∧ N s
        | .ret => ∃ s, σ3 = s.setLp L (busy r, fr) ∧ s.lp L = none ∧ R s
        | .exit id => ∃ s, σ3 = s.setLp L (busy r, fr) ∧ s.lp L = none ∧ E id s
        | _ => False))) :
    YC P L xs (σ1.setLp L (r, fr)) (fun v s' => (v = .bool true ∧ ∃ s, s' = s.setLp L (r, fr) ∧ s.lp L = none ∧ N s) ∨
      (v = .bool false ∧ ((∃ s, s' = s.setLp L (left r .ret, fr) ∧ s.lp L = none ∧ R s) ∨ ∃ id s, s' = s.setLp L (left r (.exit id), fr) ∧ s.lp L = none ∧ E id s))) := by
  refine hY xs _ _ hlen (St.lp_same _ _ _) (aC_mono _ _ _ hb ?_)
  rintro e fr1 σ2 ⟨rfl, rfl, hb2⟩
  refine ⟨rfl, St.lp_same _ _ _, ?_⟩
  rw [St.setLp_setLp]
  refine aC_mono _ _ _ hb2 (fun e _ σ3 hq => ?_)
  cases e <;> simp only at hq ⊢ <;> first | exact hq.elim | skip
  · obtain ⟨s, rfl, h1, h2⟩ := hq
    exact ⟨St.lp_same _ _ _, .inl ⟨trivial, s, St.setLp_setLp _ _ _ _, h1, h2⟩⟩
  · obtain ⟨s, rfl, h1, h2⟩ := hq
    exact ⟨St.lp_same _ _ _, .inr ⟨trivial, .inr ⟨_, s, St.setLp_setLp _ _ _ _, h1, h2⟩⟩⟩
  · obtain ⟨s, rfl, h1, h2⟩ := hq
    exact ⟨St.lp_same _ _ _, .inr ⟨trivial, .inl ⟨s, St.setLp_setLp _ _ _ _, h1, h2⟩⟩⟩
def GlobsOk (gl : List (Nat × List AV)) (σ : St) : Prop := ∀ k cs, look k gl = some cs → σ.glob k = some cs
theorem PuG.to (h : PuG P gl f ys v) (hg : GlobsOk gl σ) (hw : wkL xs ys) (hK : K v σ) : AC P f xs σ K :=
  AC.mono ((h σ hg).wk hw) (fun r s ⟨e1, e2⟩ => by subst e1; subst e2; exact hK)
theorem PuG_intro (cf : CF) (hf : fB P f cf = true) (hn : xs.length ≤ cf.n) (h : ∀ σ, GlobsOk gl σ → aC P cf.body (initF 0 xs) σ (endP cf.res (fun r s => r = v ∧ s = σ))) : PuG P gl f xs v := fun σ hσ => AC_intro cf hf hn (h σ hσ)
def TpG (P : Program) (gl : List (Nat × List AV)) (f : Nat) (xs : List AV) (e es n : Nat) (cs : List AV) : Prop := ∀ σ, GlobsOk gl σ → AC P f xs σ (fun r s => ∃ τ, σ.tip τ = none ∧ r = .tsl τ n cs ∧ s = σ.setTip τ (e, es, n))
theorem TpG.pu {e es n : Nat} {cs : List AV} (h : TpG P gl f xs e es n cs) : PuG P gl f xs (.sl false n cs) := fun σ hσ =>
  (h σ hσ).weaken fun r s ⟨τ, h1, h2, h3⟩ => ⟨.sl false n cs, σ, by rw [h2]; exact wk_tsl _ _ _, by rw [h3]; exact St.le_newT (St.le_refl _) h1, rfl, rfl⟩
theorem TpG.to {e es n : Nat} {cs : List AV} (h : TpG P gl f ys e es n cs) (hg : GlobsOk gl σ) (hw : wkL xs ys) (hK : ∀ τ, σ.tip τ = none → K (.tsl τ n cs) (σ.setTip τ (e, es, n))) : AC P f xs σ K :=
  ((h σ hg).wk hw).mono fun r s ⟨τ, h1, h2, h3⟩ => by rw [h2, h3]; exact hK τ h1
theorem PuG.all (h : PuG P gl f ys v) (hw : wkL xs ys) (hg : GlobsOk gl σ) : ∀ σ2, St.le σ σ2 → AC P f xs σ2 (fun x s => x = v ∧ s = σ2) := fun σ2 hle => (h σ2 (fun k cs hk => hle.2.2.1 _ _ (hg k cs hk))).wk hw
theorem callDV_puG {h : Hold (σ, K)} (hp : PuG P gl f ys v) (hg : GlobsOk gl σ) (hw : wkL xs ys) (hK : K v σ) : callDV P f xs σ K h := ⟨v, hp.all hw hg, hK⟩
theorem callGV_puG {b : Bool} {p : Prop} {h : Hold (σ, K)} (hg : GlobsOk gl σ) (hp : b = true → p ∧ PuG P gl f ys v ∧ wkL xs ys) (hK : K (.opt b v) σ) : callGV P b f p xs σ K h := ⟨v, fun hb => ⟨(hp hb).1, (hp hb).2.1.all (hp hb).2.2 hg⟩, hK⟩
def Bx (P : Program) (f : Nat) (xs : List AV) (cs : List AV) : Prop := ∀ σ, AC P f xs σ (fun r s => ∃ β, σ.box β = none ∧ r = .ptr β 0 ∧ s = σ.setBox β cs)
theorem Bx.to {cs : List AV} (h : Bx P f ys cs) (hw : wkL xs ys) (hK : ∀ β, σ.box β = none → K (.ptr β 0) (σ.setBox β cs)) : AC P f xs σ K :=
  ((h σ).wk hw).mono fun r s ⟨β, h1, h2, h3⟩ => by rw [h2, h3]; exact hK β h1
end
section
variable {P : Program} {σ : St} {ρ : Od → AV} {K : AV → St → Prop}
def appSV (e bytes : Nat) (a b : AV) (σ : St) (K : AV → St → Prop) (_ : Hold (σ, K)) : Prop := appSP e bytes a b σ K
def allocTV (T : Nat) (cs : List AV) (σ : St) (K : AV → St → Prop) (_ : Hold (σ, K)) : Prop := ∀ β, σ.box β = none → σ.bt β = none → K (.ptr β 0) ((σ.setBox β cs).setBt β T)
theorem aOp_appS {e bytes : Nat} {x y : Od} : aOp P ρ σ K (.appS e bytes x y) = appSV e bytes (ρ x) (ρ y) σ K ⟨⟩ := rfl
theorem aOp_allocT {T : Nat} {cs : List AV} : aOp P ρ σ K (.allocT T cs) = allocTV T cs σ K ⟨⟩ := rfl
theorem St.box_bt (σ : St) (β T : Nat) : (σ.setBt β T).box = σ.box := rfl
theorem St.tip_bt (σ : St) (β T : Nat) : (σ.setBt β T).tip = σ.tip := rfl
theorem St.glob_bt (σ : St) (β T : Nat) : (σ.setBt β T).glob = σ.glob := rfl
theorem St.lp_bt (σ : St) (β T : Nat) : (σ.setBt β T).lp = σ.lp := rfl
theorem St.bt_box (σ : St) (β : Nat) (c : List AV) : (σ.setBox β c).bt = σ.bt := rfl
theorem St.bt_tip (σ : St) (τ : Nat) (x : Nat × Nat × Nat) : (σ.setTip τ x).bt = σ.bt := rfl
theorem St.bt_lp (σ : St) (L : Nat) (x : Loop × Fr) : (σ.setLp L x).bt = σ.bt := rfl
theorem St.bt_same (σ : St) (β T : Nat) : (σ.setBt β T).bt β = some T := by simp [St.setBt, upd]
theorem St.bt_setBox (σ : St) (β γ T : Nat) (c : List AV) : (σ.setBox γ c).setBt β T = (σ.setBt β T).setBox γ c := rfl
theorem St.bt_setTip (σ : St) (β τ T : Nat) (x : Nat × Nat × Nat) : (σ.setTip τ x).setBt β T = (σ.setBt β T).setTip τ x := rfl
end
theorem R4 : type_of% (And.intro @aC_any (And.intro @anyK_done (And.intro @anyK_stop (And.intro @anyK_alt (And.intro @aOp_mkP (And.intro @pslV_eq (And.intro @aOp_s2b (And.intro @aOp_lenP (And.intro @aOp_ixQ (And.intro @aC_rfun (And.intro @callvV_yld (And.intro @aOp_b2sP (And.intro @aOp_slcP (And.intro @gdQ_b2sP (And.intro @St.lp_box (And.intro @St.lp_tip (And.intro @St.lp_same (And.intro @St.box_lp (And.intro @St.tip_lp (And.intro @St.glob_lp (And.intro @St.setBox_setLp (And.intro @St.setTip_setLp (And.intro @St.setLp_setLp (And.intro @St.drop_box (@St.drop_tip))))))))))))))))))))))))) := And.intro @aC_any (And.intro @anyK_done (And.intro @anyK_stop (And.intro @anyK_alt (And.intro @aOp_mkP (And.intro @pslV_eq (And.intro @aOp_s2b (And.intro @aOp_lenP (And.intro @aOp_ixQ (And.intro @aC_rfun (And.intro @callvV_yld (And.intro @aOp_b2sP (And.intro @aOp_slcP (And.intro @gdQ_b2sP (And.intro @St.lp_box (And.intro @St.lp_tip (And.intro @St.lp_same (And.intro @St.box_lp (And.intro @St.tip_lp (And.intro @St.glob_lp (And.intro @St.setBox_setLp (And.intro @St.setTip_setLp (And.intro @St.setLp_setLp (And.intro @St.drop_box (@St.drop_tip))))))))))))))))))))))))
end Go.Abs
namespace Go.Abs
set_option maxRecDepth 100000
theorem R5 : type_of% (And.intro @aDrw_callS <| And.intro @aC_inv <| And.intro @aOp_appS <| And.intro @aOp_appR <| And.intro @aOp_mkT <| And.intro @mkTV_eq <| And.intro @aOp_allocT <| And.intro @St.box_bt <| And.intro @St.tip_bt <| And.intro @St.glob_bt <| And.intro @St.lp_bt <| And.intro @St.bt_box <| And.intro @St.bt_tip <| And.intro @St.bt_lp <| And.intro @St.bt_same <| And.intro @St.bt_setBox <| And.intro @St.bt_setTip <| And.intro @memN.eq_1 <| And.intro @memN.eq_2 <| And.intro @aOp_asT <| And.intro @aDrw_asT <| And.intro @lookN.eq_1 <| And.intro @lookN.eq_2 <| And.intro @aOp_invk <| And.intro @invkV_eq <| And.intro @callO_eq <| And.intro @gdY_invk <| And.intro @gdN_invk <| And.intro @aOp_ldE <| And.intro @aDrw_ldE <| And.intro @keepF.eq_1 <| And.intro @keepF.eq_2 <| And.intro @initF.eq_1 <| And.intro @initF.eq_2 <| And.intro @putF.eq_1 <| And.intro @putF.eq_2 <| And.intro @guardC.eq_1 <| And.intro @guardC.eq_2 <| And.intro @guardC.eq_3 <| And.intro @guardC.eq_4 <| And.intro @CO.ods.eq_1 <| And.intro @CO.ods.eq_2 <| And.intro @CO.ods.eq_3 <| And.intro @CO.ods.eq_4 <| And.intro @CO.ods.eq_5 <| And.intro @CO.ods.eq_6 <| And.intro @CO.ods.eq_7 <| And.intro @CO.ods.eq_8 <| And.intro @CO.ods.eq_9 <| And.intro @CO.ods.eq_10 <| And.intro @CO.ods.eq_11 <| And.intro @CO.ods.eq_12 <| And.intro @CO.ods.eq_13 <| And.intro @CO.ods.eq_14 <| And.intro @CO.ods.eq_15 <| And.intro @CO.ods.eq_16 <| And.intro @CO.ods.eq_17 <| And.intro @CO.ods.eq_18 <| And.intro @CO.ods.eq_19 <| And.intro @CO.ods.eq_20 <| And.intro @CO.ods.eq_21 <| And.intro @CO.ods.eq_22 <| And.intro @CO.ods.eq_23 <| And.intro @CO.ods.eq_24 <| And.intro @CO.ods.eq_25 <| And.intro @CO.ods.eq_26 <| And.intro @CO.ods.eq_27 <| And.intro @CO.ods.eq_28 <| And.intro @CO.ods.eq_29 <| And.intro @CO.ods.eq_30 <| And.intro @CO.ods.eq_31 <| And.intro @CO.ods.eq_32 <| And.intro @CO.ods.eq_33 <| And.intro @CO.ods.eq_34 <| And.intro @CO.ods.eq_35 <| And.intro @CO.ods.eq_36 <| And.intro @CO.ods.eq_37 <| And.intro @CO.ods.eq_38 <| And.intro @CO.ods.eq_39 <| And.intro @CO.ods.eq_40 <| And.intro @CO.ods.eq_41 <| And.intro @CO.ods.eq_42 <| And.intro @CO.ods.eq_43 <| And.intro @optAll.eq_1 <| And.intro @optAll.eq_2 <| And.intro @evU.eq_1 <| And.intro @binV.eq_1 <| And.intro @binV.eq_2 <| And.intro @binV.eq_3 <| And.intro @binS.eq_1 <| And.intro @binS.eq_2 <| And.intro @binS.eq_3 <| And.intro @intV.eq_1 <| And.intro @intV.eq_2 <| And.intro @intV.eq_3 <| And.intro @intV.eq_4 <| And.intro @intV.eq_5 <| And.intro @intV.eq_6 <| And.intro @intV.eq_7 <| And.intro @intV.eq_8 <| And.intro @intV.eq_9 <| And.intro @intV.eq_10 <| And.intro @intV.eq_11 <| And.intro @intV.eq_12 <| And.intro @intV.eq_13 <| And.intro @intV.eq_14 <| And.intro @intV.eq_15 <| And.intro @intV.eq_16 <| And.intro @intV.eq_17 <| And.intro @intS.eq_1 <| And.intro @intS.eq_2 <| And.intro @intS.eq_3 <| And.intro @intS.eq_4 <| And.intro @intS.eq_5 <| And.intro @strV.eq_1 <| And.intro @strV.eq_2 <| And.intro @strV.eq_3 <| And.intro @strV.eq_4 <| And.intro @strV.eq_5 <| And.intro @strV.eq_6 <| And.intro @strV.eq_7 <| And.intro @strV.eq_8 <| And.intro @strS.eq_1 <| And.intro @strS.eq_2 <| And.intro @strS.eq_3 <| And.intro @strS.eq_4 <| And.intro @strS.eq_5 <| And.intro @strS.eq_6 <| And.intro @strS.eq_7 <| And.intro @strS.eq_8 <| And.intro @unV.eq_1 <| And.intro @unV.eq_2 <| And.intro @unV.eq_3 <| And.intro @unV.eq_4 <| And.intro @unS.eq_1 <| And.intro @unS.eq_2 <| And.intro @unS.eq_3 <| And.intro @unS.eq_4 <| And.intro @pickV.eq_1 <| And.intro @pickV.eq_2 <| And.intro @pickV.eq_3 <| And.intro @pickV.eq_4 <| And.intro @pickV.eq_5 <| And.intro @pickV.eq_6 <| And.intro @pickV.eq_7 <| And.intro @pickV.eq_8 <| And.intro @pickV.eq_9 <| And.intro @pickV.eq_10 <| And.intro @pickS.eq_1 <| And.intro @pickS.eq_2 <| And.intro @boolS.eq_1 <| And.intro @boolS.eq_2 <| And.intro @boolS.eq_3 <| And.intro @slv.eq_1 <| And.intro @slv.eq_2 <| And.intro @slv.eq_3 <| And.intro @slv.eq_4 <| And.intro @intOfA.eq_1 <| And.intro @intOfA.eq_2 <| And.intro @isIntA.eq_1 <| And.intro @isIntA.eq_2 <| And.intro @isIntO.eq_1 <| And.intro @isIntO.eq_2 <| And.intro @bnd.eq_1 <| And.intro @bnd.eq_2 <| And.intro @ldV.eq_1 <| And.intro @ldV.eq_2 <| And.intro @ldS.eq_1 <| And.intro @ldS.eq_2 <| And.intro @pcells.eq_1 <| And.intro @pcells.eq_2 <| And.intro @pcells.eq_3 <| And.intro @AV.fits.eq_1 <| And.intro @AV.fits.eq_2 <| And.intro @AV.one.eq_1 <| And.intro @AV.one.eq_2 <| And.intro @AV.one.eq_3 <| And.intro @AV.one.eq_4 <| And.intro @AV.one.eq_5 <| And.intro @AV.cells.eq_1 <| And.intro @AV.cells.eq_2 <| And.intro @putParts.eq_1 <| And.intro @putParts.eq_2 <| And.intro @partsS.eq_1 <| And.intro @partsS.eq_2 <| And.intro @fresh.eq_1 <| And.intro @fresh.eq_2 <| And.intro @fresh.eq_3 <| And.intro @nilOk.eq_1 <| And.intro @nilOk.eq_2 <| And.intro @nilOk.eq_3 <| And.intro @nilOk.eq_4 <| And.intro @nilOk.eq_5 <| And.intro @nilOk.eq_6 <| And.intro @nilOk.eq_7 <| And.intro @nilOk.eq_8 <| And.intro @nilOk.eq_9 <| And.intro @nilOk.eq_10 <| And.intro @nilOk.eq_11 <| And.intro @nilP.eq_1 <| And.intro @nilP.eq_2 <| And.intro @nilP.eq_3 <| And.intro @nilP.eq_4 <| And.intro @nilP.eq_5 <| And.intro @nilP.eq_6 <| And.intro @nilP.eq_7 <| And.intro @nilP.eq_8 <| And.intro @nilP.eq_9 <| And.intro @nilP.eq_10 <| And.intro @nilP.eq_11 <| And.intro @pickE.eq_1 <| And.intro @pickE.eq_2 <| And.intro @isLd.eq_1 <| And.intro @isLd.eq_2 <| And.intro @isLd.eq_3 <| And.intro @sqL.eq_1 <| And.intro @sqL.eq_2 <| And.intro @sqL.eq_3 <| And.intro @sqV.eq_1 <| And.intro @sqV.eq_2 <| And.intro @sqV.eq_3 <| And.intro @sqV.eq_4 <| And.intro @ps.eq_1 <| And.intro @ps.eq_2 <| And.intro @ps.eq_3 <| And.intro @ps.eq_4 <| And.intro @ps.eq_5 <| And.intro @ps.eq_6 <| And.intro @ps.eq_7 <| And.intro @ps.eq_8 <| And.intro @ps.eq_9 <| And.intro @ps.eq_10 <| And.intro @ps.eq_11 <| And.intro @ps.eq_12 <| And.intro @ps.eq_13 <| And.intro @ps.eq_14 <| And.intro @ps.eq_15 <| And.intro @ps.eq_16 <| And.intro @ps.eq_17 <| And.intro @ps.eq_18 <| And.intro @ps.eq_19 <| And.intro @ps.eq_20 <| And.intro @ps.eq_21 <| And.intro @ps.eq_22 <| And.intro @ps.eq_23 <| And.intro @ps.eq_24 <| And.intro @ps.eq_25 <| And.intro @ps.eq_26 <| And.intro @ps.eq_27 <| And.intro @ps.eq_28 <| And.intro @ps.eq_29 <| And.intro @ps.eq_30 <| And.intro @ps.eq_31 <| And.intro @ps.eq_32 <| And.intro @ps.eq_33 <| And.intro @ps.eq_34 <| And.intro @ps.eq_35 <| And.intro @ps.eq_36 <| And.intro @pf.eq_1 <| And.intro @pf.eq_2 <| And.intro @pf.eq_3 <| And.intro @pf.eq_4 <| And.intro @pf.eq_5 <| And.intro @pf.eq_6 <| And.intro @pf.eq_7 <| And.intro @pf.eq_8 <| And.intro @pf.eq_9 <| And.intro @pf.eq_10 <| And.intro @pf.eq_11 <| And.intro @pf.eq_12 <| And.intro @pf.eq_13 <| And.intro @pf.eq_14 <| And.intro @pf.eq_15 <| And.intro @pf.eq_16 <| And.intro @pf.eq_17 <| And.intro @pf.eq_18 <| And.intro @pf.eq_19 <| And.intro @pf.eq_20 <| And.intro @pf.eq_21 <| And.intro @pf.eq_22 <| And.intro @pf.eq_23 <| And.intro @pf.eq_24 <| And.intro @pf.eq_25 <| And.intro @pf.eq_26 <| And.intro @pf.eq_27 <| And.intro @pf.eq_28 <| And.intro @pf.eq_29 <| And.intro @pf.eq_30 <| And.intro @pf.eq_31 <| And.intro @pf.eq_32 <| And.intro @pf.eq_33 <| And.intro @pf.eq_34 <| And.intro @ev.eq_1 <| And.intro @ev.eq_2 <| And.intro @ev.eq_3 <| And.intro @ev.eq_4 <| And.intro @slot.eq_1 <| And.intro @slot.eq_2 <| And.intro @putL.eq_1 @putL.eq_2) := And.intro @aDrw_callS <| And.intro @aC_inv <| And.intro @aOp_appS <| And.intro @aOp_appR <| And.intro @aOp_mkT <| And.intro @mkTV_eq <| And.intro @aOp_allocT <| And.intro @St.box_bt <| And.intro @St.tip_bt <| And.intro @St.glob_bt <| And.intro @St.lp_bt <| And.intro @St.bt_box <| And.intro @St.bt_tip <| And.intro @St.bt_lp <| And.intro @St.bt_same <| And.intro @St.bt_setBox <| And.intro @St.bt_setTip <| And.intro @memN.eq_1 <| And.intro @memN.eq_2 <| And.intro @aOp_asT <| And.intro @aDrw_asT <| And.intro @lookN.eq_1 <| And.intro @lookN.eq_2 <| And.intro @aOp_invk <| And.intro @invkV_eq <| And.intro @callO_eq <| And.intro @gdY_invk <| And.intro @gdN_invk <| And.intro @aOp_ldE <| And.intro @aDrw_ldE <| And.intro @keepF.eq_1 <| And.intro @keepF.eq_2 <| And.intro @initF.eq_1 <| And.intro @initF.eq_2 <| And.intro @putF.eq_1 <| And.intro @putF.eq_2 <| And.intro @guardC.eq_1 <| And.intro @guardC.eq_2 <| And.intro @guardC.eq_3 <| And.intro @guardC.eq_4 <| And.intro @CO.ods.eq_1 <| And.intro @CO.ods.eq_2 <| And.intro @CO.ods.eq_3 <| And.intro @CO.ods.eq_4 <| And.intro @CO.ods.eq_5 <| And.intro @CO.ods.eq_6 <| And.intro @CO.ods.eq_7 <| And.intro @CO.ods.eq_8 <| And.intro @CO.ods.eq_9 <| And.intro @CO.ods.eq_10 <| And.intro @CO.ods.eq_11 <| And.intro @CO.ods.eq_12 <| And.intro @CO.ods.eq_13 <| And.intro @CO.ods.eq_14 <| And.intro @CO.ods.eq_15 <| And.intro @CO.ods.eq_16 <| And.intro @CO.ods.eq_17 <| And.intro @CO.ods.eq_18 <| And.intro @CO.ods.eq_19 <| And.intro @CO.ods.eq_20 <| And.intro @CO.ods.eq_21 <| And.intro @CO.ods.eq_22 <| And.intro @CO.ods.eq_23 <| And.intro @CO.ods.eq_24 <| And.intro @CO.ods.eq_25 <| And.intro @CO.ods.eq_26 <| And.intro @CO.ods.eq_27 <| And.intro @CO.ods.eq_28 <| And.intro @CO.ods.eq_29 <| And.intro @CO.ods.eq_30 <| And.intro @CO.ods.eq_31 <| And.intro @CO.ods.eq_32 <| And.intro @CO.ods.eq_33 <| And.intro @CO.ods.eq_34 <| And.intro @CO.ods.eq_35 <| And.intro @CO.ods.eq_36 <| And.intro @CO.ods.eq_37 <| And.intro @CO.ods.eq_38 <| And.intro @CO.ods.eq_39 <| And.intro @CO.ods.eq_40 <| And.intro @CO.ods.eq_41 <| And.intro @CO.ods.eq_42 <| And.intro @CO.ods.eq_43 <| And.intro @optAll.eq_1 <| And.intro @optAll.eq_2 <| And.intro @evU.eq_1 <| And.intro @binV.eq_1 <| And.intro @binV.eq_2 <| And.intro @binV.eq_3 <| And.intro @binS.eq_1 <| And.intro @binS.eq_2 <| And.intro @binS.eq_3 <| And.intro @intV.eq_1 <| And.intro @intV.eq_2 <| And.intro @intV.eq_3 <| And.intro @intV.eq_4 <| And.intro @intV.eq_5 <| And.intro @intV.eq_6 <| And.intro @intV.eq_7 <| And.intro @intV.eq_8 <| And.intro @intV.eq_9 <| And.intro @intV.eq_10 <| And.intro @intV.eq_11 <| And.intro @intV.eq_12 <| And.intro @intV.eq_13 <| And.intro @intV.eq_14 <| And.intro @intV.eq_15 <| And.intro @intV.eq_16 <| And.intro @intV.eq_17 <| And.intro @intS.eq_1 <| And.intro @intS.eq_2 <| And.intro @intS.eq_3 <| And.intro @intS.eq_4 <| And.intro @intS.eq_5 <| And.intro @strV.eq_1 <| And.intro @strV.eq_2 <| And.intro @strV.eq_3 <| And.intro @strV.eq_4 <| And.intro @strV.eq_5 <| And.intro @strV.eq_6 <| And.intro @strV.eq_7 <| And.intro @strV.eq_8 <| And.intro @strS.eq_1 <| And.intro @strS.eq_2 <| And.intro @strS.eq_3 <| And.intro @strS.eq_4 <| And.intro @strS.eq_5 <| And.intro @strS.eq_6 <| And.intro @strS.eq_7 <| And.intro @strS.eq_8 <| And.intro @unV.eq_1 <| And.intro @unV.eq_2 <| And.intro @unV.eq_3 <| And.intro @unV.eq_4 <| And.intro @unS.eq_1 <| And.intro @unS.eq_2 <| And.intro @unS.eq_3 <| And.intro @unS.eq_4 <| And.intro @pickV.eq_1 <| And.intro @pickV.eq_2 <| And.intro @pickV.eq_3 <| And.intro @pickV.eq_4 <| And.intro @pickV.eq_5 <| And.intro @pickV.eq_6 <| And.intro @pickV.eq_7 <| And.intro @pickV.eq_8 <| And.intro @pickV.eq_9 <| And.intro @pickV.eq_10 <| And.intro @pickS.eq_1 <| And.intro @pickS.eq_2 <| And.intro @boolS.eq_1 <| And.intro @boolS.eq_2 <| And.intro @boolS.eq_3 <| And.intro @slv.eq_1 <| And.intro @slv.eq_2 <| And.intro @slv.eq_3 <| And.intro @slv.eq_4 <| And.intro @intOfA.eq_1 <| And.intro @intOfA.eq_2 <| And.intro @isIntA.eq_1 <| And.intro @isIntA.eq_2 <| And.intro @isIntO.eq_1 <| And.intro @isIntO.eq_2 <| And.intro @bnd.eq_1 <| And.intro @bnd.eq_2 <| And.intro @ldV.eq_1 <| And.intro @ldV.eq_2 <| And.intro @ldS.eq_1 <| And.intro @ldS.eq_2 <| And.intro @pcells.eq_1 <| And.intro @pcells.eq_2 <| And.intro @pcells.eq_3 <| And.intro @AV.fits.eq_1 <| And.intro @AV.fits.eq_2 <| And.intro @AV.one.eq_1 <| And.intro @AV.one.eq_2 <| And.intro @AV.one.eq_3 <| And.intro @AV.one.eq_4 <| And.intro @AV.one.eq_5 <| And.intro @AV.cells.eq_1 <| And.intro @AV.cells.eq_2 <| And.intro @putParts.eq_1 <| And.intro @putParts.eq_2 <| And.intro @partsS.eq_1 <| And.intro @partsS.eq_2 <| And.intro @fresh.eq_1 <| And.intro @fresh.eq_2 <| And.intro @fresh.eq_3 <| And.intro @nilOk.eq_1 <| And.intro @nilOk.eq_2 <| And.intro @nilOk.eq_3 <| And.intro @nilOk.eq_4 <| And.intro @nilOk.eq_5 <| And.intro @nilOk.eq_6 <| And.intro @nilOk.eq_7 <| And.intro @nilOk.eq_8 <| And.intro @nilOk.eq_9 <| And.intro @nilOk.eq_10 <| And.intro @nilOk.eq_11 <| And.intro @nilP.eq_1 <| And.intro @nilP.eq_2 <| And.intro @nilP.eq_3 <| And.intro @nilP.eq_4 <| And.intro @nilP.eq_5 <| And.intro @nilP.eq_6 <| And.intro @nilP.eq_7 <| And.intro @nilP.eq_8 <| And.intro @nilP.eq_9 <| And.intro @nilP.eq_10 <| And.intro @nilP.eq_11 <| And.intro @pickE.eq_1 <| And.intro @pickE.eq_2 <| And.intro @isLd.eq_1 <| And.intro @isLd.eq_2 <| And.intro @isLd.eq_3 <| And.intro @sqL.eq_1 <| And.intro @sqL.eq_2 <| And.intro @sqL.eq_3 <| And.intro @sqV.eq_1 <| And.intro @sqV.eq_2 <| And.intro @sqV.eq_3 <| And.intro @sqV.eq_4 <| And.intro @ps.eq_1 <| And.intro @ps.eq_2 <| And.intro @ps.eq_3 <| And.intro @ps.eq_4 <| And.intro @ps.eq_5 <| And.intro @ps.eq_6 <| And.intro @ps.eq_7 <| And.intro @ps.eq_8 <| And.intro @ps.eq_9 <| And.intro @ps.eq_10 <| And.intro @ps.eq_11 <| And.intro @ps.eq_12 <| And.intro @ps.eq_13 <| And.intro @ps.eq_14 <| And.intro @ps.eq_15 <| And.intro @ps.eq_16 <| And.intro @ps.eq_17 <| And.intro @ps.eq_18 <| And.intro @ps.eq_19 <| And.intro @ps.eq_20 <| And.intro @ps.eq_21 <| And.intro @ps.eq_22 <| And.intro @ps.eq_23 <| And.intro @ps.eq_24 <| And.intro @ps.eq_25 <| And.intro @ps.eq_26 <| And.intro @ps.eq_27 <| And.intro @ps.eq_28 <| And.intro @ps.eq_29 <| And.intro @ps.eq_30 <| And.intro @ps.eq_31 <| And.intro @ps.eq_32 <| And.intro @ps.eq_33 <| And.intro @ps.eq_34 <| And.intro @ps.eq_35 <| And.intro @ps.eq_36 <| And.intro @pf.eq_1 <| And.intro @pf.eq_2 <| And.intro @pf.eq_3 <| And.intro @pf.eq_4 <| And.intro @pf.eq_5 <| And.intro @pf.eq_6 <| And.intro @pf.eq_7 <| And.intro @pf.eq_8 <| And.intro @pf.eq_9 <| And.intro @pf.eq_10 <| And.intro @pf.eq_11 <| And.intro @pf.eq_12 <| And.intro @pf.eq_13 <| And.intro @pf.eq_14 <| And.intro @pf.eq_15 <| And.intro @pf.eq_16 <| And.intro @pf.eq_17 <| And.intro @pf.eq_18 <| And.intro @pf.eq_19 <| And.intro @pf.eq_20 <| And.intro @pf.eq_21 <| And.intro @pf.eq_22 <| And.intro @pf.eq_23 <| And.intro @pf.eq_24 <| And.intro @pf.eq_25 <| And.intro @pf.eq_26 <| And.intro @pf.eq_27 <| And.intro @pf.eq_28 <| And.intro @pf.eq_29 <| And.intro @pf.eq_30 <| And.intro @pf.eq_31 <| And.intro @pf.eq_32 <| And.intro @pf.eq_33 <| And.intro @pf.eq_34 <| And.intro @ev.eq_1 <| And.intro @ev.eq_2 <| And.intro @ev.eq_3 <| And.intro @ev.eq_4 <| And.intro @slot.eq_1 <| And.intro @slot.eq_2 <| And.intro @putL.eq_1 @putL.eq_2
theorem RR : type_of% (And.intro R2 <| And.intro R3 <| And.intro R4 <| And.intro R5 <| And.intro R6 <| And.intro @decide_true @decide_false) := And.intro R2 <| And.intro R3 <| And.intro R4 <| And.intro R5 <| And.intro R6 <| And.intro @decide_true @decide_false
theorem Pt {P : Program} {f : Nat} {xs : List AV} {v : AV} {σ : St} {K : AV → St → Prop} (h : Pu P f xs v) (hK : K v σ) : AC P f xs σ K := h.to (wkL_refl _) hK
theorem Ct {P : Program} {f : Nat} {xs : List AV} {v : AV} {σ : St} {K : AV → St → Prop} {h : Hold (σ, K)} (hp : Pu P f xs v) (hK : K v σ) : callDV P f xs σ K h := callDV_pu hp (wkL_refl _) hK
theorem RB : type_of% (And.intro @St.box_noneA <| And.intro @St.tip_noneA <| And.intro @St.tip_set <| And.intro @St.box_tip <| And.intro @St.box_lp @St.tip_lp) := And.intro @St.box_noneA <| And.intro @St.tip_noneA <| And.intro @St.tip_set <| And.intro @St.box_tip <| And.intro @St.box_lp @St.tip_lp
theorem RZ : type_of% (And.intro @List.length_map.{0, 0} <| And.intro @List.length_append.{0} <| And.intro @List.length_cons.{0} <| And.intro @List.length_nil.{0} <| And.intro @List.length_take.{0} @List.length_drop.{0}) := And.intro @List.length_map.{0, 0} <| And.intro @List.length_append.{0} <| And.intro @List.length_cons.{0} <| And.intro @List.length_nil.{0} <| And.intro @List.length_take.{0} @List.length_drop.{0}
end Go.Abs
namespace Go.Abs
set_option linter.all false
def enab (dp : List (List Nat)) (D : Nat) : List Nat := (List.range dp.length).filter fun j => !D.testBit j && (dp.getD j []).all D.testBit
def mkT (l : List CI) (dp : List (List Nat)) : Nat → Nat → AT
  | 0, _ => .stop
  | n + 1, D => match enab dp D with
    | [] => .done
    | js => js.foldr (fun j oth => match l[j]? with
      | some i => .alt j i (mkT l dp n (D ||| 1 <<< j)) oth
      | none => oth) .stop
end Go.Abs
namespace Go.Abs
universe u
variable {P : Program} {d : Option Nat} {r : List CI} {cs : List Nat} {fr : Fr} {σ : St} {J : Fr → St → Prop} {K : AV → St → Prop}
def callvDV (P : Program) (v : AV) (xs : List AV) (σ : St) (K : AV → St → Prop) (h : Hold (σ, K)) : Prop := match v with
  | .fn f cap => callDV P f (xs ++ cap) σ K h
  | _ => False
theorem callvDV_fn {f : Nat} {cap xs : List AV} {h : Hold (σ, K)} : callvDV P (.fn f cap) xs σ K h = callDV P f (xs ++ cap) σ K h := rfl
theorem aDrw_callv {x : Od} {args : List Od} : aDrw P (⟨d, .callv x args, none⟩ :: r) (1 :: cs) fr σ J = callvDV P (ev σ fr x) (args.map (ev σ fr)) σ (fun v σ' => drwK P d r cs fr J v σ') ⟨⟩ := by
  show (∃ v σ', dOp P 1 0 (ev σ fr) σ (.callv x args) v σ' ∧ aDrw P r cs (putF d v fr) σ' J) = _
  apply propext
  unfold callvDV dOp
  constructor
  · rintro ⟨v, σ', ⟨_, rfl, h⟩, h2⟩
    split at h
    · rename_i hx
      rw [hx]
      exact ⟨v, h, h2⟩
    · exact h.elim
  · intro h
    split at h
    · rename_i hx
      obtain ⟨v, h, h2⟩ := h
      exact ⟨v, σ, ⟨rfl, rfl, by rw [hx]; exact h⟩, h2⟩
    · exact h.elim
def fnAC (P : Program) (xs : List AV) (σ : St) (v fv : AV) : Prop := match fv with
  | .fn f cap => ∀ σ2, St.le σ σ2 → AC P f (xs ++ cap) σ2 (fun x s => x = v ∧ s = σ2)
  | _ => False
def callvGV (P : Program) (b : Bool) (fv : AV) (p : Prop) (xs : List AV) (σ : St) (K : AV → St → Prop) (_ : Hold (σ, K)) : Prop := ∃ v, (b = true → p ∧ fnAC P xs σ v fv) ∧ K (.opt b v) σ
theorem callvGV_fn {b : Bool} {p : Prop} {f : Nat} {cap xs : List AV} {h : Hold (σ, K)} : callvGV P b (.fn f cap) p xs σ K h = callGV P b f p (xs ++ cap) σ K ⟨⟩ := rfl
theorem callvGV_no {p : Prop} {fv : AV} {xs : List AV} {h : Hold (σ, K)} (hK : K (.opt false .junk) σ) : callvGV P false fv p xs σ K h := ⟨.junk, ⟨fun e => (by cases e), hK⟩⟩
variable {c : Nat}
theorem gdD_callv {b : Bool} {x : Od} {args : List Od} {h : Hold (d, CO.callv x args, r, cs, fr, σ, J)} : gdD P c (some b) d (.callv x args) r cs fr σ J h = callvGV P b (evU (ev σ fr) x) (optAll b (ev σ fr) (x :: args)) (args.map (evU (ev σ fr))) σ (fun v σ' => c = 1 ∧ drwK P d r cs fr J v σ') ⟨⟩ := by
  have hq : (CO.callv x args).quiet = false := rfl
  simp only [gdD, hq, cond_false, callvGV, drwK]
  apply propext; constructor
  · rintro ⟨v, σ', ⟨hc, rfl, v0, rfl, h3⟩, h4⟩; exact ⟨v0, h3, hc, h4⟩
  · rintro ⟨v0, h3, hc, h4⟩; exact ⟨_, _, ⟨hc, rfl, v0, rfl, h3⟩, h4⟩
theorem aDrwG_callv {x : Od} {args : List Od} {tt : Nat} {want : Bool} : aDrw P (⟨d, .callv x args, some (tt, want)⟩ :: r) (c :: cs) fr σ J = gdD P c (guardC want (slot tt fr)) d (.callv x args) r cs fr σ J ⟨⟩ := aDrw_guard rfl rfl
theorem aDrw_ixQ {e x i} : aDrw P (⟨d, .ixQ e x i, none⟩ :: r) (c :: cs) fr σ J = bindV (pf σ (ev σ fr) (.ixQ e x i)) (c ≤ 1 ∧ ps σ (ev σ fr) (.ixQ e x i)) σ (drwK P d r cs fr J) ⟨⟩ := by
  simp only [aDrw, makesBox, makesTip, cond_false, dStep, dOp, bindV, drwK]
  apply propext; constructor
  · rintro ⟨w, s, ⟨h1, h2, h3, rfl, rfl⟩, h⟩; exact ⟨⟨h2, h3⟩, h⟩
  · rintro ⟨⟨h2, h3⟩, h⟩; exact ⟨_, _, ⟨(fun e => by simp [isLd] at e), h2, h3, rfl, rfl⟩, h⟩
theorem aDrwG_ixQ {e x i} {tt : Nat} {want : Bool} : aDrw P (⟨d, .ixQ e x i, some (tt, want)⟩ :: r) (c :: cs) fr σ J = gdD P c (guardC want (slot tt fr)) d (.ixQ e x i) r cs fr σ J ⟨⟩ := aDrw_guard rfl rfl
theorem gdDQ_ixQ {bb : Bool} {e x i} {h : Hold (d, CO.ixQ e x i, r, cs, fr, σ, J)} : gdD P c (some bb) d (.ixQ e x i) r cs fr σ J h = bindV (.opt bb (bif bb then pf σ (evU (ev σ fr)) (.ixQ e x i) else .junk)) (((isLd (.ixQ e x i) = true → c = 1) ∧ c ≤ 1) ∧ (bb = true → optAll bb (ev σ fr) (CO.ods (.ixQ e x i)) ∧ ps σ (evU (ev σ fr)) (.ixQ e x i))) σ (drwK P d r cs fr J) ⟨⟩ := gdD_quiet rfl
theorem gdQ_ixQ {bb : Bool} {e x i} {h : Hold (d, CO.ixQ e x i, r, fr, σ, J)} : gdV P (some bb) d (.ixQ e x i) r fr σ J h = bindV (.opt bb (pf σ (evU (ev σ fr)) (.ixQ e x i))) (bb = true → optAll bb (ev σ fr) (CO.ods (.ixQ e x i)) ∧ ps σ (evU (ev σ fr)) (.ixQ e x i)) σ (opsK P d r fr J) ⟨⟩ := gdV_quiet rfl
theorem gdQ_lenP {bb : Bool} {x} {h : Hold (d, CO.lenP x, r, fr, σ, J)} : gdV P (some bb) d (.lenP x) r fr σ J h = bindV (.opt bb (pf σ (evU (ev σ fr)) (.lenP x))) (bb = true → optAll bb (ev σ fr) (CO.ods (.lenP x)) ∧ ps σ (evU (ev σ fr)) (.lenP x)) σ (opsK P d r fr J) ⟨⟩ := gdV_quiet rfl
theorem aDrw_lenP {x} : aDrw P (⟨d, .lenP x, none⟩ :: r) (c :: cs) fr σ J = bindV (pf σ (ev σ fr) (.lenP x)) (c ≤ 1 ∧ ps σ (ev σ fr) (.lenP x)) σ (drwK P d r cs fr J) ⟨⟩ := by
  simp only [aDrw, makesBox, makesTip, cond_false, dStep, dOp, bindV, drwK]
  apply propext; constructor
  · rintro ⟨w, s, ⟨h1, h2, h3, rfl, rfl⟩, h⟩; exact ⟨⟨h2, h3⟩, h⟩
  · rintro ⟨⟨h2, h3⟩, h⟩; exact ⟨_, _, ⟨(fun e => by simp [isLd] at e), h2, h3, rfl, rfl⟩, h⟩
theorem RQ : type_of% (And.intro @gdD_callv <| And.intro @aDrwG_callv <| And.intro @aDrw_ixQ <| And.intro @aDrwG_ixQ <| And.intro @gdDQ_ixQ <| And.intro @gdQ_ixQ <| And.intro @aDrw_callv <| And.intro @gdQ_lenP <| And.intro @aDrw_lenP <| And.intro @callvDV_fn @callvGV_fn) := And.intro @gdD_callv <| And.intro @aDrwG_callv <| And.intro @aDrw_ixQ <| And.intro @aDrwG_ixQ <| And.intro @gdDQ_ixQ <| And.intro @gdQ_ixQ <| And.intro @aDrw_callv <| And.intro @gdQ_lenP <| And.intro @aDrw_lenP <| And.intro @callvDV_fn @callvGV_fn
end Go.Abs
