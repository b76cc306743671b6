/- Part 14 of the proof of AuditParts: an abstract semantics that is proved sound for the model, contracts of functions in it, and plain facts (Abs18 Abs26 Abs27 AU1 Abs28 Abs29). No condition. -/
import Derived.Test.YtbbkckogjdjjgaaDoorKAuditParts13
import Derived.Shelf.Strconv.Itoa4
set_option linter.all false
namespace Go.Abs
open Go.RowKit Go.Lib
/-- The ghost of a world that only grew. -/
def Gh.on (g : Gh) (w : World) : Gh := { g with cl := fun b => if b < w.heap.size then g.cl b else none }
section
variable {P : Program} {g : Gh} {σ : St} {w w' : World}
theorem Ext.below (g : Gh) (hb : Below w.heap.size w w') : Ext g w (g.on w) w' := by
  refine ⟨hb.os, hb.tape, hb.output, hb.size, fun β b h => h, fun β _ => rfl, Nat.le_refl _, Nat.le_refl _, fun m n v h => h, fun b h hc => ⟨by simp only [Gh.on, if_pos h]; exact hc, hb.block b h⟩, fun b F h hc => ⟨F, by simp only [Gh.on, if_pos h]; exact hc, Nat.le_refl _, fun i _ => World.cell?_of_block (hb.block b h)⟩, fun _ _ h => h⟩
theorem Inv.below (hI : Inv g σ w) (hb : Below w.heap.size w w') : Inv (g.on w) σ w' := by
  have he := Ext.below g hb
  refine ⟨fun β cs h => ?_, fun β b h => ?_, hI.boxinj, hI.boxfresh, fun τ e s n ht => ?_, hI.tipinj, hI.tipfresh, fun k cs hk => (hI.glob k cs hk).mono he, fun l r hl => by
    obtain ⟨q1, q2, q3⟩ := hI.lp l r hl
    have hlt := (Array.getElem?_eq_some_iff.1 q1).1
    exact ⟨by rw [hb.block l hlt]; exact q1, by simp only [Gh.on, if_pos hlt]; exact q2, fun t => (q3 t).mono he⟩⟩
  · obtain ⟨b, vs, T, h1, h2, h3⟩ := hI.box β cs h
    exact ⟨b, vs, T, h1, by rw [hb.block b (hI.boxcl β b h1).1]; exact h2, h3.mono he⟩
  · obtain ⟨h1, h2⟩ := hI.boxcl β b h
    exact ⟨Nat.lt_of_lt_of_le h1 hb.size, by simp only [Gh.on, if_pos h1]; exact h2⟩
  · obtain ⟨v, h1, h2, h4⟩ := hI.tip τ e s n ht
    refine ⟨v, h1, fun hs => ?_, h4⟩
    obtain ⟨xs, h2, h3⟩ := h2 hs
    refine ⟨xs, h2.kept (row := none) ⟨hb.os, hb.tape, hb.output, hb.size, fun k hk _ => hb.block k hk⟩ (by cases h : v.ownBlock <;> simp), fun b hbb => ?_⟩
    have hlt := (h2.lt b hbb).2
    obtain ⟨h5, h6⟩ := h3 b hbb
    exact ⟨by simp only [Gh.on, if_pos hlt]; exact h5, h6⟩
/-- A call in the model that only grows the heap is a contract. -/
theorem AC.of_calls {f : Nat} {xs : List AV} {r : AV} (he : ∀ args w, (callFunc f args).run P w = .ok (.enter f args) w)
    (h : ∀ g w (vs : List Value), Inv g σ w → RelL g w xs vs → Calls P f vs.toArray w (fun e w' => ∃ v, e = .returned v ∧ Below w.heap.size w w' ∧ ∀ g' , Ext g w g' w' → Rel g' w' r v)) : AC P f xs σ (fun x s => x = r ∧ s = σ) := by
  intro g w vs hI hv
  refine .inl ⟨he _ _, (h g w vs hI hv).mono ?_⟩
  rintro e w' ⟨v, rfl, hb, hr⟩
  exact ⟨v, r, σ, g.on w, rfl, ⟨rfl, rfl⟩, hI.below hb, Ext.below g hb, hr _ (Ext.below g hb)⟩
def tabAV : List AV := pow10Tab.map (AV.int .u64)
theorem var_of_glob {k : Nat} {name : String} {l : List Int} {kk : IntKind} (hI : Inv g σ w) (hg : P.globalNamed name = some k) (hσ : σ.glob k = some (l.map (AV.int kk))) : TabIs P w name kk l := by
  obtain ⟨hr, hc, vs, T, q, hv, hl⟩ := hI.glob k _ hσ
  obtain ⟨b, off, u, e, hL⟩ := hr.el_inv
  cases e
  have hu : u = l.map (Value.int kk) := by
    apply List.ext_getElem?
    intro i
    have h1 := hL.rel.1.1
    simp only [List.length_map] at h1
    rcases Nat.lt_or_ge i l.length with hi | hi
    · have h2 : (l.map (AV.int kk))[i]? = some (.int kk l[i]) := by simp [hi]
      have h3 : u[i]? = some u[i] := List.getElem?_eq_getElem (by omega)
      have := hL.rel.1.2 i _ _ h2 h3
      rw [h3, this.int_inv]
      simp [hi]
    · rw [List.getElem?_eq_none (by omega), List.getElem?_eq_none (by simpa using hi)]
  have : vs = u.toArray := by
    apply Array.ext'
    apply List.ext_getElem?
    intro i
    have h1 := hL.rel.1.1
    have hl' : vs.toList.length = u.length := by simp only [Array.length_toList, hl, h1]
    rcases Nat.lt_or_ge i u.length with hi | hi
    · have h3 : u[i]? = some u[i] := List.getElem?_eq_getElem hi
      have h4 := hL.cell i _ h3
      simp only [World.cell?, hv, Nat.zero_add] at h4
      simp only [List.toList_toArray, h3]
      rw [← h4]
      simp [hi]
    · rw [List.getElem?_eq_none (by omega), List.getElem?_eq_none (by simpa using hi)]
  unfold TabIs
  simp only [World.var?, hg, Option.bind_some, hv, this, hu]
/-- strconv.FormatInt at base 10. -/
def Fmts (P : Program) (f k : Nat) : Prop := ∀ (n : Int) (σ : St), -9223372036854775808 ≤ n → n ≤ 9223372036854775807 → σ.glob k = some tabAV → AC P f [.int .i64 n, .int .i64 10] σ (fun x s => x = .str (itoa n) ∧ s = σ)
theorem fmts_of {f k : Nat} (he : ∀ args w, (callFunc f args).run P w = .ok (.enter f args) w) (hg : P.globalNamed "internal/strconv.uint64pow10" = some k)
    (h : ∀ (n : Int), -9223372036854775808 ≤ n → n ≤ 9223372036854775807 → ∀ w, TabIs P w "internal/strconv.uint64pow10" .u64 pow10Tab → Calls P f #[.int .i64 n, .int .i64 10] w fun e w' => e = .returned (.string ⟨(itoa n).toArray⟩) ∧ ∃ k os, w' = Go.Sort.grow (w.drewN k) os) : Fmts P f k := by
  intro n σ h0 h1 hσ
  refine AC.of_calls he ?_
  intro g w vs hI hv
  obtain ⟨v1, vs, rfl, r1, hv⟩ := hv.cons_inv
  obtain ⟨v2, vs, rfl, r2, hv⟩ := hv.cons_inv
  rw [hv.nil_inv, r1.int_inv, r2.int_inv]
  refine (h n h0 h1 w (var_of_glob hI hg hσ)).mono ?_
  rintro e w' ⟨rfl, k', os, rfl⟩
  refine ⟨_, rfl, ⟨rfl, rfl, rfl, by simp [Go.Sort.grow, World.drewN], fun i hi => ?_⟩, fun g' _ => .str _⟩
  simp only [Go.Sort.grow, World.drewN]
  rw [Array.getElem?_append_left hi]
end
end Go.Abs
namespace Go.Abs
open Go.RowKit Go.Lib
/-- The state of the package's variables. -/
def PuG (P : Program) (gl : List (Nat × List AV)) (f : Nat) (xs : List AV) (v : AV) : Prop := ∀ σ, (∀ k cs, look k gl = some cs → σ.glob k = some cs) → AC P f xs σ (fun r s => r = v ∧ s = σ)
theorem Pu.g {P : Program} {gl : List (Nat × List AV)} {f : Nat} {xs : List AV} {v : AV} (h : Pu P f xs v) : PuG P gl f xs v := fun σ _ => h σ
/-- A package's table of integers, at the start of a call. -/
theorem glob_of_tab {P : Program} {w : World} {name : String} {kk : IntKind} {l : List Int} {k : Nat} (h : TabIs P w name kk l) (hg : P.globalNamed name = some k) : GlobOk g0 w k (l.map (AV.int kk)) := by
  have hrow : ∃ T q, w.heap[k]? = some (.cells (l.map (Value.int kk)).toArray T q) := by
    unfold TabIs at h
    simp only [World.var?, hg, Option.bind_some] at h
    split at h
    · rename_i cs T q hh
      cases h
      exact ⟨T, q, hh⟩
    · cases h
  obtain ⟨T, q, hh⟩ := hrow
  have hlt : k < w.heap.size := (Array.getElem?_eq_some_iff.1 hh).1
  refine ⟨Rel.el_mk (u := l.map (Value.int kk)) ⟨⟨hlt, .inl rfl⟩, ⟨⟨by simp, fun i c v hc hv => ?_⟩, fun v hv => ?_⟩, fun i v hv => ?_⟩, rfl, _, T, q, hh, by simp⟩
  · simp only [List.getElem?_map, Option.map_eq_some_iff] at hc hv
    obtain ⟨n, h1, rfl⟩ := hc
    obtain ⟨n', h2, rfl⟩ := hv
    rw [h1] at h2; cases h2
    exact .int _ _
  · simp only [List.mem_map] at hv
    obtain ⟨n, _, rfl⟩ := hv
    rfl
  · simp only [World.cell?, hh, Nat.zero_add]
    simpa using hv
/-- A law whose package variables are tables, that answers true. -/
theorem law_callsG {P : Program} {gl : List (Nat × List AV)} {f : Nat} {cf : CF} {xs : List AV} {vs : List Value} {w : World} (hf : fB P f cf = true) (h : PuG P gl f xs (.bool true)) (hg : ∀ k cs, look k gl = some cs → GlobOk g0 w k cs) (hv : RelL g0 w xs vs) :
    Calls P f vs.toArray w (fun e w' => e = .returned (.bool true) ∧ Below w.heap.size w w') := by
  refine (calls_of (gl := fun k => look k gl) hf (h _ (fun k cs hk => hk)) hg hv).mono ?_
  rintro e w' ⟨u, g', rfl, hr, hb⟩
  rw [hr.bool_inv]
  exact ⟨rfl, hb⟩
end Go.Abs
namespace Go.Abs
end Go.Abs
namespace Go.Abs
theorem St.lp_box (σ : St) (β : Nat) (c : List AV) : (σ.setBox β c).lp = σ.lp := rfl
theorem St.lp_tip (σ : St) (τ : Nat) (x : Nat × Nat × Nat) : (σ.setTip τ x).lp = σ.lp := rfl
theorem St.lp_same (σ : St) (L : Nat) (x : Loop × Fr) : (σ.setLp L x).lp L = some x := by simp [St.setLp, upd]
theorem St.box_lp (σ : St) (L : Nat) (x : Loop × Fr) : (σ.setLp L x).box = σ.box := rfl
theorem St.tip_lp (σ : St) (L : Nat) (x : Loop × Fr) : (σ.setLp L x).tip = σ.tip := rfl
theorem St.glob_lp (σ : St) (L : Nat) (x : Loop × Fr) : (σ.setLp L x).glob = σ.glob := rfl
theorem St.setBox_setLp (σ : St) (β L : Nat) (c : List AV) (x : Loop × Fr) : (σ.setBox β c).setLp L x = (σ.setLp L x).setBox β c := rfl
theorem St.setTip_setLp (σ : St) (τ L : Nat) (y : Nat × Nat × Nat) (x : Loop × Fr) : (σ.setTip τ y).setLp L x = (σ.setLp L x).setTip τ y := rfl
theorem St.setLp_setLp (σ : St) (L : Nat) (x y : Loop × Fr) : (σ.setLp L x).setLp L y = σ.setLp L y := by
  simp only [St.setLp, St.mk.injEq, true_and]
  funext j; simp only [upd]; split <;> rfl
theorem St.drop_box (σ : St) (β L : Nat) (c : List AV) : (σ.setBox β c).dropLp L = (σ.dropLp L).setBox β c := rfl
theorem St.drop_tip (σ : St) (τ L : Nat) (y : Nat × Nat × Nat) : (σ.setTip τ y).dropLp L = (σ.dropLp L).setTip τ y := rfl
theorem St.drop_set {σ : St} {L : Nat} {x : Loop × Fr} (h : σ.lp L = none) : (σ.setLp L x).dropLp L = σ := by
  obtain ⟨b, t, g, l⟩ := σ
  simp only [St.setLp, St.dropLp, St.mk.injEq, true_and]
  funext j; simp only [upd]
  split
  · rename_i e; subst e; exact h.symm
  · rfl
/-- The inside of a loop over a function whose value is known. -/
def RF (P : Program) (f : Nat) (cap : List AV) (ps : List Nat) (asg body : CC) (fr : Fr) (σ : St) (Q : Exit → Fr → St → Prop) : Prop :=
  isFn P f = true ∧ ∀ (L : Nat) (r : Loop), σ.lp L = none → r.state = .ready → r.pending = none →
    (∀ (xs : List AV) (σ1 : St) (K : AV → St → Prop), xs.length = ps.length → σ1.lp L = some (r, fr) →
      aC P asg (putL ps xs fr) σ1 (fun e fr1 σ2 => e = .normal ∧ σ2.lp L = some (r, fr) ∧ aC P body fr1 (σ2.setLp L (busy r, fr)) (fun e _ σ3 => σ3.lp L = some (busy r, fr) ∧ match e with
        | .normal => K (.bool true) (σ3.setLp L (r, fr))
        | .ret => K (.bool false) (σ3.setLp L (left r .ret, fr))
        | .exit id => K (.bool false) (σ3.setLp L (left r (.exit id), fr))
        | _ => False)) → YC P L xs σ1 K) →
    AC P f (.yld L :: cap) (σ.setLp L (r, fr)) (fun _ s => (s.lp L = some (r, fr) ∧ Q .normal fr (s.dropLp L)) ∨ (s.lp L = some (left r .ret, fr) ∧ Q .ret fr (s.dropLp L)) ∨ ∃ id, s.lp L = some (left r (.exit id), fr) ∧ Q (.exit id) fr (s.dropLp L))
section
variable {P : Program} {σ : St} {fr : Fr} {Q : Exit → Fr → St → Prop} {K : AV → St → Prop} {x : Od} {ps : List Nat} {asg body : CC} {f : Nat} {cap xs ys : List AV} {v : AV} {gl : List (Nat × List AV)}
theorem rfunV_start {h : Hold (asg, body, fr, σ, Q)} (regs : List (Bool × Nat × Nat × Nat × Nat)) (hh : startP regs fr σ fun fr σ => ∃ f cap, ev σ fr x = .fn f cap ∧ RF P f cap ps asg body fr σ Q) : rfunV P x ps asg body fr σ Q h := by
  refine ⟨regs, startP_mono regs hh (fun fr σ hq => ?_)⟩
  obtain ⟨f, cap, h1, h2⟩ := hq
  rw [h1]
  exact h2
/-- A round's body, all that is asked of it: with the state kept under a name, the record aside. -/
theorem RF_round {L : Nat} {r : Loop} {σ1 : St} (hl : σ1.lp L = none)
    (hY : ∀ (xs : List AV) (σ1 : St) (K : AV → St → Prop), xs.length = ps.length → σ1.lp L = some (r, fr) →
      aC P asg (putL ps xs fr) σ1 (fun e fr1 σ2 => e = .normal ∧ σ2.lp L = some (r, fr) ∧ aC P body fr1 (σ2.setLp L (busy r, fr)) (fun e _ σ3 => σ3.lp L = some (busy r, fr) ∧ match e with
        | .normal => K (.bool true) (σ3.setLp L (r, fr))
        | .ret => K (.bool false) (σ3.setLp L (left r .ret, fr))
        | .exit id => K (.bool false) (σ3.setLp L (left r (.exit id), fr))
        | _ => False)) → YC P L xs σ1 K) (hlen : xs.length = ps.length) {N : St → Prop} {R : St → Prop} {E : Nat → St → Prop}
    (hb : aC P asg (putL ps xs fr) (σ1.setLp L (r, fr)) (fun e fr1 σ2 => e = .normal ∧ σ2 = σ1.setLp L (r, fr) ∧ aC P body fr1 (σ1.setLp L (busy r, fr)) (fun e _ σ3 => match e with
        | .normal => ∃ s, σ3 = s.setLp L (busy r, fr) ∧ s.lp L = none ∧ N s
        | .ret => ∃ s, σ3 = s.setLp L (busy r, fr) ∧ s.lp L = none ∧ R s
        | .exit id => ∃ s, σ3 = s.setLp L (busy r, fr) ∧ s.lp L = none ∧ E id s
        | _ => False))) :
    YC P L xs (σ1.setLp L (r, fr)) (fun v s' => (v = .bool true ∧ ∃ s, s' = s.setLp L (r, fr) ∧ s.lp L = none ∧ N s) ∨
      (v = .bool false ∧ ((∃ s, s' = s.setLp L (left r .ret, fr) ∧ s.lp L = none ∧ R s) ∨ ∃ id s, s' = s.setLp L (left r (.exit id), fr) ∧ s.lp L = none ∧ E id s))) := by
  refine hY xs _ _ hlen (St.lp_same _ _ _) (aC_mono _ _ _ hb ?_)
  rintro e fr1 σ2 ⟨rfl, rfl, hb2⟩
  refine ⟨rfl, St.lp_same _ _ _, ?_⟩
  rw [St.setLp_setLp]
  refine aC_mono _ _ _ hb2 (fun e _ σ3 hq => ?_)
  cases e <;> simp only at hq ⊢ <;> first | exact hq.elim | skip
  · obtain ⟨s, rfl, h1, h2⟩ := hq
    exact ⟨St.lp_same _ _ _, .inl ⟨trivial, s, St.setLp_setLp _ _ _ _, h1, h2⟩⟩
  · obtain ⟨s, rfl, h1, h2⟩ := hq
    exact ⟨St.lp_same _ _ _, .inr ⟨trivial, .inr ⟨_, s, St.setLp_setLp _ _ _ _, h1, h2⟩⟩⟩
  · obtain ⟨s, rfl, h1, h2⟩ := hq
    exact ⟨St.lp_same _ _ _, .inr ⟨trivial, .inl ⟨s, St.setLp_setLp _ _ _ _, h1, h2⟩⟩⟩

/-! ### The package's tables -/
def GlobsOk (gl : List (Nat × List AV)) (σ : St) : Prop := ∀ k cs, look k gl = some cs → σ.glob k = some cs
theorem PuG.to (h : PuG P gl f ys v) (hg : GlobsOk gl σ) (hw : wkL xs ys) (hK : K v σ) : AC P f xs σ K :=
  AC.mono ((h σ hg).wk hw) (fun r s ⟨e1, e2⟩ => by subst e1; subst e2; exact hK)
theorem PuG_intro (cf : CF) (hf : fB P f cf = true) (hn : xs.length ≤ cf.n) (h : ∀ σ, GlobsOk gl σ → aC P cf.body (initF 0 xs) σ (endP cf.res (fun r s => r = v ∧ s = σ))) : PuG P gl f xs v := fun σ hσ => AC_intro cf hf hn (h σ hσ)
/-- A list, to which may be appended. -/
def TpG (P : Program) (gl : List (Nat × List AV)) (f : Nat) (xs : List AV) (e es n : Nat) (cs : List AV) : Prop := ∀ σ, GlobsOk gl σ → AC P f xs σ (fun r s => ∃ τ, σ.tip τ = none ∧ r = .tsl τ n cs ∧ s = σ.setTip τ (e, es, n))
theorem TpG.to {e es n : Nat} {cs : List AV} (h : TpG P gl f ys e es n cs) (hg : GlobsOk gl σ) (hw : wkL xs ys) (hK : ∀ τ, σ.tip τ = none → K (.tsl τ n cs) (σ.setTip τ (e, es, n))) : AC P f xs σ K :=
  ((h σ hg).wk hw).mono fun r s ⟨τ, h1, h2, h3⟩ => by rw [h2, h3]; exact hK τ h1
theorem PuG.all (h : PuG P gl f ys v) (hw : wkL xs ys) (hg : GlobsOk gl σ) : ∀ σ2, St.le σ σ2 → AC P f xs σ2 (fun x s => x = v ∧ s = σ2) := fun σ2 hle => (h σ2 (fun k cs hk => hle.2.2.1 _ _ (hg k cs hk))).wk hw
theorem callDV_puG {h : Hold (σ, K)} (hp : PuG P gl f ys v) (hg : GlobsOk gl σ) (hw : wkL xs ys) (hK : K v σ) : callDV P f xs σ K h := ⟨v, hp.all hw hg, hK⟩
theorem callGV_puG {b : Bool} {p : Prop} {h : Hold (σ, K)} (hg : GlobsOk gl σ) (hp : b = true → p ∧ PuG P gl f ys v ∧ wkL xs ys) (hK : K (.opt b v) σ) : callGV P b f p xs σ K h := ⟨v, fun hb => ⟨(hp hb).1, (hp hb).2.1.all (hp hb).2.2 hg⟩, hK⟩
/-- A call whose answer is a pointer to a new variable. -/
def Bx (P : Program) (f : Nat) (xs : List AV) (cs : List AV) : Prop := ∀ σ, AC P f xs σ (fun r s => ∃ β, σ.box β = none ∧ r = .ptr β 0 ∧ s = σ.setBox β cs)
theorem Bx.to {cs : List AV} (h : Bx P f ys cs) (hw : wkL xs ys) (hK : ∀ β, σ.box β = none → K (.ptr β 0) (σ.setBox β cs)) : AC P f xs σ K :=
  ((h σ).wk hw).mono fun r s ⟨β, h1, h2, h3⟩ => by rw [h2, h3]; exact hK β h1
end
/-- The rules for simp. -/
theorem R4 : type_of% (And.intro @aC_any (And.intro @anyK_done (And.intro @anyK_stop (And.intro @anyK_alt (And.intro @aOp_mkP (And.intro @pslV_eq (And.intro @aOp_s2b (And.intro @aOp_lenP (And.intro @aOp_ixQ (And.intro @aC_rfun (And.intro @callvV_yld (And.intro @aOp_b2sP (And.intro @aOp_slcP (And.intro @gdQ_b2sP (And.intro @St.lp_box (And.intro @St.lp_tip (And.intro @St.lp_same (And.intro @St.box_lp (And.intro @St.tip_lp (And.intro @St.glob_lp (And.intro @St.setBox_setLp (And.intro @St.setTip_setLp (And.intro @St.setLp_setLp (And.intro @St.drop_box (@St.drop_tip))))))))))))))))))))))))) := And.intro @aC_any (And.intro @anyK_done (And.intro @anyK_stop (And.intro @anyK_alt (And.intro @aOp_mkP (And.intro @pslV_eq (And.intro @aOp_s2b (And.intro @aOp_lenP (And.intro @aOp_ixQ (And.intro @aC_rfun (And.intro @callvV_yld (And.intro @aOp_b2sP (And.intro @aOp_slcP (And.intro @gdQ_b2sP (And.intro @St.lp_box (And.intro @St.lp_tip (And.intro @St.lp_same (And.intro @St.box_lp (And.intro @St.tip_lp (And.intro @St.glob_lp (And.intro @St.setBox_setLp (And.intro @St.setTip_setLp (And.intro @St.setLp_setLp (And.intro @St.drop_box (@St.drop_tip))))))))))))))))))))))))
end Go.Abs
namespace Go.Abs
set_option maxRecDepth 100000
theorem R5 : type_of% (And.intro @keepF.eq_1 <| And.intro @keepF.eq_2 <| And.intro @initF.eq_1 <| And.intro @initF.eq_2 <| And.intro @putF.eq_1 <| And.intro @putF.eq_2 <| And.intro @guardC.eq_1 <| And.intro @guardC.eq_2 <| And.intro @guardC.eq_3 <| And.intro @guardC.eq_4 <| And.intro @CO.ods.eq_1 <| And.intro @CO.ods.eq_2 <| And.intro @CO.ods.eq_3 <| And.intro @CO.ods.eq_4 <| And.intro @CO.ods.eq_5 <| And.intro @CO.ods.eq_6 <| And.intro @CO.ods.eq_7 <| And.intro @CO.ods.eq_8 <| And.intro @CO.ods.eq_9 <| And.intro @CO.ods.eq_10 <| And.intro @CO.ods.eq_11 <| And.intro @CO.ods.eq_12 <| And.intro @CO.ods.eq_13 <| And.intro @CO.ods.eq_14 <| And.intro @CO.ods.eq_15 <| And.intro @CO.ods.eq_16 <| And.intro @CO.ods.eq_17 <| And.intro @CO.ods.eq_18 <| And.intro @CO.ods.eq_19 <| And.intro @CO.ods.eq_20 <| And.intro @CO.ods.eq_21 <| And.intro @CO.ods.eq_22 <| And.intro @CO.ods.eq_23 <| And.intro @CO.ods.eq_24 <| And.intro @CO.ods.eq_25 <| And.intro @CO.ods.eq_26 <| And.intro @CO.ods.eq_27 <| And.intro @CO.ods.eq_28 <| And.intro @CO.ods.eq_29 <| And.intro @CO.ods.eq_30 <| And.intro @CO.ods.eq_31 <| And.intro @CO.ods.eq_32 <| And.intro @CO.ods.eq_33 <| And.intro @CO.ods.eq_34 <| And.intro @CO.ods.eq_35 <| And.intro @CO.ods.eq_36 <| And.intro @CO.ods.eq_37 <| And.intro @CO.ods.eq_38 <| And.intro @CO.ods.eq_39 <| And.intro @CO.ods.eq_40 <| And.intro @optAll.eq_1 <| And.intro @optAll.eq_2 <| And.intro @evU.eq_1 <| And.intro @binV.eq_1 <| And.intro @binV.eq_2 <| And.intro @binV.eq_3 <| And.intro @binS.eq_1 <| And.intro @binS.eq_2 <| And.intro @binS.eq_3 <| And.intro @intV.eq_1 <| And.intro @intV.eq_2 <| And.intro @intV.eq_3 <| And.intro @intV.eq_4 <| And.intro @intV.eq_5 <| And.intro @intV.eq_6 <| And.intro @intV.eq_7 <| And.intro @intV.eq_8 <| And.intro @intV.eq_9 <| And.intro @intV.eq_10 <| And.intro @intV.eq_11 <| And.intro @intV.eq_12 <| And.intro @intV.eq_13 <| And.intro @intV.eq_14 <| And.intro @intV.eq_15 <| And.intro @intV.eq_16 <| And.intro @intV.eq_17 <| And.intro @intS.eq_1 <| And.intro @intS.eq_2 <| And.intro @intS.eq_3 <| And.intro @intS.eq_4 <| And.intro @intS.eq_5 <| And.intro @strV.eq_1 <| And.intro @strV.eq_2 <| And.intro @strV.eq_3 <| And.intro @strV.eq_4 <| And.intro @strV.eq_5 <| And.intro @strV.eq_6 <| And.intro @strV.eq_7 <| And.intro @strV.eq_8 <| And.intro @strS.eq_1 <| And.intro @strS.eq_2 <| And.intro @strS.eq_3 <| And.intro @strS.eq_4 <| And.intro @strS.eq_5 <| And.intro @strS.eq_6 <| And.intro @strS.eq_7 <| And.intro @strS.eq_8 <| And.intro @unV.eq_1 <| And.intro @unV.eq_2 <| And.intro @unV.eq_3 <| And.intro @unV.eq_4 <| And.intro @unS.eq_1 <| And.intro @unS.eq_2 <| And.intro @unS.eq_3 <| And.intro @unS.eq_4 <| And.intro @pickV.eq_1 <| And.intro @pickV.eq_2 <| And.intro @pickV.eq_3 <| And.intro @pickV.eq_4 <| And.intro @pickV.eq_5 <| And.intro @pickV.eq_6 <| And.intro @pickV.eq_7 <| And.intro @pickV.eq_8 <| And.intro @pickV.eq_9 <| And.intro @pickV.eq_10 <| And.intro @pickS.eq_1 <| And.intro @pickS.eq_2 <| And.intro @boolS.eq_1 <| And.intro @boolS.eq_2 <| And.intro @boolS.eq_3 <| And.intro @slv.eq_1 <| And.intro @slv.eq_2 <| And.intro @slv.eq_3 <| And.intro @slv.eq_4 <| And.intro @intOfA.eq_1 <| And.intro @intOfA.eq_2 <| And.intro @isIntA.eq_1 <| And.intro @isIntA.eq_2 <| And.intro @isIntO.eq_1 <| And.intro @isIntO.eq_2 <| And.intro @bnd.eq_1 <| And.intro @bnd.eq_2 <| And.intro @ldV.eq_1 <| And.intro @ldV.eq_2 <| And.intro @ldS.eq_1 <| And.intro @ldS.eq_2 <| And.intro @pcells.eq_1 <| And.intro @pcells.eq_2 <| And.intro @pcells.eq_3 <| And.intro @AV.fits.eq_1 <| And.intro @AV.fits.eq_2 <| And.intro @AV.one.eq_1 <| And.intro @AV.one.eq_2 <| And.intro @AV.one.eq_3 <| And.intro @AV.one.eq_4 <| And.intro @AV.one.eq_5 <| And.intro @AV.cells.eq_1 <| And.intro @AV.cells.eq_2 <| And.intro @putParts.eq_1 <| And.intro @putParts.eq_2 <| And.intro @partsS.eq_1 <| And.intro @partsS.eq_2 <| And.intro @fresh.eq_1 <| And.intro @fresh.eq_2 <| And.intro @fresh.eq_3 <| And.intro @nilOk.eq_1 <| And.intro @nilOk.eq_2 <| And.intro @nilOk.eq_3 <| And.intro @nilOk.eq_4 <| And.intro @nilOk.eq_5 <| And.intro @nilOk.eq_6 <| And.intro @nilOk.eq_7 <| And.intro @nilOk.eq_8 <| And.intro @nilOk.eq_9 <| And.intro @nilOk.eq_10 <| And.intro @nilOk.eq_11 <| And.intro @nilP.eq_1 <| And.intro @nilP.eq_2 <| And.intro @nilP.eq_3 <| And.intro @nilP.eq_4 <| And.intro @nilP.eq_5 <| And.intro @nilP.eq_6 <| And.intro @nilP.eq_7 <| And.intro @nilP.eq_8 <| And.intro @nilP.eq_9 <| And.intro @nilP.eq_10 <| And.intro @nilP.eq_11 <| And.intro @pickE.eq_1 <| And.intro @pickE.eq_2 <| And.intro @isLd.eq_1 <| And.intro @isLd.eq_2 <| And.intro @isLd.eq_3 <| And.intro @sqL.eq_1 <| And.intro @sqL.eq_2 <| And.intro @sqL.eq_3 <| And.intro @sqV.eq_1 <| And.intro @sqV.eq_2 <| And.intro @sqV.eq_3 <| And.intro @sqV.eq_4 <| And.intro @ps.eq_1 <| And.intro @ps.eq_2 <| And.intro @ps.eq_3 <| And.intro @ps.eq_4 <| And.intro @ps.eq_5 <| And.intro @ps.eq_6 <| And.intro @ps.eq_7 <| And.intro @ps.eq_8 <| And.intro @ps.eq_9 <| And.intro @ps.eq_10 <| And.intro @ps.eq_11 <| And.intro @ps.eq_12 <| And.intro @ps.eq_13 <| And.intro @ps.eq_14 <| And.intro @ps.eq_15 <| And.intro @ps.eq_16 <| And.intro @ps.eq_17 <| And.intro @ps.eq_18 <| And.intro @ps.eq_19 <| And.intro @ps.eq_20 <| And.intro @ps.eq_21 <| And.intro @ps.eq_22 <| And.intro @ps.eq_23 <| And.intro @ps.eq_24 <| And.intro @ps.eq_25 <| And.intro @ps.eq_26 <| And.intro @ps.eq_27 <| And.intro @ps.eq_28 <| And.intro @ps.eq_29 <| And.intro @ps.eq_30 <| And.intro @ps.eq_31 <| And.intro @ps.eq_32 <| And.intro @ps.eq_33 <| And.intro @ps.eq_34 <| And.intro @ps.eq_35 <| And.intro @pf.eq_1 <| And.intro @pf.eq_2 <| And.intro @pf.eq_3 <| And.intro @pf.eq_4 <| And.intro @pf.eq_5 <| And.intro @pf.eq_6 <| And.intro @pf.eq_7 <| And.intro @pf.eq_8 <| And.intro @pf.eq_9 <| And.intro @pf.eq_10 <| And.intro @pf.eq_11 <| And.intro @pf.eq_12 <| And.intro @pf.eq_13 <| And.intro @pf.eq_14 <| And.intro @pf.eq_15 <| And.intro @pf.eq_16 <| And.intro @pf.eq_17 <| And.intro @pf.eq_18 <| And.intro @pf.eq_19 <| And.intro @pf.eq_20 <| And.intro @pf.eq_21 <| And.intro @pf.eq_22 <| And.intro @pf.eq_23 <| And.intro @pf.eq_24 <| And.intro @pf.eq_25 <| And.intro @pf.eq_26 <| And.intro @pf.eq_27 <| And.intro @pf.eq_28 <| And.intro @pf.eq_29 <| And.intro @pf.eq_30 <| And.intro @pf.eq_31 <| And.intro @pf.eq_32 <| And.intro @pf.eq_33 <| And.intro @ev.eq_1 <| And.intro @ev.eq_2 <| And.intro @ev.eq_3 <| And.intro @ev.eq_4 <| And.intro @slot.eq_1 <| And.intro @slot.eq_2 <| And.intro @putL.eq_1 @putL.eq_2) := And.intro @keepF.eq_1 <| And.intro @keepF.eq_2 <| And.intro @initF.eq_1 <| And.intro @initF.eq_2 <| And.intro @putF.eq_1 <| And.intro @putF.eq_2 <| And.intro @guardC.eq_1 <| And.intro @guardC.eq_2 <| And.intro @guardC.eq_3 <| And.intro @guardC.eq_4 <| And.intro @CO.ods.eq_1 <| And.intro @CO.ods.eq_2 <| And.intro @CO.ods.eq_3 <| And.intro @CO.ods.eq_4 <| And.intro @CO.ods.eq_5 <| And.intro @CO.ods.eq_6 <| And.intro @CO.ods.eq_7 <| And.intro @CO.ods.eq_8 <| And.intro @CO.ods.eq_9 <| And.intro @CO.ods.eq_10 <| And.intro @CO.ods.eq_11 <| And.intro @CO.ods.eq_12 <| And.intro @CO.ods.eq_13 <| And.intro @CO.ods.eq_14 <| And.intro @CO.ods.eq_15 <| And.intro @CO.ods.eq_16 <| And.intro @CO.ods.eq_17 <| And.intro @CO.ods.eq_18 <| And.intro @CO.ods.eq_19 <| And.intro @CO.ods.eq_20 <| And.intro @CO.ods.eq_21 <| And.intro @CO.ods.eq_22 <| And.intro @CO.ods.eq_23 <| And.intro @CO.ods.eq_24 <| And.intro @CO.ods.eq_25 <| And.intro @CO.ods.eq_26 <| And.intro @CO.ods.eq_27 <| And.intro @CO.ods.eq_28 <| And.intro @CO.ods.eq_29 <| And.intro @CO.ods.eq_30 <| And.intro @CO.ods.eq_31 <| And.intro @CO.ods.eq_32 <| And.intro @CO.ods.eq_33 <| And.intro @CO.ods.eq_34 <| And.intro @CO.ods.eq_35 <| And.intro @CO.ods.eq_36 <| And.intro @CO.ods.eq_37 <| And.intro @CO.ods.eq_38 <| And.intro @CO.ods.eq_39 <| And.intro @CO.ods.eq_40 <| And.intro @optAll.eq_1 <| And.intro @optAll.eq_2 <| And.intro @evU.eq_1 <| And.intro @binV.eq_1 <| And.intro @binV.eq_2 <| And.intro @binV.eq_3 <| And.intro @binS.eq_1 <| And.intro @binS.eq_2 <| And.intro @binS.eq_3 <| And.intro @intV.eq_1 <| And.intro @intV.eq_2 <| And.intro @intV.eq_3 <| And.intro @intV.eq_4 <| And.intro @intV.eq_5 <| And.intro @intV.eq_6 <| And.intro @intV.eq_7 <| And.intro @intV.eq_8 <| And.intro @intV.eq_9 <| And.intro @intV.eq_10 <| And.intro @intV.eq_11 <| And.intro @intV.eq_12 <| And.intro @intV.eq_13 <| And.intro @intV.eq_14 <| And.intro @intV.eq_15 <| And.intro @intV.eq_16 <| And.intro @intV.eq_17 <| And.intro @intS.eq_1 <| And.intro @intS.eq_2 <| And.intro @intS.eq_3 <| And.intro @intS.eq_4 <| And.intro @intS.eq_5 <| And.intro @strV.eq_1 <| And.intro @strV.eq_2 <| And.intro @strV.eq_3 <| And.intro @strV.eq_4 <| And.intro @strV.eq_5 <| And.intro @strV.eq_6 <| And.intro @strV.eq_7 <| And.intro @strV.eq_8 <| And.intro @strS.eq_1 <| And.intro @strS.eq_2 <| And.intro @strS.eq_3 <| And.intro @strS.eq_4 <| And.intro @strS.eq_5 <| And.intro @strS.eq_6 <| And.intro @strS.eq_7 <| And.intro @strS.eq_8 <| And.intro @unV.eq_1 <| And.intro @unV.eq_2 <| And.intro @unV.eq_3 <| And.intro @unV.eq_4 <| And.intro @unS.eq_1 <| And.intro @unS.eq_2 <| And.intro @unS.eq_3 <| And.intro @unS.eq_4 <| And.intro @pickV.eq_1 <| And.intro @pickV.eq_2 <| And.intro @pickV.eq_3 <| And.intro @pickV.eq_4 <| And.intro @pickV.eq_5 <| And.intro @pickV.eq_6 <| And.intro @pickV.eq_7 <| And.intro @pickV.eq_8 <| And.intro @pickV.eq_9 <| And.intro @pickV.eq_10 <| And.intro @pickS.eq_1 <| And.intro @pickS.eq_2 <| And.intro @boolS.eq_1 <| And.intro @boolS.eq_2 <| And.intro @boolS.eq_3 <| And.intro @slv.eq_1 <| And.intro @slv.eq_2 <| And.intro @slv.eq_3 <| And.intro @slv.eq_4 <| And.intro @intOfA.eq_1 <| And.intro @intOfA.eq_2 <| And.intro @isIntA.eq_1 <| And.intro @isIntA.eq_2 <| And.intro @isIntO.eq_1 <| And.intro @isIntO.eq_2 <| And.intro @bnd.eq_1 <| And.intro @bnd.eq_2 <| And.intro @ldV.eq_1 <| And.intro @ldV.eq_2 <| And.intro @ldS.eq_1 <| And.intro @ldS.eq_2 <| And.intro @pcells.eq_1 <| And.intro @pcells.eq_2 <| And.intro @pcells.eq_3 <| And.intro @AV.fits.eq_1 <| And.intro @AV.fits.eq_2 <| And.intro @AV.one.eq_1 <| And.intro @AV.one.eq_2 <| And.intro @AV.one.eq_3 <| And.intro @AV.one.eq_4 <| And.intro @AV.one.eq_5 <| And.intro @AV.cells.eq_1 <| And.intro @AV.cells.eq_2 <| And.intro @putParts.eq_1 <| And.intro @putParts.eq_2 <| And.intro @partsS.eq_1 <| And.intro @partsS.eq_2 <| And.intro @fresh.eq_1 <| And.intro @fresh.eq_2 <| And.intro @fresh.eq_3 <| And.intro @nilOk.eq_1 <| And.intro @nilOk.eq_2 <| And.intro @nilOk.eq_3 <| And.intro @nilOk.eq_4 <| And.intro @nilOk.eq_5 <| And.intro @nilOk.eq_6 <| And.intro @nilOk.eq_7 <| And.intro @nilOk.eq_8 <| And.intro @nilOk.eq_9 <| And.intro @nilOk.eq_10 <| And.intro @nilOk.eq_11 <| And.intro @nilP.eq_1 <| And.intro @nilP.eq_2 <| And.intro @nilP.eq_3 <| And.intro @nilP.eq_4 <| And.intro @nilP.eq_5 <| And.intro @nilP.eq_6 <| And.intro @nilP.eq_7 <| And.intro @nilP.eq_8 <| And.intro @nilP.eq_9 <| And.intro @nilP.eq_10 <| And.intro @nilP.eq_11 <| And.intro @pickE.eq_1 <| And.intro @pickE.eq_2 <| And.intro @isLd.eq_1 <| And.intro @isLd.eq_2 <| And.intro @isLd.eq_3 <| And.intro @sqL.eq_1 <| And.intro @sqL.eq_2 <| And.intro @sqL.eq_3 <| And.intro @sqV.eq_1 <| And.intro @sqV.eq_2 <| And.intro @sqV.eq_3 <| And.intro @sqV.eq_4 <| And.intro @ps.eq_1 <| And.intro @ps.eq_2 <| And.intro @ps.eq_3 <| And.intro @ps.eq_4 <| And.intro @ps.eq_5 <| And.intro @ps.eq_6 <| And.intro @ps.eq_7 <| And.intro @ps.eq_8 <| And.intro @ps.eq_9 <| And.intro @ps.eq_10 <| And.intro @ps.eq_11 <| And.intro @ps.eq_12 <| And.intro @ps.eq_13 <| And.intro @ps.eq_14 <| And.intro @ps.eq_15 <| And.intro @ps.eq_16 <| And.intro @ps.eq_17 <| And.intro @ps.eq_18 <| And.intro @ps.eq_19 <| And.intro @ps.eq_20 <| And.intro @ps.eq_21 <| And.intro @ps.eq_22 <| And.intro @ps.eq_23 <| And.intro @ps.eq_24 <| And.intro @ps.eq_25 <| And.intro @ps.eq_26 <| And.intro @ps.eq_27 <| And.intro @ps.eq_28 <| And.intro @ps.eq_29 <| And.intro @ps.eq_30 <| And.intro @ps.eq_31 <| And.intro @ps.eq_32 <| And.intro @ps.eq_33 <| And.intro @ps.eq_34 <| And.intro @ps.eq_35 <| And.intro @pf.eq_1 <| And.intro @pf.eq_2 <| And.intro @pf.eq_3 <| And.intro @pf.eq_4 <| And.intro @pf.eq_5 <| And.intro @pf.eq_6 <| And.intro @pf.eq_7 <| And.intro @pf.eq_8 <| And.intro @pf.eq_9 <| And.intro @pf.eq_10 <| And.intro @pf.eq_11 <| And.intro @pf.eq_12 <| And.intro @pf.eq_13 <| And.intro @pf.eq_14 <| And.intro @pf.eq_15 <| And.intro @pf.eq_16 <| And.intro @pf.eq_17 <| And.intro @pf.eq_18 <| And.intro @pf.eq_19 <| And.intro @pf.eq_20 <| And.intro @pf.eq_21 <| And.intro @pf.eq_22 <| And.intro @pf.eq_23 <| And.intro @pf.eq_24 <| And.intro @pf.eq_25 <| And.intro @pf.eq_26 <| And.intro @pf.eq_27 <| And.intro @pf.eq_28 <| And.intro @pf.eq_29 <| And.intro @pf.eq_30 <| And.intro @pf.eq_31 <| And.intro @pf.eq_32 <| And.intro @pf.eq_33 <| And.intro @ev.eq_1 <| And.intro @ev.eq_2 <| And.intro @ev.eq_3 <| And.intro @ev.eq_4 <| And.intro @slot.eq_1 <| And.intro @slot.eq_2 <| And.intro @putL.eq_1 @putL.eq_2
end Go.Abs
namespace Go.Proofs.YtbbkckogjdjjgaaDoor
open Go.Abs
set_option linter.all false
structure LE where
  t : Int
  lab : Int
  rule : Int
  el : Int
  no : Int
  old : Int
  new : Int
  tick : Int
deriving DecidableEq
def cRec (x : LE) : List AV := [.int .i64 x.rule, .int .u64 x.el, .int .u64 x.no, .int .u64 x.old, .int .u64 x.new, .int .u64 x.tick]
def cLE (x : LE) : List AV := [.int .i64 x.t, .int .u64 x.lab, .int .i64 x.rule, .int .u64 x.el, .int .u64 x.no, .int .u64 x.old, .int .u64 x.new, .int .u64 x.tick]
/-- The error of a record. -/
def rightE (x : LE) : Int := bif decide (x.rule < 0) || decide (8 ≤ x.rule) || decide (x.no < 1) || decide (1099511627776 < x.no) || decide (1099511627776 < x.tick) then 2 else bif x.old == x.el then 0 else 13
/-- The error of a number of a tenant. -/
def tenE (t : Int) : Int := bif decide (t < 1) || decide (6 < t) then 2 else 0
/-- The first number from k on, of n, at which f is not 0: f there; 0 if there is none. -/
def firstE (f : Nat → Int) : Nat → Nat → Int
  | 0, _ => 0
  | n + 1, k => bif f k == 0 then firstE f n (k + 1) else f k
theorem firstE_hit {f : Nat → Int} {k : Nat} : ∀ {n a : Nat}, a ≤ k → k < a + n → (∀ j, a ≤ j → j < k → f j = 0) → f k ≠ 0 → firstE f n a = f k
  | 0, a, h1, h2, _, _ => by omega
  | n + 1, a, h1, h2, h3, h4 => by
    unfold firstE
    rcases Nat.lt_or_ge a k with h | h
    · rw [h3 a (Nat.le_refl _) h, beq_self_eq_true, cond_true]
      exact firstE_hit (by omega) (by omega) (fun j hj => h3 j (by omega)) h4
    · have : a = k := by omega
      subst this
      have : (f a == 0) = false := by simpa using h4
      rw [this, cond_false]
theorem firstE_none {f : Nat → Int} : ∀ {n a : Nat}, (∀ j, a ≤ j → j < a + n → f j = 0) → firstE f n a = 0
  | 0, a, _ => rfl
  | n + 1, a, h => by
    unfold firstE
    rw [h a (Nat.le_refl _) (by omega), beq_self_eq_true, cond_true]
    exact firstE_none (fun j h1 h2 => h j (by omega) (by omega))
theorem firstE_zero {f : Nat → Int} : ∀ {n a : Nat}, firstE f n a = 0 → ∀ j, a ≤ j → j < a + n → f j = 0
  | 0, a, _, j, h1, h2 => by omega
  | n + 1, a, h, j, h1, h2 => by
    unfold firstE at h
    cases hq : (f a == 0) with
    | false => rw [hq, cond_false] at h; rw [h] at hq; cases hq
    | true =>
      rw [hq, cond_true] at h
      rcases Nat.lt_or_ge a j with h3 | h3
      · exact firstE_zero h j (by omega) (by omega)
      · have : a = j := by omega
        subst this; simpa using hq
/-! ### The tally -/
abbrev Ta := Nat → Int × Nat
def ta0 : Ta := fun _ => (0, 0)
def taUp (T : Ta) (i : Nat) (v : Int × Nat) : Ta := fun j => bif Nat.beq j i then v else T j
def taC (T : Ta) : List AV := [.int .u64 (T 0).1, .int .i64 (T 0).2, .int .u64 (T 1).1, .int .i64 (T 1).2, .int .u64 (T 2).1, .int .i64 (T 2).2, .int .u64 (T 3).1, .int .i64 (T 3).2, .int .u64 (T 4).1, .int .i64 (T 4).2, .int .u64 (T 5).1, .int .i64 (T 5).2, .int .u64 (T 6).1, .int .i64 (T 6).2]
/-- The error of an entry more. -/
def withE (T : Ta) (x : LE) : Int := bif tenE x.t == 0 then (bif rightE x == 0 then (bif decide (0 < (T x.t.toNat).2) && ((T x.t.toNat).1 != x.lab) then 13 else bif decide (64 ≤ (T x.t.toNat).2) then 6 else 0) else rightE x) else tenE x.t
def withT (T : Ta) (x : LE) : Ta := bif withE T x == 0 then taUp T x.t.toNat (x.lab, (T x.t.toNat).2 + 1) else T
def dft : LE := ⟨0, 0, 0, 0, 0, 0, 0, 0⟩
def eAt (l : List LE) (k : Nat) : LE := (l[k]?).getD dft
def taK (l : List LE) (k : Nat) : Ta := (l.take k).foldl withT ta0
theorem eAt_lt {l : List LE} {k : Nat} (h : k < l.length) : eAt l k = l[k] := by unfold eAt; rw [List.getElem?_eq_getElem h]; rfl
theorem taK_succ {l : List LE} {k : Nat} (h : k < l.length) : taK l (k + 1) = withT (taK l k) (eAt l k) := by
  unfold taK
  rw [← List.take_append_getElem h, List.foldl_append, eAt_lt h]; rfl
def lateB (l : List LE) (k : Nat) : Bool := decide (0 < k) && decide ((eAt l k).tick < (eAt l (k - 1)).tick)
/-- The error of entry k, those before it being right. -/
def stE (l : List LE) (k : Nat) : Int := bif withE (taK l k) (eAt l k) == 0 then (bif lateB l k then 9 else 0) else withE (taK l k) (eAt l k)
def chkE (l : List LE) : Int := bif decide (384 < l.length) then 6 else firstE (stE l) l.length 0
/-- How many entries of a tenant there are; whether one of them has another label. -/
def ofT (l : List LE) (t : Int) : List LE := l.filter fun y => y.t == t
def misT (l : List LE) (t lab : Int) : Bool := l.any fun y => (y.t == t) && (y.lab != lab)
theorem tenE_ok {t : Int} (h : tenE t = 0) : 1 ≤ t ∧ t ≤ 6 := by
  unfold tenE at h
  cases hq : (decide (t < 1) || decide (6 < t)) with
  | true => rw [hq] at h; cases h
  | false => simp at hq; omega
theorem withE_parts {T : Ta} {x : LE} (h : withE T x = 0) : (1 ≤ x.t ∧ x.t ≤ 6) ∧ rightE x = 0 ∧ (0 < (T x.t.toNat).2 → (T x.t.toNat).1 = x.lab) ∧ (T x.t.toNat).2 < 64 := by
  unfold withE at h
  by_cases h1 : tenE x.t = 0
  · by_cases h2 : rightE x = 0
    · simp only [h1, h2, beq_self_eq_true, cond_true] at h
      refine ⟨tenE_ok h1, h2, ?_⟩
      generalize T x.t.toNat = q at *
      simp only [Bool.cond_eq_ite] at h
      grind
    · have : (rightE x == 0) = false := by simpa using h2
      simp only [h1, this, beq_self_eq_true, cond_true, cond_false] at h
      exact (h2 h).elim
  · have : (tenE x.t == 0) = false := by simpa using h1
    simp only [this, cond_false] at h
    exact (h1 h).elim
/-- What the tally says while all is right. -/
theorem taK_says (l : List LE) : ∀ k, k ≤ l.length → (∀ j, j < k → withE (taK l j) (eAt l j) = 0) → ∀ t : Int, 1 ≤ t → t ≤ 6 →
    (taK l k t.toNat).2 = (ofT (l.take k) t).length ∧ ∀ y ∈ l.take k, y.t = t → y.lab = (taK l k t.toNat).1
  | 0, _, _, t, _, _ => by simp [taK, ta0, ofT]
  | k + 1, hk, hj, t, h1, h2 => by
    obtain ⟨i1, i2⟩ := taK_says l k (by omega) (fun j h => hj j (by omega)) t h1 h2
    have hw := hj k (by omega)
    obtain ⟨⟨p1, p2⟩, p3, p4, p5⟩ := withE_parts hw
    have hs : taK l (k + 1) = taUp (taK l k) (eAt l k).t.toNat ((eAt l k).lab, (taK l k (eAt l k).t.toNat).2 + 1) := by
      rw [taK_succ (by omega), withT, hw]; rfl
    have ht : l.take (k + 1) = l.take k ++ [eAt l k] := by rw [← List.take_append_getElem (by omega : k < l.length), eAt_lt]
    rw [hs, ht]
    by_cases he : (eAt l k).t = t
    · have hb : Nat.beq t.toNat (eAt l k).t.toNat = true := by rw [he]; exact Nat.beq_refl _
      simp only [taUp, hb, cond_true]
      rw [he] at p4 ⊢
      refine ⟨by simp [ofT, he, i1], ?_⟩
      intro y hy hyt
      rcases List.mem_append.1 hy with hy | hy
      · have hpos : 0 < (taK l k t.toNat).2 := by
          rw [i1]
          exact List.length_pos_of_mem (List.mem_filter.2 ⟨hy, by simpa using hyt⟩)
        rw [i2 y hy hyt]; exact p4 hpos
      · simp at hy; rw [hy]
    · have hb : Nat.beq t.toNat (eAt l k).t.toNat = false := by
        cases hq : Nat.beq t.toNat (eAt l k).t.toNat with
        | false => rfl
        | true => have := Nat.eq_of_beq_eq_true hq; omega
      simp only [taUp, hb, cond_false]
      refine ⟨by simp [ofT, he]; exact i1, ?_⟩
      intro y hy hyt
      rcases List.mem_append.1 hy with hy | hy
      · exact i2 y hy hyt
      · simp at hy; subst hy; exact (he hyt).elim
theorem mis_ta (l : List LE) (k : Nat) (hk : k ≤ l.length) (hj : ∀ j, j < k → withE (taK l j) (eAt l j) = 0) (t lab : Int) (h1 : 1 ≤ t) (h2 : t ≤ 6) :
    (decide (0 < (taK l k t.toNat).2) && ((taK l k t.toNat).1 != lab)) = misT (l.take k) t lab := by
  obtain ⟨i1, i2⟩ := taK_says l k hk hj t h1 h2
  rw [Bool.eq_iff_iff]
  simp only [misT, Bool.and_eq_true, decide_eq_true_eq, bne_iff_ne, List.any_eq_true, beq_iff_eq]
  constructor
  · rintro ⟨h3, h4⟩
    rw [i1] at h3
    obtain ⟨y, hy⟩ := List.exists_mem_of_length_pos h3
    obtain ⟨hy, hyt⟩ := List.mem_filter.1 hy
    have hyt2 : y.t = t := by simpa using hyt
    exact ⟨y, hy, hyt2, by rw [i2 y hy hyt2]; exact h4⟩
  · rintro ⟨y, hy, hyt, hyl⟩
    refine ⟨?_, by rw [← i2 y hy hyt]; exact hyl⟩
    rw [i1]
    exact List.length_pos_of_mem (List.mem_filter.2 ⟨hy, by simpa using hyt⟩)
theorem stE_with {l : List LE} {k : Nat} (h : stE l k = 0) : withE (taK l k) (eAt l k) = 0 := by
  unfold stE at h
  cases hq : (withE (taK l k) (eAt l k) == 0) with
  | true => simpa using hq
  | false => rw [hq, cond_false] at h; exact h
/-- The error of entry k as the reference reckons it. -/
def stR (l : List LE) (k : Nat) : Int := bif tenE (eAt l k).t == 0 then (bif rightE (eAt l k) == 0 then (bif misT (l.take k) (eAt l k).t (eAt l k).lab then 13 else bif decide (64 ≤ (ofT (l.take k) (eAt l k).t).length) then 6 else bif lateB l k then 9 else 0) else rightE (eAt l k)) else tenE (eAt l k).t
theorem stE_R (l : List LE) (k : Nat) (hk : k ≤ l.length) (hj : ∀ j, j < k → stE l j = 0) : stE l k = stR l k := by
  have hj' : ∀ j, j < k → withE (taK l j) (eAt l j) = 0 := fun j h => stE_with (hj j h)
  unfold stE stR withE
  by_cases h1 : tenE (eAt l k).t = 0
  · obtain ⟨a1, a2⟩ := tenE_ok h1
    rw [mis_ta l k hk hj' _ _ a1 a2, (taK_says l k hk hj' _ a1 a2).1]
    by_cases h2 : rightE (eAt l k) = 0
    · simp only [h1, h2, beq_self_eq_true, cond_true]
      cases misT (l.take k) (eAt l k).t (eAt l k).lab <;> cases decide (64 ≤ (ofT (l.take k) (eAt l k).t).length) <;> rfl
    · have : (rightE (eAt l k) == 0) = false := by simpa using h2
      simp only [h1, this, beq_self_eq_true, cond_true, cond_false]
  · have : (tenE (eAt l k).t == 0) = false := by simpa using h1
    simp only [this, cond_false]
end Go.Proofs.YtbbkckogjdjjgaaDoor
namespace Go.Abs
set_option linter.all false
section
variable {P : Program} {σ : St} {fr : Fr} {ps : List Nat} {asg body : CC} {xs : List AV}
theorem YC.le {l : Nat} {ys : List AV} {σ' : St} {R : AV → St → Prop} (h : YC P l ys σ R) (hle : St.le σ σ') : YC P l ys σ' R := fun g w vs hI hv => h g w vs (hI.le hle) hv
theorem YC.weaken {l : Nat} {ys : List AV} {R R' : AV → St → Prop} (h : YC P l ys σ R) (hr : ∀ r s, R r s → ∃ r' s', Go.Abs.wk r r' ∧ St.le s' s ∧ R' r' s') : YC P l ys σ R' := fun g w vs hI hv => by
  obtain ⟨fn, tmps, assign, body, h1, h2⟩ := h g w vs hI hv
  refine ⟨fn, tmps, assign, body, h1, h2.mono fun e w' hc => ?_⟩
  obtain ⟨v, r, σ', g', a1, a2, a3, a4, a5⟩ := hc
  obtain ⟨r', s', k1, k2, k3⟩ := hr _ _ a2
  exact ⟨v, r', s', g', a1, k3, a3.le k2, a4, k1 _ _ _ a5⟩
/-- A round's body; what it assigns to may be new variables. -/
theorem RF_round2 {L : Nat} {r : Loop} {σ1 : St}
    (hY : ∀ (xs : List AV) (σ1 : St) (K : AV → St → Prop), xs.length = ps.length → σ1.lp L = some (r, fr) →
      aC P asg (putL ps xs fr) σ1 (fun e fr1 σ2 => e = .normal ∧ σ2.lp L = some (r, fr) ∧ aC P body fr1 (σ2.setLp L (busy r, fr)) (fun e _ σ3 => σ3.lp L = some (busy r, fr) ∧ match e with
        | .normal => K (.bool true) (σ3.setLp L (r, fr))
        | .ret => K (.bool false) (σ3.setLp L (left r .ret, fr))
        | .exit id => K (.bool false) (σ3.setLp L (left r (.exit id), fr))
        | _ => False)) → YC P L xs σ1 K) (hlen : xs.length = ps.length) {σn : St}
    (hb : aC P asg (putL ps xs fr) (σ1.setLp L (r, fr)) (fun e fr1 σ2 => e = .normal ∧ σ2.lp L = some (r, fr) ∧ aC P body fr1 (σ2.setLp L (busy r, fr)) (fun e _ σ3 => σ3.lp L = some (busy r, fr) ∧ match e with
        | .normal => St.le (σn.setLp L (r, fr)) (σ3.setLp L (r, fr))
        | _ => False))) :
    YC P L xs (σ1.setLp L (r, fr)) (fun v s' => v = .bool true ∧ s' = σn.setLp L (r, fr)) := by
  refine YC.weaken (R := fun v s => v = .bool true ∧ St.le (σn.setLp L (r, fr)) s) ?_ (fun v s h => ⟨_, _, wk_refl _, h.2, h.1, rfl⟩)
  refine hY xs _ _ hlen (St.lp_same _ _ _) (aC_mono _ _ _ hb ?_)
  rintro e fr1 σ2 ⟨rfl, h1, h2⟩
  refine ⟨rfl, h1, aC_mono _ _ _ h2 (fun e _ σ3 hq => ?_)⟩
  obtain ⟨h3, h4⟩ := hq
  cases e <;> simp only at h4 ⊢ <;> first | exact h4.elim | skip
  exact ⟨h3, trivial, h4⟩
end
end Go.Abs
namespace Go.Abs
set_option linter.all false
/-- What may come next: not yet done, all that it waits for done. -/
def enab (dp : List (List Nat)) (D : Nat) : List Nat := (List.range dp.length).filter fun j => !D.testBit j && (dp.getD j []).all D.testBit
def mkT (l : List CI) (dp : List (List Nat)) : Nat → Nat → AT
  | 0, _ => .stop
  | n + 1, D => match enab dp D with
    | [] => .done
    | js => js.foldr (fun j oth => match l[j]? with
      | some i => .alt j i (mkT l dp n (D ||| 1 <<< j)) oth
      | none => oth) .stop
theorem testBit_add (D j : Nat) : (D ||| 1 <<< j).testBit = fun k => D.testBit k || Nat.beq k j := by
  funext k
  have e : Nat.beq k j = decide (k = j) := by
    rw [Bool.eq_iff_iff, decide_eq_true_eq]; exact ⟨Nat.eq_of_beq_eq_true, fun h => by subst h; exact Nat.beq_refl _⟩
  rw [Nat.testBit_or, e]
  congr 1
  rw [Nat.one_shiftLeft, Nat.testBit_two_pow]
  simp [eq_comm]
theorem any_mk {P : Program} {K : Fr → St → Prop} (l : List CI) (dp : List (List Nat)) (I : (Nat → Bool) → Fr → St → Prop)
    (hstep : ∀ D j i, l[j]? = some i → j < dp.length → D j = false → (dp.getD j []).all D = true → ∀ fr σ, I D fr σ → aOps P [i] fr σ (fun fr' σ' => I (fun k => D k || Nat.beq k j) fr' σ'))
    (hend : ∀ D, (∀ j, j < dp.length → D j = true ∨ (dp.getD j []).all D = false) → ∀ fr σ, I D fr σ → K fr σ) :
    ∀ (n D : Nat) (fr : Fr) (σ : St), I D.testBit fr σ → anyP P (mkT l dp n D) fr σ K
  | 0, D, fr, σ, _ => trivial
  | n + 1, D, fr, σ, hI => by
    have key : ∀ js : List Nat, (∀ j ∈ js, j ∈ enab dp D) → anyP P (js.foldr (fun j oth => match l[j]? with
      | some i => .alt j i (mkT l dp n (D ||| 1 <<< j)) oth
      | none => oth) .stop) fr σ K := by
      intro js hjs
      induction js with
      | nil => trivial
      | cons j js ih =>
        have hr := ih (fun k hk => hjs k (List.mem_cons_of_mem _ hk))
        have hj := hjs j List.mem_cons_self
        simp only [enab, List.mem_filter, List.mem_range, Bool.and_eq_true, Bool.not_eq_true'] at hj
        simp only [List.foldr_cons]
        cases hl : l[j]? with
        | none => exact hr
        | some i =>
          refine ⟨aOps_mono _ (hstep _ j i hl hj.1 hj.2.1 hj.2.2 fr σ hI) (fun fr' σ' h => ?_), hr⟩
          refine any_mk l dp I hstep hend n _ fr' σ' ?_
          rw [testBit_add]; exact h
    unfold mkT
    split
    · rename_i he
      refine hend D.testBit (fun j hj => ?_) fr σ hI
      have := List.filter_eq_nil_iff.1 he j (List.mem_range.2 hj)
      simp only [Bool.and_eq_true, Bool.not_eq_true', not_and] at this
      cases hd : D.testBit j with
      | true => exact .inl rfl
      | false => exact .inr (by simpa using this hd)
    · exact key _ (fun j h => h)
end Go.Abs
