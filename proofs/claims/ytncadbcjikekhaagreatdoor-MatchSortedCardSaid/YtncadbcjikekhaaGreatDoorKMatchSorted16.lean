/- Part 16 of the proof of MatchSorted: an abstract semantics that is proved sound for the model, contracts of functions in it, and plain facts (M8 M9 C17d C17e). No condition. -/
import Derived.Test.YtncadbcjikekhaaGreatDoorKMatchSorted15
import Derived.Test.YtncadbcjikekhaaGreatDoorRows
set_option linter.all false
namespace Go.Proofs.YtncadbcjikekhaaGreatDoor
open Go.Abs
set_option linter.all false
set_option maxRecDepth 100000
structure Stt where
  l : Int
  n : Int
  o : Int
  t : Int
  k : Int
  v : Int
def cSt (x : Stt) : List AV := [.int .u64 x.l, .int .u64 x.n, .int .u64 x.o, .int .u64 x.t, .int .i64 x.k, .int .i64 x.v]
theorem cSt_len (l : List Stt) : (l.flatMap cSt).length = l.length * 6 := flat_len (f := cSt) (fun _ => rfl) l
theorem cSt_get (l : List Stt) {k : Nat} (h : k < l.length) : ((l.flatMap cSt).drop (k * 6)).take 6 = cSt l[k] := flat_get (f := cSt) (s := 6) (fun _ => rfl) l k h
def zeroIt : List AV := [.int .i64 0, .int .i64 0, .nils, .nils, .nils, .int .i64 0, .int .i64 0]
def evId (evs : List Stt) (x : Pl) : Idd := match evs[x.p.toNat]? with
  | some s => ⟨s.l, s.n⟩
  | none => ⟨0, 0⟩
def fndI (q : Int) (l : List Pl) (evs : List Stt) (va : List Int) (e : Int) : It := ⟨1, q, l.map (evId evs), l.map (·.a), bif e == 0 then va else [], e, 0⟩
def farB (evs : List Stt) (x : Pl) : Bool := decide ((evs.length : Int) ≤ x.p)
def fndE (q : Int) (l : List Pl) (evs : List Stt) (va : List Int) (e : Int) : Int := bif checkS l != 0 then checkS l else bif l.any (farB evs) then 2 else rightS (fndI q l evs va e)
def fndC (q : Int) (l : List Pl) (evs : List Stt) (va : List Int) (e : Int) : List AV := bif fndE q l evs va e == 0 then itL (fndI q l evs va e) else zeroIt
theorem check_ok {l : List Pl} (h : checkS l = 0) : l.length ≠ 0 ∧ l.length ≤ 12 ∧ ∀ x ∈ l, 0 ≤ x.p ∧ x.p < 1099511627776 ∧ 0 ≤ x.a ∧ x.a < 12 := by
  unfold checkS at h
  cases h1 : decide (l.length = 0) with
  | true => rw [h1] at h; cases h
  | false =>
    rw [h1] at h
    cases h2 : decide (12 < l.length) with
    | true => rw [h2] at h; cases h
    | false =>
      rw [h2] at h
      cases h3 : l.any plBad with
      | true => rw [h3] at h; cases h
      | false =>
        rw [decide_eq_false_iff_not] at h1 h2
        refine ⟨h1, by omega, fun x hx => ?_⟩
        have := List.any_eq_false.1 h3 x hx
        simp only [plBad, Bool.or_eq_true, decide_eq_true_eq] at this
        omega
theorem evId_at {evs : List Stt} {x : Pl} (h0 : 0 ≤ x.p) (h1 : ¬ (evs.length : Int) ≤ x.p) : x.p.toNat < evs.length := by omega
theorem ids_step (l : List Pl) (evs : List Stt) {k : Nat} (h : k < l.length) (h1 : (l[k]).p.toNat < evs.length) : ((l.take k).map (evId evs)).flatMap cId ++ [.int .u64 (evs[(l[k]).p.toNat]).l, .int .u64 (evs[(l[k]).p.toNat]).n] = ((l.take (k + 1)).map (evId evs)).flatMap cId := by
  rw [← List.take_append_getElem h, List.map_append, List.flatMap_append]
  simp [evId, cId, h1]
theorem loopV_forBx {P : Program} {x : CC} {fr : Fr} {σ : St} {Q : Exit → Fr → St → Prop} {h : Hold (x, σ, Q)} (n t o e s : Nat) {β : Nat} {c0 : List AV} (hp : slot t fr = .ptr β 0) (hb : σ.box β = some c0) (hc : c0[o]? = some .nils) (F : Nat → Nat → Fr) (S : Nat → Nat → St) (I : Nat → Prop) (h0 : I 0)
    (hF : ∀ τ, subF (F τ 0) fr) (hS : ∀ τ, σ.tip τ = none → St.le (S τ 0) ((σ.setTip τ (e, s, 0)).setBox β (c0.set o (.tsl τ 0 []))))
    (hr : ∀ τ, σ.tip τ = none → ∀ k, k ≤ n → I k → aC P x (F τ k) (S τ k) (loopK (fun fr' σ' => k < n ∧ I (k + 1) ∧ subF (F τ (k + 1)) fr' ∧ St.le (S τ (k + 1)) σ') Q)) : loopV P x fr σ Q h := by
  refine ⟨[(true, t, o, e, s)], ?_⟩
  simp only [startP, hp, hb, Nat.zero_add, hc, slv, fresh, true_and]
  intro τ hτ
  refine ⟨Nat, F τ, S τ, fun k => k ≤ n ∧ I k, fun k => n - k, 0, ⟨Nat.zero_le _, h0⟩, hF τ, hS τ hτ, fun k hk => ?_⟩
  refine aC_mono _ _ _ (hr τ hτ k hk.1 hk.2) (fun e fr' σ' hq => ?_)
  unfold loopK at hq
  cases e with
  | normal => simp only at hq ⊢; exact ⟨k + 1, ⟨hq.1, hq.2.1⟩, hq.2.2.1, hq.2.2.2, by omega⟩
  | _ => exact hq
set_option maxHeartbeats 4000000 in
theorem p15 (q : Int) (l : List Pl) (evs : List Stt) (va : List Int) (e : Int) (hl : l.length ≤ 1000000) (hev : evs.length ≤ 1000000) (hva : va.length ≤ 1000000) :
    Pu Tryz.prog 15 [.int .i64 q, .agg [.sl false l.length (l.flatMap cP)], .sl false evs.length (evs.flatMap cSt), .sl false va.length (va.flatMap cI), .int .i64 e] (.tup [.agg (fndC q l evs va e), .int .i64 (fndE q l evs va e)]) := by
  have q0 : True := trivial
  have q1 : True := trivial
  have q2 : True := trivial
  have q3 : True := trivial
  have q4 : True := trivial
  have hw : True := trivial
  have hd : True := trivial
  have hd3 : True := trivial
  have hc := p31 l hl
  by_cases h0 : checkS l = 0
  · have q0 : (checkS l != 0) = false := by rw [h0]; rfl
    obtain ⟨hl0, hl12, hok⟩ := check_ok h0
    have hcol := p56 l hl 57 (·.a) p57
    have hff : fndE q l evs va e = bif l.any (farB evs) then 2 else rightS (fndI q l evs va e) := by unfold fndE; rw [q0]; rfl
    (refine Pu_intro c15 b15 (Nat.le_of_ble_eq_true rfl) fun σ => ?_; simp only [c15, ↓R1, RR, seval, q0, q1, q2, q3, q4, hw, hd, hd3])
    repeat' (first | (with_reducible rw [allocV_eq]) | (with_reducible refine And.intro ?_ ?_; focus (intros; (repeat' (with_reducible apply And.intro)) <;> first | omega | (simp only [RZ, cP_len, cId_len, cI_len, cSt_len]; omega))) | (with_reducible apply And.intro) | ((first | (refine gdV_split (fun hc => ?_) (fun hc => ?_) <;> (try simp only [hc, ↓R1, RR, seval, q0, q1, q2, q3, q4, hw, hd, hd3])) | refine condV_split (fun hc => ?_) (fun hc => ?_) | (with_reducible intro β hβ; (try simp only [RB] at hβ); (repeat (obtain ⟨⟨_, _⟩, hβ⟩ := hβ)); (try (have hbis := apart_is (by assumption) hβ; obtain ⟨_, _⟩ := hbis))) | ((first | refine appD_tslK (.inr rfl) rfl ?_ ?_ ?_ ?_ ?_ ?_ | refine appV_tslK rfl ?_ ?_ ?_ ?_ ?_ ?_); (first | rfl | exact St.tip_same _ _ _ | simp only [↓R1, RR, seval, q0, q1, q2, q3, q4, hw, hd, hd3]); (iterate 2 (first | omega | (simp only [RZ, cP_len, cId_len, cI_len, cSt_len]; first | done | omega) | rfl)); (unfold maxLen; omega); omega) | refine Pt (hc) ?_ | refine Ct (hc) ?_ | (refine Tp.to (hcol) ?_ ?_; (focus ((repeat' (first | exact wk_refl _ | exact wk_nils | exact wk_tsl _ _ _ | exact wk_full _ _ | exact wkL.nil | exact wkL_refl _ | refine wk_tup ?_ | refine wk_agg ?_ | refine wkL.cons ?_ ?_)); done)); intro τ hβ; (try simp only [RB] at hβ); (repeat (obtain ⟨⟨_, _⟩, hβ⟩ := hβ)); (try (have hbis := apart_is (by assumption) hβ; obtain ⟨_, _⟩ := hbis)))) <;> (try simp only [↓R1, RR, seval, q0, q1, q2, q3, q4, hw, hd, hd3])))
    rename_i b6 h6 b10 h10 a1 a2 hta a3 a4 a5 a6
    obtain ⟨X, hX⟩ : ∃ X, X = ((σ.setBox b6 [.sl false l.length (l.flatMap cP)]).setBox b10 zeroIt).setTip τ (3, 1, l.length) := ⟨_, rfl⟩
    refine loopV_forBx l.length 13 2 63 2 (β := β) rfl (by simp only [↓R1, RR, seval, q0, q1, q2, q3, q4, hw, hd, hd3]; rfl) rfl
      (fun t k => [(2, .sl false evs.length (evs.flatMap cSt)), (3, .sl false va.length (va.flatMap cI)), (4, .int .i64 e), (10, .ptr b10 0), (13, .ptr β 0), (29, .sl false l.length (l.flatMap cP)), (30, .int .i64 (l.length : Nat)), (31, .int .i64 (k : Nat))])
      (fun t k => ((((σ.setBox b6 [.sl false l.length (l.flatMap cP)]).setBox b10 zeroIt).setTip τ (3, 1, l.length)).setBox β [.int .i64 1, .int .i64 q, .tsl t k (((l.take k).map (evId evs)).flatMap cId), .tsl τ l.length ((l.map (·.a)).flatMap cI), .nils, .int .i64 e, .int .i64 0]).setTip t (63, 2, k))
      (fun k => (l.take k).any (farB evs) = false) rfl (fun t => by simp [subF, slot, wk_refl]) (fun t ht => by simp only [zeroIt, List.set_cons_succ, List.set_cons_zero, List.take_zero, List.map_nil, List.flatMap_nil, ↓R1, RR, seval, q0, q1, q2, q3, q4, hw, hd, hd3]; exact St.le_refl _) (fun t ht k hk hI => ?_)
    have ht : σ.tip t = none := by first | exact ht | (simp only [St.tip_set, St.tip_noneA, ↓R1, RR, seval, q0, q1, q2, q3, q4, hw, hd, hd3] at ht; first | exact ht | exact ht.2 | exact ht.1)
    by_cases hlt : k < l.length
    · have q1 : decide ((k : Int) < (l.length : Int)) = true := by rw [decide_eq_true_eq]; omega
      have hd := cP_get l hlt
      have hd2 := cP_len l
      have hse := cSt_len evs
      have hw : IntKind.i64.wrap ((k : Int) + 1) = ((k + 1 : Nat) : Int) := by rw [wrap64 (by omega) (by omega)]; omega
      have hcl : (((l.take k).map (evId evs)).flatMap cId).length = k * 2 := by rw [cId_len]; simp; omega
      obtain ⟨hp0, hp1, _⟩ := hok l[k] (List.getElem_mem hlt)
      simp only [cP] at hd
      by_cases hfar : (evs.length : Int) ≤ (l[k]).p
      · have q2 : decide ((evs.length : Int) ≤ (l[k]).p) = true := by rw [decide_eq_true_eq]; exact hfar
        have hany : l.any (farB evs) = true := any_true (farB evs) l hlt q2
        have hf2 : fndE q l evs va e = 2 := by rw [hff, hany]; rfl
        have hfc : fndC q l evs va e = zeroIt := by unfold fndC; rw [hf2]; rfl
        rw [hf2, hfc]
        simp only [q1, zeroIt, ↓R1, RR, seval, q0, q1, q2, q3, q4, hw, hd, hd3]
        repeat' (first | (with_reducible rw [allocV_eq]) | (with_reducible refine And.intro ?_ ?_; focus (intros; (repeat' (with_reducible apply And.intro)) <;> first | omega | (simp only [RZ, cP_len, cId_len, cI_len, cSt_len]; omega))) | (with_reducible apply And.intro) | ((first | (refine gdV_split (fun hc => ?_) (fun hc => ?_) <;> (try simp only [hc, ↓R1, RR, seval, q0, q1, q2, q3, q4, hw, hd, hd3])) | refine condV_split (fun hc => ?_) (fun hc => ?_) | (with_reducible intro β hβ; (try simp only [RB] at hβ); (repeat (obtain ⟨⟨_, _⟩, hβ⟩ := hβ)); (try (have hbis := apart_is (by assumption) hβ; obtain ⟨_, _⟩ := hbis))) | ((first | refine appD_tslK (.inr rfl) rfl ?_ ?_ ?_ ?_ ?_ ?_ | refine appV_tslK rfl ?_ ?_ ?_ ?_ ?_ ?_); (first | rfl | exact St.tip_same _ _ _ | simp only [↓R1, RR, seval, q0, q1, q2, q3, q4, hw, hd, hd3]); (iterate 2 (first | omega | (simp only [RZ, cP_len, cId_len, cI_len, cSt_len]; first | done | omega) | rfl)); (unfold maxLen; omega); omega)) <;> (try simp only [↓R1, RR, seval, q0, q1, q2, q3, q4, hw, hd, hd3])))
        (refine endP_pu (by simp) (by first | (simp [rvsS, rvS]; done) | (simp only [rvsS, rvS, ↓R1, RR, seval, q0, q1, q2, q3, q4, hw, hd, hd3]; try simp)) (wk_of_eq ?_) (by (repeat (first | exact St.le_refl _ | (refine St.le_new ?_ (by assumption)) | (refine St.le_newT ?_ (by assumption))))))
        (simp only [resAV, rvV, List.map_cons, List.map_nil, ↓R1, RR, seval, q0, q1, q2, q3, q4, hw, hd, hd3])
      · have q2 : decide ((evs.length : Int) ≤ (l[k]).p) = false := by rw [decide_eq_false_iff_not]; exact hfar
        have hlp := evId_at hp0 hfar
        have hd3 := cSt_get evs hlp
        have hs := ids_step l evs hlt hlp
        simp only [cSt] at hd3
        simp only [q1, zeroIt, ↓R1, RR, seval, q0, q1, q2, q3, q4, hw, hd, hd3]
        repeat' (first | (with_reducible rw [allocV_eq]) | (with_reducible refine And.intro ?_ ?_; focus (intros; (repeat' (with_reducible apply And.intro)) <;> first | omega | (simp only [RZ, cP_len, cId_len, cI_len, cSt_len]; omega))) | (with_reducible apply And.intro) | ((first | (refine gdV_split (fun hc => ?_) (fun hc => ?_) <;> (try simp only [hc, ↓R1, RR, seval, q0, q1, q2, q3, q4, hw, hd, hd3])) | refine condV_split (fun hc => ?_) (fun hc => ?_) | (with_reducible intro β hβ; (try simp only [RB] at hβ); (repeat (obtain ⟨⟨_, _⟩, hβ⟩ := hβ)); (try (have hbis := apart_is (by assumption) hβ; obtain ⟨_, _⟩ := hbis))) | ((first | refine appD_tslK (.inr rfl) rfl ?_ ?_ ?_ ?_ ?_ ?_ | refine appV_tslK rfl ?_ ?_ ?_ ?_ ?_ ?_); (first | rfl | exact St.tip_same _ _ _ | simp only [↓R1, RR, seval, q0, q1, q2, q3, q4, hw, hd, hd3]); (iterate 2 (first | omega | (simp only [RZ, cP_len, cId_len, cI_len, cSt_len]; first | done | omega) | rfl)); (unfold maxLen; omega); omega)) <;> (try simp only [↓R1, RR, seval, q0, q1, q2, q3, q4, hw, hd, hd3])))
        · rw [any_takeG _ _ hlt, hI]; exact q2
        · simp [subF, slot, wk_refl]
        · rw [hs]; refine St.le_setTc (St.le_setTc (St.le_setBox (St.le_refl _) (by simp only [↓R1, RR, seval, q0, q1, q2, q3, q4, hw, hd, hd3]; assumption)))
    · have hke : k = l.length := by omega
      subst hke
      have q1 : decide ((l.length : Int) < (l.length : Int)) = false := by simp
      rw [List.take_length] at hI ⊢
      rw [hI] at hff
      simp only [cond_false] at hff
      obtain ⟨r, hr⟩ : ∃ r, rightS (fndI q l evs va e) = r := ⟨_, rfl⟩
      have hrE : fndE q l evs va e = r := hff.trans hr
      have hfc : fndC q l evs va e = bif r == 0 then itL (fndI q l evs va e) else zeroIt := by unfold fndC; rw [hrE]
      have hR0 := p13 (fndI q l evs va e) (by simp [fndI]; omega) (by simp [fndI]; omega) (by simp only [fndI]; cases (e == 0) <;> simp <;> omega)
      rw [hr] at hR0
      rw [hrE, hfc]
      cases q3 : (e == 0) with
      | true =>
        have hI2 : itL (fndI q l evs va e) = [.int .i64 1, .int .i64 q, .sl false l.length ((l.map (evId evs)).flatMap cId), .sl false l.length ((l.map (·.a)).flatMap cI), .sl false va.length (va.flatMap cI), .int .i64 e, .int .i64 0] := by simp [itL, fndI, q3]
        rw [hI2] at hR0 ⊢
        cases q4 : (r != 0) with
        | true =>
          have q5 : (r == 0) = false := by rw [beq_eq_false_iff_ne]; exact bne_iff_ne.1 q4
          rw [q5]
          simp only [q1, zeroIt, ↓R1, RR, seval, q0, q1, q2, q3, q4, hw, hd, hd3]
          repeat' (first | (with_reducible rw [allocV_eq]) | (with_reducible refine And.intro ?_ ?_; focus (intros; (repeat' (with_reducible apply And.intro)) <;> first | omega | (simp only [RZ, cP_len, cId_len, cI_len, cSt_len]; omega))) | (with_reducible apply And.intro) | ((first | (refine gdV_split (fun hc => ?_) (fun hc => ?_) <;> (try simp only [hc, ↓R1, RR, seval, q0, q1, q2, q3, q4, hw, hd, hd3])) | refine condV_split (fun hc => ?_) (fun hc => ?_) | (with_reducible intro β hβ; (try simp only [RB] at hβ); (repeat (obtain ⟨⟨_, _⟩, hβ⟩ := hβ)); (try (have hbis := apart_is (by assumption) hβ; obtain ⟨_, _⟩ := hbis))) | ((first | refine appD_tslK (.inr rfl) rfl ?_ ?_ ?_ ?_ ?_ ?_ | refine appV_tslK rfl ?_ ?_ ?_ ?_ ?_ ?_); (first | rfl | exact St.tip_same _ _ _ | simp only [↓R1, RR, seval, q0, q1, q2, q3, q4, hw, hd, hd3]); (iterate 2 (first | omega | (simp only [RZ, cP_len, cId_len, cI_len, cSt_len]; first | done | omega) | rfl)); (unfold maxLen; omega); omega) | (refine Tp.to (clone_itp va hva) ?_ ?_; (focus ((repeat' (first | exact wk_refl _ | exact wk_nils | exact wk_tsl _ _ _ | exact wk_full _ _ | exact wkL.nil | exact wkL_refl _ | refine wk_tup ?_ | refine wk_agg ?_ | refine wkL.cons ?_ ?_)); done)); intro τ hβ; (try simp only [RB] at hβ); (repeat (obtain ⟨⟨_, _⟩, hβ⟩ := hβ)); (try (have hbis := apart_is (by assumption) hβ; obtain ⟨_, _⟩ := hbis))) | (refine Pu.to (hR0) ?_ ?_; (focus ((repeat' (first | exact wk_refl _ | exact wk_nils | exact wk_tsl _ _ _ | exact wk_full _ _ | exact wkL.nil | exact wkL_refl _ | refine wk_tup ?_ | refine wk_agg ?_ | refine wkL.cons ?_ ?_)); done)))) <;> (try simp only [↓R1, RR, seval, q0, q1, q2, q3, q4, hw, hd, hd3])))
          (refine endP_pu (by simp) (by first | (simp [rvsS, rvS]; done) | (simp only [rvsS, rvS, ↓R1, RR, seval, q0, q1, q2, q3, q4, hw, hd, hd3]; try simp)) (wk_of_eq ?_) (by (repeat (first | exact St.le_refl _ | (refine St.le_new ?_ (by assumption)) | (refine St.le_newT ?_ (by assumption))))))
          (simp only [resAV, rvV, List.map_cons, List.map_nil, ↓R1, RR, seval, q0, q1, q2, q3, q4, hw, hd, hd3])
        | false =>
          have q5 : (r == 0) = true := by rw [beq_iff_eq]; exact bne_eq_false_iff_eq.1 q4
          have q6 : r = 0 := by rw [beq_iff_eq] at q5; exact q5
          rw [q5]
          simp only [q1, zeroIt, ↓R1, RR, seval, q0, q1, q2, q3, q4, hw, hd, hd3]
          repeat' (first | (with_reducible rw [allocV_eq]) | (with_reducible refine And.intro ?_ ?_; focus (intros; (repeat' (with_reducible apply And.intro)) <;> first | omega | (simp only [RZ, cP_len, cId_len, cI_len, cSt_len]; omega))) | (with_reducible apply And.intro) | ((first | (refine gdV_split (fun hc => ?_) (fun hc => ?_) <;> (try simp only [hc, ↓R1, RR, seval, q0, q1, q2, q3, q4, hw, hd, hd3])) | refine condV_split (fun hc => ?_) (fun hc => ?_) | (with_reducible intro β hβ; (try simp only [RB] at hβ); (repeat (obtain ⟨⟨_, _⟩, hβ⟩ := hβ)); (try (have hbis := apart_is (by assumption) hβ; obtain ⟨_, _⟩ := hbis))) | ((first | refine appD_tslK (.inr rfl) rfl ?_ ?_ ?_ ?_ ?_ ?_ | refine appV_tslK rfl ?_ ?_ ?_ ?_ ?_ ?_); (first | rfl | exact St.tip_same _ _ _ | simp only [↓R1, RR, seval, q0, q1, q2, q3, q4, hw, hd, hd3]); (iterate 2 (first | omega | (simp only [RZ, cP_len, cId_len, cI_len, cSt_len]; first | done | omega) | rfl)); (unfold maxLen; omega); omega) | (refine Tp.to (clone_itp va hva) ?_ ?_; (focus ((repeat' (first | exact wk_refl _ | exact wk_nils | exact wk_tsl _ _ _ | exact wk_full _ _ | exact wkL.nil | exact wkL_refl _ | refine wk_tup ?_ | refine wk_agg ?_ | refine wkL.cons ?_ ?_)); done)); intro τ hβ; (try simp only [RB] at hβ); (repeat (obtain ⟨⟨_, _⟩, hβ⟩ := hβ)); (try (have hbis := apart_is (by assumption) hβ; obtain ⟨_, _⟩ := hbis))) | (refine Pu.to (hR0) ?_ ?_; (focus ((repeat' (first | exact wk_refl _ | exact wk_nils | exact wk_tsl _ _ _ | exact wk_full _ _ | exact wkL.nil | exact wkL_refl _ | refine wk_tup ?_ | refine wk_agg ?_ | refine wkL.cons ?_ ?_)); done)))) <;> (try simp only [↓R1, RR, seval, q0, q1, q2, q3, q4, hw, hd, hd3])))
          (refine endP_pu (by simp) (by first | (simp [rvsS, rvS]; done) | (simp only [rvsS, rvS, ↓R1, RR, seval, q0, q1, q2, q3, q4, hw, hd, hd3]; try simp)) ?_ (by (repeat (first | exact St.le_refl _ | (refine St.le_new ?_ (by assumption)) | (refine St.le_newT ?_ (by assumption))))))
          simp only [resAV, rvV, List.map_cons, List.map_nil, ↓R1, RR, seval, q0, q1, q2, q3, q4, hw, hd, hd3]
          rw [q6]
          (repeat' (first | exact wk_refl _ | exact wk_nils | exact wk_tsl _ _ _ | exact wk_full _ _ | exact wkL.nil | exact wkL_refl _ | refine wk_tup ?_ | refine wk_agg ?_ | refine wkL.cons ?_ ?_))
      | false =>
        have hI2 : itL (fndI q l evs va e) = [.int .i64 1, .int .i64 q, .sl false l.length ((l.map (evId evs)).flatMap cId), .sl false l.length ((l.map (·.a)).flatMap cI), .sl false 0 [], .int .i64 e, .int .i64 0] := by simp [itL, fndI, q3]
        rw [hI2] at hR0 ⊢
        cases q4 : (r != 0) with
        | true =>
          have q5 : (r == 0) = false := by rw [beq_eq_false_iff_ne]; exact bne_iff_ne.1 q4
          rw [q5]
          simp only [q1, zeroIt, ↓R1, RR, seval, q0, q1, q2, q3, q4, hw, hd, hd3]
          repeat' (first | (with_reducible rw [allocV_eq]) | (with_reducible refine And.intro ?_ ?_; focus (intros; (repeat' (with_reducible apply And.intro)) <;> first | omega | (simp only [RZ, cP_len, cId_len, cI_len, cSt_len]; omega))) | (with_reducible apply And.intro) | ((first | (refine gdV_split (fun hc => ?_) (fun hc => ?_) <;> (try simp only [hc, ↓R1, RR, seval, q0, q1, q2, q3, q4, hw, hd, hd3])) | refine condV_split (fun hc => ?_) (fun hc => ?_) | (with_reducible intro β hβ; (try simp only [RB] at hβ); (repeat (obtain ⟨⟨_, _⟩, hβ⟩ := hβ)); (try (have hbis := apart_is (by assumption) hβ; obtain ⟨_, _⟩ := hbis))) | ((first | refine appD_tslK (.inr rfl) rfl ?_ ?_ ?_ ?_ ?_ ?_ | refine appV_tslK rfl ?_ ?_ ?_ ?_ ?_ ?_); (first | rfl | exact St.tip_same _ _ _ | simp only [↓R1, RR, seval, q0, q1, q2, q3, q4, hw, hd, hd3]); (iterate 2 (first | omega | (simp only [RZ, cP_len, cId_len, cI_len, cSt_len]; first | done | omega) | rfl)); (unfold maxLen; omega); omega) | (refine Pu.to (hR0) ?_ ?_; (focus ((repeat' (first | exact wk_refl _ | exact wk_nils | exact wk_tsl _ _ _ | exact wk_full _ _ | exact wkL.nil | exact wkL_refl _ | refine wk_tup ?_ | refine wk_agg ?_ | refine wkL.cons ?_ ?_)); done)))) <;> (try simp only [↓R1, RR, seval, q0, q1, q2, q3, q4, hw, hd, hd3])))
          (refine endP_pu (by simp) (by first | (simp [rvsS, rvS]; done) | (simp only [rvsS, rvS, ↓R1, RR, seval, q0, q1, q2, q3, q4, hw, hd, hd3]; try simp)) (wk_of_eq ?_) (by (repeat (first | exact St.le_refl _ | (refine St.le_new ?_ (by assumption)) | (refine St.le_newT ?_ (by assumption))))))
          (simp only [resAV, rvV, List.map_cons, List.map_nil, ↓R1, RR, seval, q0, q1, q2, q3, q4, hw, hd, hd3])
        | false =>
          have q5 : (r == 0) = true := by rw [beq_iff_eq]; exact bne_eq_false_iff_eq.1 q4
          have q6 : r = 0 := by rw [beq_iff_eq] at q5; exact q5
          rw [q5]
          simp only [q1, zeroIt, ↓R1, RR, seval, q0, q1, q2, q3, q4, hw, hd, hd3]
          repeat' (first | (with_reducible rw [allocV_eq]) | (with_reducible refine And.intro ?_ ?_; focus (intros; (repeat' (with_reducible apply And.intro)) <;> first | omega | (simp only [RZ, cP_len, cId_len, cI_len, cSt_len]; omega))) | (with_reducible apply And.intro) | ((first | (refine gdV_split (fun hc => ?_) (fun hc => ?_) <;> (try simp only [hc, ↓R1, RR, seval, q0, q1, q2, q3, q4, hw, hd, hd3])) | refine condV_split (fun hc => ?_) (fun hc => ?_) | (with_reducible intro β hβ; (try simp only [RB] at hβ); (repeat (obtain ⟨⟨_, _⟩, hβ⟩ := hβ)); (try (have hbis := apart_is (by assumption) hβ; obtain ⟨_, _⟩ := hbis))) | ((first | refine appD_tslK (.inr rfl) rfl ?_ ?_ ?_ ?_ ?_ ?_ | refine appV_tslK rfl ?_ ?_ ?_ ?_ ?_ ?_); (first | rfl | exact St.tip_same _ _ _ | simp only [↓R1, RR, seval, q0, q1, q2, q3, q4, hw, hd, hd3]); (iterate 2 (first | omega | (simp only [RZ, cP_len, cId_len, cI_len, cSt_len]; first | done | omega) | rfl)); (unfold maxLen; omega); omega) | (refine Pu.to (hR0) ?_ ?_; (focus ((repeat' (first | exact wk_refl _ | exact wk_nils | exact wk_tsl _ _ _ | exact wk_full _ _ | exact wkL.nil | exact wkL_refl _ | refine wk_tup ?_ | refine wk_agg ?_ | refine wkL.cons ?_ ?_)); done)))) <;> (try simp only [↓R1, RR, seval, q0, q1, q2, q3, q4, hw, hd, hd3])))
          (refine endP_pu (by simp) (by first | (simp [rvsS, rvS]; done) | (simp only [rvsS, rvS, ↓R1, RR, seval, q0, q1, q2, q3, q4, hw, hd, hd3]; try simp)) ?_ (by (repeat (first | exact St.le_refl _ | (refine St.le_new ?_ (by assumption)) | (refine St.le_newT ?_ (by assumption))))))
          simp only [resAV, rvV, List.map_cons, List.map_nil, ↓R1, RR, seval, q0, q1, q2, q3, q4, hw, hd, hd3]
          rw [q6]
          (repeat' (first | exact wk_refl _ | exact wk_nils | exact wk_tsl _ _ _ | exact wk_full _ _ | exact wkL.nil | exact wkL_refl _ | refine wk_tup ?_ | refine wk_agg ?_ | refine wkL.cons ?_ ?_))
  · have q0 : (checkS l != 0) = true := by rw [bne_iff_ne]; exact h0
    have hff : fndE q l evs va e = checkS l := by unfold fndE; rw [q0]; rfl
    have hfc : fndC q l evs va e = zeroIt := by unfold fndC; rw [hff, show (checkS l == 0) = false by rw [beq_eq_false_iff_ne]; exact h0]; rfl
    rw [hff, hfc]
    (refine Pu_intro c15 b15 (Nat.le_of_ble_eq_true rfl) fun σ => ?_; simp only [c15, ↓R1, RR, seval, q0, q1, q2, q3, q4, hw, hd, hd3])
    repeat' (first | (with_reducible rw [allocV_eq]) | (with_reducible refine And.intro ?_ ?_; focus (intros; (repeat' (with_reducible apply And.intro)) <;> first | omega | (simp only [RZ, cP_len, cId_len, cI_len, cSt_len]; omega))) | (with_reducible apply And.intro) | ((first | (refine gdV_split (fun hc => ?_) (fun hc => ?_) <;> (try simp only [hc, ↓R1, RR, seval, q0, q1, q2, q3, q4, hw, hd, hd3])) | refine condV_split (fun hc => ?_) (fun hc => ?_) | (with_reducible intro β hβ; (try simp only [RB] at hβ); (repeat (obtain ⟨⟨_, _⟩, hβ⟩ := hβ)); (try (have hbis := apart_is (by assumption) hβ; obtain ⟨_, _⟩ := hbis))) | ((first | refine appD_tslK (.inr rfl) rfl ?_ ?_ ?_ ?_ ?_ ?_ | refine appV_tslK rfl ?_ ?_ ?_ ?_ ?_ ?_); (first | rfl | exact St.tip_same _ _ _ | simp only [↓R1, RR, seval, q0, q1, q2, q3, q4, hw, hd, hd3]); (iterate 2 (first | omega | (simp only [RZ, cP_len, cId_len, cI_len, cSt_len]; first | done | omega) | rfl)); (unfold maxLen; omega); omega) | refine Pt (hc) ?_ | refine Ct (hc) ?_) <;> (try simp only [↓R1, RR, seval, q0, q1, q2, q3, q4, hw, hd, hd3])))
    (refine endP_pu (by simp) (by first | (simp [rvsS, rvS]; done) | (simp only [rvsS, rvS, ↓R1, RR, seval, q0, q1, q2, q3, q4, hw, hd, hd3]; try simp)) (wk_of_eq ?_) (by (repeat (first | exact St.le_refl _ | (refine St.le_new ?_ (by assumption)) | (refine St.le_newT ?_ (by assumption))))))
    (simp only [resAV, rvV, List.map_cons, List.map_nil, ↓R1, RR, seval, q0, q1, q2, q3, q4, hw, hd, hd3])
    rfl
end Go.Proofs.YtncadbcjikekhaaGreatDoor
namespace Go.Proofs.YtncadbcjikekhaaGreatDoor
open Go.Abs
set_option linter.all false
set_option maxRecDepth 100000
theorem loopV_forBx2 {P : Program} {x : CC} {fr : Fr} {σ : St} {Q : Exit → Fr → St → Prop} {h : Hold (x, σ, Q)} (n t o e s o2 e2 s2 : Nat) {β : Nat} {c0 : List AV} (hp : slot t fr = .ptr β 0) (hb : σ.box β = some c0) (hc : c0[o]? = some .nils) (hc2 : c0[o2]? = some .nils) (ho : o ≠ o2)
    (F : Nat → Nat → Nat → Fr) (S : Nat → Nat → Nat → St) (I : Nat → Prop) (h0 : I 0)
    (hF : ∀ τ ρ, subF (F τ ρ 0) fr) (hS : ∀ τ ρ, σ.tip τ = none → σ.tip ρ = none → Apart ρ τ → Apart τ ρ → St.le (S τ ρ 0) ((((σ.setTip τ (e, s, 0)).setBox β (c0.set o (.tsl τ 0 []))).setTip ρ (e2, s2, 0)).setBox β ((c0.set o (.tsl τ 0 [])).set o2 (.tsl ρ 0 []))))
    (hr : ∀ τ ρ, σ.tip τ = none → σ.tip ρ = none → Apart ρ τ → Apart τ ρ → ∀ k, k ≤ n → I k → aC P x (F τ ρ k) (S τ ρ k) (loopK (fun fr' σ' => k < n ∧ I (k + 1) ∧ subF (F τ ρ (k + 1)) fr' ∧ St.le (S τ ρ (k + 1)) σ') Q)) : loopV P x fr σ Q h := by
  refine ⟨[(true, t, o, e, s), (true, t, o2, e2, s2)], ?_⟩
  have hc3 : ∀ v : AV, (c0.set o v)[o2]? = some .nils := fun v => by rw [List.getElem?_set_ne ho]; exact hc2
  simp only [startP, hp, hb, Nat.zero_add, hc, hc3, slv, fresh, true_and, St.box_same]
  intro τ hτ ρ hρ
  have hne : ρ ≠ τ := by
    intro he
    subst he
    rw [St.tip_set, St.tip_same] at hρ
    cases hρ
  have hρ2 : σ.tip ρ = none := by rwa [St.tip_set, St.tip_other _ _ hne] at hρ
  refine ⟨Nat, F τ ρ, S τ ρ, fun k => k ≤ n ∧ I k, fun k => n - k, 0, ⟨Nat.zero_le _, h0⟩, hF τ ρ, hS τ ρ hτ hρ2 ⟨hne⟩ ⟨fun h => hne h.symm⟩, fun k hk => ?_⟩
  refine aC_mono _ _ _ (hr τ ρ hτ hρ2 ⟨hne⟩ ⟨fun h => hne h.symm⟩ k hk.1 hk.2) (fun e fr' σ' hq => ?_)
  unfold loopK at hq
  cases e with
  | normal => simp only at hq ⊢; exact ⟨k + 1, ⟨hq.1, hq.2.1⟩, hq.2.2.1, hq.2.2.2, by omega⟩
  | _ => exact hq
set_option maxHeartbeats 4000000 in
theorem p16 (q : Int) (l : List Pl) (evs : List Stt) (va : List Int) (e : Int) (hl : l.length ≤ 1000000) (hev : evs.length ≤ 1000000) (hva : va.length ≤ 1000000) :
    Pu Tryz.prog 16 [.int .i64 q, .agg [.sl false l.length (l.flatMap cP)], .sl false evs.length (evs.flatMap cSt), .sl false va.length (va.flatMap cI), .int .i64 e] (.tup [.agg (fndC q l evs va e), .int .i64 (fndE q l evs va e)]) := by
  have q0 : True := trivial
  have q1 : True := trivial
  have q2 : True := trivial
  have q3 : True := trivial
  have q4 : True := trivial
  have hw : True := trivial
  have hd : True := trivial
  have hd3 : True := trivial
  have hc := p32 l hl
  by_cases h0 : checkS l = 0
  · have q0 : (checkS l != 0) = false := by rw [h0]; rfl
    obtain ⟨hl0, hl12, hok⟩ := check_ok h0
    have hff : fndE q l evs va e = bif l.any (farB evs) then 2 else rightS (fndI q l evs va e) := by unfold fndE; rw [q0]; rfl
    (refine Pu_intro c16 b16 (Nat.le_of_ble_eq_true rfl) fun σ => ?_; simp only [c16, ↓R1, RR, seval, q0, q1, q2, q3, q4, hw, hd, hd3])
    repeat' (first | (with_reducible rw [allocV_eq]) | (with_reducible refine And.intro ?_ ?_; focus (intros; (repeat' (with_reducible apply And.intro)) <;> first | omega | (simp only [RZ, cP_len, cId_len, cI_len, cSt_len]; omega))) | (with_reducible apply And.intro) | ((first | (refine gdV_split (fun hc => ?_) (fun hc => ?_) <;> (try simp only [hc, ↓R1, RR, seval, q0, q1, q2, q3, q4, hw, hd, hd3])) | refine condV_split (fun hc => ?_) (fun hc => ?_) | (with_reducible intro β hβ; (try simp only [RB] at hβ); (repeat (obtain ⟨⟨_, _⟩, hβ⟩ := hβ)); (try (have hbis := apart_is (by assumption) hβ; obtain ⟨_, _⟩ := hbis))) | ((first | refine appD_tslK (.inr rfl) rfl ?_ ?_ ?_ ?_ ?_ ?_ | refine appV_tslK rfl ?_ ?_ ?_ ?_ ?_ ?_); (first | rfl | exact St.tip_same _ _ _ | simp only [↓R1, RR, seval, q0, q1, q2, q3, q4, hw, hd, hd3]); (iterate 2 (first | omega | (simp only [RZ, cP_len, cId_len, cI_len, cSt_len]; first | done | omega) | rfl)); (unfold maxLen; omega); omega) | refine Pt (hc) ?_ | refine Ct (hc) ?_) <;> (try simp only [↓R1, RR, seval, q0, q1, q2, q3, q4, hw, hd, hd3])))
    rename_i b6 h6 b10 h10 a1 a2 a3 a4 a5 a6
    refine loopV_forBx2 l.length 13 2 63 2 3 3 1 (β := β) rfl (by simp only [↓R1, RR, seval, q0, q1, q2, q3, q4, hw, hd, hd3]; rfl) rfl rfl (by decide)
      (fun t τ k => [(2, .sl false evs.length (evs.flatMap cSt)), (3, .sl false va.length (va.flatMap cI)), (4, .int .i64 e), (6, .ptr b6 0), (10, .ptr b10 0), (13, .ptr β 0), (14, .int .i64 (k : Nat))])
      (fun t τ k => ((((σ.setBox b6 [.sl false l.length (l.flatMap cP)]).setBox b10 zeroIt).setBox β [.int .i64 1, .int .i64 q, .tsl t k (((l.take k).map (evId evs)).flatMap cId), .tsl τ k (((l.take k).map (·.a)).flatMap cI), .nils, .int .i64 e, .int .i64 0]).setTip t (63, 2, k)).setTip τ (3, 1, k))
      (fun k => (l.take k).any (farB evs) = false) rfl (fun t τ => by simp [subF, slot, wk_refl]) (fun t τ ht hτ hA hB => by simp only [zeroIt, List.set_cons_succ, List.set_cons_zero, List.take_zero, List.map_nil, List.flatMap_nil, ↓R1, RR, seval, q0, q1, q2, q3, q4, hw, hd, hd3]; exact St.le_refl _) (fun t τ ht hta hA hB k hk hI => ?_)
    have ht : σ.tip t = none := by first | exact ht | (simp only [St.tip_set, St.tip_noneA, ↓R1, RR, seval, q0, q1, q2, q3, q4, hw, hd, hd3] at ht; first | exact ht | exact ht.2 | exact ht.1)
    have hta : σ.tip τ = none := by first | exact hta | (simp only [St.tip_set, St.tip_noneA, ↓R1, RR, seval, q0, q1, q2, q3, q4, hw, hd, hd3] at hta; first | exact hta | exact hta.2 | exact hta.1)
    by_cases hlt : k < l.length
    · have q1 : decide ((k : Int) < (l.length : Int)) = true := by rw [decide_eq_true_eq]; omega
      have hd := cP_get l hlt
      have hd2 := cP_len l
      have hse := cSt_len evs
      have hw : IntKind.i64.wrap ((k : Int) + 1) = ((k + 1 : Nat) : Int) := by rw [wrap64 (by omega) (by omega)]; omega
      have hcl : (((l.take k).map (evId evs)).flatMap cId).length = k * 2 := by rw [cId_len]; simp; omega
      have hcl2 : (((l.take k).map (·.a)).flatMap cI).length = k * 1 := by rw [cI_len]; simp; omega
      have hs2 := mapI_step l (·.a) hlt
      obtain ⟨hp0, hp1, _⟩ := hok l[k] (List.getElem_mem hlt)
      simp only [cP] at hd
      by_cases hfar : (evs.length : Int) ≤ (l[k]).p
      · have q2 : decide ((evs.length : Int) ≤ (l[k]).p) = true := by rw [decide_eq_true_eq]; exact hfar
        have hany : l.any (farB evs) = true := any_true (farB evs) l hlt q2
        have hf2 : fndE q l evs va e = 2 := by rw [hff, hany]; rfl
        have hfc : fndC q l evs va e = zeroIt := by unfold fndC; rw [hf2]; rfl
        rw [hf2, hfc]
        simp only [q1, zeroIt, ↓R1, RR, seval, q0, q1, q2, q3, q4, hw, hd, hd3]
        repeat' (first | (with_reducible rw [allocV_eq]) | (with_reducible refine And.intro ?_ ?_; focus (intros; (repeat' (with_reducible apply And.intro)) <;> first | omega | (simp only [RZ, cP_len, cId_len, cI_len, cSt_len]; omega))) | (with_reducible apply And.intro) | ((first | (refine gdV_split (fun hc => ?_) (fun hc => ?_) <;> (try simp only [hc, ↓R1, RR, seval, q0, q1, q2, q3, q4, hw, hd, hd3])) | refine condV_split (fun hc => ?_) (fun hc => ?_) | (with_reducible intro β hβ; (try simp only [RB] at hβ); (repeat (obtain ⟨⟨_, _⟩, hβ⟩ := hβ)); (try (have hbis := apart_is (by assumption) hβ; obtain ⟨_, _⟩ := hbis))) | ((first | refine appD_tslK (.inr rfl) rfl ?_ ?_ ?_ ?_ ?_ ?_ | refine appV_tslK rfl ?_ ?_ ?_ ?_ ?_ ?_); (first | rfl | exact St.tip_same _ _ _ | simp only [↓R1, RR, seval, q0, q1, q2, q3, q4, hw, hd, hd3]); (iterate 2 (first | omega | (simp only [RZ, cP_len, cId_len, cI_len, cSt_len]; first | done | omega) | rfl)); (unfold maxLen; omega); omega)) <;> (try simp only [↓R1, RR, seval, q0, q1, q2, q3, q4, hw, hd, hd3])))
        (refine endP_pu (by simp) (by first | (simp [rvsS, rvS]; done) | (simp only [rvsS, rvS, ↓R1, RR, seval, q0, q1, q2, q3, q4, hw, hd, hd3]; try simp)) (wk_of_eq ?_) (by (repeat (first | exact St.le_refl _ | (refine St.le_new ?_ (by assumption)) | (refine St.le_newT ?_ (by assumption))))))
        (simp only [resAV, rvV, List.map_cons, List.map_nil, ↓R1, RR, seval, q0, q1, q2, q3, q4, hw, hd, hd3])
      · have q2 : decide ((evs.length : Int) ≤ (l[k]).p) = false := by rw [decide_eq_false_iff_not]; exact hfar
        have hlp := evId_at hp0 hfar
        have hd3 := cSt_get evs hlp
        have hs := ids_step l evs hlt hlp
        simp only [cSt] at hd3
        simp only [q1, zeroIt, ↓R1, RR, seval, q0, q1, q2, q3, q4, hw, hd, hd3]
        repeat' (first | (with_reducible rw [allocV_eq]) | (with_reducible refine And.intro ?_ ?_; focus (intros; (repeat' (with_reducible apply And.intro)) <;> first | omega | (simp only [RZ, cP_len, cId_len, cI_len, cSt_len]; omega))) | (with_reducible apply And.intro) | ((first | (refine gdV_split (fun hc => ?_) (fun hc => ?_) <;> (try simp only [hc, ↓R1, RR, seval, q0, q1, q2, q3, q4, hw, hd, hd3])) | refine condV_split (fun hc => ?_) (fun hc => ?_) | (with_reducible intro β hβ; (try simp only [RB] at hβ); (repeat (obtain ⟨⟨_, _⟩, hβ⟩ := hβ)); (try (have hbis := apart_is (by assumption) hβ; obtain ⟨_, _⟩ := hbis))) | ((first | refine appD_tslK (.inr rfl) rfl ?_ ?_ ?_ ?_ ?_ ?_ | refine appV_tslK rfl ?_ ?_ ?_ ?_ ?_ ?_); (first | rfl | exact St.tip_same _ _ _ | simp only [↓R1, RR, seval, q0, q1, q2, q3, q4, hw, hd, hd3]); (iterate 2 (first | omega | (simp only [RZ, cP_len, cId_len, cI_len, cSt_len]; first | done | omega) | rfl)); (unfold maxLen; omega); omega)) <;> (try simp only [↓R1, RR, seval, q0, q1, q2, q3, q4, hw, hd, hd3])))
        · rw [any_takeG _ _ hlt, hI]; exact q2
        · simp [subF, slot, wk_refl]
        · rw [hs, hs2]; exact St.le_refl _
    · have hke : k = l.length := by omega
      subst hke
      have q1 : decide ((l.length : Int) < (l.length : Int)) = false := by simp
      rw [List.take_length] at hI ⊢
      rw [hI] at hff
      simp only [cond_false] at hff
      obtain ⟨r, hr⟩ : ∃ r, rightS (fndI q l evs va e) = r := ⟨_, rfl⟩
      have hrE : fndE q l evs va e = r := hff.trans hr
      have hfc : fndC q l evs va e = bif r == 0 then itL (fndI q l evs va e) else zeroIt := by unfold fndC; rw [hrE]
      have hR0 := p14 (fndI q l evs va e) (by simp [fndI]; omega) (by simp [fndI]; omega) (by simp only [fndI]; cases (e == 0) <;> simp <;> omega)
      rw [hr] at hR0
      rw [hrE, hfc]
      cases q3 : (e == 0) with
      | true =>
        have hI2 : itL (fndI q l evs va e) = [.int .i64 1, .int .i64 q, .sl false l.length ((l.map (evId evs)).flatMap cId), .sl false l.length ((l.map (·.a)).flatMap cI), .sl false va.length (va.flatMap cI), .int .i64 e, .int .i64 0] := by simp [itL, fndI, q3]
        rw [hI2] at hR0 ⊢
        cases q4 : (r != 0) with
        | true =>
          have q5 : (r == 0) = false := by rw [beq_eq_false_iff_ne]; exact bne_iff_ne.1 q4
          rw [q5]
          simp only [q1, zeroIt, ↓R1, RR, seval, q0, q1, q2, q3, q4, hw, hd, hd3]
          repeat' (first | (with_reducible rw [allocV_eq]) | (with_reducible refine And.intro ?_ ?_; focus (intros; (repeat' (with_reducible apply And.intro)) <;> first | omega | (simp only [RZ, cP_len, cId_len, cI_len, cSt_len]; omega))) | (with_reducible apply And.intro) | ((first | (refine gdV_split (fun hc => ?_) (fun hc => ?_) <;> (try simp only [hc, ↓R1, RR, seval, q0, q1, q2, q3, q4, hw, hd, hd3])) | refine condV_split (fun hc => ?_) (fun hc => ?_) | (with_reducible intro β hβ; (try simp only [RB] at hβ); (repeat (obtain ⟨⟨_, _⟩, hβ⟩ := hβ)); (try (have hbis := apart_is (by assumption) hβ; obtain ⟨_, _⟩ := hbis))) | ((first | refine appD_tslK (.inr rfl) rfl ?_ ?_ ?_ ?_ ?_ ?_ | refine appV_tslK rfl ?_ ?_ ?_ ?_ ?_ ?_); (first | rfl | exact St.tip_same _ _ _ | simp only [↓R1, RR, seval, q0, q1, q2, q3, q4, hw, hd, hd3]); (iterate 2 (first | omega | (simp only [RZ, cP_len, cId_len, cI_len, cSt_len]; first | done | omega) | rfl)); (unfold maxLen; omega); omega) | (refine appV_tip (n := 0) (m := va.length) (cs := []) (ds := va.flatMap cI) rfl trivial rfl (by simp) (cI_len va) (by unfold maxLen; omega) (by omega) ?_; with_reducible intro τ hβ; (try simp only [RB] at hβ); (repeat (obtain ⟨⟨_, _⟩, hβ⟩ := hβ)); (try (have hbis := apart_is (by assumption) hβ; obtain ⟨_, _⟩ := hbis))) | (refine Pu.to (hR0) ?_ ?_; (focus ((repeat' (first | exact wk_refl _ | exact wk_nils | exact wk_tsl _ _ _ | exact wk_full _ _ | exact wkL.nil | exact wkL_refl _ | refine wk_tup ?_ | refine wk_agg ?_ | refine wkL.cons ?_ ?_)); done)))) <;> (try simp only [↓R1, RR, seval, q0, q1, q2, q3, q4, hw, hd, hd3])))
          (refine endP_pu (by simp) (by first | (simp [rvsS, rvS]; done) | (simp only [rvsS, rvS, ↓R1, RR, seval, q0, q1, q2, q3, q4, hw, hd, hd3]; try simp)) (wk_of_eq ?_) (by (repeat (first | exact St.le_refl _ | (refine St.le_new ?_ (by assumption)) | (refine St.le_newT ?_ (by assumption))))))
          (simp only [resAV, rvV, List.map_cons, List.map_nil, ↓R1, RR, seval, q0, q1, q2, q3, q4, hw, hd, hd3])
        | false =>
          have q5 : (r == 0) = true := by rw [beq_iff_eq]; exact bne_eq_false_iff_eq.1 q4
          have q6 : r = 0 := by rw [beq_iff_eq] at q5; exact q5
          rw [q5]
          simp only [q1, zeroIt, ↓R1, RR, seval, q0, q1, q2, q3, q4, hw, hd, hd3]
          repeat' (first | (with_reducible rw [allocV_eq]) | (with_reducible refine And.intro ?_ ?_; focus (intros; (repeat' (with_reducible apply And.intro)) <;> first | omega | (simp only [RZ, cP_len, cId_len, cI_len, cSt_len]; omega))) | (with_reducible apply And.intro) | ((first | (refine gdV_split (fun hc => ?_) (fun hc => ?_) <;> (try simp only [hc, ↓R1, RR, seval, q0, q1, q2, q3, q4, hw, hd, hd3])) | refine condV_split (fun hc => ?_) (fun hc => ?_) | (with_reducible intro β hβ; (try simp only [RB] at hβ); (repeat (obtain ⟨⟨_, _⟩, hβ⟩ := hβ)); (try (have hbis := apart_is (by assumption) hβ; obtain ⟨_, _⟩ := hbis))) | ((first | refine appD_tslK (.inr rfl) rfl ?_ ?_ ?_ ?_ ?_ ?_ | refine appV_tslK rfl ?_ ?_ ?_ ?_ ?_ ?_); (first | rfl | exact St.tip_same _ _ _ | simp only [↓R1, RR, seval, q0, q1, q2, q3, q4, hw, hd, hd3]); (iterate 2 (first | omega | (simp only [RZ, cP_len, cId_len, cI_len, cSt_len]; first | done | omega) | rfl)); (unfold maxLen; omega); omega) | (refine appV_tip (n := 0) (m := va.length) (cs := []) (ds := va.flatMap cI) rfl trivial rfl (by simp) (cI_len va) (by unfold maxLen; omega) (by omega) ?_; with_reducible intro τ hβ; (try simp only [RB] at hβ); (repeat (obtain ⟨⟨_, _⟩, hβ⟩ := hβ)); (try (have hbis := apart_is (by assumption) hβ; obtain ⟨_, _⟩ := hbis))) | (refine Pu.to (hR0) ?_ ?_; (focus ((repeat' (first | exact wk_refl _ | exact wk_nils | exact wk_tsl _ _ _ | exact wk_full _ _ | exact wkL.nil | exact wkL_refl _ | refine wk_tup ?_ | refine wk_agg ?_ | refine wkL.cons ?_ ?_)); done)))) <;> (try simp only [↓R1, RR, seval, q0, q1, q2, q3, q4, hw, hd, hd3])))
          (refine endP_pu (by simp) (by first | (simp [rvsS, rvS]; done) | (simp only [rvsS, rvS, ↓R1, RR, seval, q0, q1, q2, q3, q4, hw, hd, hd3]; try simp)) ?_ (by (repeat (first | exact St.le_refl _ | (refine St.le_new ?_ (by assumption)) | (refine St.le_newT ?_ (by assumption))))))
          simp only [resAV, rvV, List.map_cons, List.map_nil, ↓R1, RR, seval, q0, q1, q2, q3, q4, hw, hd, hd3]
          rw [q6]
          (repeat' (first | exact wk_refl _ | exact wk_nils | exact wk_tsl _ _ _ | exact wk_full _ _ | exact wkL.nil | exact wkL_refl _ | refine wk_tup ?_ | refine wk_agg ?_ | refine wkL.cons ?_ ?_))
      | false =>
        have hI2 : itL (fndI q l evs va e) = [.int .i64 1, .int .i64 q, .sl false l.length ((l.map (evId evs)).flatMap cId), .sl false l.length ((l.map (·.a)).flatMap cI), .sl false 0 [], .int .i64 e, .int .i64 0] := by simp [itL, fndI, q3]
        rw [hI2] at hR0 ⊢
        cases q4 : (r != 0) with
        | true =>
          have q5 : (r == 0) = false := by rw [beq_eq_false_iff_ne]; exact bne_iff_ne.1 q4
          rw [q5]
          simp only [q1, zeroIt, ↓R1, RR, seval, q0, q1, q2, q3, q4, hw, hd, hd3]
          repeat' (first | (with_reducible rw [allocV_eq]) | (with_reducible refine And.intro ?_ ?_; focus (intros; (repeat' (with_reducible apply And.intro)) <;> first | omega | (simp only [RZ, cP_len, cId_len, cI_len, cSt_len]; omega))) | (with_reducible apply And.intro) | ((first | (refine gdV_split (fun hc => ?_) (fun hc => ?_) <;> (try simp only [hc, ↓R1, RR, seval, q0, q1, q2, q3, q4, hw, hd, hd3])) | refine condV_split (fun hc => ?_) (fun hc => ?_) | (with_reducible intro β hβ; (try simp only [RB] at hβ); (repeat (obtain ⟨⟨_, _⟩, hβ⟩ := hβ)); (try (have hbis := apart_is (by assumption) hβ; obtain ⟨_, _⟩ := hbis))) | ((first | refine appD_tslK (.inr rfl) rfl ?_ ?_ ?_ ?_ ?_ ?_ | refine appV_tslK rfl ?_ ?_ ?_ ?_ ?_ ?_); (first | rfl | exact St.tip_same _ _ _ | simp only [↓R1, RR, seval, q0, q1, q2, q3, q4, hw, hd, hd3]); (iterate 2 (first | omega | (simp only [RZ, cP_len, cId_len, cI_len, cSt_len]; first | done | omega) | rfl)); (unfold maxLen; omega); omega) | (refine Pu.to (hR0) ?_ ?_; (focus ((repeat' (first | exact wk_refl _ | exact wk_nils | exact wk_tsl _ _ _ | exact wk_full _ _ | exact wkL.nil | exact wkL_refl _ | refine wk_tup ?_ | refine wk_agg ?_ | refine wkL.cons ?_ ?_)); done)))) <;> (try simp only [↓R1, RR, seval, q0, q1, q2, q3, q4, hw, hd, hd3])))
          (refine endP_pu (by simp) (by first | (simp [rvsS, rvS]; done) | (simp only [rvsS, rvS, ↓R1, RR, seval, q0, q1, q2, q3, q4, hw, hd, hd3]; try simp)) (wk_of_eq ?_) (by (repeat (first | exact St.le_refl _ | (refine St.le_new ?_ (by assumption)) | (refine St.le_newT ?_ (by assumption))))))
          (simp only [resAV, rvV, List.map_cons, List.map_nil, ↓R1, RR, seval, q0, q1, q2, q3, q4, hw, hd, hd3])
        | false =>
          have q5 : (r == 0) = true := by rw [beq_iff_eq]; exact bne_eq_false_iff_eq.1 q4
          have q6 : r = 0 := by rw [beq_iff_eq] at q5; exact q5
          rw [q5]
          simp only [q1, zeroIt, ↓R1, RR, seval, q0, q1, q2, q3, q4, hw, hd, hd3]
          repeat' (first | (with_reducible rw [allocV_eq]) | (with_reducible refine And.intro ?_ ?_; focus (intros; (repeat' (with_reducible apply And.intro)) <;> first | omega | (simp only [RZ, cP_len, cId_len, cI_len, cSt_len]; omega))) | (with_reducible apply And.intro) | ((first | (refine gdV_split (fun hc => ?_) (fun hc => ?_) <;> (try simp only [hc, ↓R1, RR, seval, q0, q1, q2, q3, q4, hw, hd, hd3])) | refine condV_split (fun hc => ?_) (fun hc => ?_) | (with_reducible intro β hβ; (try simp only [RB] at hβ); (repeat (obtain ⟨⟨_, _⟩, hβ⟩ := hβ)); (try (have hbis := apart_is (by assumption) hβ; obtain ⟨_, _⟩ := hbis))) | ((first | refine appD_tslK (.inr rfl) rfl ?_ ?_ ?_ ?_ ?_ ?_ | refine appV_tslK rfl ?_ ?_ ?_ ?_ ?_ ?_); (first | rfl | exact St.tip_same _ _ _ | simp only [↓R1, RR, seval, q0, q1, q2, q3, q4, hw, hd, hd3]); (iterate 2 (first | omega | (simp only [RZ, cP_len, cId_len, cI_len, cSt_len]; first | done | omega) | rfl)); (unfold maxLen; omega); omega) | (refine Pu.to (hR0) ?_ ?_; (focus ((repeat' (first | exact wk_refl _ | exact wk_nils | exact wk_tsl _ _ _ | exact wk_full _ _ | exact wkL.nil | exact wkL_refl _ | refine wk_tup ?_ | refine wk_agg ?_ | refine wkL.cons ?_ ?_)); done)))) <;> (try simp only [↓R1, RR, seval, q0, q1, q2, q3, q4, hw, hd, hd3])))
          (refine endP_pu (by simp) (by first | (simp [rvsS, rvS]; done) | (simp only [rvsS, rvS, ↓R1, RR, seval, q0, q1, q2, q3, q4, hw, hd, hd3]; try simp)) ?_ (by (repeat (first | exact St.le_refl _ | (refine St.le_new ?_ (by assumption)) | (refine St.le_newT ?_ (by assumption))))))
          simp only [resAV, rvV, List.map_cons, List.map_nil, ↓R1, RR, seval, q0, q1, q2, q3, q4, hw, hd, hd3]
          rw [q6]
          (repeat' (first | exact wk_refl _ | exact wk_nils | exact wk_tsl _ _ _ | exact wk_full _ _ | exact wkL.nil | exact wkL_refl _ | refine wk_tup ?_ | refine wk_agg ?_ | refine wkL.cons ?_ ?_))
  · have q0 : (checkS l != 0) = true := by rw [bne_iff_ne]; exact h0
    have hff : fndE q l evs va e = checkS l := by unfold fndE; rw [q0]; rfl
    have hfc : fndC q l evs va e = zeroIt := by unfold fndC; rw [hff, show (checkS l == 0) = false by rw [beq_eq_false_iff_ne]; exact h0]; rfl
    rw [hff, hfc]
    (refine Pu_intro c16 b16 (Nat.le_of_ble_eq_true rfl) fun σ => ?_; simp only [c16, ↓R1, RR, seval, q0, q1, q2, q3, q4, hw, hd, hd3])
    repeat' (first | (with_reducible rw [allocV_eq]) | (with_reducible refine And.intro ?_ ?_; focus (intros; (repeat' (with_reducible apply And.intro)) <;> first | omega | (simp only [RZ, cP_len, cId_len, cI_len, cSt_len]; omega))) | (with_reducible apply And.intro) | ((first | (refine gdV_split (fun hc => ?_) (fun hc => ?_) <;> (try simp only [hc, ↓R1, RR, seval, q0, q1, q2, q3, q4, hw, hd, hd3])) | refine condV_split (fun hc => ?_) (fun hc => ?_) | (with_reducible intro β hβ; (try simp only [RB] at hβ); (repeat (obtain ⟨⟨_, _⟩, hβ⟩ := hβ)); (try (have hbis := apart_is (by assumption) hβ; obtain ⟨_, _⟩ := hbis))) | ((first | refine appD_tslK (.inr rfl) rfl ?_ ?_ ?_ ?_ ?_ ?_ | refine appV_tslK rfl ?_ ?_ ?_ ?_ ?_ ?_); (first | rfl | exact St.tip_same _ _ _ | simp only [↓R1, RR, seval, q0, q1, q2, q3, q4, hw, hd, hd3]); (iterate 2 (first | omega | (simp only [RZ, cP_len, cId_len, cI_len, cSt_len]; first | done | omega) | rfl)); (unfold maxLen; omega); omega) | refine Pt (hc) ?_ | refine Ct (hc) ?_) <;> (try simp only [↓R1, RR, seval, q0, q1, q2, q3, q4, hw, hd, hd3])))
    (refine endP_pu (by simp) (by first | (simp [rvsS, rvS]; done) | (simp only [rvsS, rvS, ↓R1, RR, seval, q0, q1, q2, q3, q4, hw, hd, hd3]; try simp)) (wk_of_eq ?_) (by (repeat (first | exact St.le_refl _ | (refine St.le_new ?_ (by assumption)) | (refine St.le_newT ?_ (by assumption))))))
    (simp only [resAV, rvV, List.map_cons, List.map_nil, ↓R1, RR, seval, q0, q1, q2, q3, q4, hw, hd, hd3])
    rfl
def ntcI (q e c : Int) : It := ⟨2, q, [], [], [], e, c⟩
def ntcE (q e c : Int) : Int := rightS (ntcI q e c)
def ntcC (q e c : Int) : List AV := bif ntcE q e c == 0 then itL (ntcI q e c) else zeroIt
theorem p17 (q e c : Int) : Pu Tryz.prog 17 [.int .i64 q, .int .i64 e, .int .i64 c] (.tup [.agg (ntcC q e c), .int .i64 (ntcE q e c)]) := by
  have q4 : True := trivial
  have hR0 := p13 (ntcI q e c) (by simp [ntcI]) (by simp [ntcI]) (by simp [ntcI])
  obtain ⟨r, hr⟩ : ∃ r, rightS (ntcI q e c) = r := ⟨_, rfl⟩
  have hrE : ntcE q e c = r := hr
  have hfc : ntcC q e c = bif r == 0 then itL (ntcI q e c) else zeroIt := by unfold ntcC; rw [hrE]
  have hI2 : itL (ntcI q e c) = [.int .i64 2, .int .i64 q, .sl false 0 [], .sl false 0 [], .sl false 0 [], .int .i64 e, .int .i64 c] := rfl
  rw [hr, hI2] at hR0
  rw [hrE, hfc, hI2]
  cases q4 : (r != 0) with
  | true =>
    have q5 : (r == 0) = false := by rw [beq_eq_false_iff_ne]; exact bne_iff_ne.1 q4
    rw [q5]
    simp only [cond_true, cond_false, zeroIt]
    (refine Pu_intro c17 b17 (Nat.le_of_ble_eq_true rfl) fun σ => ?_; simp only [c17, ↓R1, RR, seval, q4])
    repeat' (first | (with_reducible rw [allocV_eq]) | (with_reducible refine And.intro ?_ ?_; focus (intros; (repeat' (with_reducible apply And.intro)) <;> first | omega | (simp only [RZ, cP_len, cId_len, cI_len, cSt_len]; omega))) | (with_reducible apply And.intro) | ((first | (refine gdV_split (fun hc => ?_) (fun hc => ?_) <;> (try simp only [hc, ↓R1, RR, seval, q4])) | refine condV_split (fun hc => ?_) (fun hc => ?_) | (with_reducible intro β hβ; (try simp only [RB] at hβ); (repeat (obtain ⟨⟨_, _⟩, hβ⟩ := hβ)); (try (have hbis := apart_is (by assumption) hβ; obtain ⟨_, _⟩ := hbis))) | ((first | refine appD_tslK (.inr rfl) rfl ?_ ?_ ?_ ?_ ?_ ?_ | refine appV_tslK rfl ?_ ?_ ?_ ?_ ?_ ?_); (first | rfl | exact St.tip_same _ _ _ | simp only [↓R1, RR, seval, q4]); (iterate 2 (first | omega | (simp only [RZ, cP_len, cId_len, cI_len, cSt_len]; first | done | omega) | rfl)); (unfold maxLen; omega); omega) | (refine Pu.to (hR0) ?_ ?_; (focus ((repeat' (first | exact wk_refl _ | exact wk_nils | exact wk_tsl _ _ _ | exact wk_full _ _ | exact wkL.nil | exact wkL_refl _ | refine wk_tup ?_ | refine wk_agg ?_ | refine wkL.cons ?_ ?_)); done)))) <;> (try simp only [↓R1, RR, seval, q4])))
    (refine endP_pu (by simp) (by first | (simp [rvsS, rvS]; done) | (simp only [rvsS, rvS, ↓R1, RR, seval, q4]; try simp)) (wk_of_eq ?_) (by (repeat (first | exact St.le_refl _ | (refine St.le_new ?_ (by assumption)) | (refine St.le_newT ?_ (by assumption))))))
    (simp only [resAV, rvV, List.map_cons, List.map_nil, ↓R1, RR, seval, q4])
  | false =>
    have q5 : (r == 0) = true := by rw [beq_iff_eq]; exact bne_eq_false_iff_eq.1 q4
    have q6 : r = 0 := by rw [beq_iff_eq] at q5; exact q5
    rw [q5]
    simp only [cond_true, cond_false, zeroIt]
    (refine Pu_intro c17 b17 (Nat.le_of_ble_eq_true rfl) fun σ => ?_; simp only [c17, ↓R1, RR, seval, q4])
    repeat' (first | (with_reducible rw [allocV_eq]) | (with_reducible refine And.intro ?_ ?_; focus (intros; (repeat' (with_reducible apply And.intro)) <;> first | omega | (simp only [RZ, cP_len, cId_len, cI_len, cSt_len]; omega))) | (with_reducible apply And.intro) | ((first | (refine gdV_split (fun hc => ?_) (fun hc => ?_) <;> (try simp only [hc, ↓R1, RR, seval, q4])) | refine condV_split (fun hc => ?_) (fun hc => ?_) | (with_reducible intro β hβ; (try simp only [RB] at hβ); (repeat (obtain ⟨⟨_, _⟩, hβ⟩ := hβ)); (try (have hbis := apart_is (by assumption) hβ; obtain ⟨_, _⟩ := hbis))) | ((first | refine appD_tslK (.inr rfl) rfl ?_ ?_ ?_ ?_ ?_ ?_ | refine appV_tslK rfl ?_ ?_ ?_ ?_ ?_ ?_); (first | rfl | exact St.tip_same _ _ _ | simp only [↓R1, RR, seval, q4]); (iterate 2 (first | omega | (simp only [RZ, cP_len, cId_len, cI_len, cSt_len]; first | done | omega) | rfl)); (unfold maxLen; omega); omega) | (refine Pu.to (hR0) ?_ ?_; (focus ((repeat' (first | exact wk_refl _ | exact wk_nils | exact wk_tsl _ _ _ | exact wk_full _ _ | exact wkL.nil | exact wkL_refl _ | refine wk_tup ?_ | refine wk_agg ?_ | refine wkL.cons ?_ ?_)); done)))) <;> (try simp only [↓R1, RR, seval, q4])))
    (refine endP_pu (by simp) (by first | (simp [rvsS, rvS]; done) | (simp only [rvsS, rvS, ↓R1, RR, seval, q4]; try simp)) ?_ (by (repeat (first | exact St.le_refl _ | (refine St.le_new ?_ (by assumption)) | (refine St.le_newT ?_ (by assumption))))))
    simp only [resAV, rvV, List.map_cons, List.map_nil, ↓R1, RR, seval, q4]
    rw [q6]
    (repeat' (first | exact wk_refl _ | exact wk_nils | exact wk_tsl _ _ _ | exact wk_full _ _ | exact wkL.nil | exact wkL_refl _ | refine wk_tup ?_ | refine wk_agg ?_ | refine wkL.cons ?_ ?_))
theorem p18 (q e c : Int) : Pu Tryz.prog 18 [.int .i64 q, .int .i64 e, .int .i64 c] (.tup [.agg (ntcC q e c), .int .i64 (ntcE q e c)]) := by
  have q4 : True := trivial
  have hR0 := p14 (ntcI q e c) (by simp [ntcI]) (by simp [ntcI]) (by simp [ntcI])
  obtain ⟨r, hr⟩ : ∃ r, rightS (ntcI q e c) = r := ⟨_, rfl⟩
  have hrE : ntcE q e c = r := hr
  have hfc : ntcC q e c = bif r == 0 then itL (ntcI q e c) else zeroIt := by unfold ntcC; rw [hrE]
  have hI2 : itL (ntcI q e c) = [.int .i64 2, .int .i64 q, .sl false 0 [], .sl false 0 [], .sl false 0 [], .int .i64 e, .int .i64 c] := rfl
  rw [hr, hI2] at hR0
  rw [hrE, hfc, hI2]
  cases q4 : (r != 0) with
  | true =>
    have q5 : (r == 0) = false := by rw [beq_eq_false_iff_ne]; exact bne_iff_ne.1 q4
    rw [q5]
    simp only [cond_true, cond_false, zeroIt]
    (refine Pu_intro c18 b18 (Nat.le_of_ble_eq_true rfl) fun σ => ?_; simp only [c18, ↓R1, RR, seval, q4])
    repeat' (first | (with_reducible rw [allocV_eq]) | (with_reducible refine And.intro ?_ ?_; focus (intros; (repeat' (with_reducible apply And.intro)) <;> first | omega | (simp only [RZ, cP_len, cId_len, cI_len, cSt_len]; omega))) | (with_reducible apply And.intro) | ((first | (refine gdV_split (fun hc => ?_) (fun hc => ?_) <;> (try simp only [hc, ↓R1, RR, seval, q4])) | refine condV_split (fun hc => ?_) (fun hc => ?_) | (with_reducible intro β hβ; (try simp only [RB] at hβ); (repeat (obtain ⟨⟨_, _⟩, hβ⟩ := hβ)); (try (have hbis := apart_is (by assumption) hβ; obtain ⟨_, _⟩ := hbis))) | ((first | refine appD_tslK (.inr rfl) rfl ?_ ?_ ?_ ?_ ?_ ?_ | refine appV_tslK rfl ?_ ?_ ?_ ?_ ?_ ?_); (first | rfl | exact St.tip_same _ _ _ | simp only [↓R1, RR, seval, q4]); (iterate 2 (first | omega | (simp only [RZ, cP_len, cId_len, cI_len, cSt_len]; first | done | omega) | rfl)); (unfold maxLen; omega); omega) | (refine Pu.to (hR0) ?_ ?_; (focus ((repeat' (first | exact wk_refl _ | exact wk_nils | exact wk_tsl _ _ _ | exact wk_full _ _ | exact wkL.nil | exact wkL_refl _ | refine wk_tup ?_ | refine wk_agg ?_ | refine wkL.cons ?_ ?_)); done)))) <;> (try simp only [↓R1, RR, seval, q4])))
    (refine endP_pu (by simp) (by first | (simp [rvsS, rvS]; done) | (simp only [rvsS, rvS, ↓R1, RR, seval, q4]; try simp)) (wk_of_eq ?_) (by (repeat (first | exact St.le_refl _ | (refine St.le_new ?_ (by assumption)) | (refine St.le_newT ?_ (by assumption))))))
    (simp only [resAV, rvV, List.map_cons, List.map_nil, ↓R1, RR, seval, q4])
  | false =>
    have q5 : (r == 0) = true := by rw [beq_iff_eq]; exact bne_eq_false_iff_eq.1 q4
    have q6 : r = 0 := by rw [beq_iff_eq] at q5; exact q5
    rw [q5]
    simp only [cond_true, cond_false, zeroIt]
    (refine Pu_intro c18 b18 (Nat.le_of_ble_eq_true rfl) fun σ => ?_; simp only [c18, ↓R1, RR, seval, q4])
    repeat' (first | (with_reducible rw [allocV_eq]) | (with_reducible refine And.intro ?_ ?_; focus (intros; (repeat' (with_reducible apply And.intro)) <;> first | omega | (simp only [RZ, cP_len, cId_len, cI_len, cSt_len]; omega))) | (with_reducible apply And.intro) | ((first | (refine gdV_split (fun hc => ?_) (fun hc => ?_) <;> (try simp only [hc, ↓R1, RR, seval, q4])) | refine condV_split (fun hc => ?_) (fun hc => ?_) | (with_reducible intro β hβ; (try simp only [RB] at hβ); (repeat (obtain ⟨⟨_, _⟩, hβ⟩ := hβ)); (try (have hbis := apart_is (by assumption) hβ; obtain ⟨_, _⟩ := hbis))) | ((first | refine appD_tslK (.inr rfl) rfl ?_ ?_ ?_ ?_ ?_ ?_ | refine appV_tslK rfl ?_ ?_ ?_ ?_ ?_ ?_); (first | rfl | exact St.tip_same _ _ _ | simp only [↓R1, RR, seval, q4]); (iterate 2 (first | omega | (simp only [RZ, cP_len, cId_len, cI_len, cSt_len]; first | done | omega) | rfl)); (unfold maxLen; omega); omega) | (refine Pu.to (hR0) ?_ ?_; (focus ((repeat' (first | exact wk_refl _ | exact wk_nils | exact wk_tsl _ _ _ | exact wk_full _ _ | exact wkL.nil | exact wkL_refl _ | refine wk_tup ?_ | refine wk_agg ?_ | refine wkL.cons ?_ ?_)); done)))) <;> (try simp only [↓R1, RR, seval, q4])))
    (refine endP_pu (by simp) (by first | (simp [rvsS, rvS]; done) | (simp only [rvsS, rvS, ↓R1, RR, seval, q4]; try simp)) ?_ (by (repeat (first | exact St.le_refl _ | (refine St.le_new ?_ (by assumption)) | (refine St.le_newT ?_ (by assumption))))))
    simp only [resAV, rvV, List.map_cons, List.map_nil, ↓R1, RR, seval, q4]
    rw [q6]
    (repeat' (first | exact wk_refl _ | exact wk_nils | exact wk_tsl _ _ _ | exact wk_full _ _ | exact wkL.nil | exact wkL_refl _ | refine wk_tup ?_ | refine wk_agg ?_ | refine wkL.cons ?_ ?_))
end Go.Proofs.YtncadbcjikekhaaGreatDoor
namespace Go.Proofs.YtncadbcjikekhaaGreatDoor
open Go.Abs
set_option maxRecDepth 100000
def dc35 : CF := ⟨(.seq (Ko [0] [Ou 2 (.alloc [.int .i64 0, .int .i64 0, .nils, .nils, .nils, .int .i64 0, .int .i64 0]), Mi 3 0]) (.seq (Ko [0, 2] [Mv 7 0, Ou 8 (.call 69 [(.t 7), (.c (.str [32]))]), Ou 9 (.bld [.nils, .int .i64 0] [(0, 1, (.t 8))]), Ou 10 (.box 2 (.t 9)), Mv 4 10]) (.seq (Ko [2, 4] [Ou 5 (.mv (.c .nili))]) (.seq (.seq (Ko [2, 4] [Mv 11 4, Ou 12 (.call 76 [(.t 11)])]) (.block 0 (.seq (Ko [2, 4, 12] [Ou 15 (.bin .eql (.t 12) (.c (.str [102, 111, 117, 110, 100]))), Mv 14 15]) (.cond (.t 14) (Ko [2, 4] [Ou 16 (.bld [] []), Ou 17 (.mkI 105 (.t 16)), Mv 5 17]) (.seq (Ko [2, 4, 12] [Ou 19 (.bin .eql (.t 12) (.c (.str [110, 111, 116, 105, 99, 101]))), Mv 18 19]) (.cond (.t 18) (Ko [2, 4] [Ou 20 (.bld [] []), Ou 21 (.mkI 106 (.t 20)), Mv 5 21]) (.seq (Ko [2] [Ou 13 (.bld [.int .i64 0, .int .i64 0, .nils, .nils, .nils, .int .i64 0, .int .i64 0] []), Sv 7 2 13, Mi 3 3]) .ret))))))) (.seq (Ko [2, 4, 5] [Mv 22 5, Mv 23 4, Ou 24 (.invk [(105, 173), (106, 183)] (.t 22) [(.t 23)]), Ou 6 (.alloc [.int .i64 0, .int .i64 0, .nils, .nils, .nils, .int .i64 0, .int .i64 0]), Sv 7 6 24]) (.seq (.seq (Ko [2, 4, 6] [Mv 25 4, Ou 26 (.nilc (.t 25)), Fa 27 0 26, Lv 28 27, Ou 29 (.len (.t 28)), Ou 30 (.bin .gtr (.t 29) (Ik 0))]) (.cond (.t 30) (Ko [2, 4, 6] [Mv 31 4, Ou 32 (.call 77 [(.t 31), (Ik 3)])]) .skip)) (.seq (.seq (Ko [2, 4, 6] [Mv 33 4, Ou 34 (.nilc (.t 33)), Fa 35 1 34, Lv 36 35, Ou 37 (.bin .eql (.t 36) (Ik 0))]) (.cond (.t 37) (Ko [2, 4, 6] [Mv 38 4, Lw 39 7 6, Ou 40 (.call 13 [(.t 39)]), Ou 41 (.call 77 [(.t 38), (.t 40)])]) .skip)) (.seq (.seq (Ko [2, 4, 6] [Mv 42 4, Ou 43 (.nilc (.t 42)), Fa 44 1 43, Lv 45 44, Ou 46 (.bin .neq (.t 45) (Ik 0))]) (.cond (.t 46) (.seq (.keep [2, 4] (.any (.alt 0 ⟨some 47, .bld [.int .i64 0, .int .i64 0, .nils, .nils, .nils, .int .i64 0, .int .i64 0] [], none⟩ (.alt 1 ⟨some 48, .mv (.t 4), none⟩ (.alt 2 ⟨some 49, .nilc (.t 48), none⟩ (.alt 3 ⟨some 50, .fldA 1 (.t 49), none⟩ (.alt 4 ⟨some 51, .ld (none) (.t 50), none⟩ (.alt 5 ⟨none, .st 7 (.t 2) (.t 47), none⟩ (.alt 6 ⟨some 3, .mv (.t 51), none⟩ .done .stop) .stop) (.alt 5 ⟨none, .st 7 (.t 2) (.t 47), none⟩ (.alt 4 ⟨some 51, .ld (none) (.t 50), none⟩ (.alt 6 ⟨some 3, .mv (.t 51), none⟩ .done .stop) .stop) .stop)) (.alt 5 ⟨none, .st 7 (.t 2) (.t 47), none⟩ (.alt 3 ⟨some 50, .fldA 1 (.t 49), none⟩ (.alt 4 ⟨some 51, .ld (none) (.t 50), none⟩ (.alt 6 ⟨some 3, .mv (.t 51), none⟩ .done .stop) .stop) .stop) .stop)) (.alt 5 ⟨none, .st 7 (.t 2) (.t 47), none⟩ (.alt 2 ⟨some 49, .nilc (.t 48), none⟩ (.alt 3 ⟨some 50, .fldA 1 (.t 49), none⟩ (.alt 4 ⟨some 51, .ld (none) (.t 50), none⟩ (.alt 6 ⟨some 3, .mv (.t 51), none⟩ .done .stop) .stop) .stop) .stop) .stop)) (.alt 5 ⟨none, .st 7 (.t 2) (.t 47), none⟩ (.alt 1 ⟨some 48, .mv (.t 4), none⟩ (.alt 2 ⟨some 49, .nilc (.t 48), none⟩ (.alt 3 ⟨some 50, .fldA 1 (.t 49), none⟩ (.alt 4 ⟨some 51, .ld (none) (.t 50), none⟩ (.alt 6 ⟨some 3, .mv (.t 51), none⟩ .done .stop) .stop) .stop) .stop) .stop) .stop)) (.alt 1 ⟨some 48, .mv (.t 4), none⟩ (.alt 0 ⟨some 47, .bld [.int .i64 0, .int .i64 0, .nils, .nils, .nils, .int .i64 0, .int .i64 0] [], none⟩ (.alt 2 ⟨some 49, .nilc (.t 48), none⟩ (.alt 3 ⟨some 50, .fldA 1 (.t 49), none⟩ (.alt 4 ⟨some 51, .ld (none) (.t 50), none⟩ (.alt 5 ⟨none, .st 7 (.t 2) (.t 47), none⟩ (.alt 6 ⟨some 3, .mv (.t 51), none⟩ .done .stop) .stop) (.alt 5 ⟨none, .st 7 (.t 2) (.t 47), none⟩ (.alt 4 ⟨some 51, .ld (none) (.t 50), none⟩ (.alt 6 ⟨some 3, .mv (.t 51), none⟩ .done .stop) .stop) .stop)) (.alt 5 ⟨none, .st 7 (.t 2) (.t 47), none⟩ (.alt 3 ⟨some 50, .fldA 1 (.t 49), none⟩ (.alt 4 ⟨some 51, .ld (none) (.t 50), none⟩ (.alt 6 ⟨some 3, .mv (.t 51), none⟩ .done .stop) .stop) .stop) .stop)) (.alt 5 ⟨none, .st 7 (.t 2) (.t 47), none⟩ (.alt 2 ⟨some 49, .nilc (.t 48), none⟩ (.alt 3 ⟨some 50, .fldA 1 (.t 49), none⟩ (.alt 4 ⟨some 51, .ld (none) (.t 50), none⟩ (.alt 6 ⟨some 3, .mv (.t 51), none⟩ .done .stop) .stop) .stop) .stop) .stop)) (.alt 2 ⟨some 49, .nilc (.t 48), none⟩ (.alt 0 ⟨some 47, .bld [.int .i64 0, .int .i64 0, .nils, .nils, .nils, .int .i64 0, .int .i64 0] [], none⟩ (.alt 3 ⟨some 50, .fldA 1 (.t 49), none⟩ (.alt 4 ⟨some 51, .ld (none) (.t 50), none⟩ (.alt 5 ⟨none, .st 7 (.t 2) (.t 47), none⟩ (.alt 6 ⟨some 3, .mv (.t 51), none⟩ .done .stop) .stop) (.alt 5 ⟨none, .st 7 (.t 2) (.t 47), none⟩ (.alt 4 ⟨some 51, .ld (none) (.t 50), none⟩ (.alt 6 ⟨some 3, .mv (.t 51), none⟩ .done .stop) .stop) .stop)) (.alt 5 ⟨none, .st 7 (.t 2) (.t 47), none⟩ (.alt 3 ⟨some 50, .fldA 1 (.t 49), none⟩ (.alt 4 ⟨some 51, .ld (none) (.t 50), none⟩ (.alt 6 ⟨some 3, .mv (.t 51), none⟩ .done .stop) .stop) .stop) .stop)) (.alt 3 ⟨some 50, .fldA 1 (.t 49), none⟩ (.alt 0 ⟨some 47, .bld [.int .i64 0, .int .i64 0, .nils, .nils, .nils, .int .i64 0, .int .i64 0] [], none⟩ (.alt 4 ⟨some 51, .ld (none) (.t 50), none⟩ (.alt 5 ⟨none, .st 7 (.t 2) (.t 47), none⟩ (.alt 6 ⟨some 3, .mv (.t 51), none⟩ .done .stop) .stop) (.alt 5 ⟨none, .st 7 (.t 2) (.t 47), none⟩ (.alt 4 ⟨some 51, .ld (none) (.t 50), none⟩ (.alt 6 ⟨some 3, .mv (.t 51), none⟩ .done .stop) .stop) .stop)) (.alt 4 ⟨some 51, .ld (none) (.t 50), none⟩ (.alt 0 ⟨some 47, .bld [.int .i64 0, .int .i64 0, .nils, .nils, .nils, .int .i64 0, .int .i64 0] [], none⟩ (.alt 5 ⟨none, .st 7 (.t 2) (.t 47), none⟩ (.alt 6 ⟨some 3, .mv (.t 51), none⟩ .done .stop) .stop) .stop) .stop)) .stop)) .stop)) .stop)))) .ret) .skip)) (.seq (Ko [2, 6] [Lw 52 7 6, Sv 7 2 52, Mi 3 0]) .ret))))))))), [.cl 2 (some 7), .t 3], 53⟩
theorem db35 : fB Tryz.prog 35 dc35 = true := by kernel_rfl
def dc173 : CF := ⟨(.seq (Ko [0, 1] [Ou 2 (.box 0 (.t 0)), Ou 4 (.alloc [.int .i64 0, .int .i64 0, .nils, .nils, .nils, .int .i64 0, .int .i64 0])]) (.seq (Ko [1, 4] [Mv 8 1, Mv 9 1, Ou 10 (.call 76 [(.t 9)]), Ou 11 (.call 174 [(.t 8), (.t 10)]), Ou 12 (.bld [.int .i64 0, .int .i64 0, .nils, .nils, .nils, .int .i64 0, .int .i64 0] [(0, 1, (Ik 1)), (1, 1, (.t 11))]), Ou 5 (.alloc [.int .i64 0, .int .i64 0, .nils, .nils, .nils, .int .i64 0, .int .i64 0]), Sv 7 5 12]) (.seq (.block 0 (.loop (.seq (.seq (Ko [1, 4, 5] [Mv 13 1, Ou 14 (.nilc (.t 13)), Fa 15 0 14, Lv 16 15, Ou 17 (.len (.t 16)), Ou 18 (.bin .gtr (.t 17) (Ik 0)), Mv 19 18, Ot 20 (.mv (.t 1)) 19, Ot 21 (.nilc (.t 20)) 19, Ot 22 (.fldA 0 (.t 21)) 19, Ot 23 (.ld (none) (.t 22)) 19, Ot 24 (.ixA 1 (.t 23) (Ik 0)) 19, Ot 25 (.ld (none) (.t 24)) 19, Ot 26 (.bin .neq (.t 25) (.c (.str [61]))) 19, Pa 27 19 26, Mv 28 27, Ot 29 (.mv (.t 1)) 28, Ot 30 (.nilc (.t 29)) 28, Ot 31 (.fldA 0 (.t 30)) 28, Ot 32 (.ld (none) (.t 31)) 28, Ot 33 (.ixA 1 (.t 32) (Ik 0)) 28, Ot 34 (.ld (none) (.t 33)) 28, Ot 35 (.bin .neq (.t 34) (.c (.str [33]))) 28, Pa 36 28 35]) (.cond (.t 36) .skip (.exit 0))) (.block 1 (.seq (Ko [1, 4, 5] [Mv 38 1, Mv 39 1, Ou 40 (.call 76 [(.t 39)]), Ou 41 (.call 175 [(.t 38), (.t 40)]), Mv 37 41, Ex 42 37 0, Ex 43 37 1, Ou 6 (.alloc [.int .u64 0, .int .u64 0]), Sv 2 6 42, Mv 7 43]) (.keep [1, 4, 5, 6, 7] (.drw [Fa 44 2 5, Lv 45 44, Lw 46 2 6, Ou 47 (.mkSl 2 1 [.int .u64 0, .int .u64 0] [(0, 2, (.t 46))]), Ou 48 (.app true 63 2 16 (.t 45) (.t 47)), Fa 49 3 5, Lv 50 49, Mv 51 7, Ou 52 (.mkSl 1 1 [.int .i64 0] [(0, 1, (.t 51))]), Ou 53 (.app true 3 1 8 (.t 50) (.t 52)), Fa 54 2 5, Sv 1 54 48, Fa 55 3 5, Sv 1 55 53] [0, 1, 1, 0, 4, 0, 1, 0, 0, 4, 0, 2, 0, 2]))))))) (.seq (.seq (Ko [1, 4, 5] [Fa 56 2 5, Lv 57 56, Ou 58 (.len (.t 57)), Ou 59 (.bin .eql (.t 58) (Ik 0))]) (.cond (.t 59) (Ko [1, 4, 5] [Mv 60 1, Ou 61 (.call 77 [(.t 60), (Ik 3)])]) .skip)) (.seq (.seq (Ko [1, 4, 5] [Mv 62 1, Ou 63 (.nilc (.t 62)), Fa 64 0 63, Lv 65 64, Ou 66 (.len (.t 65)), Ou 67 (.bin .eql (.t 66) (Ik 0))]) (.cond (.t 67) (.seq (Ko [4, 5] [Lw 68 7 5, Sv 7 4 68]) .ret) .skip)) (.seq (.seq (Ko [1, 4, 5] [Mv 69 1, Ou 70 (.call 76 [(.t 69)]), Ou 71 (.bin .eql (.t 70) (.c (.str [33])))]) (.cond (.t 71) (.seq (.seq (Ko [1, 4, 5] [Mv 72 1, Ou 73 (.call 76 [(.t 72)])]) (.block 2 (.seq (Ko [1, 4, 5, 73] [Ou 77 (.call 49 [(Ik 7)]), Ou 78 (.bin .eql (.t 73) (.t 77)), Mv 76 78]) (.cond (.t 76) (Ko [4, 5] [Fa 79 5 5, ⟨none, .st 1 (.t 79) (Ik 7), none⟩]) (.seq (Ko [1, 4, 5, 73] [Ou 81 (.call 49 [(Ik 16)]), Ou 82 (.bin .eql (.t 73) (.t 81)), Mv 80 82]) (.cond (.t 80) (Ko [4, 5] [Fa 83 5 5, ⟨none, .st 1 (.t 83) (Ik 16), none⟩]) (Ko [1, 4, 5] [Mv 74 1, Ou 75 (.call 77 [(.t 74), (Ik 3)])]))))))) (.seq (Ko [4, 5] [Lw 84 7 5, Sv 7 4 84]) .ret)) .skip)) (.seq (.keep [1, 4, 5] (.any (.alt 0 ⟨some 85, .fldA 4 (.t 5), none⟩ (.alt 1 ⟨some 86, .ld (none) (.t 85), none⟩ (.alt 2 ⟨some 87, .mv (.t 1), none⟩ (.alt 3 ⟨some 88, .call 172 [(.t 87)], none⟩ (.alt 4 ⟨some 89, .mkSl 1 1 [.int .i64 0] [(0, 1, (.t 88))], none⟩ (.alt 5 ⟨some 90, .app true 2 1 8 (.t 86) (.t 89), none⟩ (.alt 6 ⟨some 91, .fldA 4 (.t 5), none⟩ (.alt 7 ⟨none, .st 1 (.t 91) (.t 90), none⟩ .done .stop) .stop) .stop) .stop) .stop) .stop) (.alt 2 ⟨some 87, .mv (.t 1), none⟩ (.alt 1 ⟨some 86, .ld (none) (.t 85), none⟩ (.alt 3 ⟨some 88, .call 172 [(.t 87)], none⟩ (.alt 4 ⟨some 89, .mkSl 1 1 [.int .i64 0] [(0, 1, (.t 88))], none⟩ (.alt 5 ⟨some 90, .app true 2 1 8 (.t 86) (.t 89), none⟩ (.alt 6 ⟨some 91, .fldA 4 (.t 5), none⟩ (.alt 7 ⟨none, .st 1 (.t 91) (.t 90), none⟩ .done .stop) .stop) .stop) .stop) .stop) (.alt 3 ⟨some 88, .call 172 [(.t 87)], none⟩ (.alt 1 ⟨some 86, .ld (none) (.t 85), none⟩ (.alt 4 ⟨some 89, .mkSl 1 1 [.int .i64 0] [(0, 1, (.t 88))], none⟩ (.alt 5 ⟨some 90, .app true 2 1 8 (.t 86) (.t 89), none⟩ (.alt 6 ⟨some 91, .fldA 4 (.t 5), none⟩ (.alt 7 ⟨none, .st 1 (.t 91) (.t 90), none⟩ .done .stop) .stop) .stop) .stop) (.alt 4 ⟨some 89, .mkSl 1 1 [.int .i64 0] [(0, 1, (.t 88))], none⟩ (.alt 1 ⟨some 86, .ld (none) (.t 85), none⟩ (.alt 5 ⟨some 90, .app true 2 1 8 (.t 86) (.t 89), none⟩ (.alt 6 ⟨some 91, .fldA 4 (.t 5), none⟩ (.alt 7 ⟨none, .st 1 (.t 91) (.t 90), none⟩ .done .stop) .stop) .stop) .stop) .stop)) .stop)) .stop)) (.alt 2 ⟨some 87, .mv (.t 1), none⟩ (.alt 0 ⟨some 85, .fldA 4 (.t 5), none⟩ (.alt 1 ⟨some 86, .ld (none) (.t 85), none⟩ (.alt 3 ⟨some 88, .call 172 [(.t 87)], none⟩ (.alt 4 ⟨some 89, .mkSl 1 1 [.int .i64 0] [(0, 1, (.t 88))], none⟩ (.alt 5 ⟨some 90, .app true 2 1 8 (.t 86) (.t 89), none⟩ (.alt 6 ⟨some 91, .fldA 4 (.t 5), none⟩ (.alt 7 ⟨none, .st 1 (.t 91) (.t 90), none⟩ .done .stop) .stop) .stop) .stop) .stop) (.alt 3 ⟨some 88, .call 172 [(.t 87)], none⟩ (.alt 1 ⟨some 86, .ld (none) (.t 85), none⟩ (.alt 4 ⟨some 89, .mkSl 1 1 [.int .i64 0] [(0, 1, (.t 88))], none⟩ (.alt 5 ⟨some 90, .app true 2 1 8 (.t 86) (.t 89), none⟩ (.alt 6 ⟨some 91, .fldA 4 (.t 5), none⟩ (.alt 7 ⟨none, .st 1 (.t 91) (.t 90), none⟩ .done .stop) .stop) .stop) .stop) (.alt 4 ⟨some 89, .mkSl 1 1 [.int .i64 0] [(0, 1, (.t 88))], none⟩ (.alt 1 ⟨some 86, .ld (none) (.t 85), none⟩ (.alt 5 ⟨some 90, .app true 2 1 8 (.t 86) (.t 89), none⟩ (.alt 6 ⟨some 91, .fldA 4 (.t 5), none⟩ (.alt 7 ⟨none, .st 1 (.t 91) (.t 90), none⟩ .done .stop) .stop) .stop) .stop) .stop)) .stop)) (.alt 3 ⟨some 88, .call 172 [(.t 87)], none⟩ (.alt 0 ⟨some 85, .fldA 4 (.t 5), none⟩ (.alt 1 ⟨some 86, .ld (none) (.t 85), none⟩ (.alt 4 ⟨some 89, .mkSl 1 1 [.int .i64 0] [(0, 1, (.t 88))], none⟩ (.alt 5 ⟨some 90, .app true 2 1 8 (.t 86) (.t 89), none⟩ (.alt 6 ⟨some 91, .fldA 4 (.t 5), none⟩ (.alt 7 ⟨none, .st 1 (.t 91) (.t 90), none⟩ .done .stop) .stop) .stop) .stop) (.alt 4 ⟨some 89, .mkSl 1 1 [.int .i64 0] [(0, 1, (.t 88))], none⟩ (.alt 1 ⟨some 86, .ld (none) (.t 85), none⟩ (.alt 5 ⟨some 90, .app true 2 1 8 (.t 86) (.t 89), none⟩ (.alt 6 ⟨some 91, .fldA 4 (.t 5), none⟩ (.alt 7 ⟨none, .st 1 (.t 91) (.t 90), none⟩ .done .stop) .stop) .stop) .stop) .stop)) (.alt 4 ⟨some 89, .mkSl 1 1 [.int .i64 0] [(0, 1, (.t 88))], none⟩ (.alt 0 ⟨some 85, .fldA 4 (.t 5), none⟩ (.alt 1 ⟨some 86, .ld (none) (.t 85), none⟩ (.alt 5 ⟨some 90, .app true 2 1 8 (.t 86) (.t 89), none⟩ (.alt 6 ⟨some 91, .fldA 4 (.t 5), none⟩ (.alt 7 ⟨none, .st 1 (.t 91) (.t 90), none⟩ .done .stop) .stop) .stop) .stop) .stop) .stop)) .stop)) .stop)))) (.seq (.block 3 (.loop (.seq (.seq (Ko [1, 4, 5] [Mv 92 1, Ou 93 (.nilc (.t 92)), Fa 94 0 93, Lv 95 94, Ou 96 (.len (.t 95)), Ou 97 (.bin .gtr (.t 96) (Ik 0))]) (.cond (.t 97) .skip (.exit 3))) (.block 4 (.keep [1, 4, 5] (.any (.alt 0 ⟨some 98, .fldA 4 (.t 5), none⟩ (.alt 1 ⟨some 99, .ld (none) (.t 98), none⟩ (.alt 2 ⟨some 100, .mv (.t 1), none⟩ (.alt 3 ⟨some 101, .call 172 [(.t 100)], none⟩ (.alt 4 ⟨some 102, .mkSl 1 1 [.int .i64 0] [(0, 1, (.t 101))], none⟩ (.alt 5 ⟨some 103, .app true 2 1 8 (.t 99) (.t 102), none⟩ (.alt 6 ⟨some 104, .fldA 4 (.t 5), none⟩ (.alt 7 ⟨none, .st 1 (.t 104) (.t 103), none⟩ .done .stop) .stop) .stop) .stop) .stop) .stop) (.alt 2 ⟨some 100, .mv (.t 1), none⟩ (.alt 1 ⟨some 99, .ld (none) (.t 98), none⟩ (.alt 3 ⟨some 101, .call 172 [(.t 100)], none⟩ (.alt 4 ⟨some 102, .mkSl 1 1 [.int .i64 0] [(0, 1, (.t 101))], none⟩ (.alt 5 ⟨some 103, .app true 2 1 8 (.t 99) (.t 102), none⟩ (.alt 6 ⟨some 104, .fldA 4 (.t 5), none⟩ (.alt 7 ⟨none, .st 1 (.t 104) (.t 103), none⟩ .done .stop) .stop) .stop) .stop) .stop) (.alt 3 ⟨some 101, .call 172 [(.t 100)], none⟩ (.alt 1 ⟨some 99, .ld (none) (.t 98), none⟩ (.alt 4 ⟨some 102, .mkSl 1 1 [.int .i64 0] [(0, 1, (.t 101))], none⟩ (.alt 5 ⟨some 103, .app true 2 1 8 (.t 99) (.t 102), none⟩ (.alt 6 ⟨some 104, .fldA 4 (.t 5), none⟩ (.alt 7 ⟨none, .st 1 (.t 104) (.t 103), none⟩ .done .stop) .stop) .stop) .stop) (.alt 4 ⟨some 102, .mkSl 1 1 [.int .i64 0] [(0, 1, (.t 101))], none⟩ (.alt 1 ⟨some 99, .ld (none) (.t 98), none⟩ (.alt 5 ⟨some 103, .app true 2 1 8 (.t 99) (.t 102), none⟩ (.alt 6 ⟨some 104, .fldA 4 (.t 5), none⟩ (.alt 7 ⟨none, .st 1 (.t 104) (.t 103), none⟩ .done .stop) .stop) .stop) .stop) .stop)) .stop)) .stop)) (.alt 2 ⟨some 100, .mv (.t 1), none⟩ (.alt 0 ⟨some 98, .fldA 4 (.t 5), none⟩ (.alt 1 ⟨some 99, .ld (none) (.t 98), none⟩ (.alt 3 ⟨some 101, .call 172 [(.t 100)], none⟩ (.alt 4 ⟨some 102, .mkSl 1 1 [.int .i64 0] [(0, 1, (.t 101))], none⟩ (.alt 5 ⟨some 103, .app true 2 1 8 (.t 99) (.t 102), none⟩ (.alt 6 ⟨some 104, .fldA 4 (.t 5), none⟩ (.alt 7 ⟨none, .st 1 (.t 104) (.t 103), none⟩ .done .stop) .stop) .stop) .stop) .stop) (.alt 3 ⟨some 101, .call 172 [(.t 100)], none⟩ (.alt 1 ⟨some 99, .ld (none) (.t 98), none⟩ (.alt 4 ⟨some 102, .mkSl 1 1 [.int .i64 0] [(0, 1, (.t 101))], none⟩ (.alt 5 ⟨some 103, .app true 2 1 8 (.t 99) (.t 102), none⟩ (.alt 6 ⟨some 104, .fldA 4 (.t 5), none⟩ (.alt 7 ⟨none, .st 1 (.t 104) (.t 103), none⟩ .done .stop) .stop) .stop) .stop) (.alt 4 ⟨some 102, .mkSl 1 1 [.int .i64 0] [(0, 1, (.t 101))], none⟩ (.alt 1 ⟨some 99, .ld (none) (.t 98), none⟩ (.alt 5 ⟨some 103, .app true 2 1 8 (.t 99) (.t 102), none⟩ (.alt 6 ⟨some 104, .fldA 4 (.t 5), none⟩ (.alt 7 ⟨none, .st 1 (.t 104) (.t 103), none⟩ .done .stop) .stop) .stop) .stop) .stop)) .stop)) (.alt 3 ⟨some 101, .call 172 [(.t 100)], none⟩ (.alt 0 ⟨some 98, .fldA 4 (.t 5), none⟩ (.alt 1 ⟨some 99, .ld (none) (.t 98), none⟩ (.alt 4 ⟨some 102, .mkSl 1 1 [.int .i64 0] [(0, 1, (.t 101))], none⟩ (.alt 5 ⟨some 103, .app true 2 1 8 (.t 99) (.t 102), none⟩ (.alt 6 ⟨some 104, .fldA 4 (.t 5), none⟩ (.alt 7 ⟨none, .st 1 (.t 104) (.t 103), none⟩ .done .stop) .stop) .stop) .stop) (.alt 4 ⟨some 102, .mkSl 1 1 [.int .i64 0] [(0, 1, (.t 101))], none⟩ (.alt 1 ⟨some 99, .ld (none) (.t 98), none⟩ (.alt 5 ⟨some 103, .app true 2 1 8 (.t 99) (.t 102), none⟩ (.alt 6 ⟨some 104, .fldA 4 (.t 5), none⟩ (.alt 7 ⟨none, .st 1 (.t 104) (.t 103), none⟩ .done .stop) .stop) .stop) .stop) .stop)) (.alt 4 ⟨some 102, .mkSl 1 1 [.int .i64 0] [(0, 1, (.t 101))], none⟩ (.alt 0 ⟨some 98, .fldA 4 (.t 5), none⟩ (.alt 1 ⟨some 99, .ld (none) (.t 98), none⟩ (.alt 5 ⟨some 103, .app true 2 1 8 (.t 99) (.t 102), none⟩ (.alt 6 ⟨some 104, .fldA 4 (.t 5), none⟩ (.alt 7 ⟨none, .st 1 (.t 104) (.t 103), none⟩ .done .stop) .stop) .stop) .stop) .stop) .stop)) .stop)) .stop)))))))) (.seq (Ko [4, 5] [Lw 105 7 5, Sv 7 4 105]) .ret))))))))), [.cl 4 (some 7)], 106⟩
theorem db173 : fB Tryz.prog 173 dc173 = true := by kernel_rfl
end Go.Proofs.YtncadbcjikekhaaGreatDoor
namespace Go.Proofs.YtncadbcjikekhaaGreatDoor
open Go.Abs
set_option maxRecDepth 100000
def c177 : CF := ⟨(.seq (Ko [0, 1] [Mi 4 0]) (.seq (Ko [0, 1] [Mv 5 0, Mv 6 1, Ou 7 (.call 179 [(.t 5), (.t 6)]), Mv 4 7]) .ret)), [.t 4], 8⟩
theorem b177 : fB Tryz.prog 177 c177 = true := by kernel_rfl
end Go.Proofs.YtncadbcjikekhaaGreatDoor
