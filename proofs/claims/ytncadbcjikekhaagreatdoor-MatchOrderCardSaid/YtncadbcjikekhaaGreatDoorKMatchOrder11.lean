/- Part 11 of the proof of MatchOrder: an abstract semantics that is proved sound for the model, contracts of functions in it, and plain facts (Abs14 Abs15 Abs16). No condition. -/
import Derived.Test.YtncadbcjikekhaaGreatDoorKMatchOrder10
set_option linter.all false
namespace Go.Abs

/-! ### Lists related one by one -/
def F2 {α β : Type} (R : α → β → Prop) (cs : List α) (ds : List β) : Prop := ds.length = cs.length ∧ ∀ (i : Nat) (c : α) (d : β), cs[i]? = some c → ds[i]? = some d → R c d
section
variable {α β : Type} {R : α → β → Prop}
theorem F2.nil : F2 R [] [] := ⟨rfl, fun i c v h => by simp at h⟩
theorem F2.cons {a : α} {v : β} {as : List α} {vs : List β} (h : R a v) (hs : F2 R as vs) : F2 R (a :: as) (v :: vs) := by
  refine ⟨by simp [hs.1], fun i c u hc hu => ?_⟩
  cases i with
  | zero => simp at hc hu; subst hc; subst hu; exact h
  | succ i => simp at hc hu; exact hs.2 i c u hc hu
theorem F2.cons_inv {a : α} {as : List α} {l : List β} (h : F2 R (a :: as) l) : ∃ v vs, l = v :: vs ∧ R a v ∧ F2 R as vs := by
  cases l with
  | nil => have := h.1; simp at this
  | cons v vs =>
    refine ⟨v, vs, rfl, h.2 0 a v rfl rfl, by have := h.1; simpa using this, fun i c u hc hu => h.2 (i + 1) c u (by simpa using hc) (by simpa using hu)⟩
theorem F2.nil_inv {l : List β} (h : F2 R [] l) : l = [] := List.eq_nil_of_length_eq_zero h.1
theorem F2.append {a b : List α} {x y : List β} (h : F2 R a x) (k : F2 R b y) : F2 R (a ++ b) (x ++ y) := by
  refine ⟨by simp [h.1, k.1], fun i c v hc hv => ?_⟩
  rcases Nat.lt_or_ge i a.length with hi | hi
  · rw [List.getElem?_append_left hi] at hc
    rw [List.getElem?_append_left (by have := h.1; omega)] at hv
    exact h.2 i c v hc hv
  · rw [List.getElem?_append_right hi] at hc
    rw [List.getElem?_append_right (by have := h.1; omega), h.1] at hv
    exact k.2 _ c v hc hv
theorem F2.drop {a : List α} {x : List β} (h : F2 R a x) (n : Nat) : F2 R (a.drop n) (x.drop n) := by
  refine ⟨by simp [h.1], fun i c v hc hv => ?_⟩
  rw [List.getElem?_drop] at hc hv
  exact h.2 _ c v hc hv
theorem F2.take {a : List α} {x : List β} (h : F2 R a x) (n : Nat) : F2 R (a.take n) (x.take n) := by
  refine ⟨by simp [h.1], fun i c v hc hv => ?_⟩
  rw [List.getElem?_take] at hc hv
  split at hc
  · rename_i hlt; rw [if_pos hlt] at hv; exact h.2 _ c v hc hv
  · cases hc
theorem F2.get {a : List α} {x : List β} (h : F2 R a x) {i : Nat} {c : α} (hc : a[i]? = some c) : ∃ v, x[i]? = some v ∧ R c v := by
  have hi : i < a.length := (List.getElem?_eq_some_iff.1 hc).1
  have hx : i < x.length := by have := h.1; omega
  exact ⟨x[i], List.getElem?_eq_getElem hx, h.2 i c _ hc (List.getElem?_eq_getElem hx)⟩
theorem F2.mono {R' : α → β → Prop} (hr : ∀ a b, R a b → R' a b) {a : List α} {x : List β} (h : F2 R a x) : F2 R' a x := ⟨h.1, fun i c v hc hv => hr _ _ (h.2 i c v hc hv)⟩
end
inductive VR (m t : List Nat) : AV → AV → Prop where
  | junk (v : AV) : VR m t .junk v
  | bool (b : Bool) : VR m t (.bool b) (.bool b)
  | int (k : IntKind) (n : Int) : VR m t (.int k n) (.int k n)
  | str (l : List UInt8) : VR m t (.str l) (.str l)
  | nils : VR m t .nils .nils
  | sl (f : Bool) (n : Nat) (cs ds : List AV) : ds.length = cs.length → (∀ (i : Nat) (c d : AV), cs[i]? = some c → ds[i]? = some d → VR m t c d) → VR m t (.sl f n cs) (.sl f n ds)
  | tsl (i τ n : Nat) (cs ds : List AV) : t[i]? = some τ → ds.length = cs.length → (∀ (i : Nat) (c d : AV), cs[i]? = some c → ds[i]? = some d → VR m t c d) → VR m t (.tsl i n cs) (.tsl τ n ds)
  | agg (cs ds : List AV) : ds.length = cs.length → (∀ (i : Nat) (c d : AV), cs[i]? = some c → ds[i]? = some d → VR m t c d) → VR m t (.agg cs) (.agg ds)
  | tup (cs ds : List AV) : ds.length = cs.length → (∀ (i : Nat) (c d : AV), cs[i]? = some c → ds[i]? = some d → VR m t c d) → VR m t (.tup cs) (.tup ds)
  | ptr (i β o : Nat) : m[i]? = some β → VR m t (.ptr i o) (.ptr β o)
  | nilp : VR m t .nilp .nilp
  | el (cs ds : List AV) : ds.length = cs.length → (∀ (i : Nat) (c d : AV), cs[i]? = some c → ds[i]? = some d → VR m t c d) → VR m t (.el cs) (.el ds)
  | ifc (y : Nat) (v u : AV) : VR m t v u → VR m t (.ifc y v) (.ifc y u)
  | nili : VR m t .nili .nili
  | fn (f : Nat) (cs ds : List AV) : ds.length = cs.length → (∀ (i : Nat) (c d : AV), cs[i]? = some c → ds[i]? = some d → VR m t c d) → VR m t (.fn f cs) (.fn f ds)
  | nilf : VR m t .nilf .nilf
  | opt (c : Bool) (v u : AV) : VR m t v u → VR m t (.opt c v) (.opt c u)
abbrev VRL (m t : List Nat) := F2 (VR m t)
theorem VR.mono {m t m' t' : List Nat} (hm : ∀ (i x : Nat), m[i]? = some x → m'[i]? = some x) (ht : ∀ (i x : Nat), t[i]? = some x → t'[i]? = some x) {a b : AV} (h : VR m t a b) : VR m' t' a b := by
  induction h with
  | junk v => exact .junk v
  | bool b => exact .bool b
  | int k n => exact .int k n
  | str l => exact .str l
  | nils => exact .nils
  | sl f n cs ds h1 h2 ih => exact .sl f n cs ds h1 ih
  | tsl i τ n cs ds h0 h1 h2 ih => exact .tsl i τ n cs ds (ht _ _ h0) h1 ih
  | agg cs ds h1 h2 ih => exact .agg cs ds h1 ih
  | tup cs ds h1 h2 ih => exact .tup cs ds h1 ih
  | ptr i β o h => exact .ptr i β o (hm _ _ h)
  | nilp => exact .nilp
  | el cs ds h1 h2 ih => exact .el cs ds h1 ih
  | ifc y v u h ih => exact .ifc y v u ih
  | nili => exact .nili
  | fn f cs ds h1 h2 ih => exact .fn f cs ds h1 ih
  | nilf => exact .nilf
  | opt c v u h ih => exact .opt c v u ih
section
variable {m t : List Nat}
theorem VR.bool_inv {b : Bool} {v : AV} (h : VR m t (.bool b) v) : v = .bool b := by cases h; rfl
theorem VR.int_inv {k : IntKind} {n : Int} {v : AV} (h : VR m t (.int k n) v) : v = .int k n := by cases h; rfl
theorem VR.str_inv {l : List UInt8} {v : AV} (h : VR m t (.str l) v) : v = .str l := by cases h; rfl
theorem VR.agg_inv {cs : List AV} {v : AV} (h : VR m t (.agg cs) v) : ∃ ds, v = .agg ds ∧ VRL m t cs ds := by cases h with | agg _ ds h1 h2 => exact ⟨ds, rfl, h1, h2⟩
theorem VR.tup_inv {cs : List AV} {v : AV} (h : VR m t (.tup cs) v) : ∃ ds, v = .tup ds ∧ VRL m t cs ds := by cases h with | tup _ ds h1 h2 => exact ⟨ds, rfl, h1, h2⟩
theorem VR.el_inv {cs : List AV} {v : AV} (h : VR m t (.el cs) v) : ∃ ds, v = .el ds ∧ VRL m t cs ds := by cases h with | el _ ds h1 h2 => exact ⟨ds, rfl, h1, h2⟩
theorem VR.fn_inv {f : Nat} {cs : List AV} {v : AV} (h : VR m t (.fn f cs) v) : ∃ ds, v = .fn f ds ∧ VRL m t cs ds := by cases h with | fn _ _ ds h1 h2 => exact ⟨ds, rfl, h1, h2⟩
theorem VR.ptr_inv {i o : Nat} {v : AV} (h : VR m t (.ptr i o) v) : ∃ β, v = .ptr β o ∧ m[i]? = some β := by cases h with | ptr _ β _ h => exact ⟨β, rfl, h⟩
theorem VR.tsl_inv {i n : Nat} {cs : List AV} {v : AV} (h : VR m t (.tsl i n cs) v) : ∃ τ ds, v = .tsl τ n ds ∧ t[i]? = some τ ∧ VRL m t cs ds := by cases h with | tsl _ τ _ _ ds h0 h1 h2 => exact ⟨τ, ds, rfl, h0, h1, h2⟩
theorem VR.opt_inv {c : Bool} {a v : AV} (h : VR m t (.opt c a) v) : ∃ u, v = .opt c u ∧ VR m t a u := by cases h with | opt _ _ u h => exact ⟨u, rfl, h⟩
theorem VR.slv_inv {a v : AV} {n : Nat} {cs : List AV} (h : VR m t a v) (ha : slv a = some (n, cs)) : ∃ ds, slv v = some (n, ds) ∧ VRL m t cs ds := by
  cases h <;> simp [slv] at ha
  case nils => obtain ⟨rfl, rfl⟩ := ha; exact ⟨[], rfl, .nil⟩
  case sl f ds h1 h2 => obtain ⟨rfl, rfl⟩ := ha; exact ⟨_, rfl, h1, h2⟩
  case tsl i τ ds h0 h1 h2 => obtain ⟨rfl, rfl⟩ := ha; exact ⟨_, rfl, h1, h2⟩
mutual
def cl : AV → Bool
  | .junk | .bool _ | .int _ _ | .str _ | .nils | .nilp | .nili | .nilf => true
  | .sl _ _ cs => clL cs
  | .agg cs => clL cs
  | .tup cs => clL cs
  | .el cs => clL cs
  | .ifc _ v => cl v
  | .fn _ cs => clL cs
  | .opt _ v => cl v
  | .tsl _ _ _ | .ptr _ _ | .yld _ | .psl _ _ _ | .row _ _ _ _ => false
def clL : List AV → Bool
  | [] => true
  | v :: vs => cl v && clL vs
end
mutual
theorem cl_vr : ∀ (v : AV), cl v = true → VR m t v v
  | .junk, _ => .junk _
  | .bool _, _ => .bool _
  | .int _ _, _ => .int _ _
  | .str _, _ => .str _
  | .nils, _ => .nils
  | .nilp, _ => .nilp
  | .nili, _ => .nili
  | .nilf, _ => .nilf
  | .sl f n cs, h => have := clL_vr cs h; .sl f n cs cs this.1 this.2
  | .agg cs, h => have := clL_vr cs h; .agg cs cs this.1 this.2
  | .tup cs, h => have := clL_vr cs h; .tup cs cs this.1 this.2
  | .el cs, h => have := clL_vr cs h; .el cs cs this.1 this.2
  | .ifc y v, h => .ifc y v v (cl_vr v h)
  | .fn f cs, h => have := clL_vr cs h; .fn f cs cs this.1 this.2
  | .opt c v, h => .opt c v v (cl_vr v h)
  | .tsl _ _ _, h => by simp [cl] at h
  | .ptr _ _, h => by simp [cl] at h
  | .yld _, h => by simp [cl] at h
  | .psl _ _ _, h => by simp [cl] at h
  | .row _ _ _ _, h => by simp [cl] at h
theorem clL_vr : ∀ (vs : List AV), clL vs = true → VRL m t vs vs
  | [], _ => .nil
  | v :: vs, h => by
    simp only [clL, Bool.and_eq_true] at h
    exact .cons (cl_vr v h.1) (clL_vr vs h.2)
end

/-! ### Quiet operations that don't read the state -/
def ixE : AV → Option Nat
  | .int _ (.ofNat n) => some n
  | _ => none
theorem ixE_inv {a v : AV} {n : Nat} (h : VR m t a v) (ha : ixE a = some n) : isIntA v ∧ intOfA v = (n : Int) := by
  unfold ixE at ha
  split at ha
  · cases ha; rw [h.int_inv]; exact ⟨trivial, rfl⟩
  · cases ha
def bndE (ρ : Od → AV) (d : Nat) : Option Od → Option Nat
  | none => some d
  | some y => ixE (ρ y)
def lds (cs : List AV) (o : Nat) : Option Nat → Option AV
  | none => cs[o]?
  | some n => bif Nat.ble (o + n) cs.length then some (.agg ((cs.drop o).take n)) else none
theorem lds_inv {cs ds : List AV} {o : Nat} {sz : Option Nat} {v : AV} (h : VRL m t cs ds) (hl : lds cs o sz = some v) : ldS ds o sz ∧ VR m t v (ldV ds o sz) := by
  cases sz with
  | none =>
    simp only [lds] at hl
    obtain ⟨u, hu, hr⟩ := h.get hl
    simp only [ldS, ldV, hu, Option.getD_some]
    exact ⟨(List.getElem?_eq_some_iff.1 hu).1, hr⟩
  | some n =>
    simp only [lds] at hl
    cases hb : Nat.ble (o + n) cs.length with
    | false => rw [hb] at hl; cases hl
    | true =>
      rw [hb] at hl
      simp only [cond_true, Option.some.injEq] at hl
      subst hl
      have := Nat.le_of_ble_eq_true hb
      have hp := (h.drop o).take n
      exact ⟨by simp only [ldS]; rw [h.1]; exact this, .agg _ _ hp.1 hp.2⟩
def pickO : AV → Option AV
  | .bool p => some (.bool p)
  | .opt true (.bool p) => some (.bool p)
  | _ => none
def intSB (op : BinOp) (k k' : IntKind) (b : Int) : Bool :=
  match op with
  | .shl | .shr => match b with | .ofNat _ => true | _ => false
  | .quo | .rem => decide (k = k') && !(decide (b = 0))
  | _ => decide (k = k')
theorem intSB_inv {op : BinOp} {k k' : IntKind} {b : Int} (h : intSB op k k' b = true) : intS op k k' b := by
  unfold intSB at h
  unfold intS
  cases op <;> simp_all <;> (split at h <;> simp_all)
def strSB (op : BinOp) (a b : List UInt8) : Bool :=
  match op with
  | .add => Nat.ble (a.length + b.length) 1000000
  | .eql | .neq | .lss | .leq | .gtr | .geq => true
  | _ => false
theorem strSB_inv {op : BinOp} {a b : List UInt8} (h : strSB op a b = true) : strS op a b := by
  unfold strSB at h
  unfold strS
  cases op <;> simp_all
  omega
def partsE (ρ : Od → AV) (n : Nat) : List (Nat × Nat × Od) → Bool
  | [] => true
  | (o, s, x) :: r => (ρ x).fits && Nat.beq (ρ x).cells.length s && Nat.ble (o + s) n && partsE ρ n r
theorem VR.fits {a v : AV} (h : VR m t a v) (ha : a.fits = true) : v.fits = true := by
  cases h <;> first | rfl | (simp [AV.fits, AV.one] at ha)
theorem VR.cells {a v : AV} (h : VR m t a v) (ha : a.fits = true) : VRL m t a.cells v.cells := by
  cases h <;> simp only [AV.cells] <;> try (first | exact .cons (.bool _) .nil | exact .cons (.int _ _) .nil | exact .cons (.str _) .nil | exact .cons .nils .nil | exact .cons .nilp .nil | exact .cons .nili .nil | exact .cons .nilf .nil)
  case junk => simp [AV.fits, AV.one] at ha
  case sl f n cs ds h1 h2 => exact .cons (.sl _ _ _ _ h1 h2) .nil
  case tsl i τ n cs ds h0 h1 h2 => exact .cons (.tsl _ _ _ _ _ h0 h1 h2) .nil
  case agg cs ds h1 h2 => exact ⟨h1, h2⟩
  case tup => simp [AV.fits, AV.one] at ha
  case ptr i β o h => exact .cons (.ptr _ _ _ h) .nil
  case el cs ds h1 h2 => exact .cons (.el _ _ h1 h2) .nil
  case ifc y v u h => exact .cons (.ifc _ _ _ h) .nil
  case fn f cs ds h1 h2 => exact .cons (.fn _ _ _ h1 h2) .nil
  case opt => simp [AV.fits, AV.one] at ha
theorem parts_vr {ρe ρ : Od → AV} : ∀ (ps : List (Nat × Nat × Od)) (z z' : List AV), (∀ x ∈ ps.map (·.2.2), VR m t (ρe x) (ρ x)) → partsE ρe z.length ps = true → VRL m t z z' → partsS ρ z'.length ps ∧ VRL m t (putParts ρe z ps) (putParts ρ z' ps)
  | [], z, z', _, _, hz => ⟨trivial, hz⟩
  | (o, s, x) :: r, z, z', hx, h, hz => by
    simp only [partsE, Bool.and_eq_true] at h
    obtain ⟨⟨⟨h1, h2⟩, h3⟩, h4⟩ := h
    have hs := Nat.eq_of_beq_eq_true h2
    have ho := Nat.le_of_ble_eq_true h3
    have hxx := hx x (by simp)
    have hc := hxx.cells h1
    have hzz : VRL m t (z.take o ++ (ρe x).cells ++ z.drop (o + (ρe x).cells.length)) (z'.take o ++ (ρ x).cells ++ z'.drop (o + (ρ x).cells.length)) := by
      rw [hc.1]
      exact ((hz.take o).append hc).append (hz.drop _)
    have hlen : (z.take o ++ (ρe x).cells ++ z.drop (o + (ρe x).cells.length)).length = z.length := by simp; omega
    have ih := parts_vr r _ _ (fun y hy => hx y (by simp at hy ⊢; exact .inr hy)) (by rw [hlen]; exact h4) hzz
    have hl2 : (z'.take o ++ (ρ x).cells ++ z'.drop (o + (ρ x).cells.length)).length = z'.length := by rw [hzz.1, hlen, hz.1]
    rw [hl2] at ih
    exact ⟨⟨hxx.fits h1, by rw [hc.1]; exact hs, by rw [hz.1]; exact ho, ih.1⟩, ih.2⟩
theorem sqV_vr {k : Nat} {a b a' b' : AV} {q : Bool} (ha : VR m t a a') (hb : VR m t b b') (h : sqV k a b = some q) : sqV k a' b' = some q := by
  unfold sqV at h
  split at h
  · rw [ha.int_inv, hb.int_inv]; exact h
  · rw [ha.str_inv, hb.str_inv]; exact h
  · rw [ha.bool_inv, hb.bool_inv]; exact h
  · cases h
theorem sqL_vr : ∀ {ks : List Nat} {as bs as' bs' : List AV} {q : Bool}, VRL m t as as' → VRL m t bs bs' → sqL ks as bs = some q → sqL ks as' bs' = some q
  | [], [], [], as', bs', q, ha, hb, h => by rw [ha.nil_inv, hb.nil_inv]; exact h
  | k :: ks, a :: as, b :: bs, as', bs', q, ha, hb, h => by
    obtain ⟨a', as', rfl, h1, h2⟩ := ha.cons_inv
    obtain ⟨b', bs', rfl, h3, h4⟩ := hb.cons_inv
    simp only [sqL] at h ⊢
    cases hv : sqV k a b with
    | none => simp [hv] at h
    | some p =>
      cases hl : sqL ks as bs with
      | none => simp [hv, hl] at h
      | some p2 =>
        simp only [hv, hl] at h
        rw [sqV_vr h1 h3 hv, sqL_vr h2 h4 hl]
        exact h
  | [], _ :: _, _, _, _, _, _, _, h => by simp [sqL] at h
  | [], [], _ :: _, _, _, _, _, _, h => by simp [sqL] at h
  | _ :: _, [], _, _, _, _, _, _, h => by simp [sqL] at h
  | _ :: _, _ :: _, [], _, _, _, _, _, h => by simp [sqL] at h
theorem bytes_vr : ∀ {cs ds : List AV}, VRL m t cs ds → cs.all isByte = true → ds = cs
  | [], ds, h, _ => h.nil_inv
  | c :: cs, ds, h, ha => by
    obtain ⟨d, ds, rfl, h1, h2⟩ := h.cons_inv
    simp only [List.all_cons, Bool.and_eq_true] at ha
    rw [bytes_vr h2 ha.2]
    congr 1
    have := ha.1
    unfold isByte at this
    split at this
    · exact h1.int_inv
    · cases this
def mxE (ρ : Od → AV) (mx hi : Option Od) (h : Nat) : Bool :=
  match mx, hi with
  | some m, some _ => (match ixE (ρ m) with | some k => Nat.beq k h | none => false)
  | some _, none => false
  | none, _ => true
/-- The quiet operations that don't read the state. -/
def qE (ρ : Od → AV) : CO → Option AV
  | .mv x => some (ρ x)
  | .pick c a b => match ρ c with
    | .bool true => pickO (ρ a)
    | .bool false => pickO (ρ b)
    | _ => none
  | .un op x => match op, ρ x with
    | .not, .bool b => some (.bool (!b))
    | .neg, .int k n => some (.int k (k.wrap (0 - n)))
    | .xor, .int k n => some (.int k (bits .xor k (if k.signed then -1 else k.max) n))
    | _, _ => none
  | .bin op x y => match ρ x, ρ y with
    | .int k a, .int k' b => bif intSB op k k' b then some (intV op k a b) else none
    | .str a, .str b => bif strSB op a b then some (strV op a b) else none
    | _, _ => none
  | .eqA neg ks x y => match ρ x, ρ y with
    | .agg as, .agg bs => match sqL ks as bs with
      | some q => some (.bool (bif neg then !q else q))
      | none => none
    | _, _ => none
  | .eqb neg x y => match ρ x, ρ y with
    | .bool a, .bool b => some (.bool (bif neg then !(a == b) else a == b))
    | _, _ => none
  | .cnv k x => match ρ x with
    | .int _ n => some (.int k (k.wrap n))
    | _ => none
  | .b2s x => match slv (ρ x) with
    | some (n, cs) => bif Nat.beq n cs.length && cs.all isByte then some (.str (cs.map byteOf)) else none
    | none => none
  | .lenS x => match ρ x with
    | .str l => some (.int .i64 l.length)
    | _ => none
  | .len x => match slv (ρ x) with
    | some (n, _) => some (.int .i64 n)
    | none => none
  | .fld off sz x => match ρ x with
    | .agg cs => lds cs off sz
    | _ => none
  | .fldA off x => match ρ x with
    | .ptr β o => some (.ptr β (o + off))
    | .el cs => bif Nat.ble off cs.length then some (.el (cs.drop off)) else none
    | _ => none
  | .ixA es x i => match slv (ρ x), ixE (ρ i) with
    | some (n, cs), some i => bif Nat.blt i n && Nat.ble (i * es + es) cs.length then some (.el ((cs.drop (i * es)).take es)) else none
    | _, _ => none
  | .ixP n es x i => match ixE (ρ i) with
    | some i => bif Nat.blt i n then (match ρ x with
      | .ptr β o => some (.ptr β (o + i * es))
      | .el cs => bif Nat.ble (i * es) cs.length then some (.el (cs.drop (i * es))) else none
      | _ => none) else none
    | none => none
  | .ixS x i => match ρ x, ixE (ρ i) with
    | .str l, some i => match l[i]? with
      | some b => some (.int .u8 b.toNat)
      | none => none
    | _, _ => none
  | .ixV n es sz x i => match ρ x, ixE (ρ i) with
    | .agg cs, some i => bif Nat.blt i n then lds cs (i * es) sz else none
    | _, _ => none
  | .slc es x lo hi mx => match slv (ρ x) with
    | some (n, cs) => match bndE ρ 0 lo, bndE ρ n hi with
      | some l, some h => bif Nat.ble l h && Nat.ble h n && Nat.beq (n * es) cs.length && mxE ρ mx hi h then some (.sl mx.isSome (h - l) ((cs.drop (l * es)).take ((h - l) * es))) else none
      | _, _ => none
    | none => none
  | .slcS x lo hi => match ρ x with
    | .str s => match bndE ρ 0 lo, bndE ρ s.length hi with
      | some l, some h => bif Nat.ble l h && Nat.ble h s.length then some (.str ((s.drop l).take (h - l))) else none
      | _, _ => none
    | _ => none
  | .bld z ps => bif clL z && partsE ρ z.length ps then some (.agg (putParts ρ z ps)) else none
  | .mkSl es n z ps => bif clL z && partsE ρ z.length ps && Nat.beq z.length (n * es) then some (.sl true n (putParts ρ z ps)) else none
  | .mkI t x => some (.ifc t (ρ x))
  | .mkF f caps => some (.fn f (caps.map ρ))
  | .ext x i => match ρ x with
    | .tup cs => cs[i]?
    | _ => none
  | .nilc x => match ρ x with
    | .ptr β o => some (.ptr β o)
    | .el cs => some (.el cs)
    | _ => none
  | .mm mx x y => match ρ x, ρ y with
    | .int k a, .int _ b => some (.int k (if mx then (if b > a then b else a) else (if b < a then b else a)))
    | _, _ => none
  | _ => none
theorem bndE_inv {ρe ρ : Od → AV} {d n : Nat} {y : Option Od} (hy : ∀ z, y = some z → VR m t (ρe z) (ρ z)) (h : bndE ρe d y = some n) : isIntO (y.map ρ) ∧ bnd ρ d y = (n : Int) := by
  cases y with
  | none => simp only [bndE, Option.some.injEq] at h; subst h; exact ⟨trivial, rfl⟩
  | some z => exact ixE_inv (hy z rfl) h
theorem intV_cl (op : BinOp) (k : IntKind) (a b : Int) : cl (intV op k a b) = true := by cases op <;> rfl
theorem strV_cl (op : BinOp) (a b : List UInt8) : cl (strV op a b) = true := by cases op <;> rfl
theorem pickO_inv {a v u : AV} (h : VR m t a v) (ha : pickO a = some u) : ∃ p, u = .bool p ∧ (v = .bool p ∨ v = .opt true (.bool p)) := by
  unfold pickO at ha
  split at ha
  · cases ha; exact ⟨_, rfl, .inl h.bool_inv⟩
  · cases ha
    obtain ⟨u, rfl, hu⟩ := h.opt_inv
    rw [hu.bool_inv]
    exact ⟨_, rfl, .inr rfl⟩
  · cases ha
theorem qE_sound {ρe ρ : Od → AV} {σ : St} {op : CO} {v : AV} (hρ : ∀ y ∈ op.ods, VR m t (ρe y) (ρ y)) (h : qE ρe op = some v) : ps σ ρ op ∧ VR m t v (pf σ ρ op) := by
  cases op <;> simp only [qE] at h <;> try (cases h; done)
  case mv x => cases h; exact ⟨trivial, hρ x (by simp [CO.ods])⟩
  case pick c a b =>
    have hc := hρ c (by simp [CO.ods])
    have ha := hρ a (by simp [CO.ods])
    have hb := hρ b (by simp [CO.ods])
    split at h
    · rename_i e
      rw [e] at hc
      obtain ⟨p, rfl, hv | hv⟩ := pickO_inv ha h
      · simp only [ps, pf, pickS, pickV, hc.bool_inv, hv, boolS]
        refine ⟨⟨trivial, ?_⟩, .bool _⟩
        split <;> simp
      · simp only [ps, pf, pickS, pickV, hc.bool_inv, hv, boolS]
        refine ⟨⟨by simp, ?_⟩, .bool _⟩
        split <;> simp
    · rename_i e
      rw [e] at hc
      obtain ⟨p, rfl, hv | hv⟩ := pickO_inv hb h
      · simp only [ps, pf, pickS, pickV, hc.bool_inv, hv, boolS]
        refine ⟨⟨?_, trivial⟩, .bool _⟩
        split <;> simp
      · simp only [ps, pf, pickS, pickV, hc.bool_inv, hv, boolS]
        refine ⟨⟨?_, by simp⟩, .bool _⟩
        split <;> simp
    · cases h
  case un op x =>
    have hx := hρ x (by simp [CO.ods])
    split at h
    · rename_i e; rw [e] at hx; cases h; simp only [ps, pf, hx.bool_inv, unS, unV]; exact ⟨trivial, .bool _⟩
    · rename_i e; rw [e] at hx; cases h; simp only [ps, pf, hx.int_inv, unS, unV]; exact ⟨trivial, .int _ _⟩
    · rename_i e; rw [e] at hx; cases h; simp only [ps, pf, hx.int_inv, unS, unV]; exact ⟨trivial, .int _ _⟩
    · cases h
  case bin op x y =>
    have hx := hρ x (by simp [CO.ods])
    have hy := hρ y (by simp [CO.ods])
    split at h
    · rename_i ex ey
      rw [ex] at hx; rw [ey] at hy
      cases hb : intSB op _ _ _ with
      | false => rw [hb] at h; cases h
      | true =>
        rw [hb] at h
        simp only [cond_true, Option.some.injEq] at h
        subst h
        simp only [ps, pf, hx.int_inv, hy.int_inv, binS, binV]
        exact ⟨intSB_inv hb, cl_vr _ (intV_cl _ _ _ _)⟩
    · rename_i ex ey
      rw [ex] at hx; rw [ey] at hy
      cases hb : strSB op _ _ with
      | false => rw [hb] at h; cases h
      | true =>
        rw [hb] at h
        simp only [cond_true, Option.some.injEq] at h
        subst h
        simp only [ps, pf, hx.str_inv, hy.str_inv, binS, binV]
        exact ⟨strSB_inv hb, cl_vr _ (strV_cl _ _ _)⟩
    · cases h
  case eqA neg ks x y =>
    have hx := hρ x (by simp [CO.ods])
    have hy := hρ y (by simp [CO.ods])
    split at h
    · rename_i as bs ex ey
      rw [ex] at hx; rw [ey] at hy
      obtain ⟨as', e1, h1⟩ := hx.agg_inv
      obtain ⟨bs', e2, h2⟩ := hy.agg_inv
      split at h
      · rename_i q hq
        cases h
        have := sqL_vr h1 h2 hq
        simp only [ps, pf, e1, e2, this, Option.isSome_some]
        exact ⟨trivial, .bool _⟩
      · cases h
    · cases h
  case eqb neg x y =>
    have hx := hρ x (by simp [CO.ods])
    have hy := hρ y (by simp [CO.ods])
    split at h
    · rename_i ex ey
      rw [ex] at hx; rw [ey] at hy
      cases h
      simp only [ps, pf, hx.bool_inv, hy.bool_inv]
      exact ⟨trivial, .bool _⟩
    · cases h
  case cnv k x =>
    have hx := hρ x (by simp [CO.ods])
    split at h
    · rename_i ex; rw [ex] at hx; cases h; simp only [ps, pf, hx.int_inv, isIntA]; exact ⟨trivial, .int _ _⟩
    · cases h
  case b2s x =>
    have hx := hρ x (by simp [CO.ods])
    split at h
    · rename_i n cs ex
      cases hb : Nat.beq n cs.length && cs.all isByte with
      | false => rw [hb] at h; cases h
      | true =>
        rw [hb] at h
        simp only [cond_true, Option.some.injEq] at h
        subst h
        simp only [Bool.and_eq_true] at hb
        obtain ⟨ds, e, hd⟩ := hx.slv_inv ex
        have := bytes_vr hd hb.2
        subst this
        simp only [ps, pf, e]
        exact ⟨⟨Nat.eq_of_beq_eq_true hb.1, hb.2⟩, .str _⟩
    · cases h
  case lenS x =>
    have hx := hρ x (by simp [CO.ods])
    split at h
    · rename_i ex; rw [ex] at hx; cases h; simp only [ps, pf, hx.str_inv]; exact ⟨trivial, .int _ _⟩
    · cases h
  case len x =>
    have hx := hρ x (by simp [CO.ods])
    split at h
    · rename_i n cs ex
      cases h
      obtain ⟨ds, e, hd⟩ := hx.slv_inv ex
      simp only [ps, pf, e, Option.isSome_some]
      exact ⟨trivial, .int _ _⟩
    · cases h
  case fld off sz x =>
    have hx := hρ x (by simp [CO.ods])
    split at h
    · rename_i cs ex
      rw [ex] at hx
      obtain ⟨ds, e, hd⟩ := hx.agg_inv
      simp only [ps, pf, e]
      exact lds_inv hd h
    · cases h
  case fldA off x =>
    have hx := hρ x (by simp [CO.ods])
    split at h
    · rename_i ex
      rw [ex] at hx
      obtain ⟨β, e, hd⟩ := hx.ptr_inv
      cases h
      simp only [ps, pf, e]
      exact ⟨trivial, .ptr _ _ _ hd⟩
    · rename_i cs ex
      rw [ex] at hx
      obtain ⟨ds, e, hd⟩ := hx.el_inv
      cases hb : Nat.ble off cs.length with
      | false => rw [hb] at h; cases h
      | true =>
        rw [hb] at h
        simp only [cond_true, Option.some.injEq] at h
        subst h
        simp only [ps, pf, e]
        have := hd.drop off
        exact ⟨by rw [hd.1]; exact Nat.le_of_ble_eq_true hb, .el _ _ this.1 this.2⟩
    · cases h
  case ixA es x i =>
    have hx := hρ x (by simp [CO.ods])
    have hi := hρ i (by simp [CO.ods])
    split at h
    · rename_i n cs j ex ei
      obtain ⟨ds, e, hd⟩ := hx.slv_inv ex
      obtain ⟨i1, i2⟩ := ixE_inv hi ei
      cases hb : Nat.blt j n && Nat.ble (j * es + es) cs.length with
      | false => rw [hb] at h; cases h
      | true =>
        rw [hb] at h
        simp only [cond_true, Option.some.injEq] at h
        subst h
        simp only [Bool.and_eq_true] at hb
        have b1 : j < n := Nat.le_of_ble_eq_true hb.1
        have b2 := Nat.le_of_ble_eq_true hb.2
        simp only [ps, pf, e, i2, Int.toNat_natCast]
        have := (hd.drop (j * es)).take es
        exact ⟨⟨i1, by omega, by omega, by rw [hd.1]; exact b2⟩, .el _ _ this.1 this.2⟩
    · cases h
  case ixP n es x i =>
    have hx := hρ x (by simp [CO.ods])
    have hi := hρ i (by simp [CO.ods])
    split at h
    · rename_i j ei
      obtain ⟨i1, i2⟩ := ixE_inv hi ei
      cases hb : Nat.blt j n with
      | false => rw [hb] at h; cases h
      | true =>
        rw [hb] at h
        simp only [cond_true] at h
        have b1 : j < n := Nat.le_of_ble_eq_true hb
        split at h
        · rename_i ex
          rw [ex] at hx
          obtain ⟨β, e, hd⟩ := hx.ptr_inv
          cases h
          simp only [ps, pf, e, i2, Int.toNat_natCast]
          exact ⟨⟨i1, by omega, by omega, trivial⟩, .ptr _ _ _ hd⟩
        · rename_i cs ex
          rw [ex] at hx
          obtain ⟨ds, e, hd⟩ := hx.el_inv
          cases hb : Nat.ble (j * es) cs.length with
          | false => rw [hb] at h; cases h
          | true =>
            rw [hb] at h
            simp only [cond_true, Option.some.injEq] at h
            subst h
            simp only [ps, pf, e, i2, Int.toNat_natCast]
            have := hd.drop (j * es)
            exact ⟨⟨i1, by omega, by omega, by rw [hd.1]; exact Nat.le_of_ble_eq_true hb⟩, .el _ _ this.1 this.2⟩
        · cases h
    · cases h
  case ixS x i =>
    have hx := hρ x (by simp [CO.ods])
    have hi := hρ i (by simp [CO.ods])
    split at h
    · rename_i l j ex ei
      rw [ex] at hx
      obtain ⟨i1, i2⟩ := ixE_inv hi ei
      split at h
      · rename_i b hb
        cases h
        have hlt := (List.getElem?_eq_some_iff.1 hb).1
        simp only [ps, pf, hx.str_inv, i2, Int.toNat_natCast, hb, Option.getD_some]
        exact ⟨⟨i1, by omega, by omega⟩, .int _ _⟩
      · cases h
    · cases h
  case ixV n es sz x i =>
    have hx := hρ x (by simp [CO.ods])
    have hi := hρ i (by simp [CO.ods])
    split at h
    · rename_i cs j ex ei
      rw [ex] at hx
      obtain ⟨ds, e, hd⟩ := hx.agg_inv
      obtain ⟨i1, i2⟩ := ixE_inv hi ei
      cases hb : Nat.blt j n with
      | false => rw [hb] at h; cases h
      | true =>
        rw [hb] at h
        simp only [cond_true] at h
        have b1 : j < n := Nat.le_of_ble_eq_true hb
        obtain ⟨l1, l2⟩ := lds_inv hd h
        simp only [ps, pf, e, i2, Int.toNat_natCast]
        exact ⟨⟨i1, by omega, by omega, l1⟩, l2⟩
    · cases h
  case slc es x lo hi mx =>
    have hx := hρ x (by simp [CO.ods])
    have hlo : ∀ z, lo = some z → VR m t (ρe z) (ρ z) := fun z e => hρ z (by simp [CO.ods, e])
    have hhi : ∀ z, hi = some z → VR m t (ρe z) (ρ z) := fun z e => hρ z (by simp [CO.ods, e])
    have hmx : ∀ z, mx = some z → VR m t (ρe z) (ρ z) := fun z e => hρ z (by simp [CO.ods, e])
    split at h
    · rename_i n cs ex
      obtain ⟨ds, e, hd⟩ := hx.slv_inv ex
      split at h
      · rename_i l hh el eh
        obtain ⟨l1, l2⟩ := bndE_inv hlo el
        have l2 : bnd ρ 0 lo = (l : Int) := l2
        obtain ⟨h1, h2⟩ := bndE_inv hhi eh
        cases hb : (Nat.ble l hh && Nat.ble hh n && Nat.beq (n * es) cs.length && mxE ρe mx hi hh) with
        | false => rw [hb] at h; cases h
        | true =>
          rw [hb] at h
          simp only [cond_true, Option.some.injEq] at h
          subst h
          simp only [Bool.and_eq_true] at hb
          obtain ⟨⟨⟨b1, b2⟩, b3⟩, b4⟩ := hb
          have b1 := Nat.le_of_ble_eq_true b1
          have b2 := Nat.le_of_ble_eq_true b2
          have b3 := Nat.eq_of_beq_eq_true b3
          have hdd := (hd.drop (l * es)).take ((hh - l) * es)
          simp only [ps, pf, e, l2, h2, Int.toNat_natCast]
          refine ⟨⟨l1, h1, ?_, by omega, by omega, by omega, by rw [hd.1]; exact b3, ?_⟩, .sl _ _ _ _ hdd.1 hdd.2⟩
          · cases mx with
            | none => trivial
            | some mm =>
              cases hi with
              | none => cases b4
              | some yy =>
                simp only [mxE] at b4
                cases hk : ixE (ρe mm) with
                | none => simp [hk] at b4
                | some k => exact (ixE_inv (hmx mm rfl) hk).1
          · cases mx with
            | none => cases hi <;> trivial
            | some mm =>
              cases hi with
              | none => cases b4
              | some yy =>
                simp only [mxE] at b4 ⊢
                cases hk : ixE (ρe mm) with
                | none => simp [hk] at b4
                | some k =>
                  simp only [hk] at b4
                  rw [(ixE_inv (hmx mm rfl) hk).2, Nat.eq_of_beq_eq_true b4]
                  simp only [bnd] at h2
                  exact h2.symm
      · cases h
    · cases h
  case slcS x lo hi =>
    have hx := hρ x (by simp [CO.ods])
    have hlo : ∀ z, lo = some z → VR m t (ρe z) (ρ z) := fun z e => hρ z (by simp [CO.ods, e])
    have hhi : ∀ z, hi = some z → VR m t (ρe z) (ρ z) := fun z e => hρ z (by simp [CO.ods, e])
    split at h
    · rename_i s ex
      rw [ex] at hx
      split at h
      · rename_i l hh el eh
        obtain ⟨l1, l2⟩ := bndE_inv hlo el
        have l2 : bnd ρ 0 lo = (l : Int) := l2
        obtain ⟨h1, h2⟩ := bndE_inv hhi eh
        cases hb : Nat.ble l hh && Nat.ble hh s.length with
        | false => rw [hb] at h; cases h
        | true =>
          rw [hb] at h
          simp only [cond_true, Option.some.injEq] at h
          subst h
          simp only [Bool.and_eq_true] at hb
          have b1 := Nat.le_of_ble_eq_true hb.1
          have b2 := Nat.le_of_ble_eq_true hb.2
          simp only [ps, pf, hx.str_inv, l2, h2, Int.toNat_natCast]
          exact ⟨⟨l1, h1, by omega, by omega, by omega⟩, .str _⟩
      · cases h
    · cases h
  case bld z pl =>
    cases hb : clL z && partsE ρe z.length pl with
    | false => rw [hb] at h; cases h
    | true =>
      rw [hb] at h
      simp only [cond_true, Option.some.injEq] at h
      subst h
      simp only [Bool.and_eq_true] at hb
      obtain ⟨h1, h2⟩ := parts_vr pl z z (fun y hy => hρ y (by simpa [CO.ods] using hy)) hb.2 (clL_vr z hb.1)
      exact ⟨h1, .agg _ _ h2.1 h2.2⟩
  case mkSl es n z pl =>
    cases hb : clL z && partsE ρe z.length pl && Nat.beq z.length (n * es) with
    | false => rw [hb] at h; cases h
    | true =>
      rw [hb] at h
      simp only [cond_true, Option.some.injEq] at h
      subst h
      simp only [Bool.and_eq_true] at hb
      obtain ⟨h1, h2⟩ := parts_vr pl z z (fun y hy => hρ y (by simpa [CO.ods] using hy)) hb.1.2 (clL_vr z hb.1.1)
      exact ⟨⟨h1, Nat.eq_of_beq_eq_true hb.2⟩, .sl _ _ _ _ h2.1 h2.2⟩
  case mkI y x =>
    cases h
    exact ⟨trivial, .ifc _ _ _ (hρ x (by simp [CO.ods]))⟩
  case mkF f caps =>
    cases h
    refine ⟨trivial, ?_⟩
    have : VRL m t (caps.map ρe) (caps.map ρ) := ⟨by simp, fun i c d hc hd => by
      simp only [List.getElem?_map, Option.map_eq_some_iff] at hc hd
      obtain ⟨y, h1, rfl⟩ := hc
      obtain ⟨y', h2, rfl⟩ := hd
      rw [h1] at h2; cases h2
      exact hρ y (by simp only [CO.ods]; exact List.mem_of_getElem? h1)⟩
    exact .fn _ _ _ this.1 this.2
  case ext x i =>
    have hx := hρ x (by simp [CO.ods])
    split at h
    · rename_i cs ex
      rw [ex] at hx
      obtain ⟨ds, e, hd⟩ := hx.tup_inv
      obtain ⟨u, hu, hr⟩ := hd.get h
      simp only [ps, pf, e, hu, Option.getD_some]
      exact ⟨(List.getElem?_eq_some_iff.1 hu).1, hr⟩
    · cases h
  case nilc x =>
    have hx := hρ x (by simp [CO.ods])
    split at h
    · rename_i ex
      rw [ex] at hx
      obtain ⟨β, e, hd⟩ := hx.ptr_inv
      cases h
      simp only [ps, pf, e]
      exact ⟨trivial, .ptr _ _ _ hd⟩
    · rename_i cs ex
      rw [ex] at hx
      obtain ⟨ds, e, hd⟩ := hx.el_inv
      cases h
      simp only [ps, pf, e]
      exact ⟨trivial, .el _ _ hd.1 hd.2⟩
    · cases h
  case mm mx x y =>
    have hx := hρ x (by simp [CO.ods])
    have hy := hρ y (by simp [CO.ods])
    split at h
    · rename_i ex ey
      rw [ex] at hx; rw [ey] at hy
      cases h
      simp only [ps, pf, hx.int_inv, hy.int_inv]
      exact ⟨trivial, .int _ _⟩
    · cases h
end
end Go.Abs
namespace Go.Abs
structure ES where
  bx : List (Nat × List AV)
  nb : Nat
  tp : List (Nat × (Nat × Nat × Nat))
  nt : Nat
def ES.new : ES := ⟨[], 0, [], 0⟩
def look {α : Type} (i : Nat) : List (Nat × α) → Option α
  | [] => none
  | (j, x) :: r => bif Nat.beq i j then some x else look i r
def repl {α : Type} (i : Nat) (v : α) : List (Nat × α) → List (Nat × α)
  | [] => []
  | (j, x) :: r => bif Nat.beq i j then (j, v) :: r else (j, x) :: repl i v r
theorem beq_false_ne {i j : Nat} (h : Nat.beq i j = false) : i ≠ j := by
  rintro rfl; simp at h
theorem look_repl {α : Type} {i : Nat} {v : α} : ∀ {l : List (Nat × α)} {j : Nat} {x : α}, look j (repl i v l) = some x → (j = i ∧ x = v) ∨ (j ≠ i ∧ look j l = some x)
  | [], j, x, h => by simp [repl, look] at h
  | (k, y) :: r, j, x, h => by
    simp only [repl] at h
    cases hik : Nat.beq i k with
    | true =>
      rw [hik] at h
      simp only [cond_true, look] at h
      have := Nat.eq_of_beq_eq_true hik
      subst this
      cases hji : Nat.beq j i with
      | true => rw [hji] at h; simp at h; exact .inl ⟨Nat.eq_of_beq_eq_true hji, h.symm⟩
      | false => rw [hji] at h; simp only [cond_false] at h; refine .inr ⟨beq_false_ne hji, ?_⟩; simp only [look, hji, cond_false]; exact h
    | false =>
      rw [hik] at h
      simp only [cond_false, look] at h
      cases hjk : Nat.beq j k with
      | true =>
        rw [hjk] at h; simp at h; subst h
        have := Nat.eq_of_beq_eq_true hjk
        subst this
        exact .inr ⟨(beq_false_ne hik).symm, by simp [look]⟩
      | false =>
        rw [hjk] at h; simp only [cond_false] at h
        rcases look_repl h with h | ⟨h1, h2⟩
        · exact .inl h
        · exact .inr ⟨h1, by simp only [look, hjk, cond_false]; exact h2⟩
def Sub (m m' : List Nat) : Prop := ∀ (i x : Nat), m[i]? = some x → m'[i]? = some x
theorem Sub.refl (m : List Nat) : Sub m m := fun _ _ h => h
theorem Sub.trans {a b c : List Nat} (h : Sub a b) (k : Sub b c) : Sub a c := fun i x hx => k i x (h i x hx)
theorem Sub.app (m : List Nat) (x : Nat) : Sub m (m ++ [x]) := fun i y h => by
  rw [List.getElem?_append_left (List.getElem?_eq_some_iff.1 h).1]; exact h
theorem VRL.mono {m t m' t' : List Nat} (hm : Sub m m') (ht : Sub t t') {a b : List AV} (h : VRL m t a b) : VRL m' t' a b := F2.mono (fun _ _ => VR.mono hm ht) h
structure RS (σb : St) (gl : List (Nat × List AV)) (m t : List Nat) (es : ES) (σ : St) : Prop where
  bx : ∀ i cs, look i es.bx = some cs → ∃ β ds, m[i]? = some β ∧ σ.box β = some ds ∧ VRL m t cs ds
  tp : ∀ i x, look i es.tp = some x → ∃ τ, t[i]? = some τ ∧ σ.tip τ = some x
  nb : m.length = es.nb
  nt : t.length = es.nt
  mi : ∀ (i j β : Nat), m[i]? = some β → m[j]? = some β → i = j
  ti : ∀ (i j τ : Nat), t[i]? = some τ → t[j]? = some τ → i = j
  md : ∀ (i β : Nat), m[i]? = some β → σ.box β ≠ none
  td : ∀ (i τ : Nat), t[i]? = some τ → σ.tip τ ≠ none
  le : St.le σb σ
  mb : ∀ (i β : Nat), m[i]? = some β → σb.box β = none
  tb : ∀ (i τ : Nat), t[i]? = some τ → σb.tip τ = none
  gl : ∀ k cs, look k gl = some cs → σ.glob k = some cs ∧ clL cs = true
def ES.newB (es : ES) (cs : List AV) : ES := ⟨(es.nb, cs) :: es.bx, es.nb + 1, es.tp, es.nt⟩
def ES.setB (es : ES) (i : Nat) (cs : List AV) : ES := ⟨repl i cs es.bx, es.nb, es.tp, es.nt⟩
def ES.newT (es : ES) (x : Nat × Nat × Nat) : ES := ⟨es.bx, es.nb, (es.nt, x) :: es.tp, es.nt + 1⟩
def ES.setT (es : ES) (i : Nat) (x : Nat × Nat × Nat) : ES := ⟨es.bx, es.nb, repl i x es.tp, es.nt⟩
section
variable {σb σ : St} {gl : List (Nat × List AV)} {m t : List Nat} {es : ES}
theorem get_app {m : List Nat} {β i x : Nat} (h : (m ++ [β])[i]? = some x) : m[i]? = some x ∨ (i = m.length ∧ x = β) := by
  rcases Nat.lt_or_ge i m.length with hi | hi
  · rw [List.getElem?_append_left hi] at h; exact .inl h
  · rw [List.getElem?_append_right hi] at h
    have : i - m.length = 0 := by
      rcases Nat.eq_zero_or_pos (i - m.length) with e | e
      · exact e
      · rw [List.getElem?_eq_none (by simp; omega)] at h; cases h
    rw [this] at h
    simp at h
    exact .inr ⟨by omega, h.symm⟩
theorem RS.newB (h : RS σb gl m t es σ) {β : Nat} (hβ : σ.box β = none) {cs ds : List AV} (hc : VRL m t cs ds) : RS σb gl (m ++ [β]) t (es.newB cs) (σ.setBox β ds) := by
  have hne : ∀ i γ, m[i]? = some γ → γ ≠ β := fun i γ hg e => h.md i γ hg (e ▸ hβ)
  have hsb : σb.box β = none := by
    cases hb : σb.box β with
    | none => rfl
    | some c => rw [h.le.1 _ _ hb] at hβ; cases hβ
  refine ⟨fun i cs' hl => ?_, h.tp, by simp [h.nb, ES.newB], h.nt, fun i j γ h1 h2 => ?_, h.ti, fun i γ hg => ?_, h.td, St.le_setBox h.le hsb, fun i γ hg => ?_, h.tb, h.gl⟩
  · simp only [ES.newB, look] at hl
    cases hb : Nat.beq i es.nb with
    | true =>
      rw [hb] at hl; simp at hl; subst hl
      have := Nat.eq_of_beq_eq_true hb
      subst this
      exact ⟨β, ds, by rw [← h.nb]; simp, by simp [St.setBox, upd], hc.mono (.app _ _) (.refl _)⟩
    | false =>
      rw [hb] at hl; simp only [cond_false] at hl
      obtain ⟨γ, ds', h1, h2, h3⟩ := h.bx i cs' hl
      exact ⟨γ, ds', Sub.app _ _ _ _ h1, by simp only [St.setBox, upd, if_neg (hne i γ h1)]; exact h2, h3.mono (.app _ _) (.refl _)⟩
  · rcases get_app h1 with h1 | ⟨h1, e1⟩ <;> rcases get_app h2 with h2 | ⟨h2, e2⟩
    · exact h.mi i j γ h1 h2
    · exact (hne i γ h1 e2).elim
    · exact (hne j γ h2 e1).elim
    · omega
  · simp only [St.setBox, upd]
    split
    · simp
    · rename_i e
      rcases get_app hg with h1 | ⟨h1, e1⟩
      · exact h.md i γ h1
      · exact (e e1).elim
  · rcases get_app hg with h1 | ⟨h1, rfl⟩
    · exact h.mb i γ h1
    · exact hsb
theorem RS.setB (h : RS σb gl m t es σ) {i β : Nat} (hi : m[i]? = some β) {cs ds : List AV} (hc : VRL m t cs ds) : RS σb gl m t (es.setB i cs) (σ.setBox β ds) := by
  refine ⟨fun j cs' hl => ?_, h.tp, h.nb, h.nt, h.mi, h.ti, fun j γ hg => ?_, h.td, St.le_setBox h.le (h.mb i β hi), h.mb, h.tb, h.gl⟩
  · rcases look_repl hl with ⟨rfl, rfl⟩ | ⟨h1, h2⟩
    · exact ⟨β, ds, hi, by simp [St.setBox, upd], hc⟩
    · obtain ⟨γ, ds', k1, k2, k3⟩ := h.bx j cs' h2
      refine ⟨γ, ds', k1, ?_, k3⟩
      simp only [St.setBox, upd]
      rw [if_neg]
      · exact k2
      · rintro rfl; exact h1 (h.mi j i _ k1 hi)
  · simp only [St.setBox, upd]
    split
    · simp
    · exact h.md j γ hg
theorem RS.newT (h : RS σb gl m t es σ) {τ : Nat} (hτ : σ.tip τ = none) (x : Nat × Nat × Nat) : RS σb gl m (t ++ [τ]) (es.newT x) (σ.setTip τ x) := by
  have hne : ∀ i γ, t[i]? = some γ → γ ≠ τ := fun i γ hg e => h.td i γ hg (e ▸ hτ)
  have hsb : σb.tip τ = none := by
    cases hb : σb.tip τ with
    | none => rfl
    | some c => rw [h.le.2.1 _ _ hb] at hτ; cases hτ
  refine ⟨fun i cs' hl => ?_, fun i y hl => ?_, h.nb, by simp [h.nt, ES.newT], h.mi, fun i j γ h1 h2 => ?_, h.md, fun i γ hg => ?_, St.le_setTip h.le hsb, h.mb, fun i γ hg => ?_, h.gl⟩
  · obtain ⟨γ, ds', h1, h2, h3⟩ := h.bx i cs' hl
    exact ⟨γ, ds', h1, h2, h3.mono (.refl _) (.app _ _)⟩
  · simp only [ES.newT, look] at hl
    cases hb : Nat.beq i es.nt with
    | true =>
      rw [hb] at hl; simp at hl; subst hl
      have := Nat.eq_of_beq_eq_true hb
      subst this
      exact ⟨τ, by rw [← h.nt]; simp, by simp [St.setTip, upd]⟩
    | false =>
      rw [hb] at hl; simp only [cond_false] at hl
      obtain ⟨γ, h1, h2⟩ := h.tp i y hl
      exact ⟨γ, Sub.app _ _ _ _ h1, by simp only [St.setTip, upd, if_neg (hne i γ h1)]; exact h2⟩
  · rcases get_app h1 with h1 | ⟨h1, e1⟩ <;> rcases get_app h2 with h2 | ⟨h2, e2⟩
    · exact h.ti i j γ h1 h2
    · exact (hne i γ h1 e2).elim
    · exact (hne j γ h2 e1).elim
    · omega
  · simp only [St.setTip, upd]
    split
    · simp
    · rename_i e
      rcases get_app hg with h1 | ⟨h1, e1⟩
      · exact h.td i γ h1
      · exact (e e1).elim
  · rcases get_app hg with h1 | ⟨h1, rfl⟩
    · exact h.tb i γ h1
    · exact hsb
theorem RS.setT (h : RS σb gl m t es σ) {i τ : Nat} (hi : t[i]? = some τ) (x : Nat × Nat × Nat) : RS σb gl m t (es.setT i x) (σ.setTip τ x) := by
  refine ⟨h.bx, fun j y hl => ?_, h.nb, h.nt, h.mi, h.ti, h.md, fun j γ hg => ?_, St.le_setTip h.le (h.tb i τ hi), h.mb, h.tb, h.gl⟩
  · rcases look_repl hl with ⟨rfl, rfl⟩ | ⟨h1, h2⟩
    · exact ⟨τ, hi, by simp [St.setTip, upd]⟩
    · obtain ⟨γ, k1, k2⟩ := h.tp j y h2
      refine ⟨γ, k1, ?_⟩
      simp only [St.setTip, upd]
      rw [if_neg]
      · exact k2
      · rintro rfl; exact h1 (h.ti j i _ k1 hi)
  · simp only [St.setTip, upd]
    split
    · simp
    · exact h.td j γ hg
end

/-! ### Values without numbers -/
mutual
def norm : AV → Option AV
  | .ptr _ _ => none
  | .yld _ => none
  | .psl _ _ _ => none
  | .row _ _ _ _ => none
  | .opt _ _ => none
  | .tsl _ n cs => match normL cs with | some ds => some (.sl false n ds) | none => none
  | .sl f n cs => match normL cs with | some ds => some (.sl f n ds) | none => none
  | .agg cs => match normL cs with | some ds => some (.agg ds) | none => none
  | .tup cs => match normL cs with | some ds => some (.tup ds) | none => none
  | .el cs => match normL cs with | some ds => some (.el ds) | none => none
  | .fn f cs => match normL cs with | some ds => some (.fn f ds) | none => none
  | .ifc y v => match norm v with | some u => some (.ifc y u) | none => none
  | .junk => some .junk
  | .bool b => some (.bool b)
  | .int k n => some (.int k n)
  | .str l => some (.str l)
  | .nils => some .nils
  | .nilp => some .nilp
  | .nili => some .nili
  | .nilf => some .nilf
def normL : List AV → Option (List AV)
  | [] => some []
  | v :: vs => match norm v, normL vs with
    | some u, some us => some (u :: us)
    | _, _ => none
end
theorem wkL_pt {ds es : List AV} (h : wkL ds es) {g : Gh} {w : World} {u : List Value} (hl : u.length = ds.length) (hr : ∀ (i : Nat) (c : AV) (v : Value), ds[i]? = some c → u[i]? = some v → Rel g w c v) :
    u.length = es.length ∧ es.length = ds.length ∧ ∀ (i : Nat) (c : AV) (v : Value), es[i]? = some c → u[i]? = some v → Rel g w c v := by
  have := wkL_rel h (g := g) (w := w) (vs := u) ⟨hl, hr⟩
  exact ⟨this.1, by rw [← this.1, hl], this.2⟩
theorem wk_sl {f : Bool} {n : Nat} {ds es : List AV} (h : wkL ds es) : wk (.sl f n ds) (.sl f n es) := by
  intro g w v hv
  cases hv with
  | sl0 => cases h; exact .sl0 _ _
  | sl _ _ _ b off cap u h1 h2 h4 h5 h6 h7 =>
    obtain ⟨k1, k2, k3⟩ := wkL_pt h h5 h7
    exact .sl f n es b off cap u h1 h2 (by rw [k2]; exact h4) k1 h6 k3
theorem wk_el {ds es : List AV} (h : wkL ds es) : wk (.el ds) (.el es) := by
  intro g w v hv
  cases hv with
  | el _ b off u h4 h5 h6 h7 =>
    obtain ⟨k1, k2, k3⟩ := wkL_pt h h5 h7
    exact .el es b off u (by rw [k2]; exact h4) k1 h6 k3
theorem wk_fn {f : Nat} {ds es : List AV} (h : wkL ds es) : wk (.fn f ds) (.fn f es) := by
  intro g w v hv
  obtain ⟨u, rfl, hu⟩ := hv.fn_inv
  have := wkL_rel h hu
  exact .fn f es u this.1 this.2
theorem wk_ifc {y : Nat} {a b : AV} (h : wk a b) : wk (.ifc y a) (.ifc y b) := by
  intro g w v hv
  obtain ⟨u, rfl, hu⟩ := hv.ifc_inv
  exact .ifc y b u (h _ _ _ hu)
section
variable {m t : List Nat}
mutual
theorem norm_wk : ∀ (a : AV) {b c : AV}, VR m t a b → norm a = some c → wk b c
  | .ptr _ _, b, c, h, hn => by simp [norm] at hn
  | .yld _, b, c, h, hn => by simp [norm] at hn
  | .psl _ _ _, b, c, h, hn => by simp [norm] at hn
  | .row _ _ _ _, b, c, h, hn => by simp [norm] at hn
  | .opt _ _, b, c, h, hn => by simp [norm] at hn
  | .junk, b, c, h, hn => by simp [norm] at hn; subst hn; exact wk_junk _
  | .bool _, b, c, h, hn => by simp [norm] at hn; subst hn; rw [h.bool_inv]; exact wk_refl _
  | .int _ _, b, c, h, hn => by simp [norm] at hn; subst hn; rw [h.int_inv]; exact wk_refl _
  | .str _, b, c, h, hn => by simp [norm] at hn; subst hn; rw [h.str_inv]; exact wk_refl _
  | .nils, b, c, h, hn => by simp [norm] at hn; subst hn; cases h; exact wk_refl _
  | .nilp, b, c, h, hn => by simp [norm] at hn; subst hn; cases h; exact wk_refl _
  | .nili, b, c, h, hn => by simp [norm] at hn; subst hn; cases h; exact wk_refl _
  | .nilf, b, c, h, hn => by simp [norm] at hn; subst hn; cases h; exact wk_refl _
  | .ifc y v, b, c, h, hn => by
    simp only [norm] at hn
    cases hv : norm v with
    | none => simp [hv] at hn
    | some u =>
      simp only [hv, Option.some.injEq] at hn; subst hn
      cases h with
      | ifc _ _ u' h => exact wk_ifc (norm_wk v h hv)
  | .sl f n cs, b, c, h, hn => by
    simp only [norm] at hn
    cases hv : normL cs with
    | none => simp [hv] at hn
    | some us =>
      simp only [hv, Option.some.injEq] at hn; subst hn
      cases h with
      | sl _ _ _ ds h1 h2 => exact wk_sl (normL_wk cs ⟨h1, h2⟩ hv)
  | .tsl i n cs, b, c, h, hn => by
    simp only [norm] at hn
    cases hv : normL cs with
    | none => simp [hv] at hn
    | some us =>
      simp only [hv, Option.some.injEq] at hn; subst hn
      cases h with
      | tsl _ τ _ _ ds h0 h1 h2 => exact wk_trans (wk_tsl _ _ _) (wk_sl (normL_wk cs ⟨h1, h2⟩ hv))
  | .agg cs, b, c, h, hn => by
    simp only [norm] at hn
    cases hv : normL cs with
    | none => simp [hv] at hn
    | some us =>
      simp only [hv, Option.some.injEq] at hn; subst hn
      cases h with
      | agg _ ds h1 h2 => exact wk_agg (normL_wk cs ⟨h1, h2⟩ hv)
  | .tup cs, b, c, h, hn => by
    simp only [norm] at hn
    cases hv : normL cs with
    | none => simp [hv] at hn
    | some us =>
      simp only [hv, Option.some.injEq] at hn; subst hn
      cases h with
      | tup _ ds h1 h2 => exact wk_tup (normL_wk cs ⟨h1, h2⟩ hv)
  | .el cs, b, c, h, hn => by
    simp only [norm] at hn
    cases hv : normL cs with
    | none => simp [hv] at hn
    | some us =>
      simp only [hv, Option.some.injEq] at hn; subst hn
      cases h with
      | el _ ds h1 h2 => exact wk_el (normL_wk cs ⟨h1, h2⟩ hv)
  | .fn f cs, b, c, h, hn => by
    simp only [norm] at hn
    cases hv : normL cs with
    | none => simp [hv] at hn
    | some us =>
      simp only [hv, Option.some.injEq] at hn; subst hn
      cases h with
      | fn _ _ ds h1 h2 => exact wk_fn (normL_wk cs ⟨h1, h2⟩ hv)
theorem normL_wk : ∀ (as : List AV) {bs cs : List AV}, VRL m t as bs → normL as = some cs → wkL bs cs
  | [], bs, cs, h, hn => by simp [normL] at hn; subst hn; rw [h.nil_inv]; exact .nil
  | a :: as, bs, cs, h, hn => by
    obtain ⟨b, bs, rfl, h1, h2⟩ := h.cons_inv
    simp only [normL] at hn
    cases hv : norm a with
    | none => simp [hv] at hn
    | some u =>
      cases hl : normL as with
      | none => simp [hv, hl] at hn
      | some us =>
        simp only [hv, hl, Option.some.injEq] at hn
        subst hn
        exact .cons (norm_wk a h1 hv) (normL_wk as h2 hl)
end
end
theorem AC.weaken {P : Program} {f : Nat} {as : List AV} {σ : St} {R R' : AV → St → Prop} (h : AC P f as σ R) (hr : ∀ r s, R r s → ∃ r' s', Go.Abs.wk r r' ∧ St.le s' s ∧ R' r' s') : AC P f as σ R' := by
  have hcp : ∀ g w e w', CP g w R e w' → CP g w R' e w' := by
    rintro g w e w' ⟨v, r, σ', g', h1, h2, h3, h4, h5⟩
    obtain ⟨r', s', k1, k2, k3⟩ := hr _ _ h2
    exact ⟨v, r', s', g', h1, k3, h3.le k2, h4, k1 _ _ _ h5⟩
  intro g w vs hI hv
  rcases h g w vs hI hv with ⟨h1, h2⟩ | ⟨v, w', h1, h2⟩
  · exact .inl ⟨h1, h2.mono fun e w' => hcp g w e w'⟩
  · exact .inr ⟨v, w', h1, hcp _ _ _ _ h2⟩
abbrev Call := Nat → List AV → ES → Option (AV × ES)
def CallOk (P : Program) (gl : List (Nat × List AV)) (call : Call) : Prop :=
  ∀ f as es v es' σb m t σ as', call f as es = some (v, es') → RS σb gl m t es σ → VRL m t as as' →
    AC P f as' σ (fun v' σ' => ∃ m' t', Sub m m' ∧ Sub t t' ∧ VR m' t' v v' ∧ RS σb gl m' t' es' σ')
def evE (gl : List (Nat × List AV)) (fr : Fr) : Od → AV
  | .t t => slot t fr
  | .c v => bif cl v then v else .junk
  | .g k => match look k gl with
    | some cs => .el cs
    | none => .junk
  | .f f => .fn f []
def FR (m t : List Nat) (fr fr' : Fr) : Prop := ∀ k, VR m t (slot k fr) (slot k fr')
def nilE (kind : Nat) (v : AV) : Option Bool :=
  match kind, v with
  | 0, .nils => some true
  | 0, .sl _ (n + 1) _ => some false
  | 0, .tsl _ (n + 1) _ => some false
  | 1, .nilp => some true
  | 1, .ptr _ _ => some false
  | 1, .el _ => some false
  | 2, .nilf => some true
  | 2, .fn _ _ => some false
  | 3, .nili => some true
  | 3, .ifc _ _ => some false
  | _, _ => none
def freshE : AV → Option (Nat × List AV)
  | .nils => some (0, [])
  | .sl true 0 [] => some (0, [])
  | _ => none
def okApp (n s k by_ : Nat) (cs ds : List AV) : Bool := Nat.beq cs.length (n * s) && Nat.beq ds.length (k * s) && Nat.ble (n + k) 1000000 && Nat.ble ((n + k) * by_) 140737488355328
/-- The quiet ones. -/
def eQ (ρ : Od → AV) (es : ES) : CO → Option AV
  | .ld sz p => match ρ p with
    | .ptr i o => match look i es.bx with
      | some cs => lds cs o sz
      | none => none
    | .el cs => lds cs 0 sz
    | _ => none
  | op => qE ρ op
def eOp (call : Call) (ρ : Od → AV) (es : ES) : CO → Option (AV × ES)
  | .isnil kind neg x => match nilE kind (ρ x) with
    | some b => some (.bool (bif neg then !b else b), es)
    | none => none
  | .alloc cells => bif clL cells then some (.ptr es.nb 0, es.newB cells) else none
  | .box n x => bif (ρ x).fits && Nat.beq (ρ x).cells.length n then some (.ptr es.nb 0, es.newB (ρ x).cells) else none
  | .st n p x => match ρ p with
    | .ptr i off => match look i es.bx with
      | some cs => bif (ρ x).fits && Nat.beq (ρ x).cells.length n && Nat.ble (off + n) cs.length then some (.junk, es.setB i (cs.take off ++ (ρ x).cells ++ cs.drop (off + n))) else none
      | none => none
    | _ => none
  | .call f args => call f (args.map ρ) es
  | .callv x args => match ρ x with
    | .fn f cap => call f (args.map ρ ++ cap) es
    | _ => none
  | .invk _ _ _ => none
  | .app tp e s b x y => match slv (ρ y) with
    | some (k, ds) => match ρ x with
      | .tsl i n cs => match look i es.tp with
        | some (e', s', n') => bif Nat.beq e' e && Nat.beq s' s && Nat.beq n' n && okApp n s k b cs ds then some (.tsl i (n + k) (cs ++ ds), es.setT i (e, s, n + k)) else none
        | none => none
      | a => match freshE a with
        | some (n, cs) => bif okApp n s k b cs ds then (bif tp then some (.tsl es.nt (n + k) (cs ++ ds), es.newT (e, s, n + k)) else some (.sl false (n + k) (cs ++ ds), es)) else none
        | none => none
    | none => none
  | op => match eQ ρ es op with
    | some v => some (v, es)
    | none => none
section
variable {P : Program} {σb σ : St} {gl : List (Nat × List AV)} {m t : List Nat} {es es' : ES} {ρe ρ : Od → AV} {v : AV}
theorem nilE_inv {kind : Nat} {a u : AV} {b : Bool} (h : VR m t a u) (hn : nilE kind a = some b) : nilOk kind u = true ∧ ∀ b', nilP kind u b' → b' = b := by
  unfold nilE at hn
  split at hn <;> first | (cases hn; done) | (cases hn; cases h; simp_all [nilOk, nilP])
theorem freshE_inv {a u : AV} {n : Nat} {cs : List AV} (h : VR m t a u) (hf : freshE a = some (n, cs)) : fresh u ∧ ∃ ds, slv u = some (n, ds) ∧ VRL m t cs ds ∧ ∀ τ k xs, u ≠ .tsl τ k xs := by
  unfold freshE at hf
  split at hf
  · cases hf; cases h; exact ⟨trivial, [], rfl, .nil, by simp⟩
  · cases hf
    cases h with
    | sl _ _ _ ds h1 h2 =>
      have : ds = [] := List.eq_nil_of_length_eq_zero (by simpa using h1)
      subst this
      exact ⟨trivial, [], rfl, ⟨h1, h2⟩, by simp⟩
  · cases hf
theorem okApp_inv {n s k b : Nat} {cs ds cs' ds' : List AV} (h : okApp n s k b cs ds = true) (h1 : VRL m t cs cs') (h2 : VRL m t ds ds') : cs'.length = n * s ∧ ds'.length = k * s ∧ n + k ≤ maxLen ∧ (n + k) * b ≤ 140737488355328 := by
  unfold okApp at h
  simp only [Bool.and_eq_true] at h
  obtain ⟨⟨⟨a1, a2⟩, a3⟩, a4⟩ := h
  have a3 := Nat.le_of_ble_eq_true a3
  refine ⟨by rw [h1.1]; exact Nat.eq_of_beq_eq_true a1, by rw [h2.1]; exact Nat.eq_of_beq_eq_true a2, by unfold maxLen; omega, Nat.le_of_ble_eq_true a4⟩
theorem eQ_sound {op : CO} (hR : RS σb gl m t es σ) (hρ : ∀ y ∈ op.ods, VR m t (ρe y) (ρ y)) (h : eQ ρe es op = some v) : ps σ ρ op ∧ VR m t v (pf σ ρ op) := by
  by_cases hl : ∃ sz p, op = .ld sz p
  · obtain ⟨sz, p, rfl⟩ := hl
    have hp := hρ p (by simp [CO.ods])
    simp only [eQ] at h
    split at h
    · rename_i i o e
      rw [e] at hp
      obtain ⟨β, e2, hm⟩ := hp.ptr_inv
      split at h
      · rename_i cs hb
        obtain ⟨β', ds, k1, k2, k3⟩ := hR.bx _ _ hb
        rw [hm] at k1; cases k1
        simp only [ps, pf, e2, pcells, k2, Option.map_some]
        exact lds_inv k3 h
      · cases h
    · rename_i cs e
      rw [e] at hp
      obtain ⟨ds, e2, hd⟩ := hp.el_inv
      simp only [ps, pf, e2, pcells]
      exact lds_inv hd h
    · cases h
  · have : eQ ρe es op = qE ρe op := by
      cases op <;> first | rfl | exact (hl ⟨_, _, rfl⟩).elim
    rw [this] at h
    exact qE_sound hρ h
theorem eQ_aOp {op : CO} {K : AV → St → Prop} (hq : qE ρe op ≠ none ∨ ∃ sz p, op = .ld sz p) (hp : ps σ ρ op) (hK : K (pf σ ρ op) σ) : aOp P ρ σ K op := by
  cases op <;> first | exact ⟨hp, hK⟩ | (rcases hq with hq | ⟨_, _, hq⟩ <;> first | (exact (hq rfl).elim) | (cases hq))
theorem vrl_map {args : List Od} (hρ : ∀ y ∈ args, VR m t (ρe y) (ρ y)) : VRL m t (args.map ρe) (args.map ρ) := by
  refine ⟨by simp, fun i c d hc hd => ?_⟩
  simp only [List.getElem?_map, Option.map_eq_some_iff] at hc hd
  obtain ⟨y, h1, rfl⟩ := hc
  obtain ⟨y', h2, rfl⟩ := hd
  rw [h1] at h2; cases h2
  exact hρ y (List.mem_of_getElem? h1)
theorem eOp_sound {call : Call} (hc : CallOk P gl call) {op : CO} (hR : RS σb gl m t es σ) (hρ : ∀ y ∈ op.ods, VR m t (ρe y) (ρ y)) (h : eOp call ρe es op = some (v, es')) {K : AV → St → Prop}
    (hK : ∀ m' t' v' σ', Sub m m' → Sub t t' → VR m' t' v v' → RS σb gl m' t' es' σ' → K v' σ') : aOp P ρ σ K op := by
  have quiet : (match eQ ρe es op with | some v => some (v, es) | none => none) = some (v, es') → (qE ρe op ≠ none ∨ ∃ sz p, op = .ld sz p) → aOp P ρ σ K op := by
    intro h hq
    split at h
    · rename_i u hu
      cases h
      obtain ⟨h1, h2⟩ := eQ_sound hR hρ hu
      exact eQ_aOp hq h1 (hK m t _ _ (.refl _) (.refl _) h2 hR)
    · cases h
  have q2 : (match eQ ρe es op with | some v => some (v, es) | none => none) = some (v, es') → eQ ρe es op = qE ρe op → aOp P ρ σ K op := by
    intro h e
    refine quiet h (.inl fun hn => ?_)
    rw [e, hn] at h
    cases h
  cases op <;> simp only [eOp] at h <;> try (exact q2 h rfl)
  case isnil kind neg x =>
    have hx := hρ x (by simp [CO.ods])
    split at h
    · rename_i b hb
      cases h
      obtain ⟨h1, h2⟩ := nilE_inv hx hb
      refine ⟨h1, fun b' hb' => ?_⟩
      rw [h2 b' hb']
      exact hK m t _ _ (.refl _) (.refl _) (.bool _) hR
    · cases h
  case alloc cells =>
    cases hb : clL cells with
    | false => rw [hb] at h; cases h
    | true =>
      rw [hb] at h
      simp only [cond_true, Option.some.injEq, Prod.mk.injEq] at h
      obtain ⟨rfl, rfl⟩ := h
      intro β hβ
      exact hK _ _ _ _ (.app _ β) (.refl _) (.ptr _ _ _ (by rw [← hR.nb]; simp)) (hR.newB hβ (clL_vr _ hb))
  case box n x =>
    have hx := hρ x (by simp [CO.ods])
    cases hb : (ρe x).fits && Nat.beq (ρe x).cells.length n with
    | false => rw [hb] at h; cases h
    | true =>
      rw [hb] at h
      simp only [cond_true, Option.some.injEq, Prod.mk.injEq] at h
      obtain ⟨rfl, rfl⟩ := h
      simp only [Bool.and_eq_true] at hb
      have hcs := hx.cells hb.1
      refine ⟨hx.fits hb.1, by rw [hcs.1]; exact Nat.eq_of_beq_eq_true hb.2, fun β hβ => ?_⟩
      exact hK _ _ _ _ (.app _ β) (.refl _) (.ptr _ _ _ (by rw [← hR.nb]; simp)) (hR.newB hβ hcs)
  case st n p x =>
    have hp := hρ p (by simp [CO.ods])
    have hx := hρ x (by simp [CO.ods])
    split at h
    · rename_i i off e
      rw [e] at hp
      obtain ⟨β, e2, hm⟩ := hp.ptr_inv
      split at h
      · rename_i cs hl
        obtain ⟨β', ds, k1, k2, k3⟩ := hR.bx _ _ hl
        rw [hm] at k1; cases k1
        cases hb : (ρe x).fits && Nat.beq (ρe x).cells.length n && Nat.ble (off + n) cs.length with
        | false => rw [hb] at h; cases h
        | true =>
          rw [hb] at h
          simp only [cond_true, Option.some.injEq, Prod.mk.injEq] at h
          obtain ⟨rfl, rfl⟩ := h
          simp only [Bool.and_eq_true] at hb
          have hcs := hx.cells hb.1.1
          simp only [aOp, e2, k2]
          refine ⟨hx.fits hb.1.1, by rw [hcs.1]; exact Nat.eq_of_beq_eq_true hb.1.2, by rw [k3.1]; exact Nat.le_of_ble_eq_true hb.2, ?_⟩
          exact hK _ _ _ _ (.refl _) (.refl _) (.junk _) (hR.setB hm (((k3.take off).append hcs).append (k3.drop _)))
      · cases h
    · cases h
  case call f args =>
    refine AC.mono (hc _ _ _ _ _ σb m t σ _ h hR (vrl_map fun y hy => hρ y (by simpa [CO.ods] using hy))) ?_
    rintro r s ⟨m', t', h1, h2, h3, h4⟩
    exact hK _ _ _ _ h1 h2 h3 h4
  case callv x args =>
    have hx := hρ x (by simp [CO.ods])
    split at h
    · rename_i f cap e
      rw [e] at hx
      obtain ⟨ds, e2, hd⟩ := hx.fn_inv
      simp only [aOp, e2]
      refine AC.mono (hc _ _ _ _ _ σb m t σ _ h hR ((vrl_map fun y hy => hρ y (by simp [CO.ods, hy])).append hd)) ?_
      rintro r s ⟨m', t', h1, h2, h3, h4⟩
      exact hK _ _ _ _ h1 h2 h3 h4
    · cases h
  case app tp e s b x y =>
    have hx := hρ x (by simp [CO.ods])
    have hy := hρ y (by simp [CO.ods])
    split at h
    · rename_i k ds ey
      obtain ⟨ds', ey', hd⟩ := hy.slv_inv ey
      split at h
      · rename_i i n cs ex
        rw [ex] at hx
        obtain ⟨τ, cs', ex', hτ, hcs⟩ := hx.tsl_inv
        split at h
        · rename_i e' s' n' hl
          cases hb : Nat.beq e' e && Nat.beq s' s && Nat.beq n' n && okApp n s k b cs ds with
          | false => rw [hb] at h; cases h
          | true =>
            rw [hb] at h
            simp only [cond_true, Option.some.injEq, Prod.mk.injEq] at h
            obtain ⟨rfl, rfl⟩ := h
            simp only [Bool.and_eq_true] at hb
            obtain ⟨⟨⟨b1, b2⟩, b3⟩, b4⟩ := hb
            have b1 := Nat.eq_of_beq_eq_true b1
            have b2 := Nat.eq_of_beq_eq_true b2
            have b3 := Nat.eq_of_beq_eq_true b3
            subst b1; subst b2; subst b3
            obtain ⟨τ', k1, k2⟩ := hR.tp _ _ hl
            rw [hτ] at k1; cases k1
            obtain ⟨c1, c2, c3, c4⟩ := okApp_inv b4 hcs hd
            simp only [aOp, ex', ey']
            refine ⟨k2, c1, c2, c3, c4, ?_⟩
            have happ := hcs.append hd
            exact hK _ _ _ _ (.refl _) (.refl _) (.tsl _ _ _ _ _ hτ happ.1 happ.2) (hR.setT hτ _)
        · cases h
      · rename_i a hne
        split at h
        · rename_i n cs hf
          obtain ⟨f1, cs', f2, f3, f4⟩ := freshE_inv hx hf
          cases hb : okApp n s k b cs ds with
          | false => rw [hb] at h; cases h
          | true =>
            rw [hb] at h
            obtain ⟨c1, c2, c3, c4⟩ := okApp_inv hb f3 hd
            have happ := f3.append hd
            have key : (bif tp then
                match slv (ρ x), slv (ρ y) with
                | some (n, cs), some (m, ds) => fresh (ρ x) ∧ cs.length = n * s ∧ ds.length = m * s ∧ n + m ≤ maxLen ∧ (n + m) * b ≤ 140737488355328 ∧ ∀ τ, σ.tip τ = none → K (.tsl τ (n + m) (cs ++ ds)) (σ.setTip τ (e, s, n + m))
                | _, _ => False
              else ps σ ρ (.app tp e s b x y) ∧ K (pf σ ρ (.app tp e s b x y)) σ) := by
              cases tp with
              | true =>
                simp only [cond_true, Option.some.injEq, Prod.mk.injEq] at h ⊢
                obtain ⟨rfl, rfl⟩ := h
                simp only [f2, ey']
                refine ⟨f1, c1, c2, c3, c4, fun τ hτ => ?_⟩
                have h2 := hR.newT hτ (e, s, n + k)
                have h3 := VRL.mono (.refl m) (.app t τ) happ
                exact hK _ _ _ _ (.refl _) (.app _ τ) (.tsl _ τ _ _ _ (by rw [← hR.nt]; simp) h3.1 h3.2) h2
              | false =>
                simp only [cond_true, cond_false, Option.some.injEq, Prod.mk.injEq] at h ⊢
                obtain ⟨rfl, rfl⟩ := h
                simp only [ps, pf, f2, ey']
                exact ⟨⟨f1, c1, c2, c3, c4⟩, hK _ _ _ _ (.refl _) (.refl _) (.sl _ _ _ _ happ.1 happ.2) hR⟩
            cases hu : ρ x with
            | tsl τ k' xs => exact (f4 _ _ _ hu).elim
            | _ => simp only [aOp, hu]; rw [hu] at key; exact key
        · cases h
    · cases h
  case ld sz p => exact quiet h (.inr ⟨_, _, rfl⟩)
end
end Go.Abs
namespace Go.Abs
def optB (ρ : Od → AV) : List Od → Bool
  | [] => true
  | y :: r => (match ρ y with | .opt d _ => d | .junk => false | _ => true) && optB ρ r
def eOps (call : Call) (gl : List (Nat × List AV)) : List CI → Fr → ES → Option (Fr × ES)
  | [], fr, es => some (fr, es)
  | i :: r, fr, es => match i.gd with
    | none => match eOp call (evE gl fr) es i.op with
      | some (v, es') => eOps call gl r (putF i.d v fr) es'
      | none => none
    | some (t, want) => match guardC want (slot t fr) with
      | none => none
      | some false => eOps call gl r (putF i.d (.opt false .junk) fr) es
      | some true => bif i.op.quiet then
          (bif optB (evE gl fr) i.op.gods then match eQ (gEv i.op (evE gl fr)) es i.op with
            | some v => eOps call gl r (putF i.d (.opt true v) fr) es
            | none => none
          else none)
        else
          (bif optB (evE gl fr) i.op.ods then match eOp call (evU (evE gl fr)) es i.op with
            | some (v, es') => eOps call gl r (putF i.d v fr) es'
            | none => none
          else none)
/-- A call that shares no memory with the caller. -/
def eIso (call : Call) (f : Nat) (as : List AV) : Option AV :=
  match normL as with
  | some bs => match call f bs ES.new with
    | some (v, _) => norm v
    | none => none
  | none => none
def eDop (call : Call) (c : Nat) (ρ : Od → AV) (es : ES) : CO → Option (AV × ES)
  | .alloc cells => bif (Nat.beq c 2 || Nat.beq c 3) && clL cells then some (.ptr es.nb 0, es.newB cells) else none
  | .box n x => bif Nat.beq c 2 && (ρ x).fits && Nat.beq (ρ x).cells.length n then some (.ptr es.nb 0, es.newB (ρ x).cells) else none
  | .st n p x => match ρ p with
    | .ptr i off => match look i es.bx with
      | some cs => bif Nat.beq c 2 && (ρ x).fits && Nat.beq (ρ x).cells.length n && Nat.ble (off + n) cs.length then some (.junk, es.setB i (cs.take off ++ (ρ x).cells ++ cs.drop (off + n))) else none
      | none => none
    | _ => none
  | .call f args => bif Nat.beq c 1 then (match eIso call f (args.map ρ) with | some v => some (v, es) | none => none) else none
  | .invk _ _ _ => none
  | .callv x args => bif Nat.beq c 1 then (match ρ x with
    | .fn f cap => (match eIso call f (args.map ρ ++ cap) with | some v => some (v, es) | none => none)
    | _ => none) else none
  | .isnil kind neg x => bif Nat.ble c 1 then (match nilE kind (ρ x) with
    | some b => some (.bool (bif neg then !b else b), es)
    | none => none) else none
  | .bad => none
  | .app _ e s b x y => match slv (ρ y) with
    | some (k, ds) => match ρ x with
      | .tsl i n cs => match look i es.tp with
        | some (e', s', n') => bif (Nat.beq c 2 || Nat.beq c 4) && Nat.beq e' e && Nat.beq s' s && Nat.beq n' n && okApp n s k b cs ds then some (.tsl i (n + k) (cs ++ ds), es.setT i (e, s, n + k)) else none
        | none => none
      | a => match freshE a with
        | some (n, cs) => bif Nat.ble c 1 && okApp n s k b cs ds then some (.sl false (n + k) (cs ++ ds), es) else none
        | none => none
    | none => none
  | op => bif Nat.ble c 1 && (!isLd op || Nat.beq c 1) then (match eQ ρ es op with
    | some v => some (v, es)
    | none => none) else none
def eStep (call : Call) (gl : List (Nat × List AV)) (c : Nat) (i : CI) (fr : Fr) (es : ES) : Option (AV × ES) :=
  match i.gd with
  | none => eDop call c (evE gl fr) es i.op
  | some (t, want) => match guardC want (slot t fr) with
    | none => none
    | some b => bif i.op.quiet then
        bif Nat.ble c 1 && (!isLd i.op || Nat.beq c 1) then
          match b with
          | false => some (.opt false .junk, es)
          | true => bif optB (evE gl fr) i.op.gods then (match eQ (gEv i.op (evE gl fr)) es i.op with
            | some v => some (.opt true v, es)
            | none => none) else none
        else none
      else match i.op with
        | .call f args => bif Nat.beq c 1 then (match b with
          | false => some (.opt false .junk, es)
          | true => bif optB (evE gl fr) args then (match eIso call f (args.map (evU (evE gl fr))) with
            | some v => some (.opt true v, es)
            | none => none) else none) else none
        | _ => none
def eDrw (call : Call) (gl : List (Nat × List AV)) : List CI → List Nat → Fr → ES → Option (Fr × ES)
  | [], _, fr, es => some (fr, es)
  | i :: r, c :: cs, fr, es => match eStep call gl c i fr es with
    | some (v, es') => eDrw call gl r cs (putF i.d v fr) es'
    | none => none
  | _ :: _, [], _, _ => none
def iter : Nat → (Fr → ES → Option (Exit × Fr × ES)) → Fr → ES → Option (Exit × Fr × ES)
  | 0, _, _, _ => none
  | k + 1, f, fr, es => match f fr es with
    | some (.normal, fr', es') => iter k f fr' es'
    | r => r
def eC (call : Call) (gl : List (Nat × List AV)) (k : Nat) : CC → Fr → ES → Option (Exit × Fr × ES)
  | .skip, fr, es => some (.normal, fr, es)
  | .ops l, fr, es => match eOps call gl l fr es with
    | some (fr', es') => some (.normal, fr', es')
    | none => none
  | .drw l cls, fr, es => match eDrw call gl l cls fr es with
    | some (fr', es') => some (.normal, fr', es')
    | none => none
  | .seq x y, fr, es => match eC call gl k x fr es with
    | some (.normal, fr', es') => eC call gl k y fr' es'
    | r => r
  | .cond c x y, fr, es => match evE gl fr c with
    | .bool true => eC call gl k x fr es
    | .bool false => eC call gl k y fr es
    | _ => none
  | .block id x, fr, es => match eC call gl k x fr es with
    | some (.exit j, fr', es') => bif Nat.beq j id then some (.normal, fr', es') else some (.exit j, fr', es')
    | r => r
  | .scope x, fr, es => match eC call gl k x fr es with
    | some (.goto _, _, _) => none
    | r => r
  | .loop x, fr, es => iter k (fun fr es => eC call gl k x fr es) fr es
  | .keep ts x, fr, es => eC call gl k x (keepF ts fr) es
  | .rfun _ _ _ _, _, _ => none
  | .frz _ _ _, _, _ => none
  | .any _, _, _ => none
  | .inv _ _, _, _ => none
  | .exit id, fr, es => some (.exit id, fr, es)
  | .ret, fr, es => some (.ret, fr, es)
def resE (fr : Fr) (es : ES) : List RV → Option (List AV)
  | [] => some []
  | .t s :: r => match resE fr es r with
    | some vs => some (slot s fr :: vs)
    | none => none
  | .cl s sz :: r => match (match slot s fr with
      | .ptr i o => (match look i es.bx with | some cs => lds cs o sz | none => none)
      | .el cs => lds cs 0 sz
      | _ => none), resE fr es r with
    | some v, some vs => some (v :: vs)
    | _, _ => none
def hasP : AV → Bool
  | .ptr _ _ => true
  | .fn _ (_ :: _) => true
  | .tup cs => cs.any fun | .ptr _ _ => true | .fn _ (_ :: _) => true | _ => false
  | .agg cs => cs.any fun | .ptr _ _ => true | .fn _ (_ :: _) => true | _ => false
  | _ => false
def below {α : Type} (n : Nat) : List (Nat × α) → List (Nat × α)
  | [] => []
  | (j, x) :: r => bif Nat.blt j n then (j, x) :: below n r else below n r
def trim (es es' : ES) (v : AV) : ES := bif hasP v then es' else ⟨below es.nb es'.bx, es'.nb, es'.tp, es'.nt⟩
def isEnd : Exit → Bool
  | .ret | .normal => true
  | _ => false
def eF (X : Call) (T : List (Nat × CF)) (gl : List (Nat × List AV)) (k : Nat) : Nat → Call
  | 0, _, _, _ => none
  | n + 1, f, as, es => match X f as es with
    | some r => some r
    | none => match look f T with
    | none => none
    | some cf => bif Nat.ble as.length cf.n then
        (match eC (eF X T gl k n) gl k cf.body (initF 0 as) es with
        | some (e, fr', es') => bif isEnd e then
            (match resE fr' es' cf.res with
            | some vs => some (resAV vs, trim es es' (resAV vs))
            | none => none)
          else none
        | none => none)
      else none
section
variable {P : Program} {σb σ : St} {gl : List (Nat × List AV)} {m t : List Nat} {es es' : ES} {ρe ρ : Od → AV} {v : AV} {fr fr' fe fe' : Fr}
theorem optB_all {op : List Od} : ∀ {L : List Od}, (∀ y ∈ L, VR m t (ρe y) (ρ y)) → optB ρe L = true → optAll true ρ L
  | [], _, _ => trivial
  | y :: r, hρ, h => by
    simp only [optB, Bool.and_eq_true] at h
    refine ⟨?_, optB_all (op := op) (fun z hz => hρ z (by simp [hz])) h.2⟩
    have hy := hρ y (by simp)
    have h1 := h.1
    generalize ρe y = a at hy h1
    generalize ρ y = u at hy
    cases hy <;> simp_all
theorem vr_evU {y : Od} (h : VR m t (ρe y) (ρ y)) : VR m t (evU ρe y) (evU ρ y) := by
  unfold evU
  generalize ρe y = a at h
  generalize ρ y = u at h
  cases h
  case junk => exact .junk _
  case opt h => exact h
  all_goals (constructor <;> assumption)
theorem vr_gEv {op : CO} (hρ : ∀ y, VR m t (ρe y) (ρ y)) (y : Od) : VR m t (gEv op ρe y) (gEv op ρ y) := by
  unfold gEv
  split
  · unfold pickE
    split
    · split
      · exact vr_evU (hρ _)
      · exact hρ _
    · exact hρ _
  · exact vr_evU (hρ _)
theorem evE_vr (hR : RS σb gl m t es σ) (hF : FR m t fe fr) (y : Od) : VR m t (evE gl fe y) (ev σ fr y) := by
  cases y with
  | t s => exact hF s
  | c v =>
    simp only [evE, ev]
    cases h : cl v with
    | true => exact cl_vr v h
    | false => exact .junk _
  | g k =>
    simp only [evE, ev]
    cases h : look k gl with
    | none => exact .junk _
    | some cs =>
      obtain ⟨h1, h2⟩ := hR.gl k cs h
      rw [h1]
      have := clL_vr (m := m) (t := t) cs h2
      exact .el _ _ this.1 this.2
  | f f => exact .fn _ _ _ rfl (by simp)
theorem FR.put (hF : FR m t fe fr) {d : Option Nat} {a b : AV} (h : VR m t a b) : FR m t (putF d a fe) (putF d b fr) := by
  cases d with
  | none => exact hF
  | some d =>
    intro s
    simp only [putF, slot]
    split
    · exact h
    · exact hF s
theorem FR.mono {m' t' : List Nat} (hm : Sub m m') (ht : Sub t t') (hF : FR m t fe fr) : FR m' t' fe fr := fun s => (hF s).mono hm ht
theorem FR.keep (hF : FR m t fe fr) : ∀ ts, FR m t (keepF ts fe) (keepF ts fr)
  | [] => fun _ => .junk _
  | s :: ts => fun k => by
    simp only [keepF, slot]
    split
    · exact hF s
    · exact FR.keep hF ts k
theorem FR.init : ∀ {as bs : List AV} (i : Nat), VRL m t as bs → FR m t (initF i as) (initF i bs)
  | [], bs, i, h => fun _ => .junk _
  | a :: as, bs, i, h => by
    obtain ⟨b, bs, rfl, h1, h2⟩ := h.cons_inv
    intro k
    simp only [initF, slot]
    split
    · exact h1
    · exact FR.init (i + 1) h2 k
theorem guardC_vr {want c : Bool} {a b : AV} (h : VR m t a b) (hg : guardC want a = some c) : guardC want b = some c := by
  unfold guardC at hg
  split at hg
  · rw [h.bool_inv]; exact hg
  · obtain ⟨u, rfl, hu⟩ := h.opt_inv; rw [hu.bool_inv]; exact hg
  · obtain ⟨u, rfl, hu⟩ := h.opt_inv; rw [guardC_no]; exact hg
  · cases hg
theorem eOps_sound {call : Call} (hc : CallOk P gl call) : ∀ (l : List CI) {fe fe' fr : Fr} {es es' : ES} {m t : List Nat} {σ : St} {K : Fr → St → Prop}, eOps call gl l fe es = some (fe', es') → RS σb gl m t es σ → FR m t fe fr →
    (∀ m' t' fr' σ', Sub m m' → Sub t t' → FR m' t' fe' fr' → RS σb gl m' t' es' σ' → K fr' σ') → aOps P l fr σ K
  | [], fe, fe', fr, es, es', m, t, σ, K, h, hR, hF, hK => by
    simp only [eOps, Option.some.injEq, Prod.mk.injEq] at h
    obtain ⟨rfl, rfl⟩ := h
    exact hK m t fr σ (.refl _) (.refl _) hF hR
  | ⟨d, op, gd⟩ :: r, fe, fe', fr, es, es', m, t, σ, K, h, hR, hF, hK => by
    have hev := evE_vr hR hF
    have rest : ∀ {v v' : AV} {es1 : ES} {m' t' : List Nat} {σ' : St}, eOps call gl r (putF d v fe) es1 = some (fe', es') → Sub m m' → Sub t t' → VR m' t' v v' → RS σb gl m' t' es1 σ' → aOps P r (putF d v' fr) σ' K := by
      intro v v' es1 m' t' σ' h1 hm ht hv hR'
      exact eOps_sound hc r h1 hR' ((hF.mono hm ht).put hv) (fun m2 t2 fr2 σ2 k1 k2 k3 k4 => hK m2 t2 fr2 σ2 (hm.trans k1) (ht.trans k2) k3 k4)
    cases gd with
    | none =>
      simp only [eOps] at h
      split at h
      · rename_i v es1 hv
        simp only [aOps]
        exact eOp_sound hc hR (fun y _ => hev y) hv (fun m' t' v' σ' hm ht hv' hR' => rest h hm ht hv' hR')
      · cases h
    | some gw =>
      obtain ⟨s, want⟩ := gw
      simp only [eOps] at h
      cases hg : guardC want (slot s fe) with
      | none => simp [hg] at h
      | some b =>
        have hg' := guardC_vr (hF s) hg
        simp only [aOps, hg']
        cases b with
        | false =>
          simp only [hg] at h
          cases hq : op.quiet with
          | true =>
            simp only [cond_true]
            exact ⟨by simp, rest h (.refl _) (.refl _) (.opt _ _ _ (.junk _)) hR⟩
          | false =>
            simp only [cond_false]
            exact ⟨by simp, fun _ => rest h (.refl _) (.refl _) (.opt _ _ _ (.junk _)) hR⟩
        | true =>
          simp only [hg] at h
          cases hq : op.quiet with
          | true =>
            simp only [hq, cond_true] at h ⊢
            cases ho : optB (evE gl fe) op.gods with
            | false => simp [ho] at h
            | true =>
              simp only [ho, cond_true] at h
              split at h
              · rename_i v hv
                obtain ⟨h1, h2⟩ := eQ_sound hR (fun y _ => vr_gEv hev y) hv
                exact ⟨fun _ => ⟨optB_all (op := []) (fun y _ => hev y) ho, h1⟩, rest h (.refl _) (.refl _) (.opt _ _ _ h2) hR⟩
              · cases h
          | false =>
            simp only [hq, cond_false] at h ⊢
            cases ho : optB (evE gl fe) op.ods with
            | false => simp [ho] at h
            | true =>
              simp only [ho, cond_true] at h
              split at h
              · rename_i v es1 hv
                exact ⟨fun _ => ⟨optB_all (op := []) (fun y _ => hev y) ho, eOp_sound hc hR (fun y _ => vr_evU (hev y)) hv (fun m' t' v' σ' hm ht hv' hR' => rest h hm ht hv' hR')⟩, by simp⟩
              · cases h
theorem RS.iso {σ2 : St} (hR : RS σb gl m t es σ) (hl : St.le σ σ2) : RS σ2 gl [] [] ES.new σ2 :=
  ⟨fun i cs h => by simp [ES.new, look] at h, fun i x h => by simp [ES.new, look] at h, rfl, rfl, fun i j β h => by simp at h, fun i j β h => by simp at h, fun i β h => by simp at h, fun i β h => by simp at h, St.le_refl _, fun i β h => by simp at h, fun i β h => by simp at h,
    fun k cs h => ⟨hl.2.2.1 _ _ (hR.gl k cs h).1, (hR.gl k cs h).2⟩⟩
def ddF (fr : Fr) : Fr := keepF (fr.map (·.1)) fr
theorem slot_keep_mem {k : Nat} {fr : Fr} : ∀ {ts : List Nat}, k ∈ ts → slot k (keepF ts fr) = slot k fr
  | [], h => by simp at h
  | s :: ts, h => by
    simp only [keepF, slot]
    split
    · rename_i e; rw [e]
    · rename_i e
      exact slot_keep_mem ((List.mem_cons.1 h).resolve_left e)
theorem slot_none {k : Nat} : ∀ {fr : Fr}, k ∉ fr.map (·.1) → slot k fr = .junk
  | [], _ => rfl
  | (s, v) :: r, h => by
    simp only [List.map_cons, List.mem_cons, not_or] at h
    simp only [slot]
    rw [if_neg h.1]
    exact slot_none h.2
theorem slot_dd (k : Nat) (fr : Fr) : slot k (ddF fr) = slot k fr := by
  by_cases h : k ∈ fr.map (·.1)
  · exact slot_keep_mem h
  · rcases keepF_slot k fr (fr.map (·.1)) with e | e
    · exact e
    · rw [slot_none h]; exact e
theorem subF_keep (fr : Fr) : ∀ ts, subF (keepF ts fr) fr
  | [] => trivial
  | s :: ts => ⟨wk_refl _, subF_keep fr ts⟩
theorem subF_dd (fr : Fr) : subF (ddF fr) fr := subF_keep fr _
theorem FR.dd {m t : List Nat} {fe fr : Fr} (h : FR m t fe fr) : FR m t fe (ddF fr) := fun k => by rw [slot_dd]; exact h k
mutual
theorem norm_cl : ∀ (a : AV) {c : AV}, norm a = some c → cl c = true
  | .ptr _ _, c, hn => by simp [norm] at hn
  | .yld _, c, hn => by simp [norm] at hn
  | .psl _ _ _, c, hn => by simp [norm] at hn
  | .row _ _ _ _, c, hn => by simp [norm] at hn
  | .opt _ _, c, hn => by simp [norm] at hn
  | .junk, c, hn => by simp [norm] at hn; subst hn; rfl
  | .bool _, c, hn => by simp [norm] at hn; subst hn; rfl
  | .int _ _, c, hn => by simp [norm] at hn; subst hn; rfl
  | .str _, c, hn => by simp [norm] at hn; subst hn; rfl
  | .nils, c, hn => by simp [norm] at hn; subst hn; rfl
  | .nilp, c, hn => by simp [norm] at hn; subst hn; rfl
  | .nili, c, hn => by simp [norm] at hn; subst hn; rfl
  | .nilf, c, hn => by simp [norm] at hn; subst hn; rfl
  | .ifc y v, c, hn => by
    simp only [norm] at hn
    cases hv : norm v with
    | none => simp [hv] at hn
    | some u => simp only [hv, Option.some.injEq] at hn; subst hn; simp only [cl]; exact norm_cl v hv
  | .sl f n cs, c, hn => by
    simp only [norm] at hn
    cases hv : normL cs with
    | none => simp [hv] at hn
    | some us => simp only [hv, Option.some.injEq] at hn; subst hn; simp only [cl]; exact normL_cl cs hv
  | .tsl f n cs, c, hn => by
    simp only [norm] at hn
    cases hv : normL cs with
    | none => simp [hv] at hn
    | some us => simp only [hv, Option.some.injEq] at hn; subst hn; simp only [cl]; exact normL_cl cs hv
  | .agg cs, c, hn => by
    simp only [norm] at hn
    cases hv : normL cs with
    | none => simp [hv] at hn
    | some us => simp only [hv, Option.some.injEq] at hn; subst hn; simp only [cl]; exact normL_cl cs hv
  | .tup cs, c, hn => by
    simp only [norm] at hn
    cases hv : normL cs with
    | none => simp [hv] at hn
    | some us => simp only [hv, Option.some.injEq] at hn; subst hn; simp only [cl]; exact normL_cl cs hv
  | .el cs, c, hn => by
    simp only [norm] at hn
    cases hv : normL cs with
    | none => simp [hv] at hn
    | some us => simp only [hv, Option.some.injEq] at hn; subst hn; simp only [cl]; exact normL_cl cs hv
  | .fn f cs, c, hn => by
    simp only [norm] at hn
    cases hv : normL cs with
    | none => simp [hv] at hn
    | some us => simp only [hv, Option.some.injEq] at hn; subst hn; simp only [cl]; exact normL_cl cs hv
theorem normL_cl : ∀ (as : List AV) {cs : List AV}, normL as = some cs → clL cs = true
  | [], cs, h => by simp [normL] at h; subst h; rfl
  | a :: as, cs, h => by
    simp only [normL] at h
    cases hv : norm a with
    | none => simp [hv] at h
    | some u =>
      cases hl : normL as with
      | none => simp [hv, hl] at h
      | some us =>
        simp only [hv, hl, Option.some.injEq] at h
        subst h
        simp only [clL, Bool.and_eq_true]
        exact ⟨norm_cl a hv, normL_cl as hl⟩
end
theorem eIso_sound {call : Call} (hc : CallOk P gl call) {f : Nat} {as bs : List AV} (hR : RS σb gl m t es σ) (hv : VRL m t as bs) (h : eIso call f as = some v) : ∀ σ2, St.le σ σ2 → AC P f bs σ2 (fun x s => x = v ∧ s = σ2) := by
  intro σ2 hl
  unfold eIso at h
  split at h
  · rename_i cs hn
    split at h
    · rename_i r es1 hcall
      have hw := normL_wk _ hv hn
      have hcl : VRL [] [] cs cs := by
        exact clL_vr _ (normL_cl _ hn)
      refine (AC.weaken (hc f cs ES.new r es1 σ2 [] [] σ2 cs hcall (hR.iso hl) hcl) ?_).wk hw
      rintro r' s ⟨m', t', h1, h2, h3, h4⟩
      exact ⟨v, σ2, norm_wk _ h3 h, h4.le, rfl, rfl⟩
    · cases h
  · cases h
theorem eIso_cl {call : Call} {f : Nat} {as : List AV} {u : AV} (h : eIso call f as = some u) : cl u = true := by
  unfold eIso at h
  split at h
  · split at h
    · exact norm_cl _ h
    · cases h
  · cases h
theorem eDop_sound {call : Call} (hc : CallOk P gl call) {c β : Nat} {op : CO} (hR : RS σb gl m t es σ) (hρ : ∀ y, VR m t (ρe y) (ρ y)) (h : eDop call c ρe es op = some (v, es')) (hβ : makesBox op = true → σ.box β = none) :
    ∃ v' σ' m' t', dOp P c β ρ σ op v' σ' ∧ Sub m m' ∧ Sub t t' ∧ VR m' t' v v' ∧ RS σb gl m' t' es' σ' := by
  have q2 : (bif Nat.ble c 1 && (!isLd op || Nat.beq c 1) then (match eQ ρe es op with | some v => some (v, es) | none => none) else none) = some (v, es') → (∀ v' σ', ((isLd op = true → c = 1) ∧ c ≤ 1 ∧ ps σ ρ op ∧ v' = pf σ ρ op ∧ σ' = σ) → dOp P c β ρ σ op v' σ') →
      ∃ v' σ' m' t', dOp P c β ρ σ op v' σ' ∧ Sub m m' ∧ Sub t t' ∧ VR m' t' v v' ∧ RS σb gl m' t' es' σ' := by
    intro h hd
    cases hb : Nat.ble c 1 && (!isLd op || Nat.beq c 1) with
    | false => rw [hb] at h; cases h
    | true =>
      rw [hb] at h
      simp only [cond_true] at h
      split at h
      · rename_i u hu
        cases h
        obtain ⟨h1, h2⟩ := eQ_sound hR (fun y _ => hρ y) hu
        simp only [Bool.and_eq_true, Bool.or_eq_true, Bool.not_eq_true'] at hb
        refine ⟨_, σ, m, t, hd _ _ ⟨fun e => ?_, Nat.le_of_ble_eq_true hb.1, h1, rfl, rfl⟩, .refl _, .refl _, h2, hR⟩
        rcases hb.2 with k | k
        · rw [e] at k; cases k
        · exact Nat.eq_of_beq_eq_true k
      · cases h
  cases op <;> simp only [eDop] at h <;> try (exact q2 h (fun v' σ' hh => hh))
  case isnil kind neg x =>
    cases hb : Nat.ble c 1 with
    | false => rw [hb] at h; cases h
    | true =>
      rw [hb] at h
      simp only [cond_true] at h
      split at h
      · rename_i b hn
        cases h
        obtain ⟨h1, h2⟩ := nilE_inv (hρ x) hn
        exact ⟨_, σ, m, t, ⟨Nat.le_of_ble_eq_true hb, h1, rfl, b, h2, rfl⟩, .refl _, .refl _, .bool _, hR⟩
      · cases h
  case alloc cells =>
    cases hb : (Nat.beq c 2 || Nat.beq c 3) && clL cells with
    | false => rw [hb] at h; cases h
    | true =>
      rw [hb] at h
      simp only [cond_true, Option.some.injEq, Prod.mk.injEq] at h
      obtain ⟨rfl, rfl⟩ := h
      simp only [Bool.and_eq_true, Bool.or_eq_true] at hb
      exact ⟨_, _, _, _, ⟨hb.1.imp Nat.eq_of_beq_eq_true Nat.eq_of_beq_eq_true, rfl, rfl⟩, .app _ β, .refl _, .ptr _ _ _ (by rw [← hR.nb]; simp), hR.newB (hβ rfl) (clL_vr _ hb.2)⟩
  case box n x =>
    cases hb : Nat.beq c 2 && (ρe x).fits && Nat.beq (ρe x).cells.length n with
    | false => rw [hb] at h; cases h
    | true =>
      rw [hb] at h
      simp only [cond_true, Option.some.injEq, Prod.mk.injEq] at h
      obtain ⟨rfl, rfl⟩ := h
      simp only [Bool.and_eq_true] at hb
      have hcs := (hρ x).cells hb.1.2
      exact ⟨_, _, _, _, ⟨Nat.eq_of_beq_eq_true hb.1.1, (hρ x).fits hb.1.2, by rw [hcs.1]; exact Nat.eq_of_beq_eq_true hb.2, rfl, rfl⟩, .app _ β, .refl _, .ptr _ _ _ (by rw [← hR.nb]; simp), hR.newB (hβ rfl) hcs⟩
  case st n p x =>
    have hp := hρ p
    have hx := hρ x
    split at h
    · rename_i i off e
      rw [e] at hp
      obtain ⟨γ, e2, hm⟩ := hp.ptr_inv
      split at h
      · rename_i cs hl
        obtain ⟨β', ds, k1, k2, k3⟩ := hR.bx _ _ hl
        rw [hm] at k1; cases k1
        cases hb : Nat.beq c 2 && (ρe x).fits && Nat.beq (ρe x).cells.length n && Nat.ble (off + n) cs.length with
        | false => rw [hb] at h; cases h
        | true =>
          rw [hb] at h
          simp only [cond_true, Option.some.injEq, Prod.mk.injEq] at h
          obtain ⟨rfl, rfl⟩ := h
          simp only [Bool.and_eq_true] at hb
          have hcs := hx.cells hb.1.1.2
          refine ⟨.junk, _, m, t, ?_, .refl _, .refl _, .junk _, hR.setB hm (((k3.take off).append hcs).append (k3.drop (off + n)))⟩
          simp only [dOp, e2, k2]
          exact ⟨Nat.eq_of_beq_eq_true hb.1.1.1, hx.fits hb.1.1.2, by rw [hcs.1]; exact Nat.eq_of_beq_eq_true hb.1.2, by rw [k3.1]; exact Nat.le_of_ble_eq_true hb.2, by trivial, by trivial⟩
      · cases h
    · cases h
  case call f args =>
    cases hb : Nat.beq c 1 with
    | false => rw [hb] at h; cases h
    | true =>
      rw [hb] at h
      simp only [cond_true] at h
      split at h
      · rename_i u hu
        cases h
        have := eIso_sound hc hR (vrl_map (args := args) (fun y _ => hρ y)) hu
        exact ⟨_, σ, m, t, .inl ⟨Nat.eq_of_beq_eq_true hb, rfl, this⟩, .refl _, .refl _, cl_vr _ (eIso_cl hu), hR⟩
      · cases h
  case invk => cases h
  case callv x args =>
    cases hb : Nat.beq c 1 with
    | false => rw [hb] at h; cases h
    | true =>
      rw [hb] at h
      simp only [cond_true] at h
      split at h
      · rename_i f cap ex
        have hx := hρ x
        rw [ex] at hx
        obtain ⟨ds, e2, hd⟩ := hx.fn_inv
        split at h
        · rename_i u hu
          cases h
          have := eIso_sound hc hR ((vrl_map (args := args) (fun y _ => hρ y)).append hd) hu
          refine ⟨v, σ, m, t, ?_, .refl _, .refl _, cl_vr _ (eIso_cl hu), hR⟩
          simp only [dOp, e2]
          exact ⟨Nat.eq_of_beq_eq_true hb, trivial, this⟩
        · cases h
      · cases h
  case bad => cases h
  case app tp e s b x y =>
    have hx := hρ x
    have hy := hρ y
    split at h
    · rename_i k ds ey
      obtain ⟨ds', ey', hd⟩ := hy.slv_inv ey
      split at h
      · rename_i i n cs ex
        rw [ex] at hx
        obtain ⟨τ, cs', ex', hτ, hcs⟩ := hx.tsl_inv
        split at h
        · rename_i e' s' n' hl
          cases hb : (Nat.beq c 2 || Nat.beq c 4) && Nat.beq e' e && Nat.beq s' s && Nat.beq n' n && okApp n s k b cs ds with
          | false => rw [hb] at h; cases h
          | true =>
            rw [hb] at h
            simp only [cond_true, Option.some.injEq, Prod.mk.injEq] at h
            obtain ⟨rfl, rfl⟩ := h
            simp only [Bool.and_eq_true] at hb
            obtain ⟨⟨⟨⟨b0, b1⟩, b2⟩, b3⟩, b4⟩ := hb
            have b1 := Nat.eq_of_beq_eq_true b1
            have b2 := Nat.eq_of_beq_eq_true b2
            have b3 := Nat.eq_of_beq_eq_true b3
            subst b1; subst b2; subst b3
            obtain ⟨τ', k1, k2⟩ := hR.tp _ _ hl
            rw [hτ] at k1; cases k1
            obtain ⟨c1, c2, c3, c4⟩ := okApp_inv b4 hcs hd
            have happ := hcs.append hd
            refine ⟨_, _, m, t, ?_, .refl _, .refl _, .tsl _ τ _ _ _ hτ happ.1 happ.2, hR.setT hτ _⟩
            simp only [dOp, ex', ey']
            exact ⟨((Bool.or_eq_true _ _).mp b0).imp Nat.eq_of_beq_eq_true Nat.eq_of_beq_eq_true, k2, c1, c2, c3, c4, by trivial, by trivial⟩
        · cases h
      · rename_i a hne
        split at h
        · rename_i n cs hf
          obtain ⟨f1, cs', f2, f3, f4⟩ := freshE_inv hx hf
          cases hb : Nat.ble c 1 && okApp n s k b cs ds with
          | false => rw [hb] at h; cases h
          | true =>
            rw [hb] at h
            simp only [cond_true, Option.some.injEq, Prod.mk.injEq] at h
            obtain ⟨rfl, rfl⟩ := h
            simp only [Bool.and_eq_true] at hb
            obtain ⟨c1, c2, c3, c4⟩ := okApp_inv hb.2 f3 hd
            have happ := f3.append hd
            have key : c ≤ 1 ∧ ps σ ρ (.app tp e s b x y) ∧ (AV.sl false (n + k) (cs' ++ ds')) = pf σ ρ (.app tp e s b x y) ∧ True := by
              simp only [ps, pf, f2, ey']
              exact ⟨Nat.le_of_ble_eq_true hb.1, ⟨f1, c1, c2, c3, c4⟩, trivial, trivial⟩
            refine ⟨_, σ, m, t, ?_, .refl _, .refl _, .sl _ _ _ (cs' ++ ds') happ.1 happ.2, hR⟩
            have b4 : Nat.beq c 4 = false := by rcases (by have := key.1; omega : c = 0 ∨ c = 1) with rfl | rfl <;> rfl
            cases hu : ρ x with
            | tsl τ k' xs => exact (f4 _ _ _ hu).elim
            | _ => simp only [dOp, hu, b4, cond_false]; exact key
        · cases h
    · cases h
theorem eStep_sound {call : Call} (hc : CallOk P gl call) {c β : Nat} {i : CI} (hR : RS σb gl m t es σ) (hF : FR m t fe fr) (h : eStep call gl c i fe es = some (v, es')) (hβ : makesBox i.op = true → σ.box β = none) :
    ∃ v' σ' m' t', dStep P c β i fr σ v' σ' ∧ Sub m m' ∧ Sub t t' ∧ VR m' t' v v' ∧ RS σb gl m' t' es' σ' := by
  have hev := evE_vr hR hF
  obtain ⟨d, op, gd⟩ := i
  cases gd with
  | none => exact eDop_sound hc hR hev h hβ
  | some gw =>
    obtain ⟨s, want⟩ := gw
    simp only [eStep] at h
    cases hg : guardC want (slot s fe) with
    | none => simp [hg] at h
    | some b =>
      have hg' := guardC_vr (hF s) hg
      simp only [hg] at h
      cases hq : op.quiet with
      | true =>
        simp only [hq, cond_true] at h
        cases hb : Nat.ble c 1 && (!isLd op || Nat.beq c 1) with
        | false => rw [hb] at h; cases h
        | true =>
          rw [hb] at h
          simp only [cond_true] at h
          simp only [Bool.and_eq_true, Bool.or_eq_true, Bool.not_eq_true'] at hb
          have hld : isLd op = true → c = 1 := fun e => by
            rcases hb.2 with k | k
            · rw [e] at k; cases k
            · exact Nat.eq_of_beq_eq_true k
          have hle := Nat.le_of_ble_eq_true hb.1
          cases b with
          | false =>
            simp only [Option.some.injEq, Prod.mk.injEq] at h
            obtain ⟨rfl, rfl⟩ := h
            refine ⟨_, σ, m, t, ?_, .refl _, .refl _, .opt _ _ _ (.junk .junk), hR⟩
            simp only [dStep, hg', hq, cond_true]
            exact ⟨hld, hle, by simp, by simp, trivial⟩
          | true =>
            simp only at h
            cases ho : optB (evE gl fe) op.gods with
            | false => simp [ho] at h
            | true =>
              simp only [ho, cond_true] at h
              split at h
              · rename_i u hu
                cases h
                obtain ⟨h1, h2⟩ := eQ_sound hR (fun y _ => vr_gEv hev y) hu
                refine ⟨_, σ, m, t, ?_, .refl _, .refl _, .opt _ _ _ h2, hR⟩
                simp only [dStep, hg', hq, cond_true]
                exact ⟨hld, hle, fun _ => ⟨optB_all (op := []) (fun y _ => hev y) ho, h1⟩, trivial, trivial⟩
              · cases h
      | false =>
        simp only [hq, cond_false] at h
        split at h
        · rename_i f args
          cases hb : Nat.beq c 1 with
          | false => rw [hb] at h; cases h
          | true =>
            rw [hb] at h
            simp only [cond_true] at h
            have hb := Nat.eq_of_beq_eq_true hb
            cases b with
            | false =>
              simp only [Option.some.injEq, Prod.mk.injEq] at h
              obtain ⟨rfl, rfl⟩ := h
              refine ⟨_, σ, m, t, ?_, .refl _, .refl _, .opt _ _ _ (.junk .junk), hR⟩
              simp only [dStep, hg', hq, cond_false]
              exact ⟨hb, trivial, _, rfl, by simp⟩
            | true =>
              simp only at h
              cases ho : optB (evE gl fe) args with
              | false => simp [ho] at h
              | true =>
                simp only [ho, cond_true] at h
                split at h
                · rename_i u hu
                  cases h
                  have := eIso_sound hc hR (vrl_map (args := args) (fun y _ => vr_evU (hev y))) hu
                  refine ⟨_, σ, m, t, ?_, .refl _, .refl _, .opt _ _ _ (cl_vr _ (eIso_cl hu)), hR⟩
                  simp only [dStep, hg', hq, cond_false]
                  exact ⟨hb, trivial, u, rfl, fun _ => ⟨optB_all (op := []) (fun y _ => hev y) ho, this⟩⟩
                · cases h
        · cases h
theorem eDrw_sound {call : Call} (hc : CallOk P gl call) : ∀ (l : List CI) (cs : List Nat) {fe fe' fr : Fr} {es es' : ES} {m t : List Nat} {σ : St} {K : Fr → St → Prop}, eDrw call gl l cs fe es = some (fe', es') → RS σb gl m t es σ → FR m t fe fr →
    (∀ m' t' fr' σ', Sub m m' → Sub t t' → FR m' t' fe' fr' → RS σb gl m' t' es' σ' → K fr' σ') → aDrw P l cs fr σ K
  | [], _, fe, fe', fr, es, es', m, t, σ, K, h, hR, hF, hK => by
    simp only [eDrw, Option.some.injEq, Prod.mk.injEq] at h
    obtain ⟨rfl, rfl⟩ := h
    simp only [aDrw]
    exact hK m t fr σ (.refl _) (.refl _) hF hR
  | _ :: _, [], fe, fe', fr, es, es', m, t, σ, K, h, hR, hF, hK => by simp only [eDrw] at h; cases h
  | i :: r, c :: cs, fe, fe', fr, es, es', m, t, σ, K, h, hR, hF, hK => by
    simp only [eDrw] at h
    split at h
    · rename_i v es1 hv
      have key : ∀ β, (makesBox i.op = true → σ.box β = none) → ∃ v' σ', dStep P c β i fr σ v' σ' ∧ aDrw P r cs (putF i.d v' fr) σ' K := by
        intro β hβ
        obtain ⟨v', σ', m', t', k1, k2, k3, k4, k5⟩ := eStep_sound hc hR hF hv hβ
        refine ⟨v', σ', k1, eDrw_sound hc r cs h k5 ((hF.mono k2 k3).put k4) (fun m2 t2 fr2 σ2 q1 q2 q3 q4 => hK m2 t2 fr2 σ2 (k2.trans q1) (k3.trans q2) q3 q4)⟩
      simp only [aDrw]
      cases hm : makesBox i.op with
      | true => simp only [cond_true]; exact fun β hβ => key β (fun _ => hβ)
      | false =>
        simp only [cond_false]
        cases makesTip c i.op with
        | true => exact fun β _ => key β (fun e => by rw [hm] at e; cases e)
        | false => exact key 0 (fun e => by rw [hm] at e; cases e)
    · cases h
/-- What is known behind a piece of code. -/
def EQ (σb : St) (gl : List (Nat × List AV)) (m t : List Nat) (e : Exit) (fe : Fr) (es : ES) : Exit → Fr → St → Prop := fun e2 f2 σ2 =>
  e2 = e ∧ ∃ m' t', Sub m m' ∧ Sub t t' ∧ FR m' t' fe f2 ∧ RS σb gl m' t' es σ2
theorem eC_sound {call : Call} {k : Nat} (hc : CallOk P gl call) : ∀ (cc : CC) {fe fe' fr : Fr} {es es' : ES} {m t : List Nat} {σ : St} {e : Exit} {Q : Exit → Fr → St → Prop}, eC call gl k cc fe es = some (e, fe', es') → RS σb gl m t es σ → FR m t fe fr →
    (∀ f2 σ2, EQ σb gl m t e fe' es' e f2 σ2 → Q e f2 σ2) → aC P cc fr σ Q := by
  intro cc
  induction cc with
  | skip =>
    intro fe fe' fr es es' m t σ e Q h hR hF hQ
    simp only [eC, Option.some.injEq, Prod.mk.injEq] at h
    obtain ⟨rfl, rfl, rfl⟩ := h
    exact hQ _ _ ⟨rfl, m, t, .refl _, .refl _, hF, hR⟩
  | ops l =>
    intro fe fe' fr es es' m t σ e Q h hR hF hQ
    simp only [eC] at h
    split at h
    · rename_i f1 e1 he
      simp only [Option.some.injEq, Prod.mk.injEq] at h
      obtain ⟨rfl, rfl, rfl⟩ := h
      exact eOps_sound hc l he hR hF (fun m' t' fr' σ' k1 k2 k3 k4 => hQ _ _ ⟨rfl, m', t', k1, k2, k3, k4⟩)
    · cases h
  | drw l cls =>
    intro fe fe' fr es es' m t σ e Q h hR hF hQ
    simp only [eC] at h
    split at h
    · rename_i f1 e1 he
      simp only [Option.some.injEq, Prod.mk.injEq] at h
      obtain ⟨rfl, rfl, rfl⟩ := h
      exact eDrw_sound hc l cls he hR hF (fun m' t' fr' σ' k1 k2 k3 k4 => hQ _ _ ⟨rfl, m', t', k1, k2, k3, k4⟩)
    · cases h
  | any t =>
    intro fe fe' fr es es' m t σ e Q h hR hF hQ
    simp only [eC] at h
    cases h
  | inv l dp =>
    intro fe fe' fr es es' m t σ e Q h hR hF hQ
    simp only [eC] at h
    cases h
  | seq x y ihx ihy =>
    intro fe fe' fr es es' m t σ e Q h hR hF hQ
    simp only [eC] at h
    simp only [aC]
    cases hx : eC call gl k x fe es with
    | none => rw [hx] at h; cases h
    | some r =>
      obtain ⟨e1, f1, s1⟩ := r
      rw [hx] at h
      refine ihx hx hR hF (fun f2 σ2 hq => ?_)
      obtain ⟨_, m', t', k1, k2, k3, k4⟩ := hq
      cases e1 with
      | normal =>
        simp only at h
        exact ihy h k4 k3 (fun f3 σ3 hq3 => hQ _ _ (by obtain ⟨q0, m2, t2, q1, q2, q3, q4⟩ := hq3; exact ⟨q0, m2, t2, k1.trans q1, k2.trans q2, q3, q4⟩))
      | _ =>
        simp only [Option.some.injEq, Prod.mk.injEq] at h
        obtain ⟨rfl, rfl, rfl⟩ := h
        exact hQ _ _ ⟨rfl, m', t', k1, k2, k3, k4⟩
  | cond c x y ihx ihy =>
    intro fe fe' fr es es' m t σ e Q h hR hF hQ
    simp only [eC] at h
    simp only [aC]
    have hv := evE_vr hR hF c
    split at h
    · rename_i ec
      rw [ec] at hv
      rw [hv.bool_inv]
      exact ⟨fun _ => ihx h hR hF hQ, by simp⟩
    · rename_i ec
      rw [ec] at hv
      rw [hv.bool_inv]
      exact ⟨by simp, fun _ => ihy h hR hF hQ⟩
    · cases h
  | block id x ih =>
    intro fe fe' fr es es' m t σ e Q h hR hF hQ
    simp only [eC] at h
    simp only [aC]
    cases hx : eC call gl k x fe es with
    | none => rw [hx] at h; cases h
    | some r =>
      obtain ⟨e1, f1, s1⟩ := r
      rw [hx] at h
      refine ih hx hR hF (fun f2 σ2 hq => ?_)
      obtain ⟨_, m', t', k1, k2, k3, k4⟩ := hq
      cases e1 with
      | exit j =>
        simp only at h ⊢
        cases hj : Nat.beq j id with
        | true =>
          rw [hj] at h
          simp only [cond_true, Option.some.injEq, Prod.mk.injEq] at h
          obtain ⟨rfl, rfl, rfl⟩ := h
          rw [if_pos (Nat.eq_of_beq_eq_true hj)]
          exact hQ _ _ ⟨rfl, m', t', k1, k2, k3, k4⟩
        | false =>
          rw [hj] at h
          simp only [cond_false, Option.some.injEq, Prod.mk.injEq] at h
          obtain ⟨rfl, rfl, rfl⟩ := h
          rw [if_neg (beq_false_ne hj)]
          exact hQ _ _ ⟨rfl, m', t', k1, k2, k3, k4⟩
      | _ =>
        simp only [Option.some.injEq, Prod.mk.injEq] at h
        obtain ⟨rfl, rfl, rfl⟩ := h
        exact hQ _ _ ⟨rfl, m', t', k1, k2, k3, k4⟩
  | scope x ih =>
    intro fe fe' fr es es' m t σ e Q h hR hF hQ
    simp only [eC] at h
    simp only [aC]
    cases hx : eC call gl k x fe es with
    | none => rw [hx] at h; cases h
    | some r =>
      obtain ⟨e1, f1, s1⟩ := r
      rw [hx] at h
      refine ih hx hR hF (fun f2 σ2 hq => ?_)
      obtain ⟨_, m', t', k1, k2, k3, k4⟩ := hq
      cases e1 with
      | goto l => simp only at h; cases h
      | _ =>
        simp only [Option.some.injEq, Prod.mk.injEq] at h
        obtain ⟨rfl, rfl, rfl⟩ := h
        exact hQ _ _ ⟨rfl, m', t', k1, k2, k3, k4⟩
  | loop x ih =>
    intro fe fe' fr es es' m t σ e Q h hR hF hQ
    simp only [eC] at h
    simp only [aC]
    -- what is left of the rounds is the measure
    refine ⟨[], Nat × Fr × St, fun a => ddF a.2.1, fun a => a.2.2, fun a => ∃ f0 s0 m0 t0, Sub m m0 ∧ Sub t t0 ∧ iter a.1 (fun fr es => eC call gl k x fr es) f0 s0 = some (e, fe', es') ∧ RS σb gl m0 t0 s0 a.2.2 ∧ FR m0 t0 f0 a.2.1, fun a => a.1, (k, fr, σ),
      ⟨fe, es, m, t, .refl _, .refl _, h, hR, hF⟩, subF_dd fr, St.le_refl _, ?_⟩
    rintro ⟨n, fr1, σ1⟩ ⟨f0, s0, m0, t0, k1, k2, k3, k4, k5⟩
    cases n with
    | zero => simp [iter] at k3
    | succ n =>
      simp only [iter] at k3
      cases hx : eC call gl k x f0 s0 with
      | none => rw [hx] at k3; cases k3
      | some r =>
        obtain ⟨e1, f1, s1⟩ := r
        rw [hx] at k3
        refine ih hx k4 k5.dd (fun f2 σ2 hq => ?_)
        obtain ⟨_, m', t', q1, q2, q3, q4⟩ := hq
        cases e1 with
        | normal =>
          simp only at k3 ⊢
          exact ⟨(n, f2, σ2), ⟨f1, s1, m', t', k1.trans q1, k2.trans q2, k3, q4, q3⟩, subF_dd f2, St.le_refl _, Nat.lt_succ_self n⟩
        | _ =>
          simp only [Option.some.injEq, Prod.mk.injEq] at k3
          obtain ⟨rfl, rfl, rfl⟩ := k3
          exact hQ _ _ ⟨rfl, m', t', k1.trans q1, k2.trans q2, q3, q4⟩
  | keep ts x ih =>
    intro fe fe' fr es es' m t σ e Q h hR hF hQ
    simp only [eC] at h
    simp only [aC]
    exact ih h hR (hF.keep ts) hQ
  | frz t es0 x ih =>
    intro fe fe' fr es es' m t σ e Q h hR hF hQ
    simp only [eC] at h
    cases h
  | rfun x ps asg body =>
    intro fe fe' fr es es' m t σ e Q h hR hF hQ
    simp only [eC] at h
    cases h
  | exit id =>
    intro fe fe' fr es es' m t σ e Q h hR hF hQ
    simp only [eC, Option.some.injEq, Prod.mk.injEq] at h
    obtain ⟨rfl, rfl, rfl⟩ := h
    exact hQ _ _ ⟨rfl, m, t, .refl _, .refl _, hF, hR⟩
  | ret =>
    intro fe fe' fr es es' m t σ e Q h hR hF hQ
    simp only [eC, Option.some.injEq, Prod.mk.injEq] at h
    obtain ⟨rfl, rfl, rfl⟩ := h
    exact hQ _ _ ⟨rfl, m, t, .refl _, .refl _, hF, hR⟩
theorem resE_sound (hR : RS σb gl m t es σ) (hF : FR m t fe fr) : ∀ (rv : List RV) {vs : List AV}, resE fe es rv = some vs → rvsS σ fr rv ∧ VRL m t vs (rv.map (rvV σ fr))
  | [], vs, h => by simp only [resE, Option.some.injEq] at h; subst h; exact ⟨trivial, .nil⟩
  | .t s :: r, vs, h => by
    simp only [resE] at h
    split at h
    · rename_i us hu
      cases h
      obtain ⟨h1, h2⟩ := resE_sound hR hF r hu
      exact ⟨⟨trivial, h1⟩, .cons (hF s) h2⟩
    · cases h
  | .cl s sz :: r, vs, h => by
    simp only [resE] at h
    split at h
    · rename_i v us hv hu
      cases h
      obtain ⟨h1, h2⟩ := resE_sound hR hF r hu
      have hs := hF s
      split at hv
      · rename_i i o e
        rw [e] at hs
        obtain ⟨β, e2, hm⟩ := hs.ptr_inv
        split at hv
        · rename_i cs hb
          obtain ⟨β', ds, k1, k2, k3⟩ := hR.bx _ _ hb
          rw [hm] at k1; cases k1
          obtain ⟨l1, l2⟩ := lds_inv k3 hv
          refine ⟨⟨?_, h1⟩, .cons ?_ h2⟩
          · simp only [rvS, e2, pcells, k2, Option.map_some]; exact l1
          · simp only [rvV, e2, pcells, k2, Option.map_some]; exact l2
        · cases hv
      · rename_i cs e
        rw [e] at hs
        obtain ⟨ds, e2, hd⟩ := hs.el_inv
        obtain ⟨l1, l2⟩ := lds_inv hd hv
        refine ⟨⟨?_, h1⟩, .cons ?_ h2⟩
        · simp only [rvS, e2, pcells]; exact l1
        · simp only [rvV, e2, pcells]; exact l2
      · cases hv
    · cases h
theorem resAV_vr {vs us : List AV} (h : VRL m t vs us) : VR m t (resAV vs) (resAV us) := by
  cases vs with
  | nil => rw [h.nil_inv]; exact .tup _ _ rfl (by simp)
  | cons a as =>
    obtain ⟨b, bs, rfl, h1, h2⟩ := h.cons_inv
    cases as with
    | nil => rw [h2.nil_inv]; exact h1
    | cons a2 as2 =>
      obtain ⟨b2, bs2, rfl, h3, h4⟩ := h2.cons_inv
      exact .tup _ _ h.1 h.2
theorem look_below {α : Type} {n i : Nat} {x : α} : ∀ (l : List (Nat × α)), look i (below n l) = some x → i < n ∧ look i l = some x
  | [], h => by simp [below, look] at h
  | (j, y) :: r, h => by
    simp only [below] at h
    cases hj : Nat.blt j n with
    | true =>
      have hjn : j < n := Nat.le_of_ble_eq_true hj
      rw [hj] at h
      simp only [cond_true, look] at h ⊢
      cases hi : Nat.beq i j with
      | true => rw [hi] at h; have := Nat.eq_of_beq_eq_true hi; subst this; exact ⟨hjn, h⟩
      | false => rw [hi] at h; exact look_below r h
    | false =>
      rw [hj] at h
      simp only [cond_false] at h
      obtain ⟨h1, h2⟩ := look_below r h
      have hne : i ≠ j := by
        rintro rfl
        have : Nat.blt i n = true := Nat.ble_eq_true_of_le h1
        rw [this] at hj; cases hj
      simp only [look]
      cases hi : Nat.beq i j with
      | true => exact (hne (Nat.eq_of_beq_eq_true hi)).elim
      | false => exact ⟨h1, h2⟩
theorem RS.trim (h : RS σb gl m t es' σ) (es0 : ES) (v : AV) : RS σb gl m t (trim es0 es' v) σ := by
  unfold Go.Abs.trim
  cases hasP v with
  | true => exact h
  | false => exact ⟨fun i cs hl => h.bx i cs (look_below _ hl).2, h.tp, h.nb, h.nt, h.mi, h.ti, h.md, h.td, h.le, h.mb, h.tb, h.gl⟩
theorem eF_ok {X : Call} (hX : CallOk P gl X) {T : List (Nat × CF)} {k : Nat} (hT : ∀ f cf, look f T = some cf → fB P f cf = true) : ∀ n, CallOk P gl (eF X T gl k n)
  | 0 => fun f as es v es' σb m t σ as' h => by simp [eF] at h
  | n + 1 => fun f as es v es' σb m t σ as' h hR hv => by
    have hc := eF_ok hX (k := k) hT n
    simp only [eF] at h
    split at h
    · rename_i r hr
      cases h
      exact hX _ _ _ _ _ σb m t σ as' hr hR hv
    split at h
    · cases h
    · rename_i cf hcf
      cases hb : Nat.ble as.length cf.n with
      | false => rw [hb] at h; cases h
      | true =>
        rw [hb] at h
        simp only [cond_true] at h
        split at h
        · rename_i e fr1 s1 he
          cases hend : isEnd e with
          | false => rw [hend] at h; cases h
          | true =>
            rw [hend] at h
            simp only [cond_true] at h
            split at h
            · rename_i vs hvs
              simp only [Option.some.injEq, Prod.mk.injEq] at h
              obtain ⟨rfl, rfl⟩ := h
              refine AC_intro cf (hT f cf hcf) (by rw [hv.1]; exact Nat.le_of_ble_eq_true hb) ?_
              refine eC_sound hc cf.body he hR (FR.init 0 hv) (fun f2 σ2 hq => ?_)
              obtain ⟨_, m', t', q1, q2, q3, q4⟩ := hq
              obtain ⟨r1, r2⟩ := resE_sound q4 q3 cf.res hvs
              refine ⟨?_, r1, _, σ2, wk_refl _, St.le_refl _, m', t', q1, q2, resAV_vr r2, q4.trim _ _⟩
              cases e <;> simp_all [isEnd]
            · cases h
        · cases h
      -- nothing else
/-- A closed call. -/
theorem closed {X : Call} (hX : CallOk P gl X) {T : List (Nat × CF)} {k n f : Nat} {as : List AV} {v w : AV} {es : ES} (hT : ∀ f cf, look f T = some cf → fB P f cf = true) (hcl : clL as = true)
    (h : eF X T gl k n f as ES.new = some (v, es)) (hn : norm v = some w) (hg : ∀ k cs, look k gl = some cs → clL cs = true) (σ : St) (hσ : ∀ k cs, look k gl = some cs → σ.glob k = some cs) : AC P f as σ (fun r s => r = w ∧ s = σ) := by
  have hR : RS σ gl [] [] ES.new σ := ⟨fun i cs h => by simp [ES.new, look] at h, fun i x h => by simp [ES.new, look] at h, rfl, rfl, fun i j β h => by simp at h, fun i j β h => by simp at h, fun i β h => by simp at h, fun i β h => by simp at h, St.le_refl _, fun i β h => by simp at h, fun i β h => by simp at h,
    fun k cs h => ⟨hσ k cs h, hg k cs h⟩⟩
  refine AC.weaken (eF_ok hX hT n f as ES.new v es σ [] [] σ as h hR (clL_vr _ hcl)) ?_
  rintro r' s ⟨m', t', h1, h2, h3, h4⟩
  exact ⟨w, σ, norm_wk _ h3 hn, h4.le, rfl, rfl⟩
def isTrue : AV → Bool
  | .bool b => b
  | _ => false
end
end Go.Abs
