/-
  A closed call evaluated: the evaluator, and that what it finds is so. The evaluator's boxes and tips bear numbers of its own; 'VR' ties them to whatever the run picks.
-/
import Derived.Test.YtnmlhilckjmhnaaDoorAbs13
namespace Go.Abs

/-! ### Lists related one by one -/
def F2 {α β : Type} (R : α → β → Prop) (cs : List α) (ds : List β) : Prop := ds.length = cs.length ∧ ∀ (i : Nat) (c : α) (d : β), cs[i]? = some c → ds[i]? = some d → R c d

section
variable {α β : Type} {R : α → β → Prop}
theorem F2.nil : F2 R [] [] := ⟨rfl, fun i c v h => by simp at h⟩
theorem F2.cons {a : α} {v : β} {as : List α} {vs : List β} (h : R a v) (hs : F2 R as vs) : F2 R (a :: as) (v :: vs) := by
  refine ⟨by simp [hs.1], fun i c u hc hu => ?_⟩
  cases i with
  | zero => simp at hc hu; subst hc; subst hu; exact h
  | succ i => simp at hc hu; exact hs.2 i c u hc hu
theorem F2.cons_inv {a : α} {as : List α} {l : List β} (h : F2 R (a :: as) l) : ∃ v vs, l = v :: vs ∧ R a v ∧ F2 R as vs := by
  cases l with
  | nil => have := h.1; simp at this
  | cons v vs =>
    refine ⟨v, vs, rfl, h.2 0 a v rfl rfl, by have := h.1; simpa using this, fun i c u hc hu => h.2 (i + 1) c u (by simpa using hc) (by simpa using hu)⟩
theorem F2.nil_inv {l : List β} (h : F2 R [] l) : l = [] := List.eq_nil_of_length_eq_zero h.1
theorem F2.append {a b : List α} {x y : List β} (h : F2 R a x) (k : F2 R b y) : F2 R (a ++ b) (x ++ y) := by
  refine ⟨by simp [h.1, k.1], fun i c v hc hv => ?_⟩
  rcases Nat.lt_or_ge i a.length with hi | hi
  · rw [List.getElem?_append_left hi] at hc
    rw [List.getElem?_append_left (by have := h.1; omega)] at hv
    exact h.2 i c v hc hv
  · rw [List.getElem?_append_right hi] at hc
    rw [List.getElem?_append_right (by have := h.1; omega), h.1] at hv
    exact k.2 _ c v hc hv
theorem F2.drop {a : List α} {x : List β} (h : F2 R a x) (n : Nat) : F2 R (a.drop n) (x.drop n) := by
  refine ⟨by simp [h.1], fun i c v hc hv => ?_⟩
  rw [List.getElem?_drop] at hc hv
  exact h.2 _ c v hc hv
theorem F2.take {a : List α} {x : List β} (h : F2 R a x) (n : Nat) : F2 R (a.take n) (x.take n) := by
  refine ⟨by simp [h.1], fun i c v hc hv => ?_⟩
  rw [List.getElem?_take] at hc hv
  split at hc
  · rename_i hlt; rw [if_pos hlt] at hv; exact h.2 _ c v hc hv
  · cases hc
theorem F2.get {a : List α} {x : List β} (h : F2 R a x) {i : Nat} {c : α} (hc : a[i]? = some c) : ∃ v, x[i]? = some v ∧ R c v := by
  have hi : i < a.length := (List.getElem?_eq_some_iff.1 hc).1
  have hx : i < x.length := by have := h.1; omega
  exact ⟨x[i], List.getElem?_eq_getElem hx, h.2 i c _ hc (List.getElem?_eq_getElem hx)⟩
theorem F2.mono {R' : α → β → Prop} (hr : ∀ a b, R a b → R' a b) {a : List α} {x : List β} (h : F2 R a x) : F2 R' a x := ⟨h.1, fun i c v hc hv => hr _ _ (h.2 i c v hc hv)⟩
end

inductive VR (m t : List Nat) : AV → AV → Prop where
  | junk (v : AV) : VR m t .junk v
  | bool (b : Bool) : VR m t (.bool b) (.bool b)
  | int (k : IntKind) (n : Int) : VR m t (.int k n) (.int k n)
  | str (l : List UInt8) : VR m t (.str l) (.str l)
  | nils : VR m t .nils .nils
  | sl (f : Bool) (n : Nat) (cs ds : List AV) : ds.length = cs.length → (∀ (i : Nat) (c d : AV), cs[i]? = some c → ds[i]? = some d → VR m t c d) → VR m t (.sl f n cs) (.sl f n ds)
  | tsl (i τ n : Nat) (cs ds : List AV) : t[i]? = some τ → ds.length = cs.length → (∀ (i : Nat) (c d : AV), cs[i]? = some c → ds[i]? = some d → VR m t c d) → VR m t (.tsl i n cs) (.tsl τ n ds)
  | agg (cs ds : List AV) : ds.length = cs.length → (∀ (i : Nat) (c d : AV), cs[i]? = some c → ds[i]? = some d → VR m t c d) → VR m t (.agg cs) (.agg ds)
  | tup (cs ds : List AV) : ds.length = cs.length → (∀ (i : Nat) (c d : AV), cs[i]? = some c → ds[i]? = some d → VR m t c d) → VR m t (.tup cs) (.tup ds)
  | ptr (i β o : Nat) : m[i]? = some β → VR m t (.ptr i o) (.ptr β o)
  | nilp : VR m t .nilp .nilp
  | el (cs ds : List AV) : ds.length = cs.length → (∀ (i : Nat) (c d : AV), cs[i]? = some c → ds[i]? = some d → VR m t c d) → VR m t (.el cs) (.el ds)
  | ifc (y : Nat) (v u : AV) : VR m t v u → VR m t (.ifc y v) (.ifc y u)
  | nili : VR m t .nili .nili
  | fn (f : Nat) (cs ds : List AV) : ds.length = cs.length → (∀ (i : Nat) (c d : AV), cs[i]? = some c → ds[i]? = some d → VR m t c d) → VR m t (.fn f cs) (.fn f ds)
  | nilf : VR m t .nilf .nilf
  | opt (c : Bool) (v u : AV) : VR m t v u → VR m t (.opt c v) (.opt c u)

abbrev VRL (m t : List Nat) := F2 (VR m t)

theorem VR.mono {m t m' t' : List Nat} (hm : ∀ (i x : Nat), m[i]? = some x → m'[i]? = some x) (ht : ∀ (i x : Nat), t[i]? = some x → t'[i]? = some x) {a b : AV} (h : VR m t a b) : VR m' t' a b := by
  induction h with
  | junk v => exact .junk v
  | bool b => exact .bool b
  | int k n => exact .int k n
  | str l => exact .str l
  | nils => exact .nils
  | sl f n cs ds h1 h2 ih => exact .sl f n cs ds h1 ih
  | tsl i τ n cs ds h0 h1 h2 ih => exact .tsl i τ n cs ds (ht _ _ h0) h1 ih
  | agg cs ds h1 h2 ih => exact .agg cs ds h1 ih
  | tup cs ds h1 h2 ih => exact .tup cs ds h1 ih
  | ptr i β o h => exact .ptr i β o (hm _ _ h)
  | nilp => exact .nilp
  | el cs ds h1 h2 ih => exact .el cs ds h1 ih
  | ifc y v u h ih => exact .ifc y v u ih
  | nili => exact .nili
  | fn f cs ds h1 h2 ih => exact .fn f cs ds h1 ih
  | nilf => exact .nilf
  | opt c v u h ih => exact .opt c v u ih

section
variable {m t : List Nat}
theorem VR.bool_inv {b : Bool} {v : AV} (h : VR m t (.bool b) v) : v = .bool b := by cases h; rfl
theorem VR.int_inv {k : IntKind} {n : Int} {v : AV} (h : VR m t (.int k n) v) : v = .int k n := by cases h; rfl
theorem VR.str_inv {l : List UInt8} {v : AV} (h : VR m t (.str l) v) : v = .str l := by cases h; rfl
theorem VR.agg_inv {cs : List AV} {v : AV} (h : VR m t (.agg cs) v) : ∃ ds, v = .agg ds ∧ VRL m t cs ds := by cases h with | agg _ ds h1 h2 => exact ⟨ds, rfl, h1, h2⟩
theorem VR.tup_inv {cs : List AV} {v : AV} (h : VR m t (.tup cs) v) : ∃ ds, v = .tup ds ∧ VRL m t cs ds := by cases h with | tup _ ds h1 h2 => exact ⟨ds, rfl, h1, h2⟩
theorem VR.el_inv {cs : List AV} {v : AV} (h : VR m t (.el cs) v) : ∃ ds, v = .el ds ∧ VRL m t cs ds := by cases h with | el _ ds h1 h2 => exact ⟨ds, rfl, h1, h2⟩
theorem VR.fn_inv {f : Nat} {cs : List AV} {v : AV} (h : VR m t (.fn f cs) v) : ∃ ds, v = .fn f ds ∧ VRL m t cs ds := by cases h with | fn _ _ ds h1 h2 => exact ⟨ds, rfl, h1, h2⟩
theorem VR.ptr_inv {i o : Nat} {v : AV} (h : VR m t (.ptr i o) v) : ∃ β, v = .ptr β o ∧ m[i]? = some β := by cases h with | ptr _ β _ h => exact ⟨β, rfl, h⟩
theorem VR.tsl_inv {i n : Nat} {cs : List AV} {v : AV} (h : VR m t (.tsl i n cs) v) : ∃ τ ds, v = .tsl τ n ds ∧ t[i]? = some τ ∧ VRL m t cs ds := by cases h with | tsl _ τ _ _ ds h0 h1 h2 => exact ⟨τ, ds, rfl, h0, h1, h2⟩
theorem VR.opt_inv {c : Bool} {a v : AV} (h : VR m t (.opt c a) v) : ∃ u, v = .opt c u ∧ VR m t a u := by cases h with | opt _ _ u h => exact ⟨u, rfl, h⟩
theorem VR.slv_inv {a v : AV} {n : Nat} {cs : List AV} (h : VR m t a v) (ha : slv a = some (n, cs)) : ∃ ds, slv v = some (n, ds) ∧ VRL m t cs ds := by
  cases h <;> simp [slv] at ha
  case nils => obtain ⟨rfl, rfl⟩ := ha; exact ⟨[], rfl, .nil⟩
  case sl f ds h1 h2 => obtain ⟨rfl, rfl⟩ := ha; exact ⟨_, rfl, h1, h2⟩
  case tsl i τ ds h0 h1 h2 => obtain ⟨rfl, rfl⟩ := ha; exact ⟨_, rfl, h1, h2⟩

mutual
def cl : AV → Bool
  | .junk | .bool _ | .int _ _ | .str _ | .nils | .nilp | .nili | .nilf => true
  | .sl _ _ cs => clL cs
  | .agg cs => clL cs
  | .tup cs => clL cs
  | .el cs => clL cs
  | .ifc _ v => cl v
  | .fn _ cs => clL cs
  | .opt _ v => cl v
  | .tsl _ _ _ | .ptr _ _ | .yld _ | .psl _ _ _ => false
def clL : List AV → Bool
  | [] => true
  | v :: vs => cl v && clL vs
end
mutual
theorem cl_vr : ∀ (v : AV), cl v = true → VR m t v v
  | .junk, _ => .junk _
  | .bool _, _ => .bool _
  | .int _ _, _ => .int _ _
  | .str _, _ => .str _
  | .nils, _ => .nils
  | .nilp, _ => .nilp
  | .nili, _ => .nili
  | .nilf, _ => .nilf
  | .sl f n cs, h => have := clL_vr cs h; .sl f n cs cs this.1 this.2
  | .agg cs, h => have := clL_vr cs h; .agg cs cs this.1 this.2
  | .tup cs, h => have := clL_vr cs h; .tup cs cs this.1 this.2
  | .el cs, h => have := clL_vr cs h; .el cs cs this.1 this.2
  | .ifc y v, h => .ifc y v v (cl_vr v h)
  | .fn f cs, h => have := clL_vr cs h; .fn f cs cs this.1 this.2
  | .opt c v, h => .opt c v v (cl_vr v h)
  | .tsl _ _ _, h => by simp [cl] at h
  | .ptr _ _, h => by simp [cl] at h
  | .yld _, h => by simp [cl] at h
  | .psl _ _ _, h => by simp [cl] at h
theorem clL_vr : ∀ (vs : List AV), clL vs = true → VRL m t vs vs
  | [], _ => .nil
  | v :: vs, h => by
    simp only [clL, Bool.and_eq_true] at h
    exact .cons (cl_vr v h.1) (clL_vr vs h.2)
end

/-! ### Quiet operations that don't read the state -/
def ixE : AV → Option Nat
  | .int _ (.ofNat n) => some n
  | _ => none
theorem ixE_inv {a v : AV} {n : Nat} (h : VR m t a v) (ha : ixE a = some n) : isIntA v ∧ intOfA v = (n : Int) := by
  unfold ixE at ha
  split at ha
  · cases ha; rw [h.int_inv]; exact ⟨trivial, rfl⟩
  · cases ha
def bndE (ρ : Od → AV) (d : Nat) : Option Od → Option Nat
  | none => some d
  | some y => ixE (ρ y)
def lds (cs : List AV) (o : Nat) : Option Nat → Option AV
  | none => cs[o]?
  | some n => bif Nat.ble (o + n) cs.length then some (.agg ((cs.drop o).take n)) else none
theorem lds_inv {cs ds : List AV} {o : Nat} {sz : Option Nat} {v : AV} (h : VRL m t cs ds) (hl : lds cs o sz = some v) : ldS ds o sz ∧ VR m t v (ldV ds o sz) := by
  cases sz with
  | none =>
    simp only [lds] at hl
    obtain ⟨u, hu, hr⟩ := h.get hl
    simp only [ldS, ldV, hu, Option.getD_some]
    exact ⟨(List.getElem?_eq_some_iff.1 hu).1, hr⟩
  | some n =>
    simp only [lds] at hl
    cases hb : Nat.ble (o + n) cs.length with
    | false => rw [hb] at hl; cases hl
    | true =>
      rw [hb] at hl
      simp only [cond_true, Option.some.injEq] at hl
      subst hl
      have := Nat.le_of_ble_eq_true hb
      have hp := (h.drop o).take n
      exact ⟨by simp only [ldS]; rw [h.1]; exact this, .agg _ _ hp.1 hp.2⟩

def pickO : AV → Option AV
  | .bool p => some (.bool p)
  | .opt true (.bool p) => some (.bool p)
  | _ => none
def intSB (op : BinOp) (k k' : IntKind) (b : Int) : Bool :=
  match op with
  | .shl | .shr => match b with | .ofNat _ => true | _ => false
  | .quo | .rem => decide (k = k') && !(decide (b = 0))
  | _ => decide (k = k')
theorem intSB_inv {op : BinOp} {k k' : IntKind} {b : Int} (h : intSB op k k' b = true) : intS op k k' b := by
  unfold intSB at h
  unfold intS
  cases op <;> simp_all <;> (split at h <;> simp_all)
def strSB (op : BinOp) (a b : List UInt8) : Bool :=
  match op with
  | .add => Nat.ble (a.length + b.length) 1000000
  | .eql | .neq | .lss | .leq | .gtr | .geq => true
  | _ => false
theorem strSB_inv {op : BinOp} {a b : List UInt8} (h : strSB op a b = true) : strS op a b := by
  unfold strSB at h
  unfold strS
  cases op <;> simp_all
  omega
def fitL (es : Nat) : List AV → Bool
  | _ => true
def partsE (ρ : Od → AV) (n : Nat) : List (Nat × Nat × Od) → Bool
  | [] => true
  | (o, s, x) :: r => (ρ x).fits && Nat.beq (ρ x).cells.length s && Nat.ble (o + s) n && partsE ρ n r

theorem VR.fits {a v : AV} (h : VR m t a v) (ha : a.fits = true) : v.fits = true := by
  cases h <;> first | rfl | (simp [AV.fits, AV.one] at ha)
theorem VR.cells {a v : AV} (h : VR m t a v) (ha : a.fits = true) : VRL m t a.cells v.cells := by
  cases h <;> simp only [AV.cells] <;> try (first | exact .cons (.bool _) .nil | exact .cons (.int _ _) .nil | exact .cons (.str _) .nil | exact .cons .nils .nil | exact .cons .nilp .nil | exact .cons .nili .nil | exact .cons .nilf .nil)
  case junk => simp [AV.fits, AV.one] at ha
  case sl f n cs ds h1 h2 => exact .cons (.sl _ _ _ _ h1 h2) .nil
  case tsl i τ n cs ds h0 h1 h2 => exact .cons (.tsl _ _ _ _ _ h0 h1 h2) .nil
  case agg cs ds h1 h2 => exact ⟨h1, h2⟩
  case tup => simp [AV.fits, AV.one] at ha
  case ptr i β o h => exact .cons (.ptr _ _ _ h) .nil
  case el cs ds h1 h2 => exact .cons (.el _ _ h1 h2) .nil
  case ifc y v u h => exact .cons (.ifc _ _ _ h) .nil
  case fn f cs ds h1 h2 => exact .cons (.fn _ _ _ h1 h2) .nil
  case opt => simp [AV.fits, AV.one] at ha

theorem parts_vr {ρe ρ : Od → AV} : ∀ (ps : List (Nat × Nat × Od)) (z z' : List AV), (∀ x ∈ ps.map (·.2.2), VR m t (ρe x) (ρ x)) → partsE ρe z.length ps = true → VRL m t z z' → partsS ρ z'.length ps ∧ VRL m t (putParts ρe z ps) (putParts ρ z' ps)
  | [], z, z', _, _, hz => ⟨trivial, hz⟩
  | (o, s, x) :: r, z, z', hx, h, hz => by
    simp only [partsE, Bool.and_eq_true] at h
    obtain ⟨⟨⟨h1, h2⟩, h3⟩, h4⟩ := h
    have hs := Nat.eq_of_beq_eq_true h2
    have ho := Nat.le_of_ble_eq_true h3
    have hxx := hx x (by simp)
    have hc := hxx.cells h1
    have hzz : VRL m t (z.take o ++ (ρe x).cells ++ z.drop (o + (ρe x).cells.length)) (z'.take o ++ (ρ x).cells ++ z'.drop (o + (ρ x).cells.length)) := by
      rw [hc.1]
      exact ((hz.take o).append hc).append (hz.drop _)
    have hlen : (z.take o ++ (ρe x).cells ++ z.drop (o + (ρe x).cells.length)).length = z.length := by simp; omega
    have ih := parts_vr r _ _ (fun y hy => hx y (by simp at hy ⊢; exact .inr hy)) (by rw [hlen]; exact h4) hzz
    have hl2 : (z'.take o ++ (ρ x).cells ++ z'.drop (o + (ρ x).cells.length)).length = z'.length := by rw [hzz.1, hlen, hz.1]
    rw [hl2] at ih
    exact ⟨⟨hxx.fits h1, by rw [hc.1]; exact hs, by rw [hz.1]; exact ho, ih.1⟩, ih.2⟩

theorem sqV_vr {k : Nat} {a b a' b' : AV} {q : Bool} (ha : VR m t a a') (hb : VR m t b b') (h : sqV k a b = some q) : sqV k a' b' = some q := by
  unfold sqV at h
  split at h
  · rw [ha.int_inv, hb.int_inv]; exact h
  · rw [ha.str_inv, hb.str_inv]; exact h
  · rw [ha.bool_inv, hb.bool_inv]; exact h
  · cases h
theorem sqL_vr : ∀ {ks : List Nat} {as bs as' bs' : List AV} {q : Bool}, VRL m t as as' → VRL m t bs bs' → sqL ks as bs = some q → sqL ks as' bs' = some q
  | [], [], [], as', bs', q, ha, hb, h => by rw [ha.nil_inv, hb.nil_inv]; exact h
  | k :: ks, a :: as, b :: bs, as', bs', q, ha, hb, h => by
    obtain ⟨a', as', rfl, h1, h2⟩ := ha.cons_inv
    obtain ⟨b', bs', rfl, h3, h4⟩ := hb.cons_inv
    simp only [sqL] at h ⊢
    cases hv : sqV k a b with
    | none => simp [hv] at h
    | some p =>
      cases hl : sqL ks as bs with
      | none => simp [hv, hl] at h
      | some p2 =>
        simp only [hv, hl] at h
        rw [sqV_vr h1 h3 hv, sqL_vr h2 h4 hl]
        exact h
  | [], _ :: _, _, _, _, _, _, _, h => by simp [sqL] at h
  | [], [], _ :: _, _, _, _, _, _, h => by simp [sqL] at h
  | _ :: _, [], _, _, _, _, _, _, h => by simp [sqL] at h
  | _ :: _, _ :: _, [], _, _, _, _, _, h => by simp [sqL] at h
theorem bytes_vr : ∀ {cs ds : List AV}, VRL m t cs ds → cs.all isByte = true → ds = cs
  | [], ds, h, _ => h.nil_inv
  | c :: cs, ds, h, ha => by
    obtain ⟨d, ds, rfl, h1, h2⟩ := h.cons_inv
    simp only [List.all_cons, Bool.and_eq_true] at ha
    rw [bytes_vr h2 ha.2]
    congr 1
    have := ha.1
    unfold isByte at this
    split at this
    · exact h1.int_inv
    · cases this

def mxE (ρ : Od → AV) (mx hi : Option Od) (h : Nat) : Bool :=
  match mx, hi with
  | some m, some _ => (match ixE (ρ m) with | some k => Nat.beq k h | none => false)
  | some _, none => false
  | none, _ => true
/-- The quiet operations that don't read the state. -/
def qE (ρ : Od → AV) : CO → Option AV
  | .mv x => some (ρ x)
  | .pick c a b => match ρ c with
    | .bool true => pickO (ρ a)
    | .bool false => pickO (ρ b)
    | _ => none
  | .un op x => match op, ρ x with
    | .not, .bool b => some (.bool (!b))
    | .neg, .int k n => some (.int k (k.wrap (0 - n)))
    | .xor, .int k n => some (.int k (bits .xor k (if k.signed then -1 else k.max) n))
    | _, _ => none
  | .bin op x y => match ρ x, ρ y with
    | .int k a, .int k' b => bif intSB op k k' b then some (intV op k a b) else none
    | .str a, .str b => bif strSB op a b then some (strV op a b) else none
    | _, _ => none
  | .eqA neg ks x y => match ρ x, ρ y with
    | .agg as, .agg bs => match sqL ks as bs with
      | some q => some (.bool (bif neg then !q else q))
      | none => none
    | _, _ => none
  | .eqb neg x y => match ρ x, ρ y with
    | .bool a, .bool b => some (.bool (bif neg then !(a == b) else a == b))
    | _, _ => none
  | .cnv k x => match ρ x with
    | .int _ n => some (.int k (k.wrap n))
    | _ => none
  | .b2s x => match slv (ρ x) with
    | some (n, cs) => bif Nat.beq n cs.length && cs.all isByte then some (.str (cs.map byteOf)) else none
    | none => none
  | .lenS x => match ρ x with
    | .str l => some (.int .i64 l.length)
    | _ => none
  | .len x => match slv (ρ x) with
    | some (n, _) => some (.int .i64 n)
    | none => none
  | .fld off sz x => match ρ x with
    | .agg cs => lds cs off sz
    | _ => none
  | .fldA off x => match ρ x with
    | .ptr β o => some (.ptr β (o + off))
    | .el cs => bif Nat.ble off cs.length then some (.el (cs.drop off)) else none
    | _ => none
  | .ixA es x i => match slv (ρ x), ixE (ρ i) with
    | some (n, cs), some i => bif Nat.blt i n && Nat.ble (i * es + es) cs.length then some (.el ((cs.drop (i * es)).take es)) else none
    | _, _ => none
  | .ixP n es x i => match ixE (ρ i) with
    | some i => bif Nat.blt i n then (match ρ x with
      | .ptr β o => some (.ptr β (o + i * es))
      | .el cs => bif Nat.ble (i * es) cs.length then some (.el (cs.drop (i * es))) else none
      | _ => none) else none
    | none => none
  | .ixS x i => match ρ x, ixE (ρ i) with
    | .str l, some i => match l[i]? with
      | some b => some (.int .u8 b.toNat)
      | none => none
    | _, _ => none
  | .ixV n es sz x i => match ρ x, ixE (ρ i) with
    | .agg cs, some i => bif Nat.blt i n then lds cs (i * es) sz else none
    | _, _ => none
  | .slc es x lo hi mx => match slv (ρ x) with
    | some (n, cs) => match bndE ρ 0 lo, bndE ρ n hi with
      | some l, some h => bif Nat.ble l h && Nat.ble h n && Nat.beq (n * es) cs.length && mxE ρ mx hi h then some (.sl mx.isSome (h - l) ((cs.drop (l * es)).take ((h - l) * es))) else none
      | _, _ => none
    | none => none
  | .slcS x lo hi => match ρ x with
    | .str s => match bndE ρ 0 lo, bndE ρ s.length hi with
      | some l, some h => bif Nat.ble l h && Nat.ble h s.length then some (.str ((s.drop l).take (h - l))) else none
      | _, _ => none
    | _ => none
  | .bld z ps => bif clL z && partsE ρ z.length ps then some (.agg (putParts ρ z ps)) else none
  | .mkSl es n z ps => bif clL z && partsE ρ z.length ps && Nat.beq z.length (n * es) then some (.sl true n (putParts ρ z ps)) else none
  | .mkI t x => some (.ifc t (ρ x))
  | .mkF f caps => some (.fn f (caps.map ρ))
  | .ext x i => match ρ x with
    | .tup cs => cs[i]?
    | _ => none
  | .nilc x => match ρ x with
    | .ptr β o => some (.ptr β o)
    | .el cs => some (.el cs)
    | _ => none
  | .mm mx x y => match ρ x, ρ y with
    | .int k a, .int _ b => some (.int k (if mx then (if b > a then b else a) else (if b < a then b else a)))
    | _, _ => none
  | _ => none

theorem bndE_inv {ρe ρ : Od → AV} {d n : Nat} {y : Option Od} (hy : ∀ z, y = some z → VR m t (ρe z) (ρ z)) (h : bndE ρe d y = some n) : isIntO (y.map ρ) ∧ bnd ρ d y = (n : Int) := by
  cases y with
  | none => simp only [bndE, Option.some.injEq] at h; subst h; exact ⟨trivial, rfl⟩
  | some z => exact ixE_inv (hy z rfl) h

theorem intV_cl (op : BinOp) (k : IntKind) (a b : Int) : cl (intV op k a b) = true := by cases op <;> rfl
theorem strV_cl (op : BinOp) (a b : List UInt8) : cl (strV op a b) = true := by cases op <;> rfl

theorem pickO_inv {a v u : AV} (h : VR m t a v) (ha : pickO a = some u) : ∃ p, u = .bool p ∧ (v = .bool p ∨ v = .opt true (.bool p)) := by
  unfold pickO at ha
  split at ha
  · cases ha; exact ⟨_, rfl, .inl h.bool_inv⟩
  · cases ha
    obtain ⟨u, rfl, hu⟩ := h.opt_inv
    rw [hu.bool_inv]
    exact ⟨_, rfl, .inr rfl⟩
  · cases ha

theorem qE_sound {ρe ρ : Od → AV} {σ : St} {op : CO} {v : AV} (hρ : ∀ y ∈ op.ods, VR m t (ρe y) (ρ y)) (h : qE ρe op = some v) : ps σ ρ op ∧ VR m t v (pf σ ρ op) := by
  cases op <;> simp only [qE] at h <;> try (cases h; done)
  case mv x => cases h; exact ⟨trivial, hρ x (by simp [CO.ods])⟩
  case pick c a b =>
    have hc := hρ c (by simp [CO.ods])
    have ha := hρ a (by simp [CO.ods])
    have hb := hρ b (by simp [CO.ods])
    split at h
    · rename_i e
      rw [e] at hc
      obtain ⟨p, rfl, hv | hv⟩ := pickO_inv ha h
      · simp only [ps, pf, pickS, pickV, hc.bool_inv, hv, boolS]
        refine ⟨⟨trivial, ?_⟩, .bool _⟩
        split <;> simp
      · simp only [ps, pf, pickS, pickV, hc.bool_inv, hv, boolS]
        refine ⟨⟨by simp, ?_⟩, .bool _⟩
        split <;> simp
    · rename_i e
      rw [e] at hc
      obtain ⟨p, rfl, hv | hv⟩ := pickO_inv hb h
      · simp only [ps, pf, pickS, pickV, hc.bool_inv, hv, boolS]
        refine ⟨⟨?_, trivial⟩, .bool _⟩
        split <;> simp
      · simp only [ps, pf, pickS, pickV, hc.bool_inv, hv, boolS]
        refine ⟨⟨?_, by simp⟩, .bool _⟩
        split <;> simp
    · cases h
  case un op x =>
    have hx := hρ x (by simp [CO.ods])
    split at h
    · rename_i e; rw [e] at hx; cases h; simp only [ps, pf, hx.bool_inv, unS, unV]; exact ⟨trivial, .bool _⟩
    · rename_i e; rw [e] at hx; cases h; simp only [ps, pf, hx.int_inv, unS, unV]; exact ⟨trivial, .int _ _⟩
    · rename_i e; rw [e] at hx; cases h; simp only [ps, pf, hx.int_inv, unS, unV]; exact ⟨trivial, .int _ _⟩
    · cases h
  case bin op x y =>
    have hx := hρ x (by simp [CO.ods])
    have hy := hρ y (by simp [CO.ods])
    split at h
    · rename_i ex ey
      rw [ex] at hx; rw [ey] at hy
      cases hb : intSB op _ _ _ with
      | false => rw [hb] at h; cases h
      | true =>
        rw [hb] at h
        simp only [cond_true, Option.some.injEq] at h
        subst h
        simp only [ps, pf, hx.int_inv, hy.int_inv, binS, binV]
        exact ⟨intSB_inv hb, cl_vr _ (intV_cl _ _ _ _)⟩
    · rename_i ex ey
      rw [ex] at hx; rw [ey] at hy
      cases hb : strSB op _ _ with
      | false => rw [hb] at h; cases h
      | true =>
        rw [hb] at h
        simp only [cond_true, Option.some.injEq] at h
        subst h
        simp only [ps, pf, hx.str_inv, hy.str_inv, binS, binV]
        exact ⟨strSB_inv hb, cl_vr _ (strV_cl _ _ _)⟩
    · cases h
  case eqA neg ks x y =>
    have hx := hρ x (by simp [CO.ods])
    have hy := hρ y (by simp [CO.ods])
    split at h
    · rename_i as bs ex ey
      rw [ex] at hx; rw [ey] at hy
      obtain ⟨as', e1, h1⟩ := hx.agg_inv
      obtain ⟨bs', e2, h2⟩ := hy.agg_inv
      split at h
      · rename_i q hq
        cases h
        have := sqL_vr h1 h2 hq
        simp only [ps, pf, e1, e2, this, Option.isSome_some]
        exact ⟨trivial, .bool _⟩
      · cases h
    · cases h
  case eqb neg x y =>
    have hx := hρ x (by simp [CO.ods])
    have hy := hρ y (by simp [CO.ods])
    split at h
    · rename_i ex ey
      rw [ex] at hx; rw [ey] at hy
      cases h
      simp only [ps, pf, hx.bool_inv, hy.bool_inv]
      exact ⟨trivial, .bool _⟩
    · cases h
  case cnv k x =>
    have hx := hρ x (by simp [CO.ods])
    split at h
    · rename_i ex; rw [ex] at hx; cases h; simp only [ps, pf, hx.int_inv, isIntA]; exact ⟨trivial, .int _ _⟩
    · cases h
  case b2s x =>
    have hx := hρ x (by simp [CO.ods])
    split at h
    · rename_i n cs ex
      cases hb : Nat.beq n cs.length && cs.all isByte with
      | false => rw [hb] at h; cases h
      | true =>
        rw [hb] at h
        simp only [cond_true, Option.some.injEq] at h
        subst h
        simp only [Bool.and_eq_true] at hb
        obtain ⟨ds, e, hd⟩ := hx.slv_inv ex
        have := bytes_vr hd hb.2
        subst this
        simp only [ps, pf, e]
        exact ⟨⟨Nat.eq_of_beq_eq_true hb.1, hb.2⟩, .str _⟩
    · cases h
  case lenS x =>
    have hx := hρ x (by simp [CO.ods])
    split at h
    · rename_i ex; rw [ex] at hx; cases h; simp only [ps, pf, hx.str_inv]; exact ⟨trivial, .int _ _⟩
    · cases h
  case len x =>
    have hx := hρ x (by simp [CO.ods])
    split at h
    · rename_i n cs ex
      cases h
      obtain ⟨ds, e, hd⟩ := hx.slv_inv ex
      simp only [ps, pf, e, Option.isSome_some]
      exact ⟨trivial, .int _ _⟩
    · cases h
  case fld off sz x =>
    have hx := hρ x (by simp [CO.ods])
    split at h
    · rename_i cs ex
      rw [ex] at hx
      obtain ⟨ds, e, hd⟩ := hx.agg_inv
      simp only [ps, pf, e]
      exact lds_inv hd h
    · cases h
  case fldA off x =>
    have hx := hρ x (by simp [CO.ods])
    split at h
    · rename_i ex
      rw [ex] at hx
      obtain ⟨β, e, hd⟩ := hx.ptr_inv
      cases h
      simp only [ps, pf, e]
      exact ⟨trivial, .ptr _ _ _ hd⟩
    · rename_i cs ex
      rw [ex] at hx
      obtain ⟨ds, e, hd⟩ := hx.el_inv
      cases hb : Nat.ble off cs.length with
      | false => rw [hb] at h; cases h
      | true =>
        rw [hb] at h
        simp only [cond_true, Option.some.injEq] at h
        subst h
        simp only [ps, pf, e]
        have := hd.drop off
        exact ⟨by rw [hd.1]; exact Nat.le_of_ble_eq_true hb, .el _ _ this.1 this.2⟩
    · cases h
  case ixA es x i =>
    have hx := hρ x (by simp [CO.ods])
    have hi := hρ i (by simp [CO.ods])
    split at h
    · rename_i n cs j ex ei
      obtain ⟨ds, e, hd⟩ := hx.slv_inv ex
      obtain ⟨i1, i2⟩ := ixE_inv hi ei
      cases hb : Nat.blt j n && Nat.ble (j * es + es) cs.length with
      | false => rw [hb] at h; cases h
      | true =>
        rw [hb] at h
        simp only [cond_true, Option.some.injEq] at h
        subst h
        simp only [Bool.and_eq_true] at hb
        have b1 : j < n := Nat.le_of_ble_eq_true hb.1
        have b2 := Nat.le_of_ble_eq_true hb.2
        simp only [ps, pf, e, i2, Int.toNat_natCast]
        have := (hd.drop (j * es)).take es
        exact ⟨⟨i1, by omega, by omega, by rw [hd.1]; exact b2⟩, .el _ _ this.1 this.2⟩
    · cases h
  case ixP n es x i =>
    have hx := hρ x (by simp [CO.ods])
    have hi := hρ i (by simp [CO.ods])
    split at h
    · rename_i j ei
      obtain ⟨i1, i2⟩ := ixE_inv hi ei
      cases hb : Nat.blt j n with
      | false => rw [hb] at h; cases h
      | true =>
        rw [hb] at h
        simp only [cond_true] at h
        have b1 : j < n := Nat.le_of_ble_eq_true hb
        split at h
        · rename_i ex
          rw [ex] at hx
          obtain ⟨β, e, hd⟩ := hx.ptr_inv
          cases h
          simp only [ps, pf, e, i2, Int.toNat_natCast]
          exact ⟨⟨i1, by omega, by omega, trivial⟩, .ptr _ _ _ hd⟩
        · rename_i cs ex
          rw [ex] at hx
          obtain ⟨ds, e, hd⟩ := hx.el_inv
          cases hb : Nat.ble (j * es) cs.length with
          | false => rw [hb] at h; cases h
          | true =>
            rw [hb] at h
            simp only [cond_true, Option.some.injEq] at h
            subst h
            simp only [ps, pf, e, i2, Int.toNat_natCast]
            have := hd.drop (j * es)
            exact ⟨⟨i1, by omega, by omega, by rw [hd.1]; exact Nat.le_of_ble_eq_true hb⟩, .el _ _ this.1 this.2⟩
        · cases h
    · cases h
  case ixS x i =>
    have hx := hρ x (by simp [CO.ods])
    have hi := hρ i (by simp [CO.ods])
    split at h
    · rename_i l j ex ei
      rw [ex] at hx
      obtain ⟨i1, i2⟩ := ixE_inv hi ei
      split at h
      · rename_i b hb
        cases h
        have hlt := (List.getElem?_eq_some_iff.1 hb).1
        simp only [ps, pf, hx.str_inv, i2, Int.toNat_natCast, hb, Option.getD_some]
        exact ⟨⟨i1, by omega, by omega⟩, .int _ _⟩
      · cases h
    · cases h
  case ixV n es sz x i =>
    have hx := hρ x (by simp [CO.ods])
    have hi := hρ i (by simp [CO.ods])
    split at h
    · rename_i cs j ex ei
      rw [ex] at hx
      obtain ⟨ds, e, hd⟩ := hx.agg_inv
      obtain ⟨i1, i2⟩ := ixE_inv hi ei
      cases hb : Nat.blt j n with
      | false => rw [hb] at h; cases h
      | true =>
        rw [hb] at h
        simp only [cond_true] at h
        have b1 : j < n := Nat.le_of_ble_eq_true hb
        obtain ⟨l1, l2⟩ := lds_inv hd h
        simp only [ps, pf, e, i2, Int.toNat_natCast]
        exact ⟨⟨i1, by omega, by omega, l1⟩, l2⟩
    · cases h
  case slc es x lo hi mx =>
    have hx := hρ x (by simp [CO.ods])
    have hlo : ∀ z, lo = some z → VR m t (ρe z) (ρ z) := fun z e => hρ z (by simp [CO.ods, e])
    have hhi : ∀ z, hi = some z → VR m t (ρe z) (ρ z) := fun z e => hρ z (by simp [CO.ods, e])
    have hmx : ∀ z, mx = some z → VR m t (ρe z) (ρ z) := fun z e => hρ z (by simp [CO.ods, e])
    split at h
    · rename_i n cs ex
      obtain ⟨ds, e, hd⟩ := hx.slv_inv ex
      split at h
      · rename_i l hh el eh
        obtain ⟨l1, l2⟩ := bndE_inv hlo el
        have l2 : bnd ρ 0 lo = (l : Int) := l2
        obtain ⟨h1, h2⟩ := bndE_inv hhi eh
        cases hb : (Nat.ble l hh && Nat.ble hh n && Nat.beq (n * es) cs.length && mxE ρe mx hi hh) with
        | false => rw [hb] at h; cases h
        | true =>
          rw [hb] at h
          simp only [cond_true, Option.some.injEq] at h
          subst h
          simp only [Bool.and_eq_true] at hb
          obtain ⟨⟨⟨b1, b2⟩, b3⟩, b4⟩ := hb
          have b1 := Nat.le_of_ble_eq_true b1
          have b2 := Nat.le_of_ble_eq_true b2
          have b3 := Nat.eq_of_beq_eq_true b3
          have hdd := (hd.drop (l * es)).take ((hh - l) * es)
          simp only [ps, pf, e, l2, h2, Int.toNat_natCast]
          refine ⟨⟨l1, h1, ?_, by omega, by omega, by omega, by rw [hd.1]; exact b3, ?_⟩, .sl _ _ _ _ hdd.1 hdd.2⟩
          · cases mx with
            | none => trivial
            | some mm =>
              cases hi with
              | none => cases b4
              | some yy =>
                simp only [mxE] at b4
                cases hk : ixE (ρe mm) with
                | none => simp [hk] at b4
                | some k => exact (ixE_inv (hmx mm rfl) hk).1
          · cases mx with
            | none => cases hi <;> trivial
            | some mm =>
              cases hi with
              | none => cases b4
              | some yy =>
                simp only [mxE] at b4 ⊢
                cases hk : ixE (ρe mm) with
                | none => simp [hk] at b4
                | some k =>
                  simp only [hk] at b4
                  rw [(ixE_inv (hmx mm rfl) hk).2, Nat.eq_of_beq_eq_true b4]
                  simp only [bnd] at h2
                  exact h2.symm
      · cases h
    · cases h
  case slcS x lo hi =>
    have hx := hρ x (by simp [CO.ods])
    have hlo : ∀ z, lo = some z → VR m t (ρe z) (ρ z) := fun z e => hρ z (by simp [CO.ods, e])
    have hhi : ∀ z, hi = some z → VR m t (ρe z) (ρ z) := fun z e => hρ z (by simp [CO.ods, e])
    split at h
    · rename_i s ex
      rw [ex] at hx
      split at h
      · rename_i l hh el eh
        obtain ⟨l1, l2⟩ := bndE_inv hlo el
        have l2 : bnd ρ 0 lo = (l : Int) := l2
        obtain ⟨h1, h2⟩ := bndE_inv hhi eh
        cases hb : Nat.ble l hh && Nat.ble hh s.length with
        | false => rw [hb] at h; cases h
        | true =>
          rw [hb] at h
          simp only [cond_true, Option.some.injEq] at h
          subst h
          simp only [Bool.and_eq_true] at hb
          have b1 := Nat.le_of_ble_eq_true hb.1
          have b2 := Nat.le_of_ble_eq_true hb.2
          simp only [ps, pf, hx.str_inv, l2, h2, Int.toNat_natCast]
          exact ⟨⟨l1, h1, by omega, by omega, by omega⟩, .str _⟩
      · cases h
    · cases h
  case bld z pl =>
    cases hb : clL z && partsE ρe z.length pl with
    | false => rw [hb] at h; cases h
    | true =>
      rw [hb] at h
      simp only [cond_true, Option.some.injEq] at h
      subst h
      simp only [Bool.and_eq_true] at hb
      obtain ⟨h1, h2⟩ := parts_vr pl z z (fun y hy => hρ y (by simpa [CO.ods] using hy)) hb.2 (clL_vr z hb.1)
      exact ⟨h1, .agg _ _ h2.1 h2.2⟩
  case mkSl es n z pl =>
    cases hb : clL z && partsE ρe z.length pl && Nat.beq z.length (n * es) with
    | false => rw [hb] at h; cases h
    | true =>
      rw [hb] at h
      simp only [cond_true, Option.some.injEq] at h
      subst h
      simp only [Bool.and_eq_true] at hb
      obtain ⟨h1, h2⟩ := parts_vr pl z z (fun y hy => hρ y (by simpa [CO.ods] using hy)) hb.1.2 (clL_vr z hb.1.1)
      exact ⟨⟨h1, Nat.eq_of_beq_eq_true hb.2⟩, .sl _ _ _ _ h2.1 h2.2⟩
  case mkI y x =>
    cases h
    exact ⟨trivial, .ifc _ _ _ (hρ x (by simp [CO.ods]))⟩
  case mkF f caps =>
    cases h
    refine ⟨trivial, ?_⟩
    have : VRL m t (caps.map ρe) (caps.map ρ) := ⟨by simp, fun i c d hc hd => by
      simp only [List.getElem?_map, Option.map_eq_some_iff] at hc hd
      obtain ⟨y, h1, rfl⟩ := hc
      obtain ⟨y', h2, rfl⟩ := hd
      rw [h1] at h2; cases h2
      exact hρ y (by simp only [CO.ods]; exact List.mem_of_getElem? h1)⟩
    exact .fn _ _ _ this.1 this.2
  case ext x i =>
    have hx := hρ x (by simp [CO.ods])
    split at h
    · rename_i cs ex
      rw [ex] at hx
      obtain ⟨ds, e, hd⟩ := hx.tup_inv
      obtain ⟨u, hu, hr⟩ := hd.get h
      simp only [ps, pf, e, hu, Option.getD_some]
      exact ⟨(List.getElem?_eq_some_iff.1 hu).1, hr⟩
    · cases h
  case nilc x =>
    have hx := hρ x (by simp [CO.ods])
    split at h
    · rename_i ex
      rw [ex] at hx
      obtain ⟨β, e, hd⟩ := hx.ptr_inv
      cases h
      simp only [ps, pf, e]
      exact ⟨trivial, .ptr _ _ _ hd⟩
    · rename_i cs ex
      rw [ex] at hx
      obtain ⟨ds, e, hd⟩ := hx.el_inv
      cases h
      simp only [ps, pf, e]
      exact ⟨trivial, .el _ _ hd.1 hd.2⟩
    · cases h
  case mm mx x y =>
    have hx := hρ x (by simp [CO.ods])
    have hy := hρ y (by simp [CO.ods])
    split at h
    · rename_i ex ey
      rw [ex] at hx; rw [ey] at hy
      cases h
      simp only [ps, pf, hx.int_inv, hy.int_inv]
      exact ⟨trivial, .int _ _⟩
    · cases h
end
end Go.Abs
