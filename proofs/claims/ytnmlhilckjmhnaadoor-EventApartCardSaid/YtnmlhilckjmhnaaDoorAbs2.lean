/-
  The abstract state, the compiled operations, what a quiet operation yields, and that it is so.
-/
import Derived.Test.YtnmlhilckjmhnaaDoorAbs1
namespace Go.Abs

abbrev Fr := List (Nat × AV)
def slot (t : Nat) : Fr → AV
  | [] => .junk
  | (s, v) :: r => if t = s then v else slot t r

/-- Boxes (variables in memory), tips (slices of the call's own that may be appended to: element type, its cells, the length), the package's variables, the records of loops over functions. -/
structure St where
  box : Nat → Option (List AV)
  tip : Nat → Option (Nat × Nat × Nat)
  glob : Nat → Option (List AV)
  lp : Nat → Option (Loop × Fr)

def upd {α : Type} (f : Nat → Option α) (k : Nat) (v : α) : Nat → Option α := fun j => if j = k then some v else f j

/-- There is room behind the slice's length. -/
def Spare (v : Value) : Prop := ∃ a n cap, v = .slice a n cap ∧ n < cap

/-- A tip: where there is room, the row is the call's own, and nobody else claims what lies behind. -/
def TipOk (g : Gh) (w : World) (e s n : Nat) (v : Value) : Prop :=
  Spare v → ∃ xs, w.ownsRow 0 e s v n xs ∧ ∀ b, v.ownBlock = some b → g.cl b = some (n * s) ∧ ∀ β, g.box β ≠ some b

/-- A package's variable: its block is whole, and nobody writes to it. -/
structure GlobOk (g : Gh) (w : World) (k : Nat) (cs : List AV) : Prop where
  rel : Rel g w (.el cs) (.pointer (some ⟨k, 0, none⟩))
  cl : g.cl k = none
  row : ∃ vs T q, w.heap[k]? = some (.cells vs T q) ∧ vs.size = cs.length
theorem GlobOk.mono {g g' : Gh} {w w' : World} {k : Nat} {cs : List AV} (h : GlobOk g w k cs) (he : Ext g w g' w') : GlobOk g' w' k cs := by
  obtain ⟨vs, T, q, hv, hl⟩ := h.row
  have hk : k < w.heap.size := (Array.getElem?_eq_some_iff.1 hv).1
  obtain ⟨h1, h2⟩ := he.cln k hk h.cl
  exact ⟨h.rel.mono he, h1, vs, T, q, by rw [h2]; exact hv, hl⟩

structure Inv (g : Gh) (σ : St) (w : World) : Prop where
  box : ∀ β cs, σ.box β = some cs → ∃ b vs T, g.box β = some b ∧ w.heap[b]? = some (.cells vs T (0, 0)) ∧ RelC g w cs vs.toList
  boxcl : ∀ β b, g.box β = some b → b < w.heap.size ∧ g.cl b = some 0
  boxinj : ∀ β β' b, g.box β = some b → g.box β' = some b → β = β'
  boxfresh : ∀ β, g.nb ≤ β → g.box β = none
  tip : ∀ τ e s n, σ.tip τ = some (e, s, n) → ∃ v, g.tip τ n = some v ∧ TipOk g w e s n v ∧ (∀ n', n < n' → g.tip τ n' = none)
  tipinj : ∀ τ τ' x x' v v' b, σ.tip τ = some x → σ.tip τ' = some x' → τ ≠ τ' → g.tip τ x.2.2 = some v → g.tip τ' x'.2.2 = some v' → Spare v → Spare v' → v.ownBlock = some b → v'.ownBlock ≠ some b
  tipfresh : ∀ τ n, g.nt ≤ τ → g.tip τ n = none
  glob : ∀ k cs, σ.glob k = some cs → GlobOk g w k cs
  lp : ∀ l r, σ.lp l = some r → w.heap[l]? = some (.loop r.1) ∧ g.cl l = some 0 ∧ ∀ t, Rel g w (slot t r.2) (r.1.tmps.getD t undef)

inductive Od where
  | t (t : Nat)
  | c (v : AV)
  | g (k : Nat)
  | f (f : Nat)

def ev (σ : St) (fr : Fr) : Od → AV
  | .t t => slot t fr
  | .c v => v
  | .g k => match σ.glob k with
    | some cs => .el cs
    | none => .junk
  | .f f => .fn f []

inductive CO where
  | mv (x : Od)
  | pick (c a b : Od)
  | un (op : UnOp) (x : Od)
  | bin (op : BinOp) (x y : Od)
  | eqb (neg : Bool) (x y : Od)
  | eqA (neg : Bool) (ks : List Nat) (x y : Od)
  | isnil (kind : Nat) (neg : Bool) (x : Od)
  | cnv (k : IntKind) (x : Od)
  | b2s (x : Od)
  | b2sP (x : Od)
  | slcP (n es : Nat) (x : Od)
  | s2b (x : Od)
  | ixQ (es : Nat) (x i : Od)
  | lenP (x : Od)
  | mkP (es bytes : Nat) (z : List AV) (x : Od)
  | len (x : Od)
  | lenS (x : Od)
  | fld (off : Nat) (sz : Option Nat) (x : Od)
  | fldA (off : Nat) (x : Od)
  | ixA (es : Nat) (x i : Od)
  | ixP (n es : Nat) (x i : Od)
  | ixS (x i : Od)
  | ixV (n es : Nat) (sz : Option Nat) (x i : Od)
  | ld (sz : Option Nat) (p : Od)
  | slc (es : Nat) (x : Od) (lo hi mx : Option Od)
  | slcS (x : Od) (lo hi : Option Od)
  | bld (zero : List AV) (parts : List (Nat × Nat × Od))
  | mkSl (es n : Nat) (zero : List AV) (parts : List (Nat × Nat × Od))
  | mkI (t : Nat) (x : Od)
  | mkF (f : Nat) (caps : List Od)
  | ext (x : Od) (i : Nat)
  | nilc (x : Od)
  | mm (isMax : Bool) (x y : Od)
  | app (tp : Bool) (e es bytes : Nat) (x y : Od)
  | alloc (cells : List AV)
  | box (n : Nat) (x : Od)
  | st (n : Nat) (p x : Od)
  | call (f : Nat) (args : List Od)
  | callv (x : Od) (args : List Od)
  | bad

/-- The compiled operation: where it writes, what it does, its guard (the temporary, what it must be). -/
structure CI where
  d : Option Nat
  op : CO
  gd : Option (Nat × Bool)

/-! ### Constants and operands -/
mutual
def cB : Value → AV → Bool
  | .bool a, .bool b => a == b
  | .int k n, .int k' n' => k == k' && n == n'
  | .string s, .str l => s.data.toList == l
  | .slice none 0 0, .nils => true
  | .pointer none, .nilp => true
  | .nilIface, .nili => true
  | .nilFunc, .nilf => true
  | .agg ⟨vs⟩, .agg cs => cBL vs cs
  | _, _ => false
def cBL : List Value → List AV → Bool
  | [], [] => true
  | v :: vs, c :: cs => c.one && cB v c && cBL vs cs
  | _, _ => false
end

theorem string_eta (s : ByteArray) : (⟨s.data.toList.toArray⟩ : ByteArray) = s := by cases s; simp

mutual
theorem cB_rel (g : Gh) (w : World) : ∀ (v : Value) (a : AV), cB v a = true → Rel g w a v
  | .bool a, .bool b, h => by simp [cB] at h; subst h; exact .bool _
  | .int k n, .int k' n', h => by simp [cB] at h; obtain ⟨rfl, rfl⟩ := h; exact .int _ _
  | .string s, .str l, h => by simp [cB] at h; subst h; have := Rel.str (g := g) (w := w) s.data.toList; rwa [string_eta] at this
  | .slice none 0 0, .nils, _ => .nils
  | .pointer none, .nilp, _ => .nilp
  | .nilIface, .nili, _ => .nili
  | .nilFunc, .nilf, _ => .nilf
  | .agg ⟨vs⟩, .agg cs, h => .agg_mk (cBL_rel g w vs cs (by simpa [cB] using h))
theorem cBL_rel (g : Gh) (w : World) : ∀ (vs : List Value) (cs : List AV), cBL vs cs = true → RelC g w cs vs
  | [], [], _ => .nil
  | v :: vs, c :: cs, h => by
    simp [cBL] at h
    have h1 := cB_rel g w v c h.1.2
    have h2 := cBL_rel g w vs cs h.2
    exact ⟨.cons h1 h2.1, fun x hx => (List.mem_cons.1 hx).elim (fun e => e ▸ h1.one h.1.1) (h2.2 x)⟩
end

def odB : Operand → Od → Bool
  | .tmp a, .t b => a == b
  | .const v, .c a => cB v a
  | .global k, .g k' => k == k'
  | .func f, .f f' => f == f'
  | _, _ => false
def odBL : List Operand → List Od → Bool
  | [], [] => true
  | x :: xs, y :: ys => odB x y && odBL xs ys
  | _, _ => false
def odBO : Option Operand → Option Od → Bool
  | none, none => true
  | some x, some y => odB x y
  | _, _ => false

def RelF (g : Gh) (w : World) (fr : Fr) (tmps : Array Value) : Prop := ∀ t, Rel g w (slot t fr) (tmps.getD t undef)

section
variable {g : Gh} {σ : St} {w : World} {fr : Fr} {a : Act}

theorem ev_rel (hI : Inv g σ w) (hF : RelF g w fr a.tmps) {x : Operand} {y : Od} (h : odB x y = true) : Rel g w (ev σ fr y) (a.eval x) := by
  cases x <;> cases y <;> simp [odB] at h
  · subst h; exact hF _
  · exact cB_rel g w _ _ h
  · subst h
    simp only [ev, Act.eval]
    split
    · rename_i cs hc; exact (hI.glob _ _ hc).rel
    · exact .junk _
  · subst h; exact .fn _ [] [] rfl (by simp)

theorem evL_rel (hI : Inv g σ w) (hF : RelF g w fr a.tmps) : ∀ {xs : List Operand} {ys : List Od}, odBL xs ys = true → RelL g w (ys.map (ev σ fr)) (xs.map a.eval)
  | [], [], _ => .nil
  | x :: xs, y :: ys, h => by
    simp [odBL] at h
    exact .cons (ev_rel hI hF h.1) (evL_rel hI hF h.2)
end

/-! ### The quiet operations' values and what they ask -/
def intV (op : BinOp) (k : IntKind) (a b : Int) : AV :=
  match op with
  | .add => .int k (k.wrap (a + b))
  | .sub => .int k (k.wrap (a - b))
  | .mul => .int k (k.wrap (a * b))
  | .quo => .int k (k.wrap (a.tdiv b))
  | .rem => .int k (a.tmod b)
  | .and => .int k (bits .and k a b)
  | .or => .int k (bits .or k a b)
  | .xor => .int k (bits .xor k a b)
  | .andNot => .int k (bits .andNot k a b)
  | .shl => .int k (k.wrap (a * 2 ^ min b.toNat k.bits))
  | .shr => .int k (a.fdiv (2 ^ min b.toNat k.bits))
  | .eql => .bool (a == b)
  | .neq => .bool (a != b)
  | .lss => .bool (decide (a < b))
  | .leq => .bool (decide (a ≤ b))
  | .gtr => .bool (decide (b < a))
  | .geq => .bool (decide (b ≤ a))
def intS (op : BinOp) (k k' : IntKind) (b : Int) : Prop :=
  match op with
  | .shl | .shr => 0 ≤ b
  | .quo | .rem => k = k' ∧ b ≠ 0
  | _ => k = k'
def strV (op : BinOp) (a b : List UInt8) : AV :=
  match op with
  | .add => .str (a ++ b)
  | .eql => .bool (a == b)
  | .neq => .bool (!(a == b))
  | .lss => .bool (Op.bytesLess a b)
  | .leq => .bool (Op.bytesLess a b || a == b)
  | .gtr => .bool (!(Op.bytesLess a b || a == b))
  | .geq => .bool (!(Op.bytesLess a b))
  | _ => .junk
def strS (op : BinOp) (a b : List UInt8) : Prop :=
  match op with
  | .add => a.length + b.length ≤ 9223372036854775807
  | .eql | .neq | .lss | .leq | .gtr | .geq => True
  | _ => False
def binV (op : BinOp) : AV → AV → AV
  | .int k a, .int _ b => intV op k a b
  | .str a, .str b => strV op a b
  | _, _ => .junk
def binS (op : BinOp) : AV → AV → Prop
  | .int k _, .int k' b => intS op k k' b
  | .str a, .str b => strS op a b
  | _, _ => False
def unV : UnOp → AV → AV
  | .not, .bool b => .bool (!b)
  | .neg, .int k n => .int k (k.wrap (0 - n))
  | .xor, .int k n => .int k (bits .xor k (if k.signed then -1 else k.max) n)
  | _, _ => .junk
def unS : UnOp → AV → Prop
  | .not, .bool _ => True
  | .neg, .int _ _ => True
  | .xor, .int _ _ => True
  | _, _ => False
def pickV : AV → AV → AV → AV
  | .bool c, a, b =>
    let pa := match a with | .bool p => p | .opt _ (.bool p) => p | _ => false
    let pb := match b with | .bool p => p | .opt _ (.bool p) => p | _ => false
    .bool (bif c then pa else pb)
  | _, _, _ => .junk
def boolS (c : Prop) : AV → Prop
  | .bool _ => True
  | .opt d (.bool _) => c → d = true
  | _ => c → False
def pickS : AV → AV → AV → Prop
  | .bool c, a, b => boolS (c = true) a ∧ boolS (c = false) b
  | _, _, _ => False
def ldV (cs : List AV) (o : Nat) : Option Nat → AV
  | none => (cs[o]?).getD .junk
  | some n => .agg ((cs.drop o).take n)
def ldS (cs : List AV) (o : Nat) : Option Nat → Prop
  | none => o < cs.length
  | some n => o + n ≤ cs.length
def pcells (σ : St) : AV → Option (List AV × Nat)
  | .ptr β off => (σ.box β).map fun cs => (cs, off)
  | .el cs => some (cs, 0)
  | _ => none
def byteOf : AV → UInt8
  | .int _ n => UInt8.ofNat n.toNat
  | _ => 0
def isByte : AV → Bool
  | .int .u8 _ => true
  | _ => false
def putParts (ρ : Od → AV) : List AV → List (Nat × Nat × Od) → List AV
  | z, [] => z
  | z, (o, _, x) :: r => putParts ρ (z.take o ++ (ρ x).cells ++ z.drop (o + (ρ x).cells.length)) r
def partsS (ρ : Od → AV) (n : Nat) : List (Nat × Nat × Od) → Prop
  | [] => True
  | (o, s, x) :: r => (ρ x).fits = true ∧ (ρ x).cells.length = s ∧ o + s ≤ n ∧ partsS ρ n r
def intOfA : AV → Int
  | .int _ n => n
  | _ => 0
def isIntA : AV → Prop
  | .int _ _ => True
  | _ => False
def isIntO : Option AV → Prop
  | none => True
  | some a => isIntA a

def bnd (ρ : Od → AV) (d : Int) : Option Od → Int
  | some y => intOfA (ρ y)
  | none => d

/-- Are two cells of a kind the same? 0 a number, 1 a string, 2 a truth value. -/
def sqV : Nat → AV → AV → Option Bool
  | 0, .int k a, .int k' b => if k = k' then some (a == b) else none
  | 1, .str a, .str b => some (a == b)
  | 2, .bool a, .bool b => some (a == b)
  | _, _, _ => none
def sqL : List Nat → List AV → List AV → Option Bool
  | [], [], [] => some true
  | k :: ks, a :: as, b :: bs => match sqV k a b, sqL ks as bs with
    | some p, some q => some (p && q)
    | _, _ => none
  | _, _, _ => none

/-- The value. -/
def pf (σ : St) (ρ : Od → AV) : CO → AV
  | .mv x => ρ x
  | .pick c a b => pickV (ρ c) (ρ a) (ρ b)
  | .un op x => unV op (ρ x)
  | .bin op x y => binV op (ρ x) (ρ y)
  | .eqA neg ks x y => match ρ x, ρ y with
    | .agg as, .agg bs => match sqL ks as bs with
      | some q => .bool (bif neg then !q else q)
      | none => .junk
    | _, _ => .junk
  | .eqb neg x y => match ρ x, ρ y with
    | .bool a, .bool b => .bool (bif neg then !(a == b) else a == b)
    | _, _ => .junk
  | .cnv k x => match ρ x with
    | .int _ n => .int k (k.wrap n)
    | _ => .junk
  | .b2s x => match slv (ρ x) with
    | some (_, cs) => .str (cs.map byteOf)
    | none => .junk
  | .lenS x => match ρ x with
    | .str l => .int .i64 l.length
    | _ => .junk
  | .b2sP x => match ρ x with
    | .psl β o n => match σ.box β with
      | some cs => .str (((cs.drop o).take n).map byteOf)
      | none => .junk
    | _ => .junk
  | .slcP n _ x => match ρ x with
    | .ptr β o => .psl β o n
    | _ => .junk
  | .s2b x => match ρ x with
    | .str l => .sl false l.length (l.map fun b => .int .u8 b.toNat)
    | _ => .junk
  | .ixQ es x i => match ρ x with
    | .psl β o _ => .ptr β (o + (intOfA (ρ i)).toNat * es)
    | _ => .junk
  | .lenP x => match ρ x with
    | .psl _ _ n => .int .i64 n
    | _ => .junk
  | .len x => match slv (ρ x) with
    | some (n, _) => .int .i64 n
    | none => .junk
  | .fld off sz x => match ρ x with
    | .agg cs => ldV cs off sz
    | _ => .junk
  | .fldA off x => match ρ x with
    | .ptr β o => .ptr β (o + off)
    | .el cs => .el (cs.drop off)
    | _ => .junk
  | .ixA es x i => match slv (ρ x) with
    | some (_, cs) => .el ((cs.drop ((intOfA (ρ i)).toNat * es)).take es)
    | none => .junk
  | .ixP _ es x i => match ρ x with
    | .ptr β o => .ptr β (o + (intOfA (ρ i)).toNat * es)
    | .el cs => .el (cs.drop ((intOfA (ρ i)).toNat * es))
    | _ => .junk
  | .ixS x i => match ρ x with
    | .str l => .int .u8 ((l[(intOfA (ρ i)).toNat]?).getD 0).toNat
    | _ => .junk
  | .ixV _ es sz x i => match ρ x with
    | .agg cs => ldV cs ((intOfA (ρ i)).toNat * es) sz
    | _ => .junk
  | .ld sz p => match pcells σ (ρ p) with
    | some (cs, o) => ldV cs o sz
    | none => .junk
  | .slc es x lo hi mx => match slv (ρ x) with
    | some (n, cs) =>
      .sl mx.isSome ((bnd ρ n hi).toNat - (bnd ρ 0 lo).toNat) ((cs.drop ((bnd ρ 0 lo).toNat * es)).take (((bnd ρ n hi).toNat - (bnd ρ 0 lo).toNat) * es))
    | none => .junk
  | .slcS x lo hi => match ρ x with
    | .str s =>
      .str ((s.drop (bnd ρ 0 lo).toNat).take ((bnd ρ s.length hi).toNat - (bnd ρ 0 lo).toNat))
    | _ => .junk
  | .bld z ps => .agg (putParts ρ z ps)
  | .mkSl _ n z ps => .sl true n (putParts ρ z ps)
  | .mkI t x => .ifc t (ρ x)
  | .mkF f caps => .fn f (caps.map ρ)
  | .ext x i => match ρ x with
    | .tup cs => (cs[i]?).getD .junk
    | _ => .junk
  | .nilc x => ρ x
  | .mm mx x y => match ρ x, ρ y with
    | .int k a, .int _ b => .int k (if mx then (if b > a then b else a) else (if b < a then b else a))
    | _, _ => .junk
  | .app _ _ _ _ x y => match slv (ρ x), slv (ρ y) with
    | some (n, cs), some (m, ds) => .sl false (n + m) (cs ++ ds)
    | _, _ => .junk
  | _ => .junk

def fresh : AV → Prop
  | .nils => True
  | .sl true _ _ => True
  | _ => False

/-- What it asks. -/
def ps (σ : St) (ρ : Od → AV) : CO → Prop
  | .mv _ => True
  | .pick c a b => pickS (ρ c) (ρ a) (ρ b)
  | .un op x => unS op (ρ x)
  | .bin op x y => binS op (ρ x) (ρ y)
  | .eqA _ ks x y => match ρ x, ρ y with
    | .agg as, .agg bs => (sqL ks as bs).isSome = true
    | _, _ => False
  | .eqb _ x y => match ρ x, ρ y with
    | .bool _, .bool _ => True
    | _, _ => False
  | .cnv _ x => isIntA (ρ x)
  | .b2s x => match slv (ρ x) with
    | some (n, cs) => n = cs.length ∧ cs.all isByte = true
    | none => False
  | .b2sP x => match ρ x with
    | .psl β o n => match σ.box β with
      | some cs => o + n ≤ cs.length ∧ ((cs.drop o).take n).all isByte = true
      | none => False
    | _ => False
  | .slcP _ _ x => match ρ x with
    | .ptr _ _ => True
    | _ => False
  | .s2b x => match ρ x with
    | .str _ => True
    | _ => False
  | .ixQ _ x i => isIntA (ρ i) ∧ match ρ x with
    | .psl _ _ n => 0 ≤ intOfA (ρ i) ∧ intOfA (ρ i) < n
    | _ => False
  | .lenP x => match ρ x with
    | .psl _ _ _ => True
    | _ => False
  | .lenS x => match ρ x with
    | .str _ => True
    | _ => False
  | .len x => (slv (ρ x)).isSome = true
  | .fld off sz x => match ρ x with
    | .agg cs => ldS cs off sz
    | _ => False
  | .fldA off x => match ρ x with
    | .ptr _ _ => True
    | .el cs => off ≤ cs.length
    | _ => False
  | .ixA es x i => isIntA (ρ i) ∧ match slv (ρ x) with
    | some (n, cs) => 0 ≤ intOfA (ρ i) ∧ intOfA (ρ i) < n ∧ (intOfA (ρ i)).toNat * es + es ≤ cs.length
    | none => False
  | .ixP n es x i => isIntA (ρ i) ∧ 0 ≤ intOfA (ρ i) ∧ intOfA (ρ i) < n ∧ match ρ x with
    | .ptr _ _ => True
    | .el cs => (intOfA (ρ i)).toNat * es ≤ cs.length
    | _ => False
  | .ixS x i => isIntA (ρ i) ∧ match ρ x with
    | .str l => 0 ≤ intOfA (ρ i) ∧ intOfA (ρ i) < l.length
    | _ => False
  | .ixV n es sz x i => isIntA (ρ i) ∧ match ρ x with
    | .agg cs => 0 ≤ intOfA (ρ i) ∧ intOfA (ρ i) < n ∧ ldS cs ((intOfA (ρ i)).toNat * es) sz
    | _ => False
  | .ld sz p => match pcells σ (ρ p) with
    | some (cs, o) => ldS cs o sz
    | none => False
  | .slc es x lo hi mx => isIntO (lo.map ρ) ∧ isIntO (hi.map ρ) ∧ isIntO (mx.map ρ) ∧ match slv (ρ x) with
    | some (n, cs) =>
      0 ≤ bnd ρ 0 lo ∧ bnd ρ 0 lo ≤ bnd ρ n hi ∧ bnd ρ n hi ≤ n ∧ n * es = cs.length ∧ (match mx, hi with | some m, some y => intOfA (ρ m) = intOfA (ρ y) | some _, none => False | none, _ => True)
    | none => False
  | .slcS x lo hi => isIntO (lo.map ρ) ∧ isIntO (hi.map ρ) ∧ match ρ x with
    | .str s =>
      0 ≤ bnd ρ 0 lo ∧ bnd ρ 0 lo ≤ bnd ρ s.length hi ∧ bnd ρ s.length hi ≤ s.length
    | _ => False
  | .bld z ps => partsS ρ z.length ps
  | .mkSl es n z ps => partsS ρ z.length ps ∧ z.length = n * es
  | .mkI _ _ => True
  | .mkF _ _ => True
  | .ext x i => match ρ x with
    | .tup cs => i < cs.length
    | _ => False
  | .nilc x => match ρ x with
    | .ptr _ _ => True
    | .el _ => True
    | _ => False
  | .mm _ x y => match ρ x, ρ y with
    | .int _ _, .int _ _ => True
    | _, _ => False
  | .app _ _ es bytes x y => fresh (ρ x) ∧ match slv (ρ x), slv (ρ y) with
    | some (n, cs), some (m, ds) => cs.length = n * es ∧ ds.length = m * es ∧ n + m ≤ maxLen ∧ (n + m) * bytes ≤ 140737488355328
    | _, _ => False
  | _ => False

end Go.Abs
