/-
  The abstract values, the ghost state and the relation between an abstract value and a value of the model in a world; what is kept while the world grows. No program in sight.
-/
import Derived.WalkKit
import Derived.WalkSpells
import Derived.WalkLawsBesides
import Derived.Deep.MidRow
import Derived.Lib.Hide
namespace Go.Abs

inductive AV where
  | junk
  | bool (b : Bool)
  | int (k : IntKind) (n : Int)
  | str (l : List UInt8)
  | nils
  | sl (full : Bool) (n : Nat) (cs : List AV)
  | tsl (τ n : Nat) (cs : List AV)
  | agg (cs : List AV)
  | tup (cs : List AV)
  | ptr (β off : Nat)
  | nilp
  | el (cs : List AV)
  | ifc (t : Nat) (v : AV)
  | nili
  | fn (f : Nat) (cap : List AV)
  | nilf
  | opt (c : Bool) (v : AV)
  | yld (l : Nat)
  | psl (β off n : Nat)

instance : Inhabited AV := ⟨.junk⟩

/-- One cell of memory can hold it. -/
def AV.one : AV → Bool
  | .agg _ | .tup _ | .junk | .opt _ _ => false
  | _ => true
def AV.cells : AV → List AV
  | .agg cs => cs
  | v => [v]

structure Gh where
  box : Nat → Option Nat
  cl : Nat → Option Nat
  tip : Nat → Nat → Option Value
  nb : Nat
  nt : Nat

def Claim (g : Gh) (w : World) (b k : Nat) : Prop := b < w.heap.size ∧ (g.cl b = none ∨ ∃ F, g.cl b = some F ∧ k ≤ F)

inductive Rel (g : Gh) (w : World) : AV → Value → Prop where
  | junk (v : Value) : Rel g w .junk v
  | bool (b : Bool) : Rel g w (.bool b) (.bool b)
  | int (k : IntKind) (n : Int) : Rel g w (.int k n) (.int k n)
  | str (l : List UInt8) : Rel g w (.str l) (.string ⟨l.toArray⟩)
  | nils : Rel g w .nils (.slice none 0 0)
  | sl0 (f : Bool) (x : Option Addr) : Rel g w (.sl f 0 []) (.slice x 0 0)
  | sl (f : Bool) (n : Nat) (cs : List AV) (b off cap : Nat) (u : List Value) : n ≤ cap → (f = true → cap = n) → Claim g w b (off + cs.length) → u.length = cs.length →
      (∀ (i : Nat) (v : Value), u[i]? = some v → w.cell? ⟨b, off + i, none⟩ = some v ∧ v.oneCell' = true) →
      (∀ (i : Nat) (c : AV) (v : Value), cs[i]? = some c → u[i]? = some v → Rel g w c v) → Rel g w (.sl f n cs) (.slice (some ⟨b, off, none⟩) n cap)
  | tsl0 (τ : Nat) (x : Option Addr) : g.tip τ 0 = some (.slice x 0 0) → Rel g w (.tsl τ 0 []) (.slice x 0 0)
  | tsl (τ n : Nat) (cs : List AV) (b off cap : Nat) (u : List Value) : n ≤ cap → g.tip τ n = some (.slice (some ⟨b, off, none⟩) n cap) → Claim g w b (off + cs.length) → u.length = cs.length →
      (∀ (i : Nat) (v : Value), u[i]? = some v → w.cell? ⟨b, off + i, none⟩ = some v ∧ v.oneCell' = true) →
      (∀ (i : Nat) (c : AV) (v : Value), cs[i]? = some c → u[i]? = some v → Rel g w c v) → Rel g w (.tsl τ n cs) (.slice (some ⟨b, off, none⟩) n cap)
  | agg (cs : List AV) (vs : List Value) : vs.length = cs.length → (∀ v ∈ vs, v.oneCell' = true) → (∀ (i : Nat) (c : AV) (v : Value), cs[i]? = some c → vs[i]? = some v → Rel g w c v) → Rel g w (.agg cs) (.agg vs.toArray)
  | tup (cs : List AV) (vs : List Value) : vs.length = cs.length → (∀ (i : Nat) (c : AV) (v : Value), cs[i]? = some c → vs[i]? = some v → Rel g w c v) → Rel g w (.tup cs) (.tuple vs.toArray)
  | ptr (β off b : Nat) : g.box β = some b → Rel g w (.ptr β off) (.pointer (some ⟨b, off, none⟩))
  | nilp : Rel g w .nilp (.pointer none)
  | el (cs : List AV) (b off : Nat) (u : List Value) : Claim g w b (off + cs.length) → u.length = cs.length → (∀ (i : Nat) (v : Value), u[i]? = some v → w.cell? ⟨b, off + i, none⟩ = some v ∧ v.oneCell' = true) →
      (∀ (i : Nat) (c : AV) (v : Value), cs[i]? = some c → u[i]? = some v → Rel g w c v) → Rel g w (.el cs) (.pointer (some ⟨b, off, none⟩))
  | ifc (t : Nat) (v : AV) (u : Value) : Rel g w v u → Rel g w (.ifc t v) (.iface t u)
  | nili : Rel g w .nili .nilIface
  | fn (f : Nat) (cap : List AV) (vs : List Value) : vs.length = cap.length → (∀ (i : Nat) (c : AV) (v : Value), cap[i]? = some c → vs[i]? = some v → Rel g w c v) → Rel g w (.fn f cap) (.func (.func f) #[] vs.toArray)
  | nilf : Rel g w .nilf .nilFunc
  | opt (c : Bool) (v : AV) (u : Value) : (c = true → Rel g w v u) → (c = false → u = undef) → Rel g w (.opt c v) u
  | yld (l : Nat) : Rel g w (.yld l) (.func (.yield l) #[] #[])
  | psl (β off n b cap : Nat) : g.box β = some b → n ≤ cap → Rel g w (.psl β off n) (.slice (some ⟨b, off, none⟩) n cap)

def RelL (g : Gh) (w : World) (cs : List AV) (vs : List Value) : Prop := vs.length = cs.length ∧ ∀ (i : Nat) (c : AV) (v : Value), cs[i]? = some c → vs[i]? = some v → Rel g w c v

structure Ext (g : Gh) (w : World) (g' : Gh) (w' : World) : Prop where
  os : w'.os = w.os
  tape : w'.tape = w.tape
  output : w'.output = w.output
  size : w.heap.size ≤ w'.heap.size
  box : ∀ β b, g.box β = some b → g'.box β = some b
  boxold : ∀ β, β < g.nb → g'.box β = g.box β
  nb : g.nb ≤ g'.nb
  nt : g.nt ≤ g'.nt
  tip : ∀ m n v, g.tip m n = some v → g'.tip m n = some v
  cln : ∀ b, b < w.heap.size → g.cl b = none → g'.cl b = none ∧ w'.heap[b]? = w.heap[b]?
  cls : ∀ b F, b < w.heap.size → g.cl b = some F → ∃ F', g'.cl b = some F' ∧ F ≤ F' ∧ ∀ i, i < F → w'.cell? ⟨b, i, none⟩ = w.cell? ⟨b, i, none⟩
  tipn : ∀ m, m < g.nt → (∀ n, g.tip m n = none) → ∀ n, g'.tip m n = none

theorem Claim.mono {g g' : Gh} {w w' : World} {b k : Nat} (h : Claim g w b k) (he : Ext g w g' w') : Claim g' w' b k := by
  obtain ⟨hb, h⟩ := h
  refine ⟨Nat.lt_of_lt_of_le hb he.size, ?_⟩
  rcases h with h | ⟨F, h, hk⟩
  · exact .inl (he.cln b hb h).1
  · obtain ⟨F', h', hF, _⟩ := he.cls b F hb h
    exact .inr ⟨F', h', Nat.le_trans hk hF⟩

theorem Claim.cell {g g' : Gh} {w w' : World} {b k : Nat} (h : Claim g w b k) (he : Ext g w g' w') {i : Nat} (hi : i < k) : w'.cell? ⟨b, i, none⟩ = w.cell? ⟨b, i, none⟩ := by
  obtain ⟨hb, h⟩ := h
  rcases h with h | ⟨F, h, hk⟩
  · exact World.cell?_of_block (he.cln b hb h).2
  · obtain ⟨F', h', hF, hc⟩ := he.cls b F hb h
    exact hc i (Nat.lt_of_lt_of_le hi hk)

theorem Claim.le {g : Gh} {w : World} {b k k' : Nat} (h : Claim g w b k) (hk : k' ≤ k) : Claim g w b k' :=
  ⟨h.1, h.2.imp id fun ⟨F, h1, h2⟩ => ⟨F, h1, Nat.le_trans hk h2⟩⟩

theorem Rel.mono {g g' : Gh} {w w' : World} {a : AV} {v : Value} (h : Rel g w a v) (he : Ext g w g' w') : Rel g' w' a v := by
  induction h with
  | junk v => exact .junk v
  | bool b => exact .bool b
  | int k n => exact .int k n
  | str l => exact .str l
  | nils => exact .nils
  | sl0 f x => exact .sl0 f x
  | sl f n cs b off cap u h1 h2 h4 h5 h6 h7 ih =>
    refine .sl f n cs b off cap u h1 h2 (h4.mono he) h5 (fun i v hv => ?_) ih
    have hi : i < u.length := (List.getElem?_eq_some_iff.1 hv).1
    rw [h4.cell he (by omega)]
    exact h6 i v hv
  | tsl0 τ x h => exact .tsl0 τ x (he.tip _ _ _ h)
  | tsl τ n cs b off cap u h1 h2 h4 h5 h6 h7 ih =>
    refine .tsl τ n cs b off cap u h1 (he.tip _ _ _ h2) (h4.mono he) h5 (fun i v hv => ?_) ih
    have hi : i < u.length := (List.getElem?_eq_some_iff.1 hv).1
    rw [h4.cell he (by omega)]
    exact h6 i v hv
  | agg cs vs h1 h0 h2 ih => exact .agg cs vs h1 h0 ih
  | tup cs vs h1 h2 ih => exact .tup cs vs h1 ih
  | ptr β off b h => exact .ptr β off b (he.box _ _ h)
  | nilp => exact .nilp
  | el cs b off u h4 h5 h6 h7 ih =>
    refine .el cs b off u (h4.mono he) h5 (fun i v hv => ?_) ih
    have hi : i < u.length := (List.getElem?_eq_some_iff.1 hv).1
    rw [h4.cell he (by omega)]
    exact h6 i v hv
  | ifc t v u h ih => exact .ifc t v u ih
  | nili => exact .nili
  | fn f cap vs h1 h2 ih => exact .fn f cap vs h1 ih
  | nilf => exact .nilf
  | opt c v u h h0 ih => exact .opt c v u ih h0
  | yld l => exact .yld l
  | psl β off n b cap h h1 => exact .psl β off n b cap (he.box _ _ h) h1

theorem RelL.mono {g g' : Gh} {w w' : World} {a : List AV} {v : List Value} (h : RelL g w a v) (he : Ext g w g' w') : RelL g' w' a v :=
  ⟨h.1, fun i c v hc hv => (h.2 i c v hc hv).mono he⟩

theorem RelL.nil {g : Gh} {w : World} : RelL g w [] [] := ⟨rfl, fun i c v h => by simp at h⟩
theorem RelL.cons {g : Gh} {w : World} {a : AV} {v : Value} {as : List AV} {vs : List Value} (h : Rel g w a v) (hs : RelL g w as vs) : RelL g w (a :: as) (v :: vs) := by
  refine ⟨by simp [hs.1], fun i c u hc hu => ?_⟩
  cases i with
  | zero => simp at hc hu; subst hc; subst hu; exact h
  | succ i => simp at hc hu; exact hs.2 i c u hc hu
theorem RelL.cons_inv {g : Gh} {w : World} {a : AV} {as : List AV} {l : List Value} (h : RelL g w (a :: as) l) : ∃ v vs, l = v :: vs ∧ Rel g w a v ∧ RelL g w as vs := by
  cases l with
  | nil => have := h.1; simp at this
  | cons v vs =>
    refine ⟨v, vs, rfl, h.2 0 a v rfl rfl, by have := h.1; simpa using this, fun i c u hc hu => h.2 (i + 1) c u (by simpa using hc) (by simpa using hu)⟩
theorem RelL.nil_inv {g : Gh} {w : World} {l : List Value} (h : RelL g w [] l) : l = [] := List.eq_nil_of_length_eq_zero h.1
theorem RelL.append {g : Gh} {w : World} {a b : List AV} {x y : List Value} (h : RelL g w a x) (k : RelL g w b y) : RelL g w (a ++ b) (x ++ y) := by
  refine ⟨by simp [h.1, k.1], fun i c v hc hv => ?_⟩
  rcases Nat.lt_or_ge i a.length with hi | hi
  · rw [List.getElem?_append_left hi] at hc
    rw [List.getElem?_append_left (by have := h.1; omega)] at hv
    exact h.2 i c v hc hv
  · rw [List.getElem?_append_right hi] at hc
    rw [List.getElem?_append_right (by have := h.1; omega), h.1] at hv
    exact k.2 _ c v hc hv
theorem RelL.drop {g : Gh} {w : World} {a : List AV} {x : List Value} (h : RelL g w a x) (n : Nat) : RelL g w (a.drop n) (x.drop n) := by
  refine ⟨by simp [h.1], fun i c v hc hv => ?_⟩
  rw [List.getElem?_drop] at hc hv
  exact h.2 _ c v hc hv
theorem RelL.take {g : Gh} {w : World} {a : List AV} {x : List Value} (h : RelL g w a x) (n : Nat) : RelL g w (a.take n) (x.take n) := by
  refine ⟨by simp [h.1], fun i c v hc hv => ?_⟩
  rw [List.getElem?_take] at hc hv
  split at hc
  · rename_i hlt; rw [if_pos hlt] at hv; exact h.2 _ c v hc hv
  · cases hc
theorem RelL.set {g : Gh} {w : World} {a : List AV} {x : List Value} (h : RelL g w a x) {c : AV} {v : Value} (hv : Rel g w c v) (n : Nat) : RelL g w (a.set n c) (x.set n v) := by
  refine ⟨by simp [h.1], fun i c' v' hc hv' => ?_⟩
  rw [List.getElem?_set] at hc hv'
  split at hc
  · rename_i hn
    subst hn
    rw [if_pos rfl] at hv'
    split at hc <;> split at hv' <;> simp_all
  · rename_i hn
    rw [if_neg hn] at hv'
    exact h.2 _ _ _ hc hv'
theorem RelL.get {g : Gh} {w : World} {a : List AV} {x : List Value} (h : RelL g w a x) {i : Nat} {c : AV} (hc : a[i]? = some c) : ∃ v, x[i]? = some v ∧ Rel g w c v := by
  have hi : i < a.length := (List.getElem?_eq_some_iff.1 hc).1
  have hx : i < x.length := by have := h.1; omega
  exact ⟨x[i], List.getElem?_eq_getElem hx, h.2 i c _ hc (List.getElem?_eq_getElem hx)⟩

/-- Cells: related one by one, and each fits into one cell. -/
def RelC (g : Gh) (w : World) (cs : List AV) (vs : List Value) : Prop := RelL g w cs vs ∧ ∀ v ∈ vs, v.oneCell' = true

theorem RelC.mono {g g' : Gh} {w w' : World} {a : List AV} {v : List Value} (h : RelC g w a v) (he : Ext g w g' w') : RelC g' w' a v := ⟨h.1.mono he, h.2⟩
theorem RelC.nil {g : Gh} {w : World} : RelC g w [] [] := ⟨.nil, by simp⟩
theorem RelC.append {g : Gh} {w : World} {a b : List AV} {x y : List Value} (h : RelC g w a x) (k : RelC g w b y) : RelC g w (a ++ b) (x ++ y) :=
  ⟨h.1.append k.1, fun v hv => (List.mem_append.1 hv).elim (h.2 v) (k.2 v)⟩
theorem RelC.drop {g : Gh} {w : World} {a : List AV} {x : List Value} (h : RelC g w a x) (n : Nat) : RelC g w (a.drop n) (x.drop n) := ⟨h.1.drop n, fun v hv => h.2 v (List.mem_of_mem_drop hv)⟩
theorem RelC.take {g : Gh} {w : World} {a : List AV} {x : List Value} (h : RelC g w a x) (n : Nat) : RelC g w (a.take n) (x.take n) := ⟨h.1.take n, fun v hv => h.2 v (List.mem_of_mem_take hv)⟩

/-- The cells from 'off' of block 'b' on hold these, and are claimed. -/
structure Lies (g : Gh) (w : World) (cs : List AV) (b off : Nat) (u : List Value) : Prop where
  claim : Claim g w b (off + cs.length)
  rel : RelC g w cs u
  cell : ∀ i v, u[i]? = some v → w.cell? ⟨b, off + i, none⟩ = some v

theorem Lies.mono {g g' : Gh} {w w' : World} {cs : List AV} {b off : Nat} {u : List Value} (h : Lies g w cs b off u) (he : Ext g w g' w') : Lies g' w' cs b off u := by
  refine ⟨h.claim.mono he, h.rel.mono he, fun i v hv => ?_⟩
  have hi : i < u.length := (List.getElem?_eq_some_iff.1 hv).1
  have := h.rel.1.1
  rw [h.claim.cell he (by omega)]
  exact h.cell i v hv
theorem Lies.part {g : Gh} {w : World} {cs : List AV} {b off : Nat} {u : List Value} (h : Lies g w cs b off u) (k n : Nat) (hk : k ≤ cs.length) : Lies g w ((cs.drop k).take n) b (off + k) ((u.drop k).take n) := by
  refine ⟨h.claim.le (by simp only [List.length_take, List.length_drop]; omega), (h.rel.drop k).take n, fun i v hv => ?_⟩
  rw [List.getElem?_take] at hv
  split at hv
  · rw [List.getElem?_drop] at hv
    rw [Nat.add_assoc]
    exact h.cell _ v hv
  · cases hv
theorem Lies.drop {g : Gh} {w : World} {cs : List AV} {b off : Nat} {u : List Value} (h : Lies g w cs b off u) (k : Nat) (hk : k ≤ cs.length) : Lies g w (cs.drop k) b (off + k) (u.drop k) := by
  refine ⟨h.claim.le (by simp only [List.length_drop]; omega), h.rel.drop k, fun i v hv => ?_⟩
  rw [List.getElem?_drop] at hv
  rw [Nat.add_assoc]
  exact h.cell _ v hv

theorem Rel.sl_mk {g : Gh} {w : World} {f : Bool} {n b off cap : Nat} {cs : List AV} {u : List Value} (h1 : n ≤ cap) (h2 : f = true → cap = n) (h : Lies g w cs b off u) : Rel g w (.sl f n cs) (.slice (some ⟨b, off, none⟩) n cap) :=
  .sl f n cs b off cap u h1 h2 h.claim h.rel.1.1 (fun i v hv => ⟨h.cell i v hv, h.rel.2 v (List.mem_of_getElem? hv)⟩) h.rel.1.2
theorem Rel.tsl_mk {g : Gh} {w : World} {τ n b off cap : Nat} {cs : List AV} {u : List Value} (h1 : n ≤ cap) (h2 : g.tip τ n = some (.slice (some ⟨b, off, none⟩) n cap)) (h : Lies g w cs b off u) : Rel g w (.tsl τ n cs) (.slice (some ⟨b, off, none⟩) n cap) :=
  .tsl τ n cs b off cap u h1 h2 h.claim h.rel.1.1 (fun i v hv => ⟨h.cell i v hv, h.rel.2 v (List.mem_of_getElem? hv)⟩) h.rel.1.2
theorem Rel.el_mk {g : Gh} {w : World} {b off : Nat} {cs : List AV} {u : List Value} (h : Lies g w cs b off u) : Rel g w (.el cs) (.pointer (some ⟨b, off, none⟩)) :=
  .el cs b off u h.claim h.rel.1.1 (fun i v hv => ⟨h.cell i v hv, h.rel.2 v (List.mem_of_getElem? hv)⟩) h.rel.1.2
theorem Rel.agg_mk {g : Gh} {w : World} {cs : List AV} {u : List Value} (h : RelC g w cs u) : Rel g w (.agg cs) (.agg u.toArray) := .agg cs u h.1.1 h.2 h.1.2
theorem Rel.tup_mk {g : Gh} {w : World} {cs : List AV} {u : List Value} (h : RelL g w cs u) : Rel g w (.tup cs) (.tuple u.toArray) := .tup cs u h.1 h.2
theorem Rel.el_inv {g : Gh} {w : World} {cs : List AV} {v : Value} (h : Rel g w (.el cs) v) : ∃ b off u, v = .pointer (some ⟨b, off, none⟩) ∧ Lies g w cs b off u := by
  cases h with
  | el cs b off u h4 h5 h6 h7 => exact ⟨b, off, u, rfl, h4, ⟨⟨h5, h7⟩, fun v hv => by obtain ⟨i, hi, rfl⟩ := List.getElem_of_mem hv; exact (h6 i _ (List.getElem?_eq_getElem hi)).2⟩, fun i v hv => (h6 i v hv).1⟩
theorem Rel.agg_inv {g : Gh} {w : World} {cs : List AV} {v : Value} (h : Rel g w (.agg cs) v) : ∃ u : List Value, v = .agg u.toArray ∧ RelC g w cs u := by
  cases h with
  | agg cs vs h1 h0 h2 => exact ⟨vs, rfl, ⟨h1, h2⟩, h0⟩
theorem Rel.tup_inv {g : Gh} {w : World} {cs : List AV} {v : Value} (h : Rel g w (.tup cs) v) : ∃ u : List Value, v = .tuple u.toArray ∧ RelL g w cs u := by
  cases h with
  | tup cs vs h1 h2 => exact ⟨vs, rfl, ⟨h1, h2⟩⟩

theorem Rel.bool_inv {g : Gh} {w : World} {b : Bool} {v : Value} (h : Rel g w (.bool b) v) : v = .bool b := by cases h; rfl
theorem Rel.int_inv {g : Gh} {w : World} {k : IntKind} {n : Int} {v : Value} (h : Rel g w (.int k n) v) : v = .int k n := by cases h; rfl
theorem Rel.str_inv {g : Gh} {w : World} {l : List UInt8} {v : Value} (h : Rel g w (.str l) v) : v = .string ⟨l.toArray⟩ := by cases h; rfl
theorem Rel.ptr_inv {g : Gh} {w : World} {β off : Nat} {v : Value} (h : Rel g w (.ptr β off) v) : ∃ b, v = .pointer (some ⟨b, off, none⟩) ∧ g.box β = some b := by
  cases h with
  | ptr _ _ b h => exact ⟨b, rfl, h⟩
theorem Rel.fn_inv {g : Gh} {w : World} {f : Nat} {cap : List AV} {v : Value} (h : Rel g w (.fn f cap) v) : ∃ u : List Value, v = .func (.func f) #[] u.toArray ∧ RelL g w cap u := by
  cases h with
  | fn f cap vs h1 h2 => exact ⟨vs, rfl, h1, h2⟩
theorem Rel.ifc_inv {g : Gh} {w : World} {t : Nat} {a : AV} {v : Value} (h : Rel g w (.ifc t a) v) : ∃ u : Value, v = .iface t u ∧ Rel g w a u := by
  cases h with
  | ifc t v u h => exact ⟨u, rfl, h⟩

theorem Rel.yld_inv {g : Gh} {w : World} {l : Nat} {v : Value} (h : Rel g w (.yld l) v) : v = .func (.yield l) #[] #[] := by cases h; rfl
theorem Rel.psl_inv {g : Gh} {w : World} {β off n : Nat} {v : Value} (h : Rel g w (.psl β off n) v) : ∃ b cap, v = .slice (some ⟨b, off, none⟩) n cap ∧ g.box β = some b ∧ n ≤ cap := by
  cases h with
  | psl _ _ _ b cap h h1 => exact ⟨b, cap, rfl, h, h1⟩

/-- The elements' number and the cells of an abstract slice. -/
def slv : AV → Option (Nat × List AV)
  | .nils => some (0, [])
  | .sl _ n cs => some (n, cs)
  | .tsl _ n cs => some (n, cs)
  | _ => none

theorem Rel.slv_inv {g : Gh} {w : World} {a : AV} {v : Value} {n : Nat} {cs : List AV} (h : Rel g w a v) (ha : slv a = some (n, cs)) :
    (∃ x, v = .slice x 0 0 ∧ n = 0 ∧ cs = []) ∨ ∃ b off cap u, v = .slice (some ⟨b, off, none⟩) n cap ∧ n ≤ cap ∧ Lies g w cs b off u := by
  cases h <;> simp [slv] at ha
  case nils => exact .inl ⟨none, rfl, by simp_all, by simp_all⟩
  case sl0 => exact .inl ⟨_, rfl, by simp_all, by simp_all⟩
  case tsl0 => exact .inl ⟨_, rfl, by simp_all, by simp_all⟩
  case sl f b off cap u h1 h2 h4 h5 h6 h7 =>
    obtain ⟨rfl, rfl⟩ := ha
    exact .inr ⟨b, off, cap, u, rfl, h1, h4, ⟨⟨h5, h7⟩, fun v hv => by obtain ⟨i, hi, rfl⟩ := List.getElem_of_mem hv; exact (h6 i _ (List.getElem?_eq_getElem hi)).2⟩, fun i v hv => (h6 i v hv).1⟩
  case tsl τ b off cap u h1 h2 h4 h5 h6 h7 =>
    obtain ⟨rfl, rfl⟩ := ha
    exact .inr ⟨b, off, cap, u, rfl, h1, h4, ⟨⟨h5, h7⟩, fun v hv => by obtain ⟨i, hi, rfl⟩ := List.getElem_of_mem hv; exact (h6 i _ (List.getElem?_eq_getElem hi)).2⟩, fun i v hv => (h6 i v hv).1⟩

theorem Rel.full_inv {g : Gh} {w : World} {n : Nat} {cs : List AV} {b off cap m : Nat} (h : Rel g w (.sl true n cs) (.slice (some ⟨b, off, none⟩) m cap)) : cap = n := by
  cases h with
  | sl0 => rfl
  | sl f n cs b off cap u h1 h2 => exact h2 rfl
theorem Rel.tsl_inv {g : Gh} {w : World} {τ n : Nat} {cs : List AV} {v : Value} (h : Rel g w (.tsl τ n cs) v) : g.tip τ n = some v := by
  cases h with
  | tsl0 _ _ h => exact h
  | tsl τ n cs b off cap u h1 h2 => exact h2

/-- What is one cell among the abstract values is one cell among the values. -/
theorem Rel.one {g : Gh} {w : World} {a : AV} {v : Value} (h : Rel g w a v) (ha : a.one = true) : v.oneCell' = true := by
  cases h <;> first | rfl | (simp [AV.one] at ha)

def AV.fits : AV → Bool
  | .agg _ => true
  | a => a.one

theorem Rel.cells {g : Gh} {w : World} {a : AV} {v : Value} (h : Rel g w a v) (ha : a.fits = true) : RelC g w a.cells v.cells.toList := by
  by_cases hag : ∃ cs, a = .agg cs
  · obtain ⟨cs, rfl⟩ := hag
    obtain ⟨u, rfl, hu⟩ := h.agg_inv
    simpa [AV.cells, Value.cells] using hu
  · have h1 : a.one = true := by cases a <;> first | exact ha | exact (hag ⟨_, rfl⟩).elim
    have h2 : a.cells = [a] := by cases a <;> first | rfl | exact (hag ⟨_, rfl⟩).elim
    have h3 := h.one h1
    have h4 : v.cells.toList = [v] := by cases v <;> first | rfl | (simp [Value.oneCell'] at h3)
    rw [h2, h4]
    exact ⟨.cons h .nil, fun x hx => by simp at hx; subst hx; exact h3⟩

end Go.Abs
