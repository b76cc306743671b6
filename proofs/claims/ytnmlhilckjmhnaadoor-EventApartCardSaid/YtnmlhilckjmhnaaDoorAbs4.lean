/-
  The quiet operations that cut slices and strings, build values and slices, append onto fresh slices; bytes to a string.
-/
import Derived.Test.YtnmlhilckjmhnaaDoorAbs3
namespace Go.Abs

section
variable {P : Program} {g : Gh} {σ : St} {w : World} {a : Act} {o : Oper}

theorem run_bounds (isSlice : Bool) (n cap : Nat) (lo hi mx : Option Value) (L H : Int) (hlo : (lo = none ∧ L = 0) ∨ ∃ k, lo = some (.int k L)) (hhi : (hi = none ∧ H = n ∧ mx = none) ∨ ∃ k, hi = some (.int k H))
    (hmx : mx = none ∨ ∃ k, mx = some (.int k H)) (h0 : 0 ≤ L) (h1 : L ≤ H) (h2 : H ≤ n) (h3 : n ≤ cap) :
    (Instr.sliceBounds isSlice n cap lo hi mx).run P w = .ok (L.toNat, H.toNat, if mx.isSome then H.toNat else cap) w := by
  have hHc : H ≤ cap := by omega
  have b1 : ∀ k c, (Instr.sliceBound (.int k H) cap c).run P w = .ok H.toNat w := fun k c => run_sliceBound w k H cap c (by omega) hHc
  have b2 : ∀ k c, (Instr.sliceBound (.int k L) H.toNat c).run P w = .ok L.toNat w := fun k c => run_sliceBound w k L H.toNat c h0 (by omega)
  have b3 : ∀ k c, (Instr.sliceBound (.int k H) H.toNat c).run P w = .ok H.toNat w := fun k c => run_sliceBound w k H H.toNat c (by omega) (by omega)
  rcases hhi with ⟨rfl, rfl, rfl⟩ | ⟨kh, rfl⟩
  · simp only [Int.toNat_natCast] at b2
    rcases hlo with ⟨rfl, rfl⟩ | ⟨kl, rfl⟩ <;> simp [Instr.sliceBounds, b2]
  · rcases hmx with rfl | ⟨km, rfl⟩ <;> rcases hlo with ⟨rfl, rfl⟩ | ⟨kl, rfl⟩ <;> simp [Instr.sliceBounds, b1, b2, b3]

/-- An optional bound and its number. -/
def BoundIs (a : Act) (x : Option Operand) (d : Option Int) (L : Int) : Prop :=
  (x = none ∧ d = some L) ∨ ∃ y k, x = some y ∧ a.eval y = .int k L

theorem y_slc (hI : Inv g σ w) {t : TypeId} {x : Operand} {lo hi mx : Option Operand} {es n : Nat} {v : AV} {cs : List AV} {L H : Int} (ho : o.op = .slice t x lo hi mx) (he : esB P t es = true) (hx : Rel g w v (a.eval x)) (hv : slv v = some (n, cs))
    (hlo : BoundIs a lo (some 0) L) (hhi : BoundIs a hi (if mx.isSome then none else some n) H) (hmx : mx = none ∨ ∃ y k, mx = some y ∧ a.eval y = .int k H) (h0 : 0 ≤ L) (h1 : L ≤ H) (h2 : H ≤ n) (h3 : n * es = cs.length) :
    Yields ((execOp a.eval o).run P w) g w (.sl mx.isSome (H.toNat - L.toNat) ((cs.drop (L.toNat * es)).take ((H.toNat - L.toNat) * es))) σ := by
  obtain ⟨e, inf, hu, hi', hsz⟩ := esB_spec he
  have gl : (lo.map a.eval = none ∧ L = 0) ∨ ∃ k, lo.map a.eval = some (.int k L) := by
    rcases hlo with ⟨rfl, hL⟩ | ⟨y, k, rfl, hy⟩
    · exact .inl ⟨rfl, by simpa using hL.symm⟩
    · exact .inr ⟨k, by simp [hy]⟩
  have gh : (hi.map a.eval = none ∧ H = n ∧ mx.map a.eval = none) ∨ ∃ k, hi.map a.eval = some (.int k H) := by
    rcases hhi with ⟨rfl, hH⟩ | ⟨y, k, rfl, hy⟩
    · cases mx
      · exact .inl ⟨rfl, by simpa using hH.symm, rfl⟩
      · simp at hH
    · exact .inr ⟨k, by simp [hy]⟩
  have gm : mx.map a.eval = none ∨ ∃ k, mx.map a.eval = some (.int k H) := by
    rcases hmx with rfl | ⟨y, k, rfl, hy⟩
    · exact .inl rfl
    · exact .inr ⟨k, by simp [hy]⟩
  have gi : (mx.map a.eval).isSome = mx.isSome := by cases mx <;> rfl
  rcases hx.slv_inv hv with ⟨x0, ex, rfl, rfl⟩ | ⟨b, off, cap, us, ex, hnc, hl⟩
  · have hr := run_bounds (P := P) (w := w) true 0 0 _ _ _ L H gl gh gm h0 h1 h2 (Nat.le_refl _)
    have hL : L = 0 := by omega
    have hH : H = 0 := by omega
    subst hL; subst hH
    refine .same hI (u := .slice x0 0 0) ?_ (by simpa using Rel.sl0 _ _)
    simp only [Int.toNat_zero] at hr
    cases x0 <;> simp [execOp, ho, Instr.sliceAt, Instr.slice, run_underlying hu, ex, hr, sizeOf, typeInfo, hi']
  · have hr := run_bounds (P := P) (w := w) true n cap _ _ _ L H gl gh gm h0 h1 h2 hnc
    rw [gi] at hr
    have hle : L.toNat * es ≤ cs.length := by rw [← h3]; exact Nat.mul_le_mul_right _ (by omega)
    have hrun : (execOp a.eval o).run P w = .ok (.value (.slice (if (if mx.isSome then H.toNat else cap) = L.toNat then some ⟨b, off, none⟩ else some ⟨b, off + L.toNat * es, none⟩) (H.toNat - L.toNat) ((if mx.isSome then H.toNat else cap) - L.toNat))) w := by
      simp [execOp, ho, Instr.sliceAt, Instr.slice, run_underlying hu, ex, hr, sizeOf, typeInfo, hi', hsz, addr_add]
    have hlen : H.toNat - L.toNat ≤ (if mx.isSome then H.toNat else cap) - L.toNat := by split <;> omega
    by_cases hm : (if mx.isSome then H.toNat else cap) = L.toNat
    · rw [if_pos hm] at hrun
      have hz : H.toNat - L.toNat = 0 := by rw [hm] at hlen; omega
      refine .same hI hrun ?_
      rw [hz]
      have hl0 : Lies g w ((cs.drop (L.toNat * es)).take (0 * es)) b off ((us.drop 0).take 0) := by
        have := hl.part 0 0 (Nat.zero_le _)
        simpa using this
      exact .sl_mk (by omega) (by intro _; omega) hl0
    · rw [if_neg hm] at hrun
      refine .same hI hrun ?_
      exact .sl_mk hlen (fun hmm => by rw [if_pos hmm]) (hl.part _ _ hle)

theorem extract_str (s : List UInt8) (l h : Nat) : (⟨s.toArray⟩ : ByteArray).extract l h = ⟨((s.drop l).take (h - l)).toArray⟩ := by
  apply ByteArray.ext
  apply Array.ext'
  simp [ByteArray.data_extract]

theorem y_slcS (hI : Inv g σ w) {t : TypeId} {x : Operand} {lo hi : Option Operand} {s : List UInt8} {L H : Int} (ho : o.op = .slice t x lo hi none) (hu : P.underlying t = some .string) (hx : Rel g w (.str s) (a.eval x))
    (hlo : BoundIs a lo (some 0) L) (hhi : BoundIs a hi (some s.length) H) (h0 : 0 ≤ L) (h1 : L ≤ H) (h2 : H ≤ s.length) :
    Yields ((execOp a.eval o).run P w) g w (.str ((s.drop L.toNat).take (H.toNat - L.toNat))) σ := by
  have ex := hx.str_inv
  have gl : (lo.map a.eval = none ∧ L = 0) ∨ ∃ k, lo.map a.eval = some (.int k L) := by
    rcases hlo with ⟨rfl, hL⟩ | ⟨y, k, rfl, hy⟩
    · exact .inl ⟨rfl, by simpa using hL.symm⟩
    · exact .inr ⟨k, by simp [hy]⟩
  have gh : (hi.map a.eval = none ∧ H = s.length ∧ (none : Option Value) = none) ∨ ∃ k, hi.map a.eval = some (.int k H) := by
    rcases hhi with ⟨rfl, hH⟩ | ⟨y, k, rfl, hy⟩
    · exact .inl ⟨rfl, by simpa using hH.symm, rfl⟩
    · exact .inr ⟨k, by simp [hy]⟩
  have hr := run_bounds (P := P) (w := w) false s.length s.length _ _ none L H gl gh (.inl rfl) h0 h1 h2 (Nat.le_refl _)
  have hsz : (⟨s.toArray⟩ : ByteArray).size = s.length := by simp [ByteArray.size]
  refine .same hI (u := .string ⟨((s.drop L.toNat).take (H.toNat - L.toNat)).toArray⟩) ?_ (.str _)
  simp [execOp, ho, Instr.sliceAt, Instr.slice, run_underlying hu, ex, hsz, hr, extract_str]

/-! ### New blocks -/
theorem Ext.alloc {ob : Obj} (_hI : Inv g σ w) (F : Nat) :
    Ext g w { g with cl := fun b => if b = w.heap.size then some F else g.cl b } (w.alloc ob) := by
  refine ⟨rfl, rfl, rfl, by simp, fun _ _ h => h, fun _ _ => rfl, Nat.le_refl _, Nat.le_refl _, fun _ _ _ h => h, fun b hb hc => ⟨?_, RowKit.Below.heap_alloc w _ b hb⟩, fun b F' hb hc => ⟨F', ?_, Nat.le_refl _, fun i _ => World.cell?_alloc_lt w _ _ hb⟩, fun _ _ h => h⟩
  · simp only [if_neg (Nat.ne_of_lt hb)]; exact hc
  · simp only [if_neg (Nat.ne_of_lt hb)]; exact hc

theorem RelC.mono' {g g' : Gh} {w w' : World} {cs : List AV} {us : List Value} (h : RelC g w cs us) (he : Ext g w g' w') : RelC g' w' cs us := h.mono he

/-- A new block, claimed up to F cells: the state stands. -/
theorem Inv.alloc {ob : Obj} (hI : Inv g σ w) (F : Nat) : Inv { g with cl := fun b => if b = w.heap.size then some F else g.cl b } σ (w.alloc ob) := by
  have he := Ext.alloc (ob := ob) hI F
  refine ⟨fun β cs hb => ?_, fun β b hb => ?_, hI.boxinj, hI.boxfresh, fun τ e s n ht => ?_, hI.tipinj, hI.tipfresh, fun k cs hk => (hI.glob k cs hk).mono he, fun l r hl => ?_⟩
  · obtain ⟨b, vs, T, h1, h2, h3⟩ := hI.box β cs hb
    exact ⟨b, vs, T, h1, by rw [RowKit.Below.heap_alloc w _ b (hI.boxcl β b h1).1]; exact h2, h3.mono he⟩
  · obtain ⟨h1, h2⟩ := hI.boxcl β b hb
    exact ⟨by simp; omega, by simp only [if_neg (Nat.ne_of_lt h1)]; exact h2⟩
  · obtain ⟨v, h1, h2, h4⟩ := hI.tip τ e s n ht
    refine ⟨v, h1, fun hs => ?_, h4⟩
    obtain ⟨xs, h2, h3⟩ := h2 hs
    refine ⟨xs, h2.alloc _, fun b hb => ?_⟩
    have hlt := (h2.lt b hb).2
    obtain ⟨h5, h6⟩ := h3 b hb
    exact ⟨by simp only [if_neg (Nat.ne_of_lt hlt)]; exact h5, h6⟩
  · obtain ⟨h1, h2, h3⟩ := hI.lp l r hl
    have hlt := (Array.getElem?_eq_some_iff.1 h1).1
    exact ⟨by rw [RowKit.Below.heap_alloc w _ l hlt]; exact h1, by simp only [if_neg (Nat.ne_of_lt hlt)]; exact h2, fun t => (h3 t).mono he⟩

theorem Lies.new {T : TypeId} {cs : List AV} {us : List Value} {rest : Array Value} (hI : Inv g σ w) (h : RelC g w cs us) :
    Lies { g with cl := fun b => if b = w.heap.size then some cs.length else g.cl b } (w.alloc (.cells (us.toArray ++ rest) T)) cs w.heap.size 0 us := by
  refine ⟨⟨by simp, .inr ⟨cs.length, by simp, by omega⟩⟩, h.mono (Ext.alloc hI _), fun i v hv => ?_⟩
  have hi : i < us.length := (List.getElem?_eq_some_iff.1 hv).1
  rw [World.cell?_alloc_new, Nat.zero_add, Array.getElem?_append_left (by simpa using hi)]
  simpa using hv

theorem drewInv (hI : Inv g σ w) : Inv g σ w.drew := by
  have he : Ext g w g w.drew := ⟨rfl, rfl, rfl, Nat.le_refl _, fun _ _ h => h, fun _ _ => rfl, Nat.le_refl _, Nat.le_refl _, fun _ _ _ h => h, fun _ _ h => ⟨h, rfl⟩, fun _ F _ h => ⟨F, h, Nat.le_refl _, fun _ _ => rfl⟩, fun _ _ h => h⟩
  refine ⟨fun β cs hb => ?_, hI.boxcl, hI.boxinj, hI.boxfresh, fun τ e s n ht => ?_, hI.tipinj, hI.tipfresh, fun k cs hk => (hI.glob k cs hk).mono he, fun l r hl => ⟨(hI.lp l r hl).1, (hI.lp l r hl).2.1, fun t => ((hI.lp l r hl).2.2 t).mono he⟩⟩
  · obtain ⟨b, vs, T, h1, h2, h3⟩ := hI.box β cs hb
    exact ⟨b, vs, T, h1, h2, h3.mono he⟩
  · exact hI.tip τ e s n ht
theorem drewExt : Ext g w g w.drew := ⟨rfl, rfl, rfl, Nat.le_refl _, fun _ _ h => h, fun _ _ => rfl, Nat.le_refl _, Nat.le_refl _, fun _ _ _ h => h, fun _ _ h => ⟨h, rfl⟩, fun _ F _ h => ⟨F, h, Nat.le_refl _, fun _ _ => rfl⟩, fun _ _ h => h⟩

/-! ### append onto a slice that has no room: the value is new -/
def appB (P : Program) (t : TypeId) (e es bytes : Nat) : Bool :=
  match P.underlying t with
  | some (.slice e') => e' == e && (match P.info? e with
    | some i => i.size == es && i.bytes == bytes && es != 0 && (match i.zero with | some z => z.cells.size == es | none => false)
    | none => false)
  | _ => false
theorem appB_spec {t : TypeId} {e es bytes : Nat} (h : appB P t e es bytes = true) : ∃ i z, P.underlying t = some (.slice e) ∧ P.info? e = some i ∧ i.zero = some z ∧ i.size = es ∧ i.bytes = bytes ∧ z.cells.size = es ∧ 0 < es := by
  unfold appB at h
  split at h
  · rename_i e' he
    simp only [Bool.and_eq_true, beq_iff_eq] at h
    obtain ⟨rfl, h⟩ := h
    split at h
    · rename_i i hi
      simp only [Bool.and_eq_true, beq_iff_eq, bne_iff_ne] at h
      obtain ⟨⟨⟨h1, h2⟩, h3⟩, h4⟩ := h
      split at h4
      · rename_i z hz; exact ⟨i, z, he, hi, hz, h1, h2, by simpa using h4, by omega⟩
      · cases h4
    · cases h
  · cases h

theorem run_append_empty (t ty e : TypeId) (i : TypeInfo) (ht : P.underlying t = some (.slice e)) (hi : P.info? e = some i) (A B : Option Addr) (n cap c : Nat) (hn : n ≤ cap) :
    (Builtin.append_ #[t, t] ty #[.slice A n cap, .slice B 0 c]).run P w = .ok (.slice A n cap) w := by
  cases A <;> cases B <;> simp [Builtin.append_, run_underlying ht, sizeOf, typeInfo, hi, Builtin.lenOf, Builtin.firstCells, hn, storeCells, loadCells, loadCellsFrom]

theorem y_app (hI : Inv g σ w) {t : TypeId} {e es bytes : Nat} {x y : Operand} {vx vy : AV} {n m : Nat} {cs ds : List AV} (ho : o.op = .call { callee := .builtin .append, args := #[x, y], argTypes := #[t, t] }) (hb : appB P t e es bytes = true)
    (hx : Rel g w vx (a.eval x)) (hy : Rel g w vy (a.eval y)) (hf : fresh vx) (hvx : slv vx = some (n, cs)) (hvy : slv vy = some (m, ds)) (h1 : cs.length = n * es) (h2 : ds.length = m * es) (h3 : n + m ≤ maxLen) (h4 : (n + m) * bytes ≤ 140737488355328) :
    Yields ((execOp a.eval o).run P w) g w (.sl false (n + m) (cs ++ ds)) σ := by
  obtain ⟨i, z, hu, hi, hz, hsz, hby, hzs, hpos⟩ := appB_spec hb
  have hexec : ∀ r w', (Builtin.append_ #[t, t] o.type #[a.eval x, a.eval y]).run P w = .ok r w' → (execOp a.eval o).run P w = .ok (.value r) w' := by
    intro r w' h
    simp [execOp, ho, resolve, invoke, builtin, h]
  have hmax : maxLen ≤ 9223372036854775807 := by unfold maxLen; omega
  rcases hy.slv_inv hvy with ⟨y0, ey, rfl, rfl⟩ | ⟨b2, off2, cap2, us2, ey, hnc2, hl2⟩
  · -- nothing is appended
    have hxx : ∃ A cap, a.eval x = .slice A n cap ∧ n ≤ cap ∧ Rel g w (.sl false n cs) (.slice A n cap) := by
      rcases hx.slv_inv hvx with ⟨x0, ex, rfl, rfl⟩ | ⟨b, off, cap, us, ex, hnc, hl⟩
      · exact ⟨x0, 0, ex, Nat.le_refl _, .sl0 _ _⟩
      · exact ⟨_, cap, ex, hnc, .sl_mk hnc (by simp) hl⟩
    obtain ⟨A, cap, ex, hnc, hrel⟩ := hxx
    refine .same hI (hexec _ _ (by rw [ex, ey]; exact run_append_empty (P := P) (w := w) t o.type e i hu hi A y0 n cap 0 hnc)) ?_
    simpa using hrel
  · have hm2 : us2.length = m * es := by rw [hl2.rel.1.1, h2]
    have hcell2 : ∀ j v, us2[j]? = some v → w.cell? ((⟨b2, off2, none⟩ : Addr).add j) = some v := fun j v hv => by rw [addr_add]; exact hl2.cell j v hv
    by_cases hm0 : m = 0
    · subst hm0
      have hds : ds = [] := List.eq_nil_of_length_eq_zero (by simpa using h2)
      subst hds
      have hxx : ∃ A cap, a.eval x = .slice A n cap ∧ n ≤ cap ∧ Rel g w (.sl false n cs) (.slice A n cap) := by
        rcases hx.slv_inv hvx with ⟨x0, ex, rfl, rfl⟩ | ⟨b, off, cap, us, ex, hnc, hl⟩
        · exact ⟨x0, 0, ex, Nat.le_refl _, .sl0 _ _⟩
        · exact ⟨_, cap, ex, hnc, .sl_mk hnc (by simp) hl⟩
      obtain ⟨A, cap, ex, hnc, hrel⟩ := hxx
      refine .same hI (hexec _ _ (by rw [ex, ey]; exact run_append_empty (P := P) (w := w) t o.type e i hu hi A _ n cap cap2 hnc)) ?_
      simpa using hrel
    · have fin : ∀ (us : List Value) (cap : Nat) (rest : Array Value), RelC g w cs us → n + m ≤ cap → (execOp a.eval o).run P w = .ok (.value (.slice (some ⟨w.heap.size, 0, none⟩) (n + m) cap)) (w.drew.alloc (.cells (us.toArray ++ us2.toArray ++ rest) e)) →
          Yields ((execOp a.eval o).run P w) g w (.sl false (n + m) (cs ++ ds)) σ := by
        intro us cap rest hr hcap hrun
        have hId := drewInv hI
        have hrr : RelC g w.drew (cs ++ ds) (us ++ us2) := (hr.append hl2.rel).mono drewExt
        refine ⟨_, _, { g with cl := fun b => if b = w.drew.heap.size then some (cs ++ ds).length else g.cl b }, hrun, hId.alloc (ob := .cells (us.toArray ++ us2.toArray ++ rest) e) _, drewExt.trans (Ext.alloc hId _), ?_⟩
        have hl := Lies.new (T := e) (rest := rest) hId hrr
        rw [show (us ++ us2).toArray ++ rest = us.toArray ++ us2.toArray ++ rest by simp] at hl
        exact .sl_mk hcap (by simp) hl
      rcases hx.slv_inv hvx with ⟨x0, ex, rfl, rfl⟩ | ⟨b, off, cap, us, ex, hnc, hl⟩
      · cases x0 with
        | some x1 =>
          have hr := run_append_grow (P := P) w t o.type e i z hu hi hz x1 0 0 [] (by simp) (by simp) ⟨b2, off2, none⟩ m cap2 us2 (by rw [hsz]; exact hm2) hcell2 (by omega) (by omega) (by rw [hby]; exact growslice_fits (by omega) h4)
          have hf2 := fin [] _ _ .nil (grownCap_ge w _ _ e) (hexec _ _ (by rw [ex, ey]; exact hr))
          exact hf2
        | none =>
        have hr := run_append_nil (P := P) w t o.type e i z hu hi hz ⟨b2, off2, none⟩ m cap2 us2 (by rw [hsz]; exact hm2) hcell2 (by omega) (by omega) (by rw [hby]; simp only [Nat.zero_add] at h4; omega)
        have hf2 := fin [] (grownCap w m 0 e) (Builtin.zeroCells z.cells (grownCap w m 0 e - m)) .nil (by have := grownCap_ge w m 0 e; omega)
        simp only [Nat.zero_add, List.nil_append, Array.empty_append] at hf2 ⊢
        exact hf2 (hexec _ _ (by rw [ex, ey]; exact hr))
      · have hcap : cap = n := by
          cases vx <;> simp only [fresh] at hf
          · rw [ex] at hx; cases hx
          · rename_i fl n' cs'
            cases fl <;> simp only at hf
            rw [ex] at hx
            have := hx.full_inv
            simp [slv] at hvx
            omega
        subst hcap
        have hl1 : us.length = cap * i.size := by rw [hl.rel.1.1, h1, hsz]
        have hcell1 : ∀ j v, us[j]? = some v → w.cell? ((⟨b, off, none⟩ : Addr).add j) = some v := fun j v hv => by rw [addr_add]; exact hl.cell j v hv
        have hr := run_append_grow (P := P) w t o.type e i z hu hi hz ⟨b, off, none⟩ cap cap us hl1 hcell1 ⟨b2, off2, none⟩ m cap2 us2 (by rw [hsz]; exact hm2) hcell2 (by omega) (by omega) (by rw [hby]; exact growslice_fits (by omega) h4)
        exact fin us _ _ hl.rel (grownCap_ge w _ _ e) (hexec _ _ (by rw [ex, ey]; exact hr))

end
end Go.Abs
