/-
  Each operation of the abstract machine stands for the model's: (5) slices, texts, the small ones.
-/
import Derived.Test.YtadmjdnkhpngeaaGreatDoorAmOps4
namespace Go.Am
section
variable {P : Program} {μ : Mu} {h : Hp} {w : World} {c : Nat}

theorem fieldAddr_sound (r : Rel μ h w) {s : TypeId} {fs : Array Field} {f : Nat} {fd : Field} {i : TI} (hs : P.underlying s = some (.struct fs)) (hf : fs[f]? = some fd) (hi : ti P fd.type = some i) (h0 : i.size ≠ 0)
    {id off : Nat} {x : Value} (hx : V μ (.ptr id off) x) : Fine P μ h w (Instr.fieldAt s x f) ⟨.ptr id (off + fd.offset), h, c, .e⟩ := by
  obtain ⟨q, h1, h2, h3, h4, h5⟩ := ti_spec hi
  obtain ⟨R, base, fin, hm, rfl⟩ := hx
  refine Fine.pure r (x := .pointer (some ⟨R, base + (off + fd.offset), none⟩)) ?_ ⟨R, base, fin, hm, rfl⟩
  simp only [Instr.fieldAt, Sem.run_bind, r_underlying hs, Result.andThen_ok, hf, Instr.sureAddr, Sem.run_pure, fieldPlace, r_sizeOf h2, h3, if_neg h0, add_at, Nat.add_assoc]

theorem field_sound (r : Rel μ h w) {s : TypeId} {fs : Array Field} {f : Nat} {fd : Field} {i : TI} (hs : P.underlying s = some (.struct fs)) (hf : fs[f]? = some fd) (hi : ti P fd.type = some i)
    {l : List AV} {x : Value} (hx : V μ (.agg l) x) : (isAggT i.d = true → Fine P μ h w (Instr.field s x f) ⟨.agg ((l.drop fd.offset).take i.size), h, c, .e⟩) ∧
      (isAggT i.d = false → ∀ v, l[fd.offset]? = some v → Fine P μ h w (Instr.field s x f) ⟨v, h, c, .e⟩) := by
  obtain ⟨q, h1, h2, h3, h4, h5⟩ := ti_spec hi
  obtain ⟨vs, rfl, hvs⟩ := hx
  have hag := r_isAgg (w := w) h1
  constructor
  · intro hd
    rw [hd] at hag
    refine Fine.pure r (x := .agg (vs.toArray.extract fd.offset (fd.offset + i.size))) ?_ ⟨(vs.drop fd.offset).take i.size, ?_, VL_take (VL_drop hvs _) _⟩
    · simp only [Instr.field, Sem.run_bind, r_underlying hs, Result.andThen_ok, hf, asAgg, Sem.run_pure, part, hag, if_true, r_sizeOf h2, h3]
    · congr 1
      apply Array.ext'
      simp
  · intro hd v hv
    rw [hd] at hag
    obtain ⟨y, e, g⟩ := VL_get hvs hv
    refine Fine.pure r (x := y) ?_ g
    have e' : vs.toArray[fd.offset]? = some y := by simpa using e
    simp only [Instr.field, Sem.run_bind, r_underlying hs, Result.andThen_ok, hf, asAgg, Sem.run_pure, part, hag, Bool.false_eq_true, if_false, e']

theorem int_of {a : AV} {n : Nat} {x : Value} (h : idx a = some n) (hx : V μ a x) : ∃ k, x = .int k (Int.ofNat n) := by
  cases a <;> simp only [idx, reduceCtorEq] at h
  rename_i k m
  cases m <;> simp only [Option.some.injEq, reduceCtorEq] at h
  subst h; cases hx; exact ⟨k, rfl⟩

theorem indexAddrS_sound (r : Rel μ h w) {t : TypeId} {e : TypeId} {i : TI} (ht : P.underlying t = some (.slice e)) (hi : ti P e = some i) {id off n j : Nat} {k : IntKind} {x y : Value} (hx : V μ (.slice id off n i.size) x)
    (hy : V μ (.int k (.ofNat j)) y) (hj : j < n) : Fine P μ h w (Instr.indexAt t x y) ⟨.ptr id (off + j * i.size), h, c, .e⟩ := by
  obtain ⟨q, h1, h2, h3, h4, h5⟩ := ti_spec hi
  obtain ⟨R, base, fin, a, rc, hm, rfl, g1, g2, g3, g4⟩ := hx
  cases hy
  refine Fine.pure r (x := .pointer (some ⟨R, base + (off + j * i.size), none⟩)) ?_ ⟨R, base, fin, hm, rfl⟩
  have hj' : (0 : Int) ≤ (j : Int) ∧ (j : Int) < (n : Int) := by omega
  simp only [Instr.indexAt, asIntOf, Sem.run_bind, Sem.run_pure, Result.andThen_ok, r_underlying ht, hj', and_self, if_true, r_sizeOf h2, h3, add_at, g4 (by omega), Int.ofNat_eq_natCast, Int.toNat_natCast, Nat.add_assoc]

theorem indexAddrA_sound (r : Rel μ h w) {t : TypeId} {e m : Nat} {i : TI} (ht : P.underlying t = some (.array m e)) (hi : ti P e = some i) {id off j : Nat} {k : IntKind} {x y : Value} (hx : V μ (.ptr id off) x)
    (hy : V μ (.int k (.ofNat j)) y) (hj : j < m) : Fine P μ h w (Instr.indexAt t x y) ⟨.ptr id (off + j * i.size), h, c, .e⟩ := by
  obtain ⟨q, h1, h2, h3, h4, h5⟩ := ti_spec hi
  obtain ⟨R, base, fin, hm, rfl⟩ := hx
  cases hy
  refine Fine.pure r (x := .pointer (some ⟨R, base + (off + j * i.size), none⟩)) ?_ ⟨R, base, fin, hm, rfl⟩
  have hj' : (0 : Int) ≤ (j : Int) ∧ (j : Int) < (m : Int) := by omega
  simp only [Instr.indexAt, asIntOf, Sem.run_bind, Sem.run_pure, Result.andThen_ok, r_underlying ht, Instr.sureAddr, hj', and_self, if_true, r_sizeOf h2, h3, add_at, Int.ofNat_eq_natCast, Int.toNat_natCast, Nat.add_assoc]

theorem indexA_sound (r : Rel μ h w) {t : TypeId} {e m : Nat} {i : TI} (ht : P.underlying t = some (.array m e)) (hi : ti P e = some i) {l : List AV} {j : Nat} {k : IntKind} {x y : Value} (hx : V μ (.agg l) x)
    (hy : V μ (.int k (.ofNat j)) y) (hj : j < m) : (isAggT i.d = true → Fine P μ h w (Instr.index t x y) ⟨.agg ((l.drop (j * i.size)).take i.size), h, c, .e⟩) ∧
      (isAggT i.d = false → ∀ v, l[j * i.size]? = some v → Fine P μ h w (Instr.index t x y) ⟨v, h, c, .e⟩) := by
  obtain ⟨q, h1, h2, h3, h4, h5⟩ := ti_spec hi
  obtain ⟨vs, rfl, hvs⟩ := hx
  cases hy
  have hag := r_isAgg (w := w) h1
  have hj' : (0 : Int) ≤ (j : Int) ∧ (j : Int) < (m : Int) := by omega
  constructor
  · intro hd
    rw [hd] at hag
    refine Fine.pure r (x := .agg (vs.toArray.extract (j * i.size) (j * i.size + i.size))) ?_ ⟨(vs.drop (j * i.size)).take i.size, ?_, VL_take (VL_drop hvs _) _⟩
    · simp only [Instr.index, asIntOf, Sem.run_bind, r_underlying ht, Result.andThen_ok, Sem.run_pure, hj', and_self, if_true, part, hag, r_sizeOf h2, h3, Int.ofNat_eq_natCast, Int.toNat_natCast]
    · congr 1
      apply Array.ext'
      simp
  · intro hd v hv
    rw [hd] at hag
    obtain ⟨y, e, g⟩ := VL_get hvs hv
    refine Fine.pure r (x := y) ?_ g
    have e' : vs.toArray[j * i.size]? = some y := by simpa using e
    simp only [Instr.index, asIntOf, Sem.run_bind, r_underlying ht, Result.andThen_ok, Sem.run_pure, hj', and_self, if_true, part, hag, Bool.false_eq_true, if_false, r_sizeOf h2, h3, Int.ofNat_eq_natCast, Int.toNat_natCast, e']

theorem indexS_sound (r : Rel μ h w) {t : TypeId} (ht : P.underlying t = some .string) {s : List Nat} {j b : Nat} {k : IntKind} {x y : Value} (hx : V μ (.str s) x) (hy : V μ (.int k (.ofNat j)) y) (hj : s[j]? = some b) :
    Fine P μ h w (Instr.index t x y) ⟨.int .u8 (.ofNat (b % 256)), h, c, .e⟩ := by
  cases hx; cases hy
  refine Fine.pure r (x := .int .u8 (Int.ofNat (b % 256))) ?_ rfl
  have hlt : j < s.length := by
    rcases Nat.lt_or_ge j s.length with g | g
    · exact g
    · rw [List.getElem?_eq_none g] at hj; cases hj
  have e : (baOf s)[j]? = some (UInt8.ofNat b) := by
    have hs : j < (baOf s).size := by rw [baOf_size]; exact hlt
    rw [getElem?_pos (baOf s) j hs]
    congr 1
    show (baOf s).data[j] = _
    simp only [baOf, List.getElem_toArray, List.getElem_map]
    rw [List.getElem?_eq_getElem hlt] at hj
    cases hj; rfl
  have h0 : (0 : Int) ≤ (j : Int) := by omega
  simp only [Instr.index, asIntOf, Sem.run_bind, r_underlying ht, Result.andThen_ok, Sem.run_pure, h0, if_true, Int.ofNat_eq_natCast, Int.toNat_natCast, e]
  simp

theorem bound_run {x : Value} {k : IntKind} {n y : Nat} {code : BoundsCode} (hx : x = .int k (Int.ofNat n)) (hn : n ≤ y) : (Instr.sliceBound x y code).run P w = .ok n w := by
  subst hx
  have hj' : (0 : Int) ≤ (n : Int) ∧ (n : Int) ≤ (y : Int) := by omega
  simp only [Instr.sliceBound, asIntOf, Sem.run_bind, Sem.run_pure, Result.andThen_ok, hj', and_self, if_true, Int.ofNat_eq_natCast, Int.toNat_natCast]

theorem VO (o : Option AV) (x : Option Value) : (match o, x with | none, none => True | some a, some x => V μ a x | _, _ => False) → (o = none ∧ x = none) ∨ ∃ a y, o = some a ∧ x = some y ∧ V μ a y := by
  intro h
  cases o <;> cases x <;> first | exact h.elim | exact .inl ⟨rfl, rfl⟩ | exact .inr ⟨_, _, rfl, rfl, h⟩

/-- The bounds of a slice expression. -/
theorem bounds_run {lo hi : Option AV} {xl xh : Option Value} {len cap l u : Nat} {b : Bool} (hl : (lo = none ∧ xl = none) ∨ ∃ a y, lo = some a ∧ xl = some y ∧ V μ a y) (hh : (hi = none ∧ xh = none) ∨ ∃ a y, hi = some a ∧ xh = some y ∧ V μ a y)
    (el : bnd 0 lo = some l) (eh : bnd len hi = some u) (hlu : l ≤ u) (hul : u ≤ len) (hc : len ≤ cap) : (Instr.sliceBounds b len cap xl xh none).run P w = .ok (l, u, cap) w := by
  have e1 : (match xh, (none : Option Value) with
    | some v, some _ => Instr.sliceBound v cap .slice3B
    | some v, none => Instr.sliceBound v cap (if b then .sliceAcap else .sliceAlen)
    | none, none => pure len
    | none, some _ => stuck "Slice: max without high").run P w = .ok u w := by
    rcases hh with ⟨rfl, rfl⟩ | ⟨a, y, rfl, rfl, hv⟩
    · cases eh; rfl
    · obtain ⟨k, hk⟩ := int_of eh hv
      exact bound_run hk (by omega)
  have e2 : (match xl with
    | some v => Instr.sliceBound v u (if (none : Option Value).isSome then .slice3C else .sliceB)
    | none => pure 0).run P w = .ok l w := by
    rcases hl with ⟨rfl, rfl⟩ | ⟨a, y, rfl, rfl, hv⟩
    · cases el; rfl
    · obtain ⟨k, hk⟩ := int_of el hv
      exact bound_run hk hlu
  unfold Instr.sliceBounds
  simp only [Sem.run_bind, Sem.run_pure, Result.andThen_ok]
  rcases hh with ⟨rfl, rfl⟩ | ⟨a, y, rfl, rfl, hv⟩ <;> rcases hl with ⟨rfl, rfl⟩ | ⟨a', y', rfl, rfl, hv'⟩ <;> simp only [e1, e2, Sem.run_bind, Result.andThen_ok, Sem.run_pure] <;> (try simp only [Sem.run_pure] at e1 e2) <;> (try cases e1) <;> (try cases e2) <;> simp_all

end
end Go.Am
