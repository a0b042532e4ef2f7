/-
  Each operation of the abstract machine stands for the model's: (8) the built-ins, iterators, assertions.
-/
import Derived.Test.YtadmjdnkhpngeaaGreatDoorAmOps7
namespace Go.Am
section
variable {P : Program} {μ : Mu} {h : Hp} {w : World} {c : Nat}

theorem Fine.relog {s : Sem Value} {v : AV} {h' : Hp} {c1 c2 : Nat} {l1 l2 : Lg} (f : Fine P μ h w s ⟨v, h', c1, l1⟩) : Fine P μ h w s ⟨v, h', c2, l2⟩ := f

/-- What stands behind: a row that is appended or copied from. -/
theorem src_nil (sz : Nat) : Src P μ w (Builtin.firstCells sz 0 (.slice none 0 0)) [] [] := ⟨rfl, fun _ => rfl⟩

theorem src_str (s : List Nat) (sz n : Nat) (hn : n ≤ s.length) : Src P μ w (Builtin.firstCells sz n (.string (baOf s))) (bytesAV (s.take n)) (((baOf s).extract 0 n).data.toList.map fun b => Value.int .u8 b.toNat) := by
  refine ⟨?_, fun m => ?_⟩
  · have e : (baOf s).extract 0 n = baOf (s.take n) := by
      apply ByteArray.ext
      rw [ByteArray.data_extract]
      apply Array.ext'
      simp [baOf, List.extract]
    rw [e]
    exact bytesAV_VL _
  · simp only [Builtin.firstCells, Sem.run_pure]
    congr 1
    apply Array.ext'
    simp

theorem src_slice (r : Rel μ h w) {id off n sz k : Nat} {x : Value} {vs : List AV} (hx : V μ (.slice id off n sz) x) (hk : k ≤ n) (hrd : rdCells h id off (k * sz) = some vs) :
    ∃ R a rc rvs, x = .slice (some ⟨R, a, none⟩) n rc ∧ rvs.length = k * sz ∧ Src P μ w (Builtin.firstCells sz k x) vs rvs := by
  obtain ⟨R, a, rc, rvs, rfl, hvl, hl, hr⟩ := slice_cells (P := P) r hx hk hrd
  exact ⟨R, a, rc, rvs, rfl, hl, hvl, fun m => by simp only [Builtin.firstCells]; exact hr m⟩

theorem append_run {ts : Array TypeId} {t u : TypeId} (ht0 : ts[0]? = some t) (hu0 : ts[1]? = some u) {ty e : TypeId} {i : TypeInfo} {du : TypeDesc} (ht : P.underlying t = some (.slice e)) (hi : P.info? e = some i) (hu : P.underlying u = some du) (hdu : ∀ k, du ≠ .int k) {base : Option Addr} {sLen sCap n : Nat} {y : Value} (hn : (Builtin.lenOf y).run P w = .ok n w) :
    (Builtin.append_ ts ty #[.slice base sLen sCap, y]).run P w = (appTail e i.size i.bytes false base sLen sCap n (.slice base sLen sCap) y (Builtin.firstCells i.size n y)).run P w := by
  cases du <;> first
    | exact (hdu _ rfl).elim
    | (simp only [Builtin.append_, appTail, ht0, hu0, List.getElem?_toArray, List.getElem?_cons_succ, List.getElem?_cons_zero, Sem.run_bind, Sem.run_pure, r_underlying ht, r_underlying hu, Result.andThen_ok, r_sizeOf hi, Bool.false_eq_true, if_false, hn, Bool.not_false, if_true]
       first | rfl | (cases base <;> rfl))

theorem len_nils : (Builtin.lenOf (.slice none 0 0)).run P w = .ok 0 w := rfl
theorem len_str (s : List Nat) : (Builtin.lenOf (.string (baOf s))).run P w = .ok s.length w := by simp [Builtin.lenOf, baOf_size]
theorem len_slice (a : Option Addr) (n rc : Nat) : (Builtin.lenOf (.slice a n rc)).run P w = .ok n w := rfl

theorem append_sound {ts : Array TypeId} {t u : TypeId} (ht0 : ts[0]? = some t) (hu0 : ts[1]? = some u) (r : Rel μ h w) {ty e : TypeId} {i : TI} {zv : Value} {du : TypeDesc} (ht : P.underlying t = some (.slice e)) (hi : ti P e = some i) (hz : i.zero = some zv) (hzs : zv.cells.size = i.size) (hu : P.underlying u = some du) (hdu : ∀ k, du ≠ .int k)
    {a b : AV} {x y : Value} (hx : V μ a x) (hy : V μ b y) {n : Nat} {new : List AV} {lg : Lg} (hsrc : (match b with
      | .nils => some (0, [], Lg.e)
      | .str s => bif Nat.beq i.size 1 then some (s.length, bytesAV s, Lg.e) else none
      | .slice id off n sz' => bif Nat.beq i.size sz' then
          (match rdCells h id off (n * i.size) with
          | some vs => some (n, vs, Lg.r id)
          | none => none)
        else none
      | _ => none : Option (Nat × List AV × Lg)) = some (n, new, lg)) {o : Out AV} (ha : appendF i.size i.bytes a n new lg h c = some o) :
    Fine P μ h w (Builtin.append_ ts ty #[x, y]) o := by
  obtain ⟨q, h1, h2, h3, h4, h5⟩ := ti_spec hi
  rw [← h3, ← h4] at ha
  rw [← h3] at hsrc hzs
  have key : ∃ rnew, rnew.length = n * q.size ∧ Src P μ w (Builtin.firstCells q.size n y) new rnew ∧ (Builtin.lenOf y).run P w = .ok n w := by
    cases b with
    | nils =>
      cases hsrc; cases hy
      exact ⟨[], by simp, src_nil _, len_nils⟩
    | str s =>
      simp only at hsrc
      cases hs : Nat.beq q.size 1
      · rw [hs] at hsrc; cases hsrc
      · rw [hs] at hsrc
        simp only [cond_true, Option.some.injEq, Prod.mk.injEq] at hsrc
        obtain ⟨rfl, rfl, rfl⟩ := hsrc
        cases hy
        have := src_str (P := P) (μ := μ) (w := w) s q.size s.length (Nat.le_refl _)
        rw [List.take_length] at this
        rw [← baOf_size s] at this
        refine ⟨_, ?_, by rw [← baOf_size s]; exact this, len_str s⟩
        rw [VL_len this.vl, beq_true hs]; simp [bytesAV]
    | slice id off m sz' =>
      simp only at hsrc
      cases hs : Nat.beq q.size sz'
      · rw [hs] at hsrc; cases hsrc
      · rw [hs] at hsrc
        simp only [cond_true] at hsrc
        have := beq_true hs
        subst this
        split at hsrc
        · rename_i vs hvs
          simp only [Option.some.injEq, Prod.mk.injEq] at hsrc
          obtain ⟨rfl, rfl, rfl⟩ := hsrc
          obtain ⟨R, a', rc, rvs, rfl, hl, hs'⟩ := src_slice (P := P) r hy (Nat.le_refl _) hvs
          exact ⟨rvs, hl, hs', len_slice _ _ _⟩
        · cases hsrc
    | _ => cases hsrc
  obtain ⟨rnew, hl, src, hlen⟩ := key
  obtain ⟨base, sLen, sCap, rfl, x', w', μ', e1, e2, e3, e4⟩ := appendF_sound (P := P) (y := y) r h2 (h5.trans hz) hzs hx hl src false ha
  refine ⟨x', w', μ', ?_, e2, e3, e4⟩
  rw [append_run ht0 hu0 ht h2 hu hdu hlen]
  exact e1

theorem appendZ_sound {ts : Array TypeId} {t u : TypeId} (ht0 : ts[0]? = some t) (hu0 : ts[1]? = some u) (r : Rel μ h w) {ty e : TypeId} {i : TI} {z : List AV} {k : IntKind} (ht : P.underlying t = some (.slice e)) (hi : ti P e = some i) (hz : zeroC i = some z) (hzl : z.length = i.size) (hu : P.underlying u = some (.int k))
    {a : AV} {x y : Value} {n : Nat} {kk : IntKind} (hx : V μ a x) (hy : V μ (.int kk (.ofNat n)) y) (hb : n * (i.bytes + i.size + 1) ≤ maxStr) {o : Out AV} (ha : appendF i.size i.bytes a n (repl z n) .e h c = some o) :
    Fine P μ h w (Builtin.append_ ts ty #[x, y]) o := by
  obtain ⟨q, h1, h2, h3, h4, h5⟩ := ti_spec hi
  obtain ⟨zv, hv, hl⟩ := zeroC_spec hz μ
  have hlv := VL_len hl
  simp only [Array.length_toList] at hlv
  cases hy
  obtain ⟨b1, b2⟩ := bound48 hb
  unfold maxStr at b1 b2
  have wn : IntKind.i64.wrap (Int.ofNat n) = (n : Int) := by rw [← wrapF_eq]; simp only [wrapF, smallF]; rw [show Nat.blt n 9223372036854775808 = true from by simp; omega]; rfl
  rw [← h3, ← h4] at ha
  let appended : Sem (Array Value) := if n * q.size = 0 then pure #[] else do pure (Builtin.zeroCells (← zeroValue e).cells n)
  have src : Src P μ w appended (repl z n) (if n * q.size = 0 then [] else (Builtin.zeroCells zv.cells n).toList) := by
    refine ⟨?_, fun m => ?_⟩
    · have := repl_VL hl n
      by_cases h0 : n * q.size = 0
      · rw [if_pos h0]
        have : repl z n = [] := List.eq_nil_of_length_eq_zero (by rw [repl_length, hzl, ← h3]; exact h0)
        rw [this]; rfl
      · rw [if_neg h0]; exact this
    · simp only [appended]
      by_cases h0 : n * q.size = 0
      · simp only [if_pos h0, Sem.run_pure]
      · simp only [if_neg h0, Sem.run_bind, r_zero h2 (h5.trans hv), Result.andThen_ok, Sem.run_pure]
  have hln : (if n * q.size = 0 then [] else (Builtin.zeroCells zv.cells n).toList).length = n * q.size := by
    by_cases h0 : n * q.size = 0
    · simp [h0]
    · rw [if_neg h0, Array.length_toList, zeroCells_size, hlv, hzl, h3]
  obtain ⟨base, sLen, sCap, rfl, x', w', μ', e1, e2, e3, e4⟩ := appendF_sound (P := P) (y := .int kk (.ofNat n)) r h2 (h5.trans hv) (by rw [hlv, hzl, h3]) hx hln src true ha
  refine ⟨x', w', μ', ?_, e2, e3, e4⟩
  rw [← e1]
  have hln2 : ¬ ((n : Int) * (q.bytes : Int) > 2 ^ 48) := by
    have : ((n : Int) * (q.bytes : Int)) ≤ 1000000000000 := by rw [← Int.natCast_mul, h4]; omega
    omega
  simp only [Builtin.append_, ht0, hu0, List.getElem?_toArray, List.getElem?_cons_succ, List.getElem?_cons_zero, Sem.run_bind, Sem.run_pure, r_underlying ht, r_underlying hu, Result.andThen_ok, r_sizeOf h2, if_true, asInt, asIntOf, wn, r_typeInfo h2]
  rw [if_neg (by omega)]
  simp only [Sem.run_bind, Sem.run_pure, Result.andThen_ok, r_typeInfo h2]
  rw [if_neg hln2]
  simp only [appended, appTail, Sem.run_bind, Sem.run_pure, Result.andThen_ok, Int.toNat_natCast, Bool.not_true, Bool.false_eq_true, if_false, if_true]
  first | rfl | (cases base <;> rfl)

theorem copy_run {ts : Array TypeId} {t : TypeId} (ht0 : ts[0]? = some t) {ty e : TypeId} {i : TypeInfo} (ht : P.underlying t = some (.slice e)) (hi : P.info? e = some i) {base : Option Addr} {dLen dCap n : Nat} {y : Value} (hn : (Builtin.lenOf y).run P w = .ok n w) {new : List AV} {rnew : List Value}
    (src : Src P μ w (Builtin.firstCells i.size (Nat.min n dLen) y) new rnew) :
    (Builtin.copy_ ts ty #[.slice base dLen dCap, y]).run P w = ((match base with | some a => storeCells a rnew | none => pure ()) >>= fun _ => pure (goInt (Nat.min n dLen)) : Sem Value).run P w := by
  have := src_now src
  simp only [Builtin.copy_, ht0, List.getElem?_toArray, List.getElem?_cons_succ, List.getElem?_cons_zero, Sem.run_bind, r_underlying ht, Result.andThen_ok, r_sizeOf hi, hn, this]
  cases base <;> simp

theorem src_none (sz : Nat) (Y : Value) (hY : Y = .slice none 0 0 ∨ (∃ b, Y = .string b) ∨ ∃ a n rc, Y = .slice (some a) n rc) : Src P μ w (Builtin.firstCells sz 0 Y) [] [] := by
  refine ⟨rfl, fun m => ?_⟩
  rcases hY with rfl | ⟨b, rfl⟩ | ⟨a, n, rc, rfl⟩
  · rfl
  · simp [Builtin.firstCells]
  · simp only [Builtin.firstCells, Nat.zero_mul]; rfl

theorem copyW_sound {ts : Array TypeId} {t : TypeId} (ht0 : ts[0]? = some t) (r : Rel μ h w) {ty e : TypeId} {i : TypeInfo} (ht : P.underlying t = some (.slice e)) (hi : P.info? e = some i) {id off m k : Nat} {X Y : Value} (hX : V μ (.slice id off m i.size) X)
    (hk : (Builtin.lenOf Y).run P w = .ok k w) {new : List AV} {rnew : List Value} (src : Src P μ w (Builtin.firstCells i.size (Nat.min k m) Y) new rnew) (h0 : Nat.min k m = 0 → rnew = []) {lg : Lg} {o : Out AV}
    (ho : copyW id off (Nat.min k m) new lg h c = some o) : Fine P μ h w (Builtin.copy_ ts ty #[X, Y]) o := by
  obtain ⟨R, base, fin, a, rc, hm, rfl, g1, g2, g3, g4⟩ := hX
  have hc := copy_run (P := P) (w := w) ht0 (ty := ty) (base := some ⟨R, a, none⟩) (dLen := m) (dCap := rc) ht hi hk src
  unfold copyW at ho
  cases hn : Nat.beq (Nat.min k m) 0
  · rw [hn] at ho
    simp only [cond_false] at ho
    split at ho <;> cases ho
    rename_i h' hh
    have hn0 := beq_false hn
    have hm0 : m ≠ 0 := fun e => hn0 (by subst e; exact Nat.min_zero k)
    obtain ⟨R', base', fin', w', hm', hrun, hr, hx⟩ := wr_sound P r hh src.vl
    rw [hm] at hm'; cases hm'
    refine ⟨.int .i64 (Nat.min k m : Nat), w', μ, ?_, rfl, hr, hx⟩
    rw [hc, g4 hm0]
    simp only [Sem.run_bind, hrun, Result.andThen_ok, Sem.run_pure, goInt]
  · rw [hn] at ho
    cases ho
    have e0 := beq_true hn
    have := h0 e0
    subst this
    refine Fine.pure r (x := .int .i64 (Int.ofNat 0)) ?_ rfl
    rw [hc, e0]
    simp [storeCells, goInt]

theorem copyF_sound {ts : Array TypeId} {t : TypeId} (ht0 : ts[0]? = some t) (r : Rel μ h w) {ty e : TypeId} {i : TypeInfo} (ht : P.underlying t = some (.slice e)) (hi : P.info? e = some i) {x y : AV} {X Y : Value} (hX : V μ x X) (hY : V μ y Y) {o : Out AV}
    (ho : copyF i.size x y h c = some o) : Fine P μ h w (Builtin.copy_ ts ty #[X, Y]) o := by
  have zero : ∀ {base : Option Addr} {m rc k : Nat}, X = .slice base m rc → (Builtin.lenOf Y).run P w = .ok k w → Nat.min k m = 0 → Src P μ w (Builtin.firstCells i.size 0 Y) [] [] → ∀ lg, Fine P μ h w (Builtin.copy_ ts ty #[X, Y]) ⟨.int .i64 (.ofNat 0), h, c, lg⟩ := by
    intro base m rc k e1 e2 e3 e4 lg
    subst e1
    refine Fine.pure r (x := .int .i64 (Int.ofNat 0)) ?_ rfl
    rw [copy_run (P := P) (w := w) ht0 (ty := ty) ht hi e2 (by rw [e3]; exact e4), e3]
    cases base <;> simp [storeCells, goInt]
  cases x with
  | nils =>
    cases hX
    cases y <;> simp only [copyF, reduceCtorEq, Option.some.injEq] at ho
    · subst ho; cases hY
      exact zero rfl (len_str _) (Nat.min_zero _) (src_none _ _ (.inr (.inl ⟨_, rfl⟩))) _
    · subst ho
      obtain ⟨R, base, fin, a, rc, hm, rfl, _⟩ := hY
      exact zero rfl (len_slice _ _ _) (Nat.min_zero _) (src_none _ _ (.inr (.inr ⟨_, _, _, rfl⟩))) _
    · subst ho; cases hY
      exact zero rfl len_nils (Nat.min_zero _) (src_none _ _ (.inl rfl)) _
  | slice id off m sz' =>
    simp only [copyF] at ho
    cases hs : Nat.beq i.size sz'
    · rw [hs] at ho; cases ho
    rw [hs] at ho
    have e := beq_true hs
    subst e
    cases y <;> simp only [cond_true, reduceCtorEq, Option.some.injEq] at ho
    · rename_i s
      cases h1 : Nat.beq i.size 1
      · rw [h1] at ho; cases ho
      rw [h1] at ho
      cases hY
      have hsrc := src_str (P := P) (μ := μ) (w := w) s i.size (Nat.min s.length m) (Nat.min_le_left _ _)
      exact copyW_sound ht0 r ht hi hX (len_str s) hsrc (fun e0 => List.eq_nil_of_length_eq_zero (by rw [VL_len hsrc.vl, e0]; simp [bytesAV])) ho
    · rename_i id2 off2 n sz2
      cases h1 : Nat.beq i.size sz2
      · rw [h1] at ho; cases ho
      rw [h1] at ho
      have e := beq_true h1
      subst e
      simp only [cond_true] at ho
      split at ho
      · rename_i vs hvs
        obtain ⟨R, a', rc, rvs, rfl, hl, hsrc⟩ := src_slice (P := P) r hY (Nat.min_le_left n m) hvs
        exact copyW_sound ht0 r ht hi hX (len_slice _ _ _) hsrc (fun e0 => List.eq_nil_of_length_eq_zero (by have e1 : min n m = 0 := e0; rw [hl, e1]; simp)) ho
      · cases ho
    · subst ho; cases hY
      obtain ⟨R, base, fin, a, rc, hm, rfl, _⟩ := hX
      exact zero rfl len_nils (Nat.zero_min _) (src_none _ _ (.inl rfl)) _
  | _ => cases ho

theorem clear_run {ts : Array TypeId} {t : TypeId} (ht0 : ts[0]? = some t) {ty e : TypeId} {i : TypeInfo} {zv : Value} (ht : P.underlying t = some (.slice e)) (hi : P.info? e = some i) (hz : i.zero = some zv) {a : Addr} {n rc : Nat} (hn : n ≠ 0) :
    (Builtin.clear_ ts ty #[.slice (some a) n rc]).run P w = (storeCells a (Builtin.zeroCells zv.cells n).toList >>= fun _ => pure (.tuple #[]) : Sem Value).run P w := by
  obtain ⟨m, rfl⟩ : ∃ m, n = m + 1 := ⟨n - 1, by omega⟩
  simp only [Builtin.clear_, ht0, List.getElem?_toArray, List.getElem?_cons_succ, List.getElem?_cons_zero, Sem.run_bind, r_underlying ht, Result.andThen_ok, r_zero hi hz]

theorem clear_nil {ts : Array TypeId} {t : TypeId} (ht0 : ts[0]? = some t) {ty e : TypeId} (ht : P.underlying t = some (.slice e)) {a : Option Addr} {rc : Nat} :
    (Builtin.clear_ ts ty #[.slice a 0 rc]).run P w = .ok (.tuple #[]) w := by
  cases a <;> simp only [Builtin.clear_, ht0, List.getElem?_toArray, List.getElem?_cons_succ, List.getElem?_cons_zero, Sem.run_bind, r_underlying ht, Result.andThen_ok, Sem.run_pure]

theorem minmax_sound (mx : Bool) : ∀ (l : List AV) (vs : List Value) (k : IntKind) (a r : Int), minmax mx a l k = some r → VL μ l vs →
    (vs.foldlM (if mx then Builtin.max2 else Builtin.min2) (.int k a)).run P w = .ok (.int k r) w
  | [], _, k, a, r, e, hv => by cases hv; cases e; rfl
  | b :: l, _, k, a, r, e, ⟨x, vs, rfl, hx, hv⟩ => by
    cases b <;> simp only [minmax, reduceCtorEq] at e
    rename_i k' b
    cases hx
    cases hk : kindEq k k'
    · rw [hk] at e; cases e
    rw [hk] at e
    simp only [cond_true] at e
    rw [List.foldlM_cons]
    have ih := minmax_sound mx l vs k _ r e hv
    cases mx
    · simp only [cond_false, iltB_eq] at ih
      simp only [Bool.false_eq_true, if_false, Builtin.min2, Sem.run_bind, Sem.run_pure, Result.andThen_ok] at ih ⊢
      by_cases hba : b < a
      · rw [if_pos hba]; simpa [hba] using ih
      · rw [if_neg hba]; simpa [hba] using ih
    · simp only [cond_true, iltB_eq] at ih
      simp only [if_true, Builtin.max2, Sem.run_bind, Sem.run_pure, Result.andThen_ok] at ih ⊢
      by_cases hba : a < b
      · rw [if_pos hba]; simpa [hba] using ih
      · rw [if_neg hba]; simpa [hba] using ih

/-! ### Iterators -/

theorem range_sound (r : Rel μ h w) {t : TypeId} (ht : P.underlying t = some .string) {s : List Nat} {x : Value} (hx : V μ (.str s) x) {o : Out AV} (en : newB (.siter s 0) h c (fun i => .ptr i 0) = some o) : Fine P μ h w (Instr.range t x) o := by
  obtain ⟨hc, rfl⟩ := newB_inv en
  cases hx
  obtain ⟨g1, g2⟩ := r.make (c := c) (b := .siter s 0) (o := .stringIter (baOf s) 0) (base := 0) (fin := 0) hc ⟨w.heap.size, 0, upd_self _ _, by simp⟩
  refine ⟨.pointer (some ⟨w.heap.size, 0, none⟩), _, _, ?_, ⟨_, _, _, upd_self _ _, rfl⟩, g1, g2⟩
  simp only [Instr.range, Sem.run_bind, r_underlying ht, Result.andThen_ok, Sem.run_pure, run_newObj]

theorem next_sound (r : Rel μ h w) (t : TypeId) {id : Nat} {s : List Nat} {pos : Nat} {x : Value} (hx : V μ (.ptr id 0) x) (hg : h.get id = some (.siter s pos)) (hp : pos < s.length) :
    Fine P μ h w (Instr.next x true t) ⟨.tup [.bool true, .int .i64 (.ofNat pos), .int .i32 (.ofNat (Utf8.decode (baOf s) pos).1)], h.set (.siter s (pos + (Utf8.decode (baOf s) pos).2)) id, c, .w id⟩ := by
  obtain ⟨R, fin, hm, hw⟩ := r.blk id _ hg
  obtain ⟨R', base', fin', hm', rfl⟩ := hx
  rw [hm] at hm'; cases hm'
  have hlt := heap_lt hw
  obtain ⟨q1, q2⟩ := r.change (b' := .siter s (pos + (Utf8.decode (baOf s) pos).2)) (o := .stringIter (baOf s) (pos + (Utf8.decode (baOf s) pos).2)) hg rfl rfl hm hlt ⟨R, fin, hm, by rw [setBlk_get, if_pos ⟨rfl, hlt⟩]⟩
  refine ⟨.tuple #[.bool true, .int .i64 (pos : Int), .int .i32 ((Utf8.decode (baOf s) pos).1 : Int)], _, _, ?_, ⟨_, rfl, VL_cons rfl (VL_cons rfl (VL_cons rfl rfl))⟩, q1, q2⟩
  have hg' : (getObj R).run P w = .ok (.stringIter (baOf s) pos) w := by simp [getObj, Sem.run, hw]
  have hs' : ∀ o : Obj, (setObj R o).run P w = .ok () (setBlk w R o) := fun o => by simp [setObj, Sem.run, hw, setBlk]
  simp only [Instr.next, Sem.run_bind, Nat.add_zero, hg', Result.andThen_ok]
  rw [if_pos (by rw [baOf_size]; exact hp)]
  simp only [Sem.run_bind, hs', Result.andThen_ok, Sem.run_pure]
  rfl

theorem next_over (r : Rel μ h w) (t : TypeId) {id : Nat} {s : List Nat} {pos : Nat} {x : Value} (hx : V μ (.ptr id 0) x) (hg : h.get id = some (.siter s pos)) (hp : ¬ pos < s.length) :
    Fine P μ h w (Instr.next x true t) ⟨.tup [.bool false], h, c, .r id⟩ := by
  obtain ⟨R, fin, hm, hw⟩ := r.blk id _ hg
  obtain ⟨R', base', fin', hm', rfl⟩ := hx
  rw [hm] at hm'; cases hm'
  refine Fine.pure r (x := .tuple #[.bool false]) ?_ ⟨_, rfl, VL_cons rfl rfl⟩
  have hg' : (getObj R).run P w = .ok (.stringIter (baOf s) pos) w := by simp [getObj, Sem.run, hw]
  simp only [Instr.next, Sem.run_bind, Nat.add_zero, hg', Result.andThen_ok]
  rw [if_neg (by rw [baOf_size]; exact hp)]
  rfl

/-! ### Assertions and the like -/

theorem assert_yes (r : Rel μ h w) {t xT : TypeId} {d : TypeDesc} {ok : Bool} {v : AV} {x : Value} (ht : P.underlying t = some d) (hd : ∀ m, d ≠ .interface m) (hx : V μ (.iface t v) x) :
    Fine P μ h w (Instr.typeAssert x xT t ok) ⟨bif ok then .tup [v, .bool true] else v, h, c, .e⟩ := by
  obtain ⟨y, rfl, hy⟩ := hx
  cases ok
  · refine Fine.pure r (x := y) ?_ hy
    cases d <;> first
      | exact (hd _ rfl).elim
      | simp only [Instr.typeAssert, Sem.run_bind, r_underlying ht, Result.andThen_ok, if_true, Bool.false_eq_true, if_false, Sem.run_pure]
  · refine Fine.pure r (x := .tuple #[y, .bool true]) ?_ ⟨_, rfl, VL_cons hy (VL_cons rfl rfl)⟩
    cases d <;> first
      | exact (hd _ rfl).elim
      | simp only [Instr.typeAssert, Sem.run_bind, r_underlying ht, Result.andThen_ok, if_true, Sem.run_pure]

theorem assert_no (r : Rel μ h w) {t xT : TypeId} {i : TI} {zv : Value} {z : AV} {a : AV} {x : Value} (hi : ti P t = some i) (hd : ∀ m, i.d ≠ .interface m) (hz : i.zero = some zv) (hzv : trVal zv = some z) (hx : V μ a x)
    (ha : a = .nili ∨ ∃ t' v, a = .iface t' v ∧ t' ≠ t) : Fine P μ h w (Instr.typeAssert x xT t true) ⟨.tup [z, .bool false], h, c, .e⟩ := by
  obtain ⟨q, h1, h2, h3, h4, h5⟩ := ti_spec hi
  refine Fine.pure r (x := .tuple #[zv, .bool false]) ?_ ⟨_, rfl, VL_cons (trVal_V μ hzv) (VL_cons rfl rfl)⟩
  have hzr := r_zero (w := w) h2 (h5.trans hz)
  generalize i.d = d at h1 hd
  rcases ha with rfl | ⟨t', v, rfl, hne⟩
  · cases hx
    cases d <;> first
      | exact (hd _ rfl).elim
      | simp only [Instr.typeAssert, Sem.run_bind, r_underlying h1, Result.andThen_ok, if_true, hzr, Sem.run_pure]
  · obtain ⟨y, rfl, hy⟩ := hx
    cases d <;> first
      | exact (hd _ rfl).elim
      | simp only [Instr.typeAssert, Sem.run_bind, r_underlying h1, Result.andThen_ok, if_true, if_neg hne, hzr, Sem.run_pure]

theorem extract_sound (r : Rel μ h w) {l : List AV} {i : Nat} {v : AV} {x : Value} (hx : V μ (.tup l) x) (hi : l[i]? = some v) : Fine P μ h w (Instr.extract x i) ⟨v, h, c, .e⟩ := by
  obtain ⟨vs, rfl, hvs⟩ := hx
  obtain ⟨y, e, g⟩ := VL_get hvs hi
  refine Fine.pure r (x := y) ?_ g
  have e' : vs.toArray[i]? = some y := by simpa using e
  simp only [Instr.extract, e', Sem.run_pure]

theorem un_sound (r : Rel μ h w) {op : UnOp} {a v : AV} {x : Value} (hx : V μ a x) (hu : unF op a = some v) : Fine P μ h w (Op.unary op x) ⟨v, h, c, .e⟩ := by
  unfold unF at hu
  split at hu
  · rename_i k n
    cases hu; cases hx
    refine Fine.pure r (x := .int k (k.wrap (0 - n))) ?_ (by rw [wrapF_eq]; rfl)
    rfl
  · rename_i k n
    simp only [Option.map_eq_some_iff] at hu
    obtain ⟨z, hz, rfl⟩ := hu
    cases hx
    refine Fine.pure r (x := .int k z) ?_ rfl
    exact bits_sound hz P w
  · cases hu; cases hx
    exact Fine.pure r rfl rfl
  · cases hu

theorem makeIface_sound (r : Rel μ h w) {t : TypeId} {d : TypeDesc} {a : AV} {x : Value} (ht : P.underlying t = some d) (hd : ∀ m, d ≠ .interface m) (hx : V μ a x) : Fine P μ h w (Instr.makeInterface t x) ⟨.iface t a, h, c, .e⟩ := by
  refine Fine.pure r (x := .iface t x) ?_ ⟨x, rfl, hx⟩
  cases d <;> first
    | exact (hd _ rfl).elim
    | simp only [Instr.makeInterface, Sem.run_bind, r_underlying ht, Result.andThen_ok, Sem.run_pure]

theorem len_sound {ts : Array TypeId} {t : TypeId} (ht0 : ts[0]? = some t) (r : Rel μ h w) {ty : TypeId} {k : EK} {d : TypeDesc} {a : AV} {x : Value} {n : Nat} (ht : P.underlying t = some d) (hk : ekOf d = some k) (hx : V μ a x)
    (hn : (match k, a with | .str, .str s => some s.length | .slice, .slice _ _ n _ => some n | .slice, .nils => some 0 | _, _ => none) = some n) :
    Fine P μ h w (Builtin.len_ ts ty #[x]) ⟨.int .i64 (.ofNat n), h, c, .e⟩ := by
  cases k <;> cases a <;> simp only [reduceCtorEq, Option.some.injEq] at hn
  · obtain ⟨e, rfl⟩ := ek_slice hk
    obtain ⟨R, base, fin, y, rc, hm, rfl, _⟩ := hx
    subst hn
    refine Fine.pure r (x := .int .i64 _) ?_ rfl
    simp only [Builtin.len_, ht0, List.getElem?_toArray, List.getElem?_cons_zero, Sem.run_bind, r_underlying ht, Result.andThen_ok, Sem.run_pure, goInt]; rfl
  · obtain ⟨e, rfl⟩ := ek_slice hk
    cases hx
    subst hn
    refine Fine.pure r (x := .int .i64 0) ?_ rfl
    simp only [Builtin.len_, ht0, List.getElem?_toArray, List.getElem?_cons_zero, Sem.run_bind, r_underlying ht, Result.andThen_ok, Sem.run_pure, goInt]; rfl
  · obtain rfl := ek_str hk
    cases hx
    subst hn
    refine Fine.pure r (x := .int .i64 _) ?_ rfl
    simp only [Builtin.len_, ht0, List.getElem?_toArray, List.getElem?_cons_zero, Sem.run_bind, r_underlying ht, Result.andThen_ok, Sem.run_pure, goInt, baOf_size]; rfl

theorem cap_sound {ts : Array TypeId} {t : TypeId} (ht0 : ts[0]? = some t) (r : Rel μ h w) {ty e : TypeId} {x : Value} (ht : P.underlying t = some (.slice e)) (hx : V μ .nils x) : Fine P μ h w (Builtin.cap_ ts ty #[x]) ⟨.int .i64 0, h, c, .e⟩ := by
  cases hx
  refine Fine.pure r (x := .int .i64 0) ?_ rfl
  simp only [Builtin.cap_, ht0, List.getElem?_toArray, List.getElem?_cons_zero, Sem.run_bind, r_underlying ht, Result.andThen_ok, Sem.run_pure, goInt]; rfl

end
end Go.Am
