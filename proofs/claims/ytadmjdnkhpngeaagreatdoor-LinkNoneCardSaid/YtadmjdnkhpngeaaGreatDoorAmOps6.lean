/-
  Each operation of the abstract machine stands for the model's: (6) slicing, conversions.
-/
import Derived.Test.YtadmjdnkhpngeaaGreatDoorAmOps5
namespace Go.Am
section
variable {P : Program} {μ : Mu} {h : Hp} {w : World} {c : Nat}

abbrev VOpt (μ : Mu) (o : Option AV) (x : Option Value) : Prop := (o = none ∧ x = none) ∨ ∃ a y, o = some a ∧ x = some y ∧ V μ a y

theorem sliceStr_sound (r : Rel μ h w) {t : TypeId} (ht : P.underlying t = some .string) {s : List Nat} {x : Value} {lo hi : Option AV} {xl xh : Option Value} {l u : Nat} (hx : V μ (.str s) x) (hl : VOpt μ lo xl) (hh : VOpt μ hi xh)
    (el : bnd 0 lo = some l) (eh : bnd s.length hi = some u) (hlu : l ≤ u) (hus : u ≤ s.length) : Fine P μ h w (Instr.sliceAt t x xl xh none) ⟨.str ((s.drop l).take (u - l)), h, c, .e⟩ := by
  cases hx
  have hb := bounds_run (P := P) (w := w) (b := false) (cap := s.length) hl hh el eh hlu hus (Nat.le_refl _)
  rw [← baOf_size s] at hb
  refine Fine.pure r (x := .string ((baOf s).extract l u)) ?_ ?_
  · simp only [Instr.sliceAt, Sem.run_bind, r_underlying ht, Result.andThen_ok, Instr.slice, Option.isSome_none, Bool.false_eq_true, if_false, hb, Sem.run_pure]
  · show _ = _
    congr 1
    apply ByteArray.ext
    rw [ByteArray.data_extract]
    apply Array.ext'
    simp [baOf, List.extract]

theorem sliceSlc_sound (r : Rel μ h w) {t e : TypeId} {i : TI} (ht : P.underlying t = some (.slice e)) (hi' : ti P e = some i) {id off n : Nat} {x : Value} {lo hi : Option AV} {xl xh : Option Value} {l u : Nat}
    (hx : V μ (.slice id off n i.size) x) (hl : VOpt μ lo xl) (hh : VOpt μ hi xh) (el : bnd 0 lo = some l) (eh : bnd n hi = some u) (hlu : l ≤ u) (hus : u ≤ n) :
    Fine P μ h w (Instr.sliceAt t x xl xh none) ⟨.slice id (off + l * i.size) (u - l) i.size, h, c, .e⟩ := by
  obtain ⟨q, h1, h2, h3, h4, h5⟩ := ti_spec hi'
  obtain ⟨R, base, fin, a, rc, hm, rfl, g1, g2, g3, g4⟩ := hx
  have hb := bounds_run (P := P) (w := w) (b := true) (cap := rc) hl hh el eh hlu hus g1
  refine Fine.pure r (x := .slice (if rc = l then some ⟨R, a, none⟩ else some ⟨R, a + l * i.size, none⟩) (u - l) (rc - l)) ?_ ?_
  · simp only [Instr.sliceAt, Sem.run_bind, r_underlying ht, Result.andThen_ok, Instr.slice, hb, r_sizeOf h2, h3, Sem.run_pure, Option.map_some, add_at]
  · by_cases hc : rc = l
    · rw [if_pos hc]
      exact ⟨R, base, fin, a, rc - l, hm, rfl, by omega, g2, by subst hc; simp; have : 0 ≤ rc * i.size := Nat.zero_le _; omega, fun q => by omega⟩
    · rw [if_neg hc]
      refine ⟨R, base, fin, a + l * i.size, rc - l, hm, rfl, by omega, by omega, ?_, fun q => by rw [g4 (by omega), Nat.add_assoc]⟩
      have : l * i.size + (rc - l) * i.size = rc * i.size := by rw [← Nat.add_mul]; congr 1; omega
      omega

theorem sliceNil_sound (r : Rel μ h w) {t e : TypeId} {i : TI} (ht : P.underlying t = some (.slice e)) (hi' : ti P e = some i) {x : Value} {lo hi : Option AV} {xl xh : Option Value}
    (hx : V μ .nils x) (hl : VOpt μ lo xl) (hh : VOpt μ hi xh) (el : bnd 0 lo = some 0) (eh : bnd 0 hi = some 0) : Fine P μ h w (Instr.sliceAt t x xl xh none) ⟨.nils, h, c, .e⟩ := by
  obtain ⟨q, h1, h2, h3, h4, h5⟩ := ti_spec hi'
  cases hx
  have hb := bounds_run (P := P) (w := w) (b := true) (cap := 0) hl hh el eh (Nat.le_refl _) (Nat.le_refl _) (Nat.le_refl _)
  refine Fine.pure r (x := .slice none 0 0) ?_ rfl
  simp only [Instr.sliceAt, Sem.run_bind, r_underlying ht, Result.andThen_ok, Instr.slice, hb, r_sizeOf h2, h3, Sem.run_pure, Option.map_none, if_true]

theorem sliceArr_val (r : Rel μ h w) {id off m sz l u : Nat} {R base fin : Nat} {vs : List AV} (hm : μ id = some (R, base, fin)) (hrd : rdCells h id off (m * sz) = some vs) (hlu : l ≤ u) (hum : u ≤ m) :
    V μ (.slice id (off + l * sz) (u - l) sz) (.slice (some (if m = l then ⟨R, base + off, none⟩ else ⟨R, base + off + l * sz, none⟩)) (u - l) (m - l)) := by
  unfold rdCells at hrd
  split at hrd
  case h_2 => cases hrd
  rename_i L ro hg
  obtain ⟨R', base', fin', C, T, fz, hm', hw, h1, h2, h3, h4⟩ := r.blk id _ hg
  rw [hm] at hm'; cases hm'
  cases hb : Nat.ble (off + m * sz) L.length
  · rw [hb] at hrd; cases hrd
  have hle := Nat.le_of_ble_eq_true hb
  by_cases hc : m = l
  · rw [if_pos hc]
    exact ⟨R, base, fin, base + off, m - l, hm, rfl, by omega, by omega, by subst hc; simp; have : 0 ≤ m * sz := Nat.zero_le _; omega, fun q => by omega⟩
  · rw [if_neg hc]
    refine ⟨R, base, fin, base + off + l * sz, m - l, hm, rfl, by omega, by omega, ?_, fun q => by omega⟩
    have : l * sz + (m - l) * sz = m * sz := by rw [← Nat.add_mul]; congr 1; omega
    omega

theorem sliceArr_sound (r : Rel μ h w) {t e m : Nat} {i : TI} (ht : P.underlying t = some (.array m e) ∨ ∃ a, P.underlying t = some (.pointer a) ∧ P.underlying a = some (.array m e)) (hi' : ti P e = some i) {id off : Nat} {x : Value} {lo hi : Option AV}
    {xl xh : Option Value} {l u : Nat} {vs : List AV} (hx : V μ (.ptr id off) x) (hl : VOpt μ lo xl) (hh : VOpt μ hi xh) (el : bnd 0 lo = some l) (eh : bnd m hi = some u) (hlu : l ≤ u) (hus : u ≤ m)
    (hrd : rdCells h id off (m * i.size) = some vs) : Fine P μ h w (Instr.sliceAt t x xl xh none) ⟨.slice id (off + l * i.size) (u - l) i.size, h, c, .r id⟩ := by
  obtain ⟨q, h1, h2, h3, h4, h5⟩ := ti_spec hi'
  obtain ⟨R, base, fin, hm, rfl⟩ := hx
  have hv := sliceArr_val r hm hrd hlu hus
  have hb := bounds_run (P := P) (w := w) (b := false) (cap := m) hl hh el eh hlu hus (Nat.le_refl _)
  refine Fine.pure r ?_ hv
  rcases ht with ht | ⟨a, ht, ha⟩
  · simp only [Instr.sliceAt, Sem.run_bind, r_underlying ht, Result.andThen_ok, Instr.sureAddr, hb, r_sizeOf h2, h3, Sem.run_pure, add_at]
  · simp only [Instr.sliceAt, Instr.slice, Sem.run_bind, r_underlying ht, r_underlying ha, Result.andThen_ok, asAddr, hb, r_sizeOf h2, h3, Sem.run_pure, add_at]

/-! ### Conversions -/

theorem toInt_sound (r : Rel μ h w) {s d : TypeId} {ds : TypeDesc} {k k' : IntKind} {n : Int} {x : Value} (hs : P.underlying s = some ds) (hd : P.underlying d = some (.int k)) (hx : V μ (.int k' n) x) :
    Fine P μ h w (convert s d x) ⟨.int k (wrapF k n), h, c, .e⟩ := by
  cases hx
  refine Fine.pure r (x := .int k (k.wrap n)) ?_ (by rw [wrapF_eq]; rfl)
  simp only [convert, Sem.run_bind, r_underlying hs, r_underlying hd, Result.andThen_ok]
  rfl

theorem same_sound (r : Rel μ h w) {s d : TypeId} {b : List Nat} {x : Value} (hs : P.underlying s = some .string) (hd : P.underlying d = some .string) (hx : V μ (.str b) x) : Fine P μ h w (convert s d x) ⟨.str b, h, c, .e⟩ := by
  cases hx
  refine Fine.pure r (x := .string (baOf b)) ?_ rfl
  simp only [convert, Sem.run_bind, r_underlying hs, r_underlying hd, Result.andThen_ok, Sem.run_pure]

theorem intStr_sound (r : Rel μ h w) {s d : TypeId} {k k' : IntKind} {n : Int} {x : Value} (hs : P.underlying s = some (.int k)) (hd : P.underlying d = some .string) (hx : V μ (.int k' n) x) :
    Fine P μ h w (convert s d x) ⟨.str (natsOf (Utf8.encode n)), h, c, .e⟩ := by
  cases hx
  refine Fine.pure r (x := .string (Utf8.encode n)) ?_ (by show _ = _; rw [baOf_natsOf])
  simp only [convert, Sem.run_bind, r_underlying hs, r_underlying hd, Result.andThen_ok]
  rfl

/-- The cells of a slice, read. -/
theorem slice_cells (r : Rel μ h w) {id off n sz k : Nat} {x : Value} {vs : List AV} (hx : V μ (.slice id off n sz) x) (hk : k ≤ n) (hrd : rdCells h id off (k * sz) = some vs) :
    ∃ R a rc rvs, x = .slice (some ⟨R, a, none⟩) n rc ∧ VL μ vs rvs ∧ rvs.length = k * sz ∧ ∀ m, (loadCells ⟨R, a, none⟩ (k * sz)).run P { w with drawn := m } = .ok rvs.toArray { w with drawn := m } := by
  obtain ⟨R, base, fin, a, rc, hm, rfl, g1, g2, g3, g4⟩ := hx
  by_cases h0 : k = 0
  · subst h0
    simp only [Nat.zero_mul] at hrd ⊢
    have : vs = [] := by
      unfold rdCells at hrd
      split at hrd
      · cases hb : Nat.ble (off + 0) (List.length (by assumption)) <;> rw [hb] at hrd
        · cases hrd
        · simpa using hrd.symm
      · cases hrd
    subst this
    exact ⟨R, a, rc, [], rfl, rfl, rfl, fun m => rfl⟩
  · obtain ⟨R', base', fin', rvs, hm', hvl, hlen, hrun, hcell⟩ := rd_sound P r hrd
    rw [hm] at hm'; cases hm'
    refine ⟨R, a, rc, rvs, rfl, hvl, hlen, fun m => ?_⟩
    have := run_loadCells_list (P := P) { w with drawn := m } ⟨R, a, none⟩ rvs (fun j v hj => by rw [add_at, g4 (by omega)]; exact hcell j v hj)
    rw [hlen] at this
    exact this

theorem forIn_bytes : ∀ (vs : List AV) (rvs : List Value) (l : List Nat) (s : ByteArray), VL μ vs rvs → bytesOf vs = some l →
    (forIn (m := Sem) rvs s (fun c s => match c with
      | .int .u8 n => pure (ForInStep.yield (s.push (UInt8.ofNat n.toNat)))
      | _ => do
        stuck "bytesToString: byte expected"
        pure (ForInStep.yield s))).run P w = .ok ⟨s.data ++ (baOf l).data⟩ w
  | [], _, l, s, hv, hb => by
    cases hv; cases hb
    simp [baOf]
  | a :: vs, _, l, s, ⟨x, r, e, hx, hr⟩, hb => by
    subst e
    unfold bytesOf at hb
    split at hb
    · rename_i e; cases e
    · rename_i n r' e
      cases e
      cases hx
      split at hb
      · rename_i m hm
        cases hb
        have := forIn_bytes vs r m (s.push (UInt8.ofNat n.toNat)) hr hm
        rw [List.forIn_cons]
        simp only [Sem.run_bind, Sem.run_pure, Result.andThen_ok, this]
        congr 1
        simp [baOf, ByteArray.push]
      · cases hb
    · cases hb

theorem forIn_runes : ∀ (vs : List AV) (rvs : List Value) (l : List Nat) (s : ByteArray), VL μ vs rvs → runesOf vs = some l →
    (forIn (m := Sem) rvs s (fun c s => match c with
      | .int .i32 n => pure (ForInStep.yield (s ++ Utf8.encode n))
      | _ => do
        stuck "runesToString: rune expected"
        pure (ForInStep.yield s))).run P w = .ok (s ++ baOf l) w
  | [], _, l, s, hv, hb => by
    cases hv; cases hb
    have e : s ++ baOf [] = s := by apply ByteArray.ext; simp [baOf, ByteArray.data_append]
    rw [e]; rfl
  | a :: vs, _, l, s, ⟨x, r, e, hx, hr⟩, hb => by
    subst e
    unfold runesOf at hb
    split at hb
    · rename_i e; cases e
    · rename_i n r' e
      cases e
      cases hx
      split at hb
      · rename_i m hm
        cases hb
        have := forIn_runes vs r m (s ++ Utf8.encode n) hr hm
        rw [List.forIn_cons]
        simp only [Sem.run_bind, Sem.run_pure, Result.andThen_ok, this]
        rw [← baOf_append, baOf_natsOf, ByteArray.append_assoc]
      · cases hb
    · cases hb

theorem bytesStr_sound (r : Rel μ h w) {s d e : TypeId} {k : IntKind} {id off n sz : Nat} {x : Value} {vs : List AV} {l : List Nat} (hs : P.underlying s = some (.slice e)) (hd : P.underlying d = some .string) (he : P.underlying e = some (.int k)) (hk : k = .u8)
    (hx : V μ (.slice id off n sz) x) (hrd : rdCells h id off n = some vs) (hb : bytesOf vs = some l) : Fine P μ h w (convert s d x) ⟨.str l, h, c, .r id⟩ := by
  subst hk
  obtain ⟨R, base, fin, a, rc, hm, rfl, g1, g2, g3, g4⟩ := hx
  obtain ⟨R', base', fin', rvs, hm', hvl, hlen, hrun, hcell⟩ := rd_sound P r hrd
  rw [hm] at hm'; cases hm'
  have hld : (loadCells ⟨R, a, none⟩ n).run P w = .ok rvs.toArray w := by
    by_cases h0 : n = 0
    · subst h0
      have : rvs = [] := List.eq_nil_of_length_eq_zero hlen
      subst this; rfl
    · rw [g4 h0]; exact hrun
  refine Fine.pure r (x := .string (baOf l)) ?_ rfl
  have hf := forIn_bytes (P := P) (w := w) vs rvs l ByteArray.empty hvl hb
  simp only [convert, Sem.run_bind, r_underlying hs, r_underlying hd, r_underlying he, Result.andThen_ok, Conv.bytesToString, hld]
  rw [← Array.forIn_toList]
  have e2 : (⟨ByteArray.empty.data ++ (baOf l).data⟩ : ByteArray) = baOf l := by
    apply ByteArray.ext; simp
  rw [e2] at hf
  exact congrArg (fun q => Result.andThen q fun a w' => Sem.run P (pure (Value.string a)) w') hf

theorem bytesNil_sound (r : Rel μ h w) {s d e : TypeId} {k : IntKind} {x : Value} (hs : P.underlying s = some (.slice e)) (hd : P.underlying d = some .string) (he : P.underlying e = some (.int k)) (hk : k = .u8 ∨ k = .i32)
    (hx : V μ .nils x) : Fine P μ h w (convert s d x) ⟨.str [], h, c, .e⟩ := by
  cases hx
  refine Fine.pure r (x := .string .empty) ?_ rfl
  rcases hk with rfl | rfl
  · simp only [convert, Sem.run_bind, r_underlying hs, r_underlying hd, r_underlying he, Result.andThen_ok, Conv.bytesToString, Sem.run_pure]
  · simp only [convert, Sem.run_bind, r_underlying hs, r_underlying hd, r_underlying he, Result.andThen_ok, Conv.runesToString, Sem.run_pure]

theorem runesStr_sound (r : Rel μ h w) {s d e : TypeId} {id off n sz : Nat} {x : Value} {vs : List AV} {l : List Nat} (hs : P.underlying s = some (.slice e)) (hd : P.underlying d = some .string) (he : P.underlying e = some (.int .i32))
    (hx : V μ (.slice id off n sz) x) (hrd : rdCells h id off n = some vs) (hb : runesOf vs = some l) : Fine P μ h w (convert s d x) ⟨.str l, h, c, .r id⟩ := by
  obtain ⟨R, base, fin, a, rc, hm, rfl, g1, g2, g3, g4⟩ := hx
  obtain ⟨R', base', fin', rvs, hm', hvl, hlen, hrun, hcell⟩ := rd_sound P r hrd
  rw [hm] at hm'; cases hm'
  have hld : (loadCells ⟨R, a, none⟩ n).run P w = .ok rvs.toArray w := by
    by_cases h0 : n = 0
    · subst h0
      have : rvs = [] := List.eq_nil_of_length_eq_zero hlen
      subst this; rfl
    · rw [g4 h0]; exact hrun
  refine Fine.pure r (x := .string (baOf l)) ?_ rfl
  have hf := forIn_runes (P := P) (w := w) vs rvs l ByteArray.empty hvl hb
  simp only [convert, Sem.run_bind, r_underlying hs, r_underlying hd, r_underlying he, Result.andThen_ok, Conv.runesToString, hld]
  rw [← Array.forIn_toList]
  have e2 : ByteArray.empty ++ baOf l = baOf l := by
    apply ByteArray.ext; simp [ByteArray.data_append]
  rw [e2] at hf
  exact congrArg (fun q => Result.andThen q fun a w' => Sem.run P (pure (Value.string a)) w') hf

theorem bytesAV_VL (s : List Nat) : VL μ (bytesAV s) ((baOf s).data.toList.map fun b => Value.int .u8 b.toNat) := by
  refine VL_of_get (by simp [bytesAV, baOf]) (fun k a hk => ?_)
  simp only [bytesAV, List.getElem?_map, Option.map_eq_some_iff] at hk
  obtain ⟨b, hb, rfl⟩ := hk
  refine ⟨.int .u8 (Int.ofNat (b % 256)), ?_, rfl⟩
  simp [baOf, hb]

/-- A capacity is drawn. -/
theorem drawCap (P : Program) (r : Rel μ h w) (n old : Nat) (e : TypeId) : ∃ cap w1, n ≤ cap ∧ (choose (.appendCap n old e)).run P w = .ok cap w1 ∧ (∃ m, w1 = { w with drawn := m }) ∧ Rel μ h w1 ∧ Ext μ h w μ h w1 :=
  ⟨_, { w with drawn := w.drawn + 1 }, Nat.le_add_right n (w.tape w.drawn (.appendCap n old e) % (2 ^ 63 - n)), by rw [run_choose, if_neg (by simp [Question.forced])]; rfl, ⟨_, rfl⟩, r.drew _, Ext.drew μ h w _⟩

theorem strBytes_sound (r : Rel μ h w) {s d e : TypeId} {b : List Nat} {x : Value} (hs : P.underlying s = some .string) (hd : P.underlying d = some (.slice e)) (he : P.underlying e = some (.int .u8)) (hx : V μ (.str b) x) {o : Out AV}
    (en : newB (.cells (bytesAV b) false) h c (fun i => .slice i 0 b.length 1) = some o) : Fine P μ h w (convert s d x) o := by
  obtain ⟨hc, rfl⟩ := newB_inv en
  cases hx
  obtain ⟨cap, w1, hcap, hrunc, _, r1, e1⟩ := drawCap P r (baOf b).size 0 e
  rw [baOf_size] at hcap hrunc
  obtain ⟨g1, g2, g3⟩ := newRow_sound (P := P) r1 hc (List.replicate (cap - b.length) (Value.int .u8 0)) e (bytesAV_VL (μ := μ) b)
  have hg : (h.set (.cells (bytesAV b) false) c).get c = some (.cells (bytesAV b) false) := Tr.get_set_same ..
  have hlen : ((baOf b).data.toList.map fun b => Value.int .u8 b.toNat).length = b.length := by simp [baOf]
  obtain ⟨f1, f2⟩ := g2.frozenBehind hg (upd_self _ _) (C := ((baOf b).data.toList.map (fun b => Value.int .u8 b.toNat) ++ List.replicate (cap - b.length) (Value.int .u8 0)).toArray) (T := e) (fz := (0, 0)) (by simp)
  refine ⟨.slice (some ⟨w1.heap.size, 0, none⟩) b.length cap, _, _, ?_, ⟨_, _, _, 0, cap, upd_self _ _, rfl, hcap, Nat.le_refl _, ?_, fun _ => rfl⟩, f1, e1.trans (g3.trans f2)⟩
  · have ea : (baOf b).data.map (fun b => Value.int .u8 b.toNat) ++ Array.replicate (cap - b.length) (Value.int .u8 0) = ((baOf b).data.toList.map (fun b => Value.int .u8 b.toNat) ++ List.replicate (cap - b.length) (Value.int .u8 0)).toArray := by
      apply Array.ext'
      simp [baOf_size]
    simp only [convert, Sem.run_bind, r_underlying hs, r_underlying hd, r_underlying he, Result.andThen_ok, Conv.stringToBytes, hrunc, ea, g1, markStringish, run_shape, World.shape?, Array.getElem?_push_size, run_freeze, Sem.run_pure, baOf_size]
  · rw [hlen, List.length_replicate]; omega

theorem sliceSame_sound (r : Rel μ h w) {s d e : TypeId} {id off n sz : Nat} {x : Value} {l : List AV} (hsd : s = d) (hd : P.underlying d = some (.slice e)) (he : P.underlying e = some (.int .u8)) (hx : V μ (.slice id off n sz) x)
    (hg : h.get id = some (.cells l false)) : Fine P μ h w (convert s d x) ⟨.slice id off n sz, h, c, .w id⟩ := by
  subst hsd
  obtain ⟨R, base, fin, a, rc, hm, rfl, g1, g2, g3, g4⟩ := hx
  obtain ⟨R', base', fin', C, T, fz, hm', hw, h1, h2, h3, h4⟩ := r.blk id _ hg
  rw [hm] at hm'; cases hm'
  obtain ⟨f1, f2⟩ := r.frozenBehind hg hm hw
  refine ⟨.slice (some ⟨R, a, none⟩) n rc, _, μ, ?_, ⟨R, base, fin, a, rc, hm, rfl, g1, g2, g3, g4⟩, f1, f2⟩
  simp only [convert, Sem.run_bind, r_underlying hd, r_underlying he, Result.andThen_ok, beq_self_eq_true, markStringish, run_shape, World.shape?, hw, run_freeze, Sem.run_pure]

end
end Go.Am
