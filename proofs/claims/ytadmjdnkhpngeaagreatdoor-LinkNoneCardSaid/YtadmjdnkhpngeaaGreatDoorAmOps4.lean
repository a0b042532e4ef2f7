/-
  Each operation of the abstract machine stands for the model's: (4) what is made, read, written.
-/
import Derived.Test.YtadmjdnkhpngeaaGreatDoorAmOps3
namespace Go.Am

/-- What an operation that gives a value comes to. -/
def Fine (P : Program) (μ : Mu) (h : Hp) (w : World) (s : Sem Value) (o : Out AV) : Prop :=
  ∃ x w' μ', s.run P w = .ok x w' ∧ V μ' o.v x ∧ Rel μ' o.h w' ∧ Ext μ h w μ' o.h w'

section
variable {P : Program} {μ : Mu} {h : Hp} {w : World} {c : Nat}

theorem Fine.pure {s : Sem Value} {x : Value} {v : AV} {l : Lg} (r : Rel μ h w) (e : s.run P w = .ok x w) (hv : V μ v x) : Fine P μ h w s ⟨v, h, c, l⟩ :=
  ⟨x, w, μ, e, hv, r, Ext.refl μ h w⟩

theorem okv_inv {v : AV} {o : Out AV} (e : okv v h c = some o) : o = ⟨v, h, c, .e⟩ := by cases e; rfl

theorem newB_inv {b : Blk} {mk : Nat → AV} {o : Out AV} (e : newB b h c mk = some o) : h.get c = none ∧ o = ⟨mk c, h.set b c, c + 1, .w c⟩ := by
  unfold newB at e
  split at e
  · rename_i hg; cases e; exact ⟨hg, rfl⟩
  · cases e

/-- A new row, and its address. -/
theorem newRow_sound (r : Rel μ h w) (hc : h.get c = none) {l : List AV} {rvs : List Value} (rest : List Value) (T : TypeId) (hv : VL μ l rvs) :
    (newRow T (rvs ++ rest).toArray).run P w = .ok ⟨w.heap.size, 0, none⟩ { w with heap := w.heap.push (.cells (rvs ++ rest).toArray T (0, 0)) } ∧
    Rel (μ.upd c (w.heap.size, 0, rvs.length + rest.length)) (h.set (.cells l false) c) { w with heap := w.heap.push (.cells (rvs ++ rest).toArray T (0, 0)) } ∧
      Ext μ h w (μ.upd c (w.heap.size, 0, rvs.length + rest.length)) (h.set (.cells l false) c) { w with heap := w.heap.push (.cells (rvs ++ rest).toArray T (0, 0)) } :=
  ⟨by simp [newRow], r.makeCells rest T hc hv false⟩

theorem upd_self (c : Nat) (x : Nat × Nat × Nat) : (μ.upd c x) c = some x := by simp [Mu.upd]

theorem newVar_sound (r : Rel μ h w) (hc : h.get c = none) {l : List AV} {v : Value} (T : TypeId) (hv : VL μ l v.cells.toList) :
    ∃ w' μ', (newVar T v).run P w = .ok ⟨w.heap.size, 0, none⟩ w' ∧ μ' c = some (w.heap.size, 0, v.cells.size) ∧ Rel μ' (h.set (.cells l false) c) w' ∧ Ext μ h w μ' (h.set (.cells l false) c) w' := by
  obtain ⟨h1, h2, h3⟩ := newRow_sound (P := P) r hc [] T hv
  simp only [List.append_nil, Array.toArray_toList, List.length_nil, Nat.add_zero, Array.length_toList] at h1 h2 h3
  exact ⟨_, _, h1, upd_self _ _, h2, h3⟩

theorem alloc_sound (r : Rel μ h w) {t : TypeId} {i : TI} {z : List AV} (ht : ti P t = some i) (hz : zeroC i = some z) {o : Out AV} (e : newB (.cells z false) h c (fun i => .ptr i 0) = some o) :
    Fine P μ h w (Instr.alloc t true (.tuple #[])) o := by
  obtain ⟨hc, rfl⟩ := newB_inv e
  obtain ⟨q, h1, h2, h3, h4, h5⟩ := ti_spec ht
  obtain ⟨v, hv, hl⟩ := zeroC_spec hz μ
  obtain ⟨w', μ', g1, g2, g3, g4⟩ := newVar_sound (P := P) r hc t hl
  refine ⟨.pointer (some ⟨w.heap.size, 0, none⟩), w', μ', ?_, ⟨_, _, _, g2, rfl⟩, g3, g4⟩
  simp only [Instr.alloc, Sem.run_bind, r_zero h2 (h5.trans hv), Result.andThen_ok, g1, Sem.run_pure]

theorem box_sound (r : Rel μ h w) (t : TypeId) {a : AV} {x : Value} (hx : V μ a x) {o : Out AV} (e : newB (.cells (avCells a) false) h c (fun i => .ptr i 0) = some o) :
    Fine P μ h w (Instr.box t x) o := by
  obtain ⟨hc, rfl⟩ := newB_inv e
  obtain ⟨w', μ', g1, g2, g3, g4⟩ := newVar_sound (P := P) r hc t (V_cells hx)
  refine ⟨.pointer (some ⟨w.heap.size, 0, none⟩), w', μ', ?_, ⟨_, _, _, g2, rfl⟩, g3, g4⟩
  simp only [Instr.box, Sem.run_bind, Result.andThen_ok, g1, Sem.run_pure]

/-! ### Filling -/

theorem foldl_putA (off : Nat) : ∀ (l : List Value) (k : Nat) (C : Array Value), (l.zipIdx k).foldl (fun cs (x : Value × Nat) => cs.setIfInBounds (off + x.2) x.1) C = putA C (off + k) l
  | [], _, _ => rfl
  | v :: r, k, C => by
    rw [List.zipIdx_cons, List.foldl_cons, foldl_putA off r (k + 1), putA]
    rfl

theorem foldl_putA' (off : Nat) (v : Array Value) (C : Array Value) : v.zipIdx.foldl (fun cs (x : Value × Nat) => cs.setIfInBounds (off + x.2) x.1) C = putA C off v.toList := by
  rw [← Array.foldl_toList, Array.toList_zipIdx, foldl_putA off v.toList 0 C]
  rfl

theorem VL_put {l vs : List AV} {C : Array Value} {rvs : List Value} {off : Nat} (hl : VL μ l C.toList) (hv : VL μ vs rvs) (ho : off + vs.length ≤ l.length) : VL μ (put l off vs) (putA C off rvs).toList := by
  have h1 := VL_len hl
  have h2 := VL_len hv
  simp only [Array.length_toList] at h1
  refine VL_of_get (by rw [Array.length_toList, putA_size, put_length]; exact h1) (fun k a hk => ?_)
  rw [put_get _ _ _ _ ho] at hk
  rw [Array.getElem?_toList, putA_get _ _ _ _ (by omega)]
  split at hk
  · rw [if_pos (by omega)]; exact VL_get hv hk
  · rw [if_neg (by omega)]
    obtain ⟨x, e, g⟩ := VL_get hl hk
    exact ⟨x, by simpa using e, g⟩

theorem fill_sound {T : Tr AV} {a : Act} (g : Glob P μ) (t : TR μ T a.tmps) (pl : Nat → Option (Nat × Nat)) : ∀ {parts : List (Nat × Operand)} {ps : List (Nat × Nat × Opd)} {cs l : List AV} {C : Array Value},
    trParts P pl parts = some ps → fillF T cs ps = some l → VL μ cs C.toList →
    ∃ D : Array Value, Instr.fill pl C (parts.map fun (i, x) => (i, a.eval x)) = some D ∧ VL μ l D.toList
  | [], _, cs, l, C, hp, hf, hl => by cases hp; cases hf; exact ⟨C, rfl, hl⟩
  | (i, x) :: r, _, cs, l, C, hp, hf, hl => by
    simp only [trParts] at hp
    split at hp
    · rename_i off sz o os hpl ho hos
      cases hp
      simp only [fillF] at hf
      split at hf
      · cases hf
      · rename_i v hv
        cases hb : (Nat.beq (avCells v).length sz && Nat.ble (off + sz) cs.length)
        · rw [hb] at hf; cases hf
        rw [hb] at hf
        simp only [cond_true] at hf
        rw [Bool.and_eq_true] at hb
        have hsz := beq_true hb.1
        have hle := Nat.le_of_ble_eq_true hb.2
        have hx := V_cells (ev_sound g t ho hv)
        have hlen := VL_len hx
        have hCl := VL_len hl
        simp only [Array.length_toList] at hlen hCl
        obtain ⟨D, e, q⟩ := fill_sound g t pl hos hf (VL_put hl hx (by omega))
        refine ⟨D, ?_, q⟩
        simp only [List.map_cons, Instr.fill, hpl]
        rw [if_neg]
        · rw [foldl_putA']; exact e
        · simp; omega
    · cases hp

theorem run_mapM_list {α β : Type} (f : α → Sem β) (f' : α → β) : ∀ (l : List α), (∀ x ∈ l, (f x).run P w = .ok (f' x) w) → (l.mapM f).run P w = .ok (l.map f') w
  | [], _ => by simp
  | x :: l, hx => by
    rw [List.mapM_cons]
    simp only [Sem.run_bind, hx x (by simp), Result.andThen_ok, run_mapM_list f f' l (fun y hy => hx y (by simp [hy])), Sem.run_pure, List.map_cons]

theorem run_mapM_array {α β : Type} (f : α → Sem β) (f' : α → β) (l : Array α) (hx : ∀ x ∈ l.toList, (f x).run P w = .ok (f' x) w) : (l.mapM f).run P w = .ok (l.map f') w := by
  rw [Array.mapM_eq_mapM_toList]
  simp only [Sem.run_map, run_mapM_list f f' l.toList hx, Result.andThen_ok]
  congr 1
  apply Array.ext'
  simp

theorem build_struct_sound {T : Tr AV} {a : Act} (r : Rel μ h w) (g : Glob P μ) (t : TR μ T a.tmps) {ty : TypeId} {i : TI} {z : List AV} {fs : Array Field} (ht : ti P ty = some i) (hz : zeroC i = some z)
    (hd : i.d = .struct fs) (hall : ∀ f ∈ fs.toList, (ti P f.type).isSome = true) {parts : Array (Nat × Operand)} {ps : List (Nat × Nat × Opd)}
    (hp : trParts P (fun k => match fs[k]? with
            | some f => match ti P f.type with
              | some j => some (f.offset, j.size)
              | none => none
            | none => none) parts.toList = some ps) {l : List AV} (hf : fillF T z ps = some l) :
    Fine P μ h w (Instr.build ty (parts.map fun (i, x) => (i, a.eval x))) ⟨.agg l, h, c, .e⟩ := by
  obtain ⟨q, h1, h2, h3, h4, h5⟩ := ti_spec ht
  obtain ⟨v, hv, hl⟩ := zeroC_spec hz μ
  obtain ⟨D, e, hD⟩ := fill_sound g t _ hp hf hl
  let f' : Field → Nat × Nat := fun f => (f.offset, match ti P f.type with | some j => j.size | none => 0)
  have hm : (fs.mapM fun f => (do pure (f.offset, ← sizeOf f.type) : Sem (Nat × Nat))).run P w = .ok (fs.map f') w := by
    refine run_mapM_array _ f' fs (fun f hf => ?_)
    obtain ⟨j, hj⟩ := Option.isSome_iff_exists.1 (hall f hf)
    obtain ⟨q, j1, j2, j3, _, _⟩ := ti_spec hj
    simp only [Sem.run_bind, r_sizeOf j2, Result.andThen_ok, Sem.run_pure, f', hj, j3]
  refine Fine.pure r (x := .agg D) ?_ ⟨D.toList, by simp, hD⟩
  have hpl : (fun k : Nat => (fs.map f')[k]?) = (fun k => match fs[k]? with
            | some f => match ti P f.type with
              | some j => some (f.offset, j.size)
              | none => none
            | none => none) := by
    funext k
    rw [Array.getElem?_map]
    cases hk : fs[k]? with
    | none => rfl
    | some f =>
      have hmem : f ∈ fs.toList := by
        rw [← Array.getElem?_toList] at hk
        exact List.mem_of_getElem? hk
      obtain ⟨j, hj⟩ := Option.isSome_iff_exists.1 (hall f hmem)
      simp [f', hj]
  simp only [Instr.build, Sem.run_bind, r_zero h2 (h5.trans hv), Result.andThen_ok, r_underlying h1, hd, hm]
  have e' : Instr.fill (fun k => (fs.map f')[k]?) v.cells (parts.map fun (i, x) => (i, a.eval x)).toList = some D := by
    rw [hpl, Array.toList_map]; exact e
  rw [e']
  rfl

theorem build_array_sound {T : Tr AV} {a : Act} (r : Rel μ h w) (g : Glob P μ) (t : TR μ T a.tmps) {ty : TypeId} {i j : TI} {z : List AV} {n : Nat} {el : TypeId} (ht : ti P ty = some i) (hz : zeroC i = some z)
    (hd : i.d = .array n el) (hj : ti P el = some j) {parts : Array (Nat × Operand)} {ps : List (Nat × Nat × Opd)}
    (hp : trParts P (fun k => some (k * j.size, j.size)) parts.toList = some ps) {l : List AV} (hf : fillF T z ps = some l) :
    Fine P μ h w (Instr.build ty (parts.map fun (i, x) => (i, a.eval x))) ⟨.agg l, h, c, .e⟩ := by
  obtain ⟨q, h1, h2, h3, h4, h5⟩ := ti_spec ht
  obtain ⟨q, j1, j2, j3, _, _⟩ := ti_spec hj
  obtain ⟨v, hv, hl⟩ := zeroC_spec hz μ
  obtain ⟨D, e, hD⟩ := fill_sound g t _ hp hf hl
  refine Fine.pure r (x := .agg D) ?_ ⟨D.toList, by simp, hD⟩
  simp only [Instr.build, Sem.run_bind, r_zero h2 (h5.trans hv), Result.andThen_ok, r_underlying h1, hd, r_sizeOf j2, j3, Array.toList_map, e, Sem.run_pure]

theorem repl_length (z : List AV) : ∀ n, (repl z n).length = n * z.length
  | 0 => by simp [repl]
  | n + 1 => by rw [repl, List.length_append, repl_length z n, Nat.succ_mul]; omega

theorem repl_VL {z : List AV} {zs : Array Value} (hz : VL μ z zs.toList) : ∀ n, VL μ (repl z n) ((Array.range (n * zs.size)).map (fun i => zs[i % zs.size]!)).toList := by
  intro n
  have hlz := VL_len hz
  simp only [Array.length_toList] at hlz
  refine VL_of_get (by simp [repl_length, hlz]) ?_
  induction n with
  | zero => intro k a hk; cases hk
  | succ n ih =>
    intro k a hk
    rw [repl, List.getElem?_append] at hk
    split at hk
    · rename_i hlt
      obtain ⟨x, e, g⟩ := VL_get hz hk
      refine ⟨x, ?_, g⟩
      have hk' : k < zs.size := by omega
      have hk2 : k < (n + 1) * zs.size := by rw [Nat.succ_mul]; omega
      simp only [Array.toList_map, List.getElem?_map, Array.toList_range, List.getElem?_range hk2, Option.map_some, Nat.mod_eq_of_lt hk']
      have : zs[k]? = some x := by simpa using e
      simp [getElem!_def, this]
    · rename_i hge
      obtain ⟨x, e, g⟩ := ih _ a hk
      refine ⟨x, ?_, g⟩
      have hlt : k - z.length < n * zs.size := by
        have : k - z.length < (repl z n).length := by
          rcases Nat.lt_or_ge (k - z.length) (repl z n).length with q | q
          · exact q
          · rw [List.getElem?_eq_none q] at hk; cases hk
        rw [repl_length] at this; rw [hlz]; exact this
      have hk2 : k < (n + 1) * zs.size := by rw [Nat.succ_mul]; omega
      simp only [Array.toList_map, List.getElem?_map, Array.toList_range, List.getElem?_range hlt, List.getElem?_range hk2, Option.map_some] at e ⊢
      rw [← e, show k % zs.size = (k - z.length) % zs.size from by rw [Nat.mod_eq_sub_mod (by omega), hlz]]

theorem buildSlice_sound {T : Tr AV} {a : Act} (r : Rel μ h w) (g : Glob P μ) (t : TR μ T a.tmps) {ty : TypeId} {i : TI} {z : List AV} {el : TypeId} {len : Nat} (hu : P.underlying ty = some (.slice el)) (ht : ti P el = some i)
    (hz : zeroC i = some z) (hzl : z.length = i.size) (hsm : len * i.size ≤ 100000) {parts : Array (Nat × Operand)} {ps : List (Nat × Nat × Opd)}
    (hp : trParts P (fun k => some (k * i.size, i.size)) parts.toList = some ps) {l : List AV} (hf : fillF T (repl z len) ps = some l) {o : Out AV} (e : newB (.cells l false) h c (fun q => .slice q 0 len i.size) = some o) :
    Fine P μ h w (Instr.buildSlice ty len (parts.map fun (i, x) => (i, a.eval x))) o := by
  obtain ⟨hc, rfl⟩ := newB_inv e
  obtain ⟨q, h1, h2, h3, h4, h5⟩ := ti_spec ht
  obtain ⟨v, hv, hl⟩ := zeroC_spec hz μ
  have hlv := VL_len hl
  simp only [Array.length_toList] at hlv
  have hC := repl_VL hl len
  rw [show v.cells.size = i.size from hlv.trans hzl] at hC
  obtain ⟨D, ef, hD⟩ := fill_sound g t _ hp hf hC
  obtain ⟨g1, g2, g3⟩ := newRow_sound (P := P) r hc [] el hD
  have hsz : D.size = len * i.size := by
    have e1 := VL_len hD
    have : ∀ {cs : List AV} {ps : List (Nat × Nat × Opd)} {l : List AV}, fillF T cs ps = some l → l.length = cs.length := by
      intro cs ps
      induction ps generalizing cs with
      | nil => intro l e; cases e; rfl
      | cons p ps ih =>
        obtain ⟨off, sz, x⟩ := p
        intro l e
        simp only [fillF] at e
        split at e
        · cases e
        · cases hb : (Nat.beq (avCells (by assumption)).length sz && Nat.ble (off + sz) cs.length) <;> rw [hb] at e
          · cases e
          · rw [ih e, put_length]
    rw [this hf, repl_length, hzl] at e1
    simpa using e1
  simp only [List.append_nil, Array.toArray_toList, List.length_nil, Nat.add_zero, Array.length_toList] at g1 g2 g3
  refine ⟨.slice (some ⟨w.heap.size, 0, none⟩) len len, _, _, ?_, ⟨w.heap.size, 0, D.size, 0, len, upd_self _ _, rfl, Nat.le_refl _, Nat.le_refl _, by omega, fun _ => rfl⟩, g2, g3⟩
  simp only [Instr.buildSlice, Sem.run_bind, r_underlying hu, Result.andThen_ok, r_sizeOf h2, h3]
  rw [if_neg (by omega)]
  by_cases h0 : len * i.size = 0
  · rw [h0] at ef ⊢
    have e0 : (Array.range 0).map (fun k => v.cells[k % i.size]!) = #[] := by simp
    rw [e0] at ef
    have e1 : (Array.range 0).map (fun x => (#[] : Array Value)[x % (#[] : Array Value).size]!) = #[] := by simp
    simp only [if_true, Sem.run_bind, Sem.run_pure, Result.andThen_ok, e1, Array.toList_map, ef, g1]
  · simp only [if_neg h0, Sem.run_bind, Sem.run_pure, Result.andThen_ok, r_zero h2 (h5.trans hv), hlv.trans hzl, Array.toList_map, ef, g1]

/-! ### Reading, writing -/

theorem load_sound (r : Rel μ h w) {t : TypeId} {i : TI} (ht : ti P t = some i) {id off : Nat} {x : Value} (hx : V μ (.ptr id off) x) {vs : List AV}
    (hrd : rdCells h id off (if isAggT i.d then i.size else 1) = some vs) : (isAggT i.d = true → Fine P μ h w (Instr.loadAt t x) ⟨.agg vs, h, c, .r id⟩) ∧
      (isAggT i.d = false → ∀ v, vs = [v] → Fine P μ h w (Instr.loadAt t x) ⟨v, h, c, .r id⟩) := by
  obtain ⟨q, h1, h2, h3, h4, h5⟩ := ti_spec ht
  obtain ⟨R, base, fin, hm, rfl⟩ := hx
  obtain ⟨R', base', fin', rvs, hm', hvl, hlen, hrun, hcell⟩ := rd_sound P r hrd
  rw [hm] at hm'; cases hm'
  have hag := r_isAgg (w := w) h1
  constructor
  · intro hd
    rw [hd] at hag hrun
    refine Fine.pure r (x := .agg rvs.toArray) ?_ ⟨rvs, rfl, hvl⟩
    simp only [if_true] at hrun
    simp only [Instr.loadAt, Instr.sureAddr, loadVar, Sem.run_bind, Sem.run_pure, Result.andThen_ok, hag, if_true, r_sizeOf h2, h3, hrun]
  · intro hd v hvs
    subst hvs
    rw [hd] at hag
    obtain ⟨y, rr, rfl, hy, hr⟩ := hvl
    refine Fine.pure r (x := y) ?_ hy
    have := hcell 0 y rfl
    simp only [Nat.add_zero] at this
    simp only [Instr.loadAt, Instr.sureAddr, loadVar, Sem.run_bind, Sem.run_pure, Result.andThen_ok, hag, Bool.false_eq_true, if_false, run_load, this]

theorem store_sound (r : Rel μ h w) {t : TypeId} {i : TI} (ht : ti P t = some i) {id off : Nat} {x y : Value} {v : AV} (hx : V μ (.ptr id off) x) (hy : V μ v y) (hn : (avCells v).length = i.size) {h' : Hp}
    (hwr : wrCells h id off (avCells v) = some h') : ∃ w', (Instr.storeAt t x y).run P w = .ok () w' ∧ Rel μ h' w' ∧ Ext μ h w μ h' w' := by
  obtain ⟨q, h1, h2, h3, h4, h5⟩ := ti_spec ht
  obtain ⟨R, base, fin, hm, rfl⟩ := hx
  obtain ⟨R', base', fin', w', hm', hrun, hr, he⟩ := wr_sound P r hwr (V_cells hy)
  rw [hm] at hm'; cases hm'
  have hl := VL_len (V_cells hy)
  simp only [Array.length_toList] at hl
  refine ⟨w', ?_, hr, he⟩
  simp only [Instr.storeAt, Instr.sureAddr, storeVar, Sem.run_bind, Sem.run_pure, Result.andThen_ok, r_sizeOf h2, h3]
  rw [if_neg (by omega)]
  simp only [hrun]
end
end Go.Am
