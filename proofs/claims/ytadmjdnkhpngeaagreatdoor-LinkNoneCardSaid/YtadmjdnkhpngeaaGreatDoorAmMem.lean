/-
  Writing, making, moving: what the abstract machine does to its blocks stands for what the model does to the heap.
-/
import Derived.Test.YtadmjdnkhpngeaaGreatDoorAmRel
namespace Go.Am

def Mu.upd (μ : Mu) (c : Nat) (x : Nat × Nat × Nat) : Mu := fun i => if i = c then some x else μ i

theorem Mu.le_upd {μ : Mu} {c : Nat} {x : Nat × Nat × Nat} (h : μ c = none) : Mu.le μ (μ.upd c x) := fun i y e => by
  unfold Mu.upd
  by_cases hi : i = c
  · subst hi; rw [h] at e; cases e
  · rw [if_neg hi]; exact e

theorem heap_lt {w : World} {R : Nat} {o : Obj} (e : w.heap[R]? = some o) : R < w.heap.size := by
  rcases Nat.lt_or_ge R w.heap.size with h | h
  · exact h
  · rw [Array.getElem?_eq_none h] at e; cases e

/-- A block of one's own is changed: all else stays. -/
theorem Rel.change {μ : Mu} {h : Hp} {w : World} (r : Rel μ h w) {id : Nat} {b b' : Blk} {R base fin : Nat} {o : Obj} (hg : h.get id = some b) (hb : b.wr = true) (hb' : b'.wr = true)
    (hm : μ id = some (R, base, fin)) (hlt : R < w.heap.size) (hn : BRel μ (setBlk w R o) id b') :
    Rel μ (h.set b' id) (setBlk w R o) ∧ Ext μ h w μ (h.set b' id) (setBlk w R o) := by
  have live_of : ∀ {b : Blk}, b.wr = true → b.live = true := fun {b} h => by cases b <;> first | rfl | exact h
  refine ⟨⟨fun i e => ?_, fun i j x y S p q p' q' hij gi gj wi lj mi mj => ?_, fun i x e => ?_⟩, ?_⟩
  · rw [Tr.get_set] at e
    split at e
    · cases e
    · exact r.dom i e
  · rw [Tr.get_set] at gi gj
    split at gi
    · rename_i hi; subst hi
      rw [if_neg (fun e => hij e.symm)] at gj
      exact r.inj i j b y S p q p' q' hij hg gj hb lj mi mj
    · split at gj
      · rename_i hj; subst hj
        exact r.inj i j x b S p q p' q' hij gi hg wi (live_of hb) mi mj
      · exact r.inj i j x y S p q p' q' hij gi gj wi lj mi mj
  · rw [Tr.get_set] at e
    split at e
    · rename_i hi; subst hi; cases e; exact hn
    · rename_i hi
      by_cases hl : x.live = true
      · refine (r.blk i x e).mono (Mu.le_refl μ) (fun S p q ms => ?_)
        rw [setBlk_get, if_neg]
        rintro ⟨rfl, _⟩
        exact r.inj id i b x S base fin p q (fun e => hi e.symm) hg e hb hl hm ms
      · cases x <;> first | exact (hl rfl).elim | trivial
  · refine ⟨Mu.le_refl μ, by rw [setBlk_size]; exact Nat.le_refl _, fun s hs ho => ?_, fun s hs ho => ?_, rfl, rfl, rfl⟩
    · rw [setBlk_get, if_neg]
      rintro ⟨rfl, _⟩
      exact ho ⟨id, b, base, fin, hg, hb, hm⟩
    · obtain ⟨i, x, p, q, gi, wi, mi⟩ := ho
      rw [Tr.get_set] at gi
      split at gi
      · rename_i hi; subst hi; exact ⟨i, b, p, q, hg, hb, mi⟩
      · exact ⟨i, x, p, q, gi, wi, mi⟩

/-- A new block. -/
theorem Rel.make {μ : Mu} {h : Hp} {w : World} (r : Rel μ h w) {c : Nat} {b : Blk} {o : Obj} {base fin : Nat} (hc : h.get c = none)
    (hn : BRel (μ.upd c (w.heap.size, base, fin)) { w with heap := w.heap.push o } c b) :
    Rel (μ.upd c (w.heap.size, base, fin)) (h.set b c) { w with heap := w.heap.push o } ∧
      Ext μ h w (μ.upd c (w.heap.size, base, fin)) (h.set b c) { w with heap := w.heap.push o } := by
  have hmc := r.dom c hc
  have hle : Mu.le μ (μ.upd c (w.heap.size, base, fin)) := Mu.le_upd hmc
  have old : ∀ R, R < w.heap.size → (w.heap.push o)[R]? = w.heap[R]? := fun R hR => by
    rw [Array.getElem?_push]; rw [if_neg (by omega)]
  have upd_ne : ∀ {i}, i ≠ c → (μ.upd c (w.heap.size, base, fin)) i = μ i := fun hi => by unfold Mu.upd; rw [if_neg hi]
  have upd_eq : (μ.upd c (w.heap.size, base, fin)) c = some (w.heap.size, base, fin) := by unfold Mu.upd; rw [if_pos rfl]
  have live_of : ∀ {b : Blk}, b.wr = true → b.live = true := fun {b} h => by cases b <;> first | rfl | exact h
  refine ⟨⟨fun i e => ?_, fun i j x y S p q p' q' hij gi gj wi lj mi mj => ?_, fun i x e => ?_⟩, ?_⟩
  · rw [Tr.get_set] at e
    split at e
    · cases e
    · rename_i hi; rw [upd_ne hi]; exact r.dom i e
  · rw [Tr.get_set] at gi gj
    split at gi
    · rename_i hi; subst hi
      rw [if_neg (fun e => hij e.symm)] at gj
      rw [upd_eq] at mi
      rw [upd_ne (fun e => hij e.symm)] at mj
      obtain ⟨R', x', y', e1, e2⟩ := (r.blk j y gj).lt lj
      rw [mj] at e1; cases e1; cases mi; omega
    · rename_i hi
      rw [upd_ne hi] at mi
      split at gj
      · rename_i hj; subst hj
        rw [upd_eq] at mj
        obtain ⟨R', x', y', e1, e2⟩ := (r.blk i x gi).lt (live_of wi)
        rw [mi] at e1; cases e1; cases mj; omega
      · rename_i hj
        rw [upd_ne hj] at mj
        exact r.inj i j x y S p q p' q' hij gi gj wi lj mi mj
  · rw [Tr.get_set] at e
    split at e
    · rename_i hi; subst hi; cases e; exact hn
    · rename_i hi
      by_cases hl : x.live = true
      · obtain ⟨R', x', y', e1, e2⟩ := (r.blk i x e).lt hl
        refine (r.blk i x e).mono hle (fun S p q ms => ?_)
        rw [e1] at ms; cases ms
        exact old _ e2
      · cases x <;> first | exact (hl rfl).elim | trivial
  · refine ⟨hle, by simp, fun s hs _ => old s hs, fun s hs ho => ?_, rfl, rfl, rfl⟩
    obtain ⟨i, x, p, q, gi, wi, mi⟩ := ho
    rw [Tr.get_set] at gi
    split at gi
    · rename_i hi; subst hi; rw [upd_eq] at mi; cases mi; omega
    · rename_i hi; rw [upd_ne hi] at mi; exact ⟨i, x, p, q, gi, wi, mi⟩

theorem cells_new {μ : Mu} {w : World} {c : Nat} {l : List AV} {rvs rest : List Value} {T : TypeId} (h : VL μ l rvs) (hc : μ c = none) (ro : Bool) :
    BRel (μ.upd c (w.heap.size, 0, rvs.length + rest.length)) { w with heap := w.heap.push (.cells (rvs ++ rest).toArray T (0, 0)) } c (.cells l ro) := by
  refine ⟨w.heap.size, 0, rvs.length + rest.length, (rvs ++ rest).toArray, T, (0, 0), by simp [Mu.upd], by simp, by have := VL_len h; omega, by simp, fun k a hk => ?_, fun _ => Or.inl rfl⟩
  obtain ⟨v, e, p⟩ := VL_get h hk
  refine ⟨v, ?_, V_mono (Mu.le_upd hc) _ _ p⟩
  have hlt : k < rvs.length := by
    rcases Nat.lt_or_ge k rvs.length with g | g
    · exact g
    · rw [List.getElem?_eq_none g] at e; cases e
  simp [List.getElem?_append_left hlt, e]

/-- A new row of cells, with or without room behind. -/
theorem Rel.makeCells {μ : Mu} {h : Hp} {w : World} (r : Rel μ h w) {c : Nat} {l : List AV} {rvs : List Value} (rest : List Value) (T : TypeId) (hc : h.get c = none) (hv : VL μ l rvs) (ro : Bool) :
    Rel (μ.upd c (w.heap.size, 0, rvs.length + rest.length)) (h.set (.cells l ro) c) { w with heap := w.heap.push (.cells (rvs ++ rest).toArray T (0, 0)) } ∧
      Ext μ h w (μ.upd c (w.heap.size, 0, rvs.length + rest.length)) (h.set (.cells l ro) c) { w with heap := w.heap.push (.cells (rvs ++ rest).toArray T (0, 0)) } :=
  r.make hc (cells_new hv (r.dom c hc) ro)

theorem VL_all {μ : Mu} : ∀ {l : List AV} {vs : List Value}, VL μ l vs → l.all isCell = true → ∀ v ∈ vs, v.oneCell' = true
  | [], _, e, _, v, hv => by cases e; cases hv
  | a :: l, _, ⟨x, r, e, g, gs⟩, h, v, hv => by
    subst e
    simp only [List.all_cons, Bool.and_eq_true] at h
    cases hv with
    | head => exact V_one g h.1
    | tail _ hv => exact VL_all gs h.2 v hv

/-- What a writing does. -/
theorem wr_sound {μ : Mu} {h h' : Hp} {w : World} (P : Program) (r : Rel μ h w) {id off : Nat} {vs : List AV} {rvs : List Value} (e : wrCells h id off vs = some h') (hv : VL μ vs rvs) :
    ∃ R base fin w', μ id = some (R, base, fin) ∧ (storeCells ⟨R, base + off, none⟩ rvs).run P w = .ok () w' ∧ Rel μ h' w' ∧ Ext μ h w μ h' w' := by
  unfold wrCells at e
  split at e
  case h_2 => cases e
  rename_i l hg
  cases hb : (Nat.ble (off + vs.length) l.length && vs.all isCell)
  · rw [hb] at e; cases e
  rw [hb] at e
  simp only [cond_true, Option.some.injEq] at e
  rw [Bool.and_eq_true] at hb
  have hle := Nat.le_of_ble_eq_true hb.1
  obtain ⟨R, base, fin, C, T, fz, hm, hw, h1, h2, h3, h4⟩ := r.blk id _ hg
  have hlt := heap_lt hw
  have hlen := VL_len hv
  have hrun := run_storeCells P R T fz rvs (base + off) 0 C w hw (fz_of (h4 rfl)) (by omega) (VL_all hv hb.2)
  refine ⟨R, base, fin, _, hm, hrun, ?_⟩
  subst e
  refine r.change hg rfl rfl hm hlt ?_
  refine ⟨R, base, fin, _, T, fz, hm, by rw [setBlk_get, if_pos ⟨rfl, hlt⟩], by rw [put_length]; exact h1, by rw [putA_size]; exact h2, fun k a hk => ?_, fun _ => by rw [putA_size]; exact h4 rfl⟩
  rw [put_get _ _ _ _ hle] at hk
  rw [putA_get _ _ _ _ (by omega)]
  split at hk
  · rename_i hko
    rw [if_pos (by omega)]
    obtain ⟨v, q, p⟩ := VL_get hv hk
    exact ⟨v, by rw [show base + k - (base + off + 0) = k - off from by omega]; exact q, p⟩
  · rename_i hko
    rw [if_neg (by omega)]
    exact h3 k a hk

/-- A block's cells go on under another name, over the same row or a part of it. -/
theorem Rel.remap {μ : Mu} {h : Hp} {w : World} (r : Rel μ h w) {id c : Nat} {l l' : List AV} {R base fin base' : Nat} {C C' : Array Value} {T : TypeId} {fz : Nat × Nat}
    (hg : h.get id = some (.cells l false)) (hc : h.get c = none) (hm : μ id = some (R, base, fin)) (hw : w.heap[R]? = some (.cells C T fz)) (hs : C'.size = C.size)
    (hf : fz.1 = fz.2 ∨ C.size ≤ fz.1) (h1 : base' + l'.length ≤ fin) (h2 : fin ≤ C.size)
    (h3 : ∀ (k : Nat) (a : AV), l'[k]? = some a → ∃ v, C'[base' + k]? = some v ∧ V μ a v) :
    Rel (μ.upd c (R, base', fin)) ((h.set .dead id).set (.cells l' false) c) (setBlk w R (.cells C' T fz)) ∧
      Ext μ h w (μ.upd c (R, base', fin)) ((h.set .dead id).set (.cells l' false) c) (setBlk w R (.cells C' T fz)) := by
  have hmc := r.dom c hc
  have hne : id ≠ c := fun e => by subst e; rw [hg] at hc; cases hc
  have hle : Mu.le μ (μ.upd c (R, base', fin)) := Mu.le_upd hmc
  have hlt := heap_lt hw
  have upd_ne : ∀ {i}, i ≠ c → (μ.upd c (R, base', fin)) i = μ i := fun hi => by unfold Mu.upd; rw [if_neg hi]
  have upd_eq : (μ.upd c (R, base', fin)) c = some (R, base', fin) := by unfold Mu.upd; rw [if_pos rfl]
  have live_of : ∀ {b : Blk}, b.wr = true → b.live = true := fun {b} h => by cases b <;> first | rfl | exact h
  refine ⟨⟨fun i e => ?_, fun i j x y S p q p' q' hij gi gj wi lj mi mj => ?_, fun i x e => ?_⟩, ?_⟩
  · rw [Tr.get_set, Tr.get_set] at e
    split at e
    · cases e
    · rename_i hi
      rw [upd_ne hi]
      split at e
      · cases e
      · exact r.dom i e
  · rw [Tr.get_set, Tr.get_set] at gi gj
    split at gi
    · rename_i hi; subst hi
      rw [upd_eq] at mi; cases mi
      rw [if_neg (fun e => hij e.symm)] at gj
      rw [upd_ne (fun e => hij e.symm)] at mj
      split at gj
      · cases gj; cases lj
      · rename_i hj
        exact r.inj id j _ y R base fin p' q' (fun e => hj e.symm) hg gj rfl lj hm mj
    · rename_i hi
      rw [upd_ne hi] at mi
      split at gi
      · cases gi; cases wi
      · rename_i hi2
        split at gj
        · rename_i hj; subst hj
          rw [upd_eq] at mj; cases mj
          exact r.inj i id x _ R p q base fin hi2 gi hg wi rfl mi hm
        · rename_i hj
          rw [upd_ne hj] at mj
          split at gj
          · cases gj; cases lj
          · exact r.inj i j x y S p q p' q' hij gi gj wi lj mi mj
  · rw [Tr.get_set, Tr.get_set] at e
    split at e
    · rename_i hi; subst hi; cases e
      exact ⟨R, base', fin, C', T, fz, upd_eq, by rw [setBlk_get, if_pos ⟨rfl, hlt⟩], h1, by omega, fun k a hk => let ⟨v, q, p⟩ := h3 k a hk; ⟨v, q, V_mono hle _ _ p⟩, fun _ => by rw [hs]; exact hf⟩
    · rename_i hi
      split at e
      · cases e; trivial
      · rename_i hi2
        by_cases hl : x.live = true
        · refine (r.blk i x e).mono hle (fun S p q ms => ?_)
          rw [setBlk_get, if_neg]
          rintro ⟨rfl, _⟩
          exact r.inj id i _ x S base fin p q (fun e => hi2 e.symm) hg e rfl hl hm ms
        · cases x <;> first | exact (hl rfl).elim | trivial
  · refine ⟨hle, by rw [setBlk_size]; exact Nat.le_refl _, fun s hs ho => ?_, fun s hs ho => ?_, rfl, rfl, rfl⟩
    · rw [setBlk_get, if_neg]
      rintro ⟨rfl, _⟩
      exact ho ⟨id, _, base, fin, hg, rfl, hm⟩
    · obtain ⟨i, x, p, q, gi, wi, mi⟩ := ho
      rw [Tr.get_set, Tr.get_set] at gi
      split at gi
      · rename_i hi; subst hi; rw [upd_eq] at mi; cases mi; exact ⟨id, _, base, _, hg, rfl, hm⟩
      · rename_i hi
        rw [upd_ne hi] at mi
        split at gi
        · cases gi; cases wi
        · exact ⟨i, x, p, q, gi, wi, mi⟩

/-- A block is given up. -/
theorem Rel.kill {μ : Mu} {h : Hp} {w : World} (r : Rel μ h w) (id : Nat) (hd : h.get id ≠ none) : Rel μ (h.set .dead id) w ∧ Ext μ h w μ (h.set .dead id) w := by
  refine ⟨⟨fun i e => ?_, fun i j x y S p q p' q' hij gi gj wi lj mi mj => ?_, fun i x e => ?_⟩, ?_⟩
  · rw [Tr.get_set] at e
    split at e
    · cases e
    · exact r.dom i e
  · rw [Tr.get_set] at gi gj
    split at gi
    · cases gi; cases wi
    · split at gj
      · cases gj; cases lj
      · exact r.inj i j x y S p q p' q' hij gi gj wi lj mi mj
  · rw [Tr.get_set] at e
    split at e
    · cases e; trivial
    · exact r.blk i x e
  · refine ⟨Mu.le_refl μ, Nat.le_refl _, fun _ _ _ => rfl, fun s _ ho => ?_, rfl, rfl, rfl⟩
    obtain ⟨i, x, p, q, gi, wi, mi⟩ := ho
    rw [Tr.get_set] at gi
    split at gi
    · cases gi; cases wi
    · exact ⟨i, x, p, q, gi, wi, mi⟩

/-- Frozen behind its end. -/
theorem Rel.frozenBehind {μ : Mu} {h : Hp} {w : World} (r : Rel μ h w) {id R base fin : Nat} {l : List AV} {C : Array Value} {T : TypeId} {fz : Nat × Nat} (hg : h.get id = some (.cells l false))
    (hm : μ id = some (R, base, fin)) (hw : w.heap[R]? = some (.cells C T fz)) :
    Rel μ h (w.freeze ⟨R, C.size, none⟩ 1) ∧ Ext μ h w μ h (w.freeze ⟨R, C.size, none⟩ 1) := by
  have hlt := heap_lt hw
  obtain ⟨R', base', fin', C', T', fz', hm', hw', h1, h2, h3, h4⟩ := r.blk id _ hg
  rw [hm] at hm'; cases hm'
  rw [hw] at hw'; cases hw'
  obtain ⟨fz2, hfz, hfz2⟩ : ∃ fz2 : Nat × Nat, w.freeze ⟨R, C.size, none⟩ 1 = setBlk w R (.cells C T fz2) ∧ (fz2.1 = fz2.2 ∨ C.size ≤ fz2.1) := by
    obtain ⟨lo, hi⟩ := fz
    refine ⟨if lo == hi then (C.size, C.size + 1) else (min lo C.size, max hi (C.size + 1)), ?_, ?_⟩
    · simp only [World.freeze, setBlk]
      rw [if_neg (by decide)]
      congr 1
      apply Array.ext_getElem?
      intro i
      rw [Array.getElem?_modify, Array.getElem?_setIfInBounds]
      by_cases hi' : R = i
      · subst hi'
        have he : w.heap[R] = .cells C T (lo, hi) := by simpa [Array.getElem?_eq_getElem hlt] using hw
        simp [he, hlt]
      · simp [hi']
    · have h4' := h4 rfl
      simp only at h4'
      right
      by_cases hlh : lo = hi
      · simp [hlh]
      · have e : (lo == hi) = false := by simp [hlh]
        rw [e]
        simp only [Bool.false_eq_true, if_false]
        omega
  rw [hfz]
  obtain ⟨q1, q2⟩ := r.change (o := .cells C T fz2) hg (b' := .cells l false) rfl rfl hm hlt ⟨R, base, fin, C, T, fz2, hm, by rw [setBlk_get, if_pos ⟨rfl, hlt⟩], h1, h2, h3, fun _ => hfz2⟩
  have e : ∀ i, h.get i = (h.set (.cells l false) id).get i := fun i => by
    rw [Tr.get_set]
    split
    · rename_i hi; subst hi; exact hg
    · rfl
  exact ⟨q1.congr e, q2.congr e⟩

end Go.Am
