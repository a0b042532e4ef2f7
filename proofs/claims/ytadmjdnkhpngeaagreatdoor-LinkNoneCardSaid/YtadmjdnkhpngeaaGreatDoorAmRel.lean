/-
  How the abstract machine's values and blocks stand for the model's.
-/
import Derived.Test.YtadmjdnkhpngeaaGreatDoorAmBase
import Derived.Laws.Sem
import Derived.Laws.Cells
namespace Go.Am

/-- Where an abstract block lies: the block, its first cell, where its room ends. -/
abbrev Mu := Nat → Option (Nat × Nat × Nat)

def Mu.le (μ ν : Mu) : Prop := ∀ i x, μ i = some x → ν i = some x

theorem Mu.le_refl (μ : Mu) : Mu.le μ μ := fun _ _ h => h
theorem Mu.le_trans {a b c : Mu} (h : Mu.le a b) (g : Mu.le b c) : Mu.le a c := fun i x e => g i x (h i x e)

mutual
def V (μ : Mu) : AV → Value → Prop
  | .bool b, v => v = .bool b
  | .int k n, v => v = .int k n
  | .str s, v => v = .string (baOf s)
  | .ptr id off, v => ∃ R base fin, μ id = some (R, base, fin) ∧ v = .pointer (some ⟨R, base + off, none⟩)
  | .nilp, v => v = .pointer none
  | .slice id off len sz, v => ∃ R base fin x rc, μ id = some (R, base, fin) ∧ v = .slice (some ⟨R, x, none⟩) len rc ∧ len ≤ rc ∧ base ≤ x ∧ x + rc * sz ≤ fin ∧ (len ≠ 0 → x = base + off)
  | .nils, v => v = .slice none 0 0
  | .map id, v => ∃ R base fin, μ id = some (R, base, fin) ∧ v = .map (some R)
  | .nilm, v => v = .map none
  | .func f cap, v => ∃ vs : List Value, v = .func (.func f) #[] vs.toArray ∧ VL μ cap vs
  | .nilf, v => v = .nilFunc
  | .iface t a, v => ∃ x, v = .iface t x ∧ V μ a x
  | .nili, v => v = .nilIface
  | .agg l, v => ∃ vs : List Value, v = .agg vs.toArray ∧ VL μ l vs
  | .tup l, v => ∃ vs : List Value, v = .tuple vs.toArray ∧ VL μ l vs
def VL (μ : Mu) : List AV → List Value → Prop
  | [], vs => vs = []
  | a :: l, vs => ∃ x r, vs = x :: r ∧ V μ a x ∧ VL μ l r
end

mutual
theorem V_mono {μ ν : Mu} (h : Mu.le μ ν) : ∀ (a : AV) (v : Value), V μ a v → V ν a v
  | .bool _, _, e => e
  | .int _ _, _, e => e
  | .str _, _, e => e
  | .ptr _ _, _, ⟨R, b, f, e, g⟩ => ⟨R, b, f, h _ _ e, g⟩
  | .nilp, _, e => e
  | .slice _ _ _ _, _, ⟨R, b, f, x, rc, e, g⟩ => ⟨R, b, f, x, rc, h _ _ e, g⟩
  | .nils, _, e => e
  | .map _, _, ⟨R, b, f, e, g⟩ => ⟨R, b, f, h _ _ e, g⟩
  | .nilm, _, e => e
  | .func _ cap, _, ⟨vs, e, g⟩ => ⟨vs, e, VL_mono h cap vs g⟩
  | .nilf, _, e => e
  | .iface _ a, _, ⟨x, e, g⟩ => ⟨x, e, V_mono h a x g⟩
  | .nili, _, e => e
  | .agg l, _, ⟨vs, e, g⟩ => ⟨vs, e, VL_mono h l vs g⟩
  | .tup l, _, ⟨vs, e, g⟩ => ⟨vs, e, VL_mono h l vs g⟩
theorem VL_mono {μ ν : Mu} (h : Mu.le μ ν) : ∀ (l : List AV) (vs : List Value), VL μ l vs → VL ν l vs
  | [], _, e => e
  | a :: l, _, ⟨x, r, e, g, gs⟩ => ⟨x, r, e, V_mono h a x g, VL_mono h l r gs⟩
end

section lists
variable {μ : Mu}

theorem VL_nil : VL μ [] [] := rfl
theorem VL_cons {a : AV} {x : Value} {l : List AV} {r : List Value} (h : V μ a x) (g : VL μ l r) : VL μ (a :: l) (x :: r) := ⟨x, r, rfl, h, g⟩

theorem VL_len : ∀ {l : List AV} {vs : List Value}, VL μ l vs → vs.length = l.length
  | [], _, e => by cases e; rfl
  | _ :: _, _, ⟨_, _, e, _, g⟩ => by subst e; simp [VL_len g]

theorem VL_get : ∀ {l : List AV} {vs : List Value}, VL μ l vs → ∀ {k : Nat} {a : AV}, l[k]? = some a → ∃ x, vs[k]? = some x ∧ V μ a x
  | [], _, _, _, _, h => by cases h
  | b :: l, _, ⟨x, r, e, g, gs⟩, k, a, h => by
    subst e
    cases k with
    | zero => simp at h; subst h; exact ⟨x, rfl, g⟩
    | succ k => simp at h; simpa using VL_get gs h

theorem VL_of_get : ∀ {l : List AV} {vs : List Value}, vs.length = l.length → (∀ (k : Nat) (a : AV), l[k]? = some a → ∃ x, vs[k]? = some x ∧ V μ a x) → VL μ l vs
  | [], [], _, _ => rfl
  | [], _ :: _, h, _ => by simp at h
  | _ :: _, [], h, _ => by simp at h
  | a :: l, x :: r, h, g => by
    obtain ⟨y, e, v⟩ := g 0 a rfl
    simp at e; subst e
    exact VL_cons v (VL_of_get (by simpa using h) (fun k b hb => by simpa using g (k + 1) b (by simpa using hb)))

theorem VL_append {l m : List AV} {vs ws : List Value} (h : VL μ l vs) (g : VL μ m ws) : VL μ (l ++ m) (vs ++ ws) := by
  induction l generalizing vs with
  | nil => cases h; simpa using g
  | cons a l ih => obtain ⟨x, r, e, v, t⟩ := h; subst e; exact VL_cons v (ih t)

theorem VL_take {l : List AV} {vs : List Value} (h : VL μ l vs) (n : Nat) : VL μ (l.take n) (vs.take n) := by
  induction l generalizing vs n with
  | nil => cases h; simp; exact VL_nil
  | cons a l ih =>
    obtain ⟨x, r, e, v, t⟩ := h; subst e
    cases n with
    | zero => exact VL_nil
    | succ n => exact VL_cons v (ih t n)

theorem VL_drop {l : List AV} {vs : List Value} (h : VL μ l vs) (n : Nat) : VL μ (l.drop n) (vs.drop n) := by
  induction l generalizing vs n with
  | nil => cases h; simp; exact VL_nil
  | cons a l ih =>
    obtain ⟨x, r, e, v, t⟩ := h; subst e
    cases n with
    | zero => exact VL_cons v t
    | succ n => exact ih t n

end lists

/-- The cells of a value. -/
theorem V_cells {μ : Mu} {a : AV} {v : Value} (h : V μ a v) : VL μ (avCells a) v.cells.toList := by
  cases a <;> first
    | (obtain ⟨vs, rfl, g⟩ := h; simpa [avCells, Value.cells] using g)
    | (cases h; exact VL_cons rfl VL_nil)
    | (obtain ⟨vs, rfl, g⟩ := h; exact VL_cons ⟨vs, rfl, g⟩ VL_nil)
    | (obtain ⟨R, b, f, e, rfl⟩ := h; exact VL_cons ⟨R, b, f, e, rfl⟩ VL_nil)
    | (obtain ⟨R, b, f, x, rc, e, rfl, g⟩ := h; exact VL_cons ⟨R, b, f, x, rc, e, rfl, g⟩ VL_nil)

theorem V_one {μ : Mu} {a : AV} {v : Value} (h : V μ a v) (hc : isCell a = true) : v.oneCell' = true := by
  cases a <;> first
    | (cases hc; done)
    | (cases h; rfl)
    | (obtain ⟨vs, rfl, _⟩ := h; rfl)
    | (obtain ⟨R, b, f, e, rfl⟩ := h; rfl)
    | (obtain ⟨R, b, f, x, rc, e, rfl, g⟩ := h; rfl)

/-! ### Blocks -/

def VE (μ : Mu) (e : AV × AV) (r : MapEntry) : Prop := V μ e.1 r.key ∧ V μ e.2 r.val

def BRel (μ : Mu) (w : World) (i : Nat) : Blk → Prop
  | .cells l ro => ∃ R base fin C T fz, μ i = some (R, base, fin) ∧ w.heap[R]? = some (.cells C T fz) ∧ base + l.length ≤ fin ∧ fin ≤ C.size ∧
      (∀ (k : Nat) (a : AV), l[k]? = some a → ∃ v, C[base + k]? = some v ∧ V μ a v) ∧ (ro = false → fz.1 = fz.2 ∨ C.size ≤ fz.1)
  | .siter s pos => ∃ R fin, μ i = some (R, 0, fin) ∧ w.heap[R]? = some (.stringIter (baOf s) pos)
  | .smap es => ∃ R base fin rs clock, μ i = some (R, base, fin) ∧ w.heap[R]? = some (.map rs clock) ∧ rs.size = es.length ∧ ∀ (k : Nat) (e : AV × AV), es[k]? = some e → ∃ r, rs[k]? = some r ∧ VE μ e r
  | .dead => True

/-- Blocks that may be written. -/
def Blk.wr : Blk → Bool
  | .cells _ ro => !ro
  | .siter _ _ => true
  | .smap _ => true
  | .dead => false

def Blk.live : Blk → Bool
  | .dead => false
  | _ => true

structure Rel (μ : Mu) (h : Hp) (w : World) : Prop where
  dom : ∀ i, h.get i = none → μ i = none
  inj : ∀ i j b b' R x y x' y', i ≠ j → h.get i = some b → h.get j = some b' → b.wr = true → b'.live = true → μ i = some (R, x, y) → μ j = some (R, x', y') → False
  blk : ∀ i b, h.get i = some b → BRel μ w i b

def Own (μ : Mu) (h : Hp) (r : Nat) : Prop := ∃ i b x y, h.get i = some b ∧ b.wr = true ∧ μ i = some (r, x, y)

structure Ext (μ : Mu) (h : Hp) (w : World) (μ' : Mu) (h' : Hp) (w' : World) : Prop where
  le : Mu.le μ μ'
  size : w.heap.size ≤ w'.heap.size
  same : ∀ r, r < w.heap.size → ¬ Own μ h r → w'.heap[r]? = w.heap[r]?
  own : ∀ r, r < w.heap.size → Own μ' h' r → Own μ h r
  os : w'.os = w.os
  out : w'.output = w.output
  tape : w'.tape = w.tape

theorem Ext.refl (μ : Mu) (h : Hp) (w : World) : Ext μ h w μ h w := ⟨Mu.le_refl μ, Nat.le_refl _, fun _ _ _ => rfl, fun _ _ o => o, rfl, rfl, rfl⟩

theorem Ext.trans {μ h w μ' h' w' μ'' h'' w''} (a : Ext μ h w μ' h' w') (b : Ext μ' h' w' μ'' h'' w'') : Ext μ h w μ'' h'' w'' :=
  ⟨Mu.le_trans a.le b.le, Nat.le_trans a.size b.size,
   fun r hr ho => by
     rw [b.same r (Nat.lt_of_lt_of_le hr a.size) (fun o => ho (a.own r hr o)), a.same r hr ho],
   fun r hr o => a.own r hr (b.own r (Nat.lt_of_lt_of_le hr a.size) o),
   b.os.trans a.os, b.out.trans a.out, b.tape.trans a.tape⟩

/-- A draw changes nothing that is looked at. -/
theorem Rel.drew {μ h w} (r : Rel μ h w) (n : Nat) : Rel μ h { w with drawn := n } := ⟨r.dom, r.inj, fun i b e => by
  have := r.blk i b e
  cases b <;> exact this⟩

theorem Ext.drew (μ h w) (n : Nat) : Ext μ h w μ h { w with drawn := n } := ⟨Mu.le_refl μ, Nat.le_refl _, fun _ _ _ => rfl, fun _ _ o => o, rfl, rfl, rfl⟩

theorem Rel.congr {μ h h' w} (r : Rel μ h w) (e : ∀ i, h'.get i = h.get i) : Rel μ h' w :=
  ⟨fun i q => r.dom i (by rw [← e]; exact q), fun i j b b' R x y x' y' hij gi gj => r.inj i j b b' R x y x' y' hij (by rw [← e]; exact gi) (by rw [← e]; exact gj), fun i b q => r.blk i b (by rw [← e]; exact q)⟩

theorem Own.congr {μ : Mu} {h h' : Hp} {r : Nat} (o : Own μ h r) (e : ∀ i, h'.get i = h.get i) : Own μ h' r :=
  let ⟨i, b, x, y, g, q⟩ := o; ⟨i, b, x, y, by rw [e]; exact g, q⟩

theorem Ext.congr {μ h w μ' h' w' h''} (x : Ext μ h w μ' h' w') (e : ∀ i, h''.get i = h'.get i) : Ext μ h w μ' h'' w' :=
  ⟨x.le, x.size, x.same, fun r hr o => x.own r hr (o.congr fun i => (e i).symm), x.os, x.out, x.tape⟩

theorem fz_of {fz : Nat × Nat} {n : Nat} (h : fz.1 = fz.2 ∨ n ≤ fz.1) : ∀ o, fz.1 ≤ o → o < fz.2 → n ≤ o := by
  intro o a b
  rcases h with h | h <;> omega

theorem BRel.mono {μ ν : Mu} (hl : Mu.le μ ν) {w w' : World} {i : Nat} {b : Blk} (h : BRel μ w i b) (hw : ∀ R x y, μ i = some (R, x, y) → w'.heap[R]? = w.heap[R]?) : BRel ν w' i b := by
  cases b with
  | cells l ro =>
    obtain ⟨R, base, fin, C, T, fz, e, g, h1, h2, h3, h4⟩ := h
    exact ⟨R, base, fin, C, T, fz, hl _ _ e, by rw [hw _ _ _ e]; exact g, h1, h2, fun k a hk => let ⟨v, q, p⟩ := h3 k a hk; ⟨v, q, V_mono hl _ _ p⟩, h4⟩
  | siter s pos =>
    obtain ⟨R, fin, e, g⟩ := h
    exact ⟨R, fin, hl _ _ e, by rw [hw _ _ _ e]; exact g⟩
  | smap es =>
    obtain ⟨R, base, fin, rs, clock, e, g, h1, h2⟩ := h
    exact ⟨R, base, fin, rs, clock, hl _ _ e, by rw [hw _ _ _ e]; exact g, h1, fun k x hk => let ⟨r, q, p1, p2⟩ := h2 k x hk; ⟨r, q, V_mono hl _ _ p1, V_mono hl _ _ p2⟩⟩
  | dead => trivial

/-- What is live lies in the heap. -/
theorem BRel.lt {μ : Mu} {w : World} {i : Nat} {b : Blk} (h : BRel μ w i b) (hb : b.live = true) : ∃ R x y, μ i = some (R, x, y) ∧ R < w.heap.size := by
  have lt : ∀ {R : Nat} {o : Obj}, w.heap[R]? = some o → R < w.heap.size := fun e => by
    rcases Nat.lt_or_ge _ w.heap.size with h | h
    · exact h
    · rw [Array.getElem?_eq_none h] at e; cases e
  cases b with
  | cells l ro => obtain ⟨R, base, fin, C, T, fz, e, g, _⟩ := h; exact ⟨R, _, _, e, lt g⟩
  | siter s pos => obtain ⟨R, fin, e, g⟩ := h; exact ⟨R, _, _, e, lt g⟩
  | smap es => obtain ⟨R, base, fin, rs, clock, e, g, _⟩ := h; exact ⟨R, _, _, e, lt g⟩
  | dead => cases hb

/-! ### Memory -/

def setBlk (w : World) (R : Nat) (o : Obj) : World := { w with heap := w.heap.setIfInBounds R o }

theorem setBlk_get (w : World) (R : Nat) (o : Obj) (r : Nat) : (setBlk w R o).heap[r]? = if r = R ∧ R < w.heap.size then some o else w.heap[r]? := by
  simp only [setBlk, Array.getElem?_setIfInBounds]
  by_cases h : R = r
  · subst h
    by_cases g : R < w.heap.size
    · simp [g]
    · simp [g, Array.getElem?_eq_none (Nat.le_of_not_lt g)]
  · have h' : ¬ r = R := fun e => h e.symm
    simp [h, h']

theorem setBlk_same {w : World} {R : Nat} {o : Obj} (h : w.heap[R]? = some o) : setBlk w R o = w := by
  have e : w.heap.setIfInBounds R o = w.heap := by
    apply Array.ext_getElem?
    intro i
    rw [Array.getElem?_setIfInBounds]
    split
    · rename_i hi; subst hi; split
      · exact h.symm
      · rename_i hlt; rw [Array.getElem?_eq_none (Nat.le_of_not_lt hlt)]
    · rfl
  simp [setBlk, e]

theorem setBlk_twice (w : World) (R : Nat) (o o' : Obj) : setBlk (setBlk w R o) R o' = setBlk w R o' := by
  simp only [setBlk]
  congr 1
  apply Array.ext_getElem?
  intro i
  simp only [Array.getElem?_setIfInBounds, Array.size_setIfInBounds]
  split <;> rfl

theorem setBlk_size (w : World) (R : Nat) (o : Obj) : (setBlk w R o).heap.size = w.heap.size := by simp [setBlk]

theorem setCell_eq {w : World} {R o : Nat} {C : Array Value} {T : TypeId} {fz : Nat × Nat} (v : Value) (h : w.heap[R]? = some (.cells C T fz)) :
    w.setCell ⟨R, o, none⟩ v = setBlk w R (.cells (C.setIfInBounds o v) T fz) := by
  simp only [World.setCell, setBlk]
  congr 1
  apply Array.ext_getElem?
  intro i
  rw [Array.getElem?_modify, Array.getElem?_setIfInBounds]
  by_cases hi : R = i
  · subst hi
    have hlt : R < w.heap.size := by
      rcases Nat.lt_or_ge R w.heap.size with g | g
      · exact g
      · rw [Array.getElem?_eq_none g] at h; cases h
    have he : w.heap[R] = .cells C T fz := by simpa [Array.getElem?_eq_getElem hlt] using h
    simp [he, hlt]
  · simp [hi]

theorem add_at (R x i : Nat) : (⟨R, x, none⟩ : Addr).add i = ⟨R, x + i, none⟩ := by unfold Addr.add; split <;> simp_all

theorem cell_at {w : World} {R o : Nat} {C : Array Value} {T : TypeId} {fz : Nat × Nat} (h : w.heap[R]? = some (.cells C T fz)) : w.cell? ⟨R, o, none⟩ = C[o]? := by
  simp [World.cell?, h]

def putA (C : Array Value) (off : Nat) : List Value → Array Value
  | [] => C
  | v :: r => putA (C.setIfInBounds off v) (off + 1) r

theorem putA_size : ∀ (vs : List Value) (C : Array Value) (off : Nat), (putA C off vs).size = C.size
  | [], _, _ => rfl
  | _ :: r, C, off => by simp [putA, putA_size r]

theorem putA_get : ∀ (vs : List Value) (C : Array Value) (off k : Nat), off + vs.length ≤ C.size →
    (putA C off vs)[k]? = if off ≤ k ∧ k < off + vs.length then vs[k - off]? else C[k]?
  | [], C, off, k, _ => by simp [putA]; omega
  | v :: r, C, off, k, h => by
    simp only [List.length_cons] at h
    rw [putA, putA_get r _ _ _ (by simp; omega), Array.getElem?_setIfInBounds]
    simp only [List.length_cons]
    by_cases h1 : off + 1 ≤ k ∧ k < off + 1 + r.length
    · rw [if_pos h1, if_pos (by omega)]
      obtain ⟨d, rfl⟩ : ∃ d, k = off + 1 + d := ⟨k - (off + 1), by omega⟩
      rw [show off + 1 + d - off = d + 1 from by omega, show off + 1 + d - (off + 1) = d from by omega]; rfl
    · rw [if_neg h1]
      by_cases h2 : off = k
      · subst h2
        rw [if_pos rfl, if_pos (by omega), if_pos ⟨Nat.le_refl _, by omega⟩]; simp
      · rw [if_neg h2, if_neg (by omega)]

theorem put_length : ∀ (vs l : List AV) (off : Nat), (put l off vs).length = l.length
  | [], _, _ => rfl
  | _ :: r, l, off => by simp [put, put_length r]

theorem put_get : ∀ (vs l : List AV) (off k : Nat), off + vs.length ≤ l.length →
    (put l off vs)[k]? = if off ≤ k ∧ k < off + vs.length then vs[k - off]? else l[k]?
  | [], l, off, k, _ => by simp [put]; omega
  | v :: r, l, off, k, h => by
    simp only [List.length_cons] at h
    rw [put, put_get r _ _ _ (by simp; omega), List.getElem?_set]
    simp only [List.length_cons]
    by_cases h1 : off + 1 ≤ k ∧ k < off + 1 + r.length
    · rw [if_pos h1, if_pos (by omega)]
      obtain ⟨d, rfl⟩ : ∃ d, k = off + 1 + d := ⟨k - (off + 1), by omega⟩
      rw [show off + 1 + d - off = d + 1 from by omega, show off + 1 + d - (off + 1) = d from by omega]; rfl
    · rw [if_neg h1]
      by_cases h2 : off = k
      · subst h2
        rw [if_pos rfl, if_pos (by omega), if_pos ⟨Nat.le_refl _, by omega⟩]; simp
      · rw [if_neg h2, if_neg (by omega)]

theorem run_storeCells (P : Program) (R T : Nat) (fz : Nat × Nat) : ∀ (vs : List Value) (o i : Nat) (C : Array Value) (w : World), w.heap[R]? = some (.cells C T fz) →
    (∀ o, fz.1 ≤ o → o < fz.2 → C.size ≤ o) → o + i + vs.length ≤ C.size → (∀ v ∈ vs, v.oneCell' = true) →
    (storeCells ⟨R, o, none⟩ vs i).run P w = .ok () (setBlk w R (.cells (putA C (o + i) vs) T fz))
  | [], o, i, C, w, hg, _, _, _ => by
    rw [putA, setBlk_same hg]; rfl
  | v :: r, o, i, C, w, hg, hf, hl, h1 => by
    simp only [List.length_cons] at hl
    have hi : o + i < C.size := by omega
    have hc : w.cell? ⟨R, o + i, none⟩ = some C[o + i] := by rw [cell_at hg]; simp [hi]
    have hz : w.frozen? ⟨R, o + i, none⟩ = false := by
      obtain ⟨lo, hi'⟩ := fz
      simp only [World.frozen?, hg]
      rw [Bool.and_eq_false_iff]
      by_cases q : lo ≤ o + i
      · right
        simp only [decide_eq_false_iff_not]
        intro g
        have := hf (o + i) q g
        omega
      · left; simpa using q
    have hst : (store ((⟨R, o, none⟩ : Addr).add i) v).run P w = .ok () (setBlk w R (.cells (C.setIfInBounds (o + i) v) T fz)) := by
      rw [add_at, run_store P w _ v _ (h1 v (by simp)), hc]
      simp [hz, setCell_eq v hg]
    have hlt : R < w.heap.size := by
      rcases Nat.lt_or_ge R w.heap.size with g | g
      · exact g
      · rw [Array.getElem?_eq_none g] at hg; cases hg
    have hg' : (setBlk w R (.cells (C.setIfInBounds (o + i) v) T fz)).heap[R]? = some (.cells (C.setIfInBounds (o + i) v) T fz) := by
      rw [setBlk_get]; simp [hlt]
    have ih := run_storeCells P R T fz r o (i + 1) _ _ hg' (by simpa using hf) (by simp; omega) (fun x hx => h1 x (by simp [hx]))
    simp only [storeCells, Sem.run_bind, hst, Result.andThen_ok]
    rw [ih, setBlk_twice]
    rfl

/-- What a reading gives. -/
theorem rd_sound {μ : Mu} {h : Hp} {w : World} (P : Program) (r : Rel μ h w) {id off n : Nat} {vs : List AV} (e : rdCells h id off n = some vs) :
    ∃ R base fin rvs, μ id = some (R, base, fin) ∧ VL μ vs rvs ∧ rvs.length = n ∧ (loadCells ⟨R, base + off, none⟩ n).run P w = .ok rvs.toArray w ∧
      (∀ j v, rvs[j]? = some v → w.cell? ⟨R, base + off + j, none⟩ = some v) := by
  unfold rdCells at e
  split at e
  case h_2 => cases e
  rename_i l ro hg
  cases hb : Nat.ble (off + n) l.length
  · rw [hb] at e; cases e
  rw [hb] at e
  simp only [cond_true, Option.some.injEq] at e
  have hle := Nat.le_of_ble_eq_true hb
  obtain ⟨R, base, fin, C, T, fz, hm, hw, h1, h2, h3, h4⟩ := r.blk id _ hg
  let rvs := (C.toList.drop (base + off)).take n
  have hlen : rvs.length = n := by simp [rvs]; omega
  have hvl : VL μ vs rvs := by
    subst e
    refine VL_of_get (by simp [rvs]; omega) (fun k a hk => ?_)
    rw [List.getElem?_take, List.getElem?_drop] at hk
    split at hk
    · rename_i hkn
      obtain ⟨v, q, p⟩ := h3 (off + k) a hk
      refine ⟨v, ?_, p⟩
      simp only [rvs]
      rw [List.getElem?_take, List.getElem?_drop, if_pos hkn]
      rw [show base + off + k = base + (off + k) from by omega]
      simpa using q
    · cases hk
  have hcell : ∀ j v, rvs[j]? = some v → w.cell? ⟨R, base + off + j, none⟩ = some v := by
    intro j v hj
    rw [cell_at hw]
    simp only [rvs] at hj
    rw [List.getElem?_take, List.getElem?_drop] at hj
    split at hj
    · simpa using hj
    · cases hj
  refine ⟨R, base, fin, rvs, hm, hvl, hlen, ?_, hcell⟩
  rw [← hlen]
  exact run_loadCells_list w ⟨R, base + off, none⟩ rvs (fun j v hj => by rw [add_at]; exact hcell j v hj)

end Go.Am
