/-
  Each operation of the abstract machine stands for the model's: (7) append, copy, and the small ones.
-/
import Derived.Test.YtadmjdnkhpngeaaGreatDoorAmOps6
namespace Go.Am
section
variable {P : Program} {μ : Mu} {h : Hp} {w : World} {c : Nat}

theorem bound48 {m b s : Nat} (h : m * (b + s + 1) ≤ maxStr) : m * b ≤ maxStr ∧ m ≤ maxStr := by
  have e : m * (b + s + 1) = m * b + m * s + m := by rw [Nat.mul_add, Nat.mul_add, Nat.mul_one]
  rw [e] at h
  have : 0 ≤ m * s := Nat.zero_le _
  omega

theorem makeSlice_sound (r : Rel μ h w) {t e : TypeId} {i : TI} {z : List AV} {n m : Nat} {x y : Value} (ht : P.underlying t = some (.slice e)) (hi : ti P e = some i) (hz : zeroC i = some z) (hzl : z.length = i.size)
    (hx : V μ (.int .i64 (.ofNat n)) x) (hy : V μ (.int .i64 (.ofNat m)) y) (hnm : n ≤ m) (hb : m * (i.bytes + i.size + 1) ≤ maxStr) {o : Out AV} (en : newB (.cells (repl z m) false) h c (fun q => .slice q 0 n i.size) = some o) :
    Fine P μ h w (Instr.makeSlice t x y) o := by
  obtain ⟨hc, rfl⟩ := newB_inv en
  obtain ⟨q, h1, h2, h3, h4, h5⟩ := ti_spec hi
  obtain ⟨v, hv, hl⟩ := zeroC_spec hz μ
  have hlv := VL_len hl
  simp only [Array.length_toList] at hlv
  have hC := repl_VL hl m
  rw [show v.cells.size = i.size from hlv.trans hzl] at hC
  cases hx; cases hy
  obtain ⟨b1, b2⟩ := bound48 hb
  unfold maxStr at b1 b2
  obtain ⟨g1, g2, g3⟩ := newRow_sound (P := P) r hc [] e hC
  simp only [List.append_nil, Array.toArray_toList, List.length_nil, Nat.add_zero, Array.length_toList] at g1 g2 g3
  have wn : IntKind.i64.wrap (Int.ofNat n) = (n : Int) := by rw [← wrapF_eq]; simp only [wrapF, smallF]; rw [show Nat.blt n 9223372036854775808 = true from by simp; omega]; rfl
  have wm : IntKind.i64.wrap (Int.ofNat m) = (m : Int) := by rw [← wrapF_eq]; simp only [wrapF, smallF]; rw [show Nat.blt m 9223372036854775808 = true from by simp; omega]; rfl
  refine ⟨.slice (some ⟨w.heap.size, 0, none⟩) n m, _, _, ?_, ⟨w.heap.size, 0, m * i.size, 0, m, ?_, rfl, hnm, Nat.le_refl _, by omega, fun _ => rfl⟩, g2, g3⟩
  · simp only [Instr.makeSlice, asInt, asIntOf, Sem.run_bind, Sem.run_pure, r_underlying ht, Result.andThen_ok, r_typeInfo h2, r_sizeOf h2, wn, wm, h3, h4]
    have c1 : ((decide ((m : Int) < 0) || decide ((i.bytes : Int) * (m : Int) > 2 ^ 48)) || decide ((n : Int) < 0) || decide ((n : Int) > (m : Int))) = false := by
      have : ((i.bytes : Int) * (m : Int)) ≤ 1000000000000 := by
        rw [Int.mul_comm, ← Int.natCast_mul]; omega
      rw [Bool.or_eq_false_iff, Bool.or_eq_false_iff, Bool.or_eq_false_iff]
      exact ⟨⟨⟨decide_eq_false (by omega), decide_eq_false (by omega)⟩, decide_eq_false (by omega)⟩, decide_eq_false (by omega)⟩
    rw [if_neg (by rw [c1]; exact Bool.false_ne_true)]
    simp only [Sem.run_bind, run_askRoom, Result.andThen_ok, Int.toNat_natCast, r_sizeOf h2, h3]
    by_cases h0 : m * i.size = 0
    · rw [h0] at g1 ⊢
      have e0 : (Array.range 0).map (fun k => v.cells[k % i.size]!) = #[] := by simp
      have e1 : (Array.range 0).map (fun x => (#[] : Array Value)[x % (#[] : Array Value).size]!) = #[] := by simp
      rw [e0] at g1
      simp only [if_true, Sem.run_bind, Sem.run_pure, Result.andThen_ok, e0, e1, g1]
    · simp only [if_neg h0, Sem.run_bind, Sem.run_pure, Result.andThen_ok, r_zero h2 (h5.trans hv), hlv.trans hzl, g1]
  · rw [upd_self]; simp

theorem growBy_le (need : Nat) : ∀ (k q : Nat), q ≤ need + (need + 768) / 4 → Builtin.growBy need k q ≤ need + (need + 768) / 4
  | 0, q, hq => hq
  | k + 1, q, hq => by
    unfold Builtin.growBy
    split
    · exact hq
    · exact growBy_le need k _ (by omega)

theorem nextcap_le {need old : Nat} (h : old < need) : Builtin.nextslicecap need old ≤ 2 * need + 192 := by
  unfold Builtin.nextslicecap
  split
  · omega
  · split
    · omega
    · have := growBy_le need 4 old (by omega); omega

/-- What is appended: its cells, read at any count of draws. -/
structure Src (P : Program) (μ : Mu) (w : World) (s : Sem (Array Value)) (new : List AV) (rnew : List Value) : Prop where
  vl : VL μ new rnew
  run : ∀ m, s.run P { w with drawn := m } = .ok rnew.toArray { w with drawn := m }

theorem VL_all' {μ : Mu} {l : List AV} {vs : List Value} (h : VL μ l vs) (g : l.all isCell = true) : ∀ v ∈ vs, v.oneCell' = true := VL_all h g

/-- The part of append behind its reading of the operands. -/
def appTail (elem : TypeId) (size bytes : Nat) (zeros : Bool) (base : Option Addr) (sLen sCap n : Nat) (s x : Value) (appended : Sem (Array Value)) : Sem Value := do
  let need := sLen + n
  if need ≤ sCap then
    let new ← appended
    if let some a := base then storeCells (a.add (sLen * size)) new.toList
    pure (.slice base need sCap)
  else
    if (need : Int) > IntKind.i64.max ∧ (zeros ∨ (← typeInfo elem).bytes = 0) then runtimePanic (.error "growslice: len out of range")
    if Builtin.nextslicecap need sCap * (← typeInfo elem).bytes > 2 ^ 48 then (if zeros then runtimePanic (.error "growslice: len out of range") else do
      if !(← Builtin.mayShare size sLen n base x) then mark .noRoom
      unsupported (.resourceLimit "append: a slice or a string whose bytes no memory bears"))
    let newCap ← choose (.appendCap need sCap elem)
    askRoom (newCap * (← typeInfo elem).bytes)
    let old ← Builtin.firstCells size sLen s
    let new ← appended
    let rest := Builtin.zeroCells (← zeroValue elem).cells (newCap - need)
    pure (.slice (some (← newRow elem (old ++ new ++ rest))) need newCap)

theorem zeroCells_size (z : Array Value) (n : Nat) : (Builtin.zeroCells z n).size = n * z.size := by simp [Builtin.zeroCells]

/-- New memory for what was appended. -/
theorem grow_sound (r : Rel μ h w) {e : TypeId} {i : TypeInfo} {zv : Value} (hi : P.info? e = some i) (hz : i.zero = some zv) (hzs : zv.cells.size = i.size) {hh : Hp} (hk : ∀ μ' w', Rel μ' h w' → Rel μ' hh w' ∧ Ext μ' h w' μ' hh w')
    (hc : hh.get c = none) {old new : List AV} {rold rnew : List Value} {sLen sCap n : Nat} {s x : Value} {appended : Sem (Array Value)} (hold : VL μ old rold)
    (hrold : ∀ m, (Builtin.firstCells i.size sLen s).run P { w with drawn := m } = .ok rold.toArray { w with drawn := m }) (hso : rold.length = sLen * i.size) (hsn : rnew.length = n * i.size) (src : Src P μ w appended new rnew) (base : Option Addr) (zeros : Bool) (hgt : sCap < sLen + n) (hb : (sLen + n) * (i.bytes + i.size + 1) ≤ maxStr) :
    Fine P μ h w (appTail e i.size i.bytes zeros base sLen sCap n s x appended) ⟨.slice c 0 (sLen + n) i.size, hh.set (.cells (old ++ new) false) c, c + 1, .e⟩ := by
  obtain ⟨b1, b2⟩ := bound48 hb
  unfold maxStr at b1 b2
  obtain ⟨cap, w1, hcap, hrun, ⟨m, rfl⟩, r1, e1⟩ := drawCap P r (sLen + n) sCap e
  obtain ⟨rk, ek⟩ := hk μ _ r1
  have hnew : VL μ (old ++ new) (rold ++ rnew) := VL_append hold src.vl
  obtain ⟨g1, g2, g3⟩ := newRow_sound (P := P) rk hc (Builtin.zeroCells zv.cells (cap - (sLen + n))).toList e hnew
  have hnc := nextcap_le hgt
  have hbytes : Builtin.nextslicecap (sLen + n) sCap * i.bytes ≤ 2 ^ 48 := by
    have h1 : Builtin.nextslicecap (sLen + n) sCap * i.bytes ≤ (2 * (sLen + n) + 192) * i.bytes := Nat.mul_le_mul_right _ hnc
    have h2 : (2 * (sLen + n) + 192) * i.bytes = 2 * ((sLen + n) * i.bytes) + 192 * i.bytes := by rw [Nat.add_mul, Nat.mul_assoc]
    have h3 : i.bytes ≤ (sLen + n) * i.bytes := by
      have : 1 ≤ sLen + n := by omega
      calc i.bytes = 1 * i.bytes := by rw [Nat.one_mul]
        _ ≤ _ := Nat.mul_le_mul_right _ this
    omega
  refine ⟨.slice (some ⟨w.heap.size, 0, none⟩) (sLen + n) cap, _, _, ?_, ⟨w.heap.size, 0, _, 0, cap, upd_self _ _, rfl, hcap, Nat.le_refl _, ?_, fun _ => rfl⟩, g2, e1.trans (ek.trans g3)⟩
  · simp only [appTail]
    rw [if_neg (by omega)]
    simp only [Sem.run_bind, r_typeInfo hi, Result.andThen_ok]
    rw [if_neg (by simp only [IntKind.max, IntKind.signed, IntKind.bits, if_true]; omega)]
    simp only [Sem.run_bind, Sem.run_pure, r_typeInfo hi, Result.andThen_ok]
    rw [if_neg (by omega)]
    have ea : rold.toArray ++ rnew.toArray ++ Builtin.zeroCells zv.cells (cap - (sLen + n)) = ((rold ++ rnew) ++ (Builtin.zeroCells zv.cells (cap - (sLen + n))).toList).toArray := by
      apply Array.ext'; simp
    simp only [Sem.run_bind, Sem.run_pure, Result.andThen_ok, hrun, r_typeInfo hi, run_askRoom, hrold, src.run, r_zero hi hz, ea, g1]
  · simp only [List.length_append, hso, hsn, Array.length_toList, zeroCells_size, hzs]
    rw [← Nat.add_mul, ← Nat.add_mul]
    have : sLen + n + (cap - (sLen + n)) = cap := by omega
    rw [this]; omega

theorem src_now {s : Sem (Array Value)} {new : List AV} {rnew : List Value} (src : Src P μ w s new rnew) : s.run P w = .ok rnew.toArray w := src.run w.drawn

theorem appendF_sound (r : Rel μ h w) {e : TypeId} {i : TypeInfo} {zv : Value} (hi : P.info? e = some i) (hz : i.zero = some zv) (hzs : zv.cells.size = i.size) {x : AV} {xv : Value} (hx : V μ x xv) {n : Nat} {new : List AV} {rnew : List Value} {lg : Lg}
    {y : Value} {appended : Sem (Array Value)} (hsn : rnew.length = n * i.size) (src : Src P μ w appended new rnew) (zeros : Bool) {o : Out AV} (ha : appendF i.size i.bytes x n new lg h c = some o) :
    ∃ base sLen sCap, xv = .slice base sLen sCap ∧ Fine P μ h w (appTail e i.size i.bytes zeros base sLen sCap n xv y appended) o := by
  cases x with
  | nils =>
    cases hx
    refine ⟨none, 0, 0, rfl, ?_⟩
    simp only [appendF] at ha
    cases hn : Nat.beq n 0
    · rw [hn] at ha
      simp only [cond_false] at ha
      cases hb : Nat.ble (n * (i.bytes + i.size + 1)) maxStr
      · rw [hb] at ha; cases ha
      · rw [hb] at ha
        simp only [cond_true] at ha
        split at ha
        · rename_i o' hnb
          obtain ⟨hc, rfl⟩ := newB_inv hnb
          cases ha
          have hn0 := beq_false hn
          have := grow_sound (P := P) (c := c) r hi hz hzs (hh := h) (fun μ' w' q => ⟨q, Ext.refl _ _ _⟩) hc (old := []) (rold := []) (sLen := 0) (sCap := 0) (n := n) (s := .slice none 0 0) (x := y) (appended := appended) rfl (fun m => rfl) (by simp) hsn src none zeros (by omega)
            (by rw [Nat.zero_add]; exact Nat.le_of_ble_eq_true hb)
          simp only [List.nil_append, Nat.zero_add] at this
          exact this
        · cases ha
    · rw [hn] at ha
      cases ha
      have := beq_true hn
      subst this
      refine Fine.pure r (x := .slice none 0 0) ?_ rfl
      simp only [appTail, Nat.add_zero, Nat.le_refl, if_true, Sem.run_bind, src_now src, Result.andThen_ok, Sem.run_pure]
  | slice id off m sz =>
    obtain ⟨R, base, fin, a, rc, hm, rfl, g1, g2, g3, g4⟩ := hx
    refine ⟨some ⟨R, a, none⟩, m, rc, rfl, ?_⟩
    simp only [appendF] at ha
    cases hn : Nat.beq n 0
    · rw [hn] at ha
      simp only [cond_false] at ha
      cases hb : (Nat.beq i.size sz && Nat.ble ((m + n) * (i.bytes + i.size + 1)) maxStr && new.all isCell)
      · rw [hb] at ha; cases ha
      rw [hb] at ha
      simp only [cond_true] at ha
      rw [Bool.and_eq_true, Bool.and_eq_true] at hb
      obtain ⟨⟨hb1, hb2⟩, hb3⟩ := hb
      have hsz := beq_true hb1
      subst hsz
      have hle := Nat.le_of_ble_eq_true hb2
      have hn0 := beq_false hn
      split at ha
      case h_2 => cases ha
      rename_i l hg
      cases hbl : Nat.ble (off + m * i.size) l.length
      · rw [hbl] at ha; cases ha
      rw [hbl] at ha
      simp only [cond_true] at ha
      have hlen := Nat.le_of_ble_eq_true hbl
      split at ha
      case h_2 => cases ha
      rename_i o' hnb
      obtain ⟨hc, rfl⟩ := newB_inv hnb
      cases ha
      have hne : id ≠ c := fun e => by
        subst e
        rw [Tr.get_set_same] at hc; cases hc
      rw [Tr.get_set_ne _ _ (fun e => hne e.symm)] at hc
      have hrd : rdCells h id off (m * i.size) = some ((l.drop off).take (m * i.size)) := by
        unfold rdCells; rw [hg]; simp only [hbl, cond_true]
      have hx' : V μ (.slice id off m i.size) (.slice (some ⟨R, a, none⟩) m rc) := ⟨R, base, fin, a, rc, hm, rfl, g1, g2, g3, g4⟩
      by_cases hroom : m + n ≤ rc
      · obtain ⟨R', base', fin', C, T, fz, hm', hw, h1, h2, h3, h4⟩ := r.blk id _ hg
        rw [hm] at hm'; cases hm'
        have hmn : (m + n) * i.size ≤ rc * i.size := Nat.mul_le_mul_right _ hroom
        rw [Nat.add_mul] at hmn
        have hrun := run_storeCells P R T fz rnew (a + m * i.size) 0 C w hw (fz_of (h4 rfl)) (by rw [hsn]; omega) (VL_all src.vl hb3)
        have hnl := VL_len src.vl
        have hrm := r.remap (c := c) (l' := (l.drop off).take (m * i.size) ++ new) (base' := a) (C' := putA C (a + m * i.size + 0) rnew) hg hc hm hw (putA_size _ _ _) (h4 rfl)
          (by rw [List.length_append, List.length_take, List.length_drop]; omega) h2 (fun k b hk => by
            rw [putA_get _ _ _ _ (by omega)]
            rw [List.getElem?_append] at hk
            have htl : ((l.drop off).take (m * i.size)).length = m * i.size := by rw [List.length_take, List.length_drop]; omega
            rw [htl] at hk
            split at hk
            · rename_i hk2
              rw [if_neg (by omega)]
              rw [List.getElem?_take, List.getElem?_drop] at hk
              rw [if_pos hk2] at hk
              obtain ⟨v, q, p⟩ := h3 (off + k) b hk
              have hm0 : m ≠ 0 := fun e => by subst e; simp at hk2
              exact ⟨v, by rw [g4 hm0, Nat.add_assoc]; exact q, p⟩
            · rename_i hk2
              obtain ⟨v, q, p⟩ := VL_get src.vl hk
              have hlt : k - m * i.size < rnew.length := by
                rcases Nat.lt_or_ge (k - m * i.size) rnew.length with z | z
                · exact z
                · rw [List.getElem?_eq_none z] at q; cases q
              rw [if_pos (by omega)]
              exact ⟨v, by rw [show a + k - (a + m * i.size + 0) = k - m * i.size from by omega]; exact q, p⟩)
        refine ⟨.slice (some ⟨R, a, none⟩) (m + n) rc, _, _, ?_, ⟨R, a, fin, a, rc, upd_self _ _, rfl, hroom, Nat.le_refl _, g3, fun _ => rfl⟩, hrm.1, hrm.2⟩
        simp only [appTail, if_pos hroom, Sem.run_bind, src_now src, Result.andThen_ok, add_at, hrun, Sem.run_pure]
      · obtain ⟨R', a', rc', rvs, he, hvl, hrl, hrr⟩ := slice_cells (P := P) r hx' (Nat.le_refl m) hrd
        cases he
        exact grow_sound (P := P) (c := c) r hi hz hzs (hh := h.set .dead id) (fun μ' w' q => q.kill id (by rw [hg]; simp)) (by rw [Tr.get_set_ne _ _ (fun e => hne e.symm)]; exact hc) hvl
          (fun k => by simp only [Builtin.firstCells]; exact hrr k) hrl hsn src _ zeros (by omega) hle
    · rw [hn] at ha
      cases ha
      have := beq_true hn
      subst this
      have hr0 : rnew = [] := List.eq_nil_of_length_eq_zero (by rw [hsn]; simp)
      subst hr0
      refine Fine.pure r (x := .slice (some ⟨R, a, none⟩) m rc) ?_ ⟨R, base, fin, a, rc, hm, rfl, g1, g2, g3, g4⟩
      simp only [appTail, Nat.add_zero, if_pos g1, Sem.run_bind, src_now src, Result.andThen_ok, storeCells, Sem.run_pure]
  | _ => cases ha

end
end Go.Am
