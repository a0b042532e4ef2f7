/-
  Regions whose order is drawn: the run in whatever order keeps step with the run in the order of the text.
-/
import Derived.Test.YtadmjdnkhpngeaaGreatDoorAmReg
namespace Go.Am

/-! ### The last writer -/

def lw {α : Type} (wr : Nat → Bool) (val : Nat → α) (ini : α) : Nat → α
  | 0 => ini
  | n + 1 => bif wr n then val n else lw wr val ini n

section
variable {α : Type} {wr wr' : Nat → Bool} {val : Nat → α} {ini : α}

theorem lw_congr : ∀ n, (∀ i, i < n → wr i = wr' i) → lw wr val ini n = lw wr' val ini n
  | 0, _ => rfl
  | n + 1, h => by simp only [lw, h n (Nat.lt_succ_self n), lw_congr n (fun i hi => h i (Nat.lt_succ_of_lt hi))]

theorem lw_stop {n : Nat} : ∀ k, (∀ i, n ≤ i → i < n + k → wr i = false) → lw wr val ini (n + k) = lw wr val ini n
  | 0, _ => rfl
  | k + 1, h => by
    rw [← Nat.add_assoc]
    simp only [lw, h (n + k) (Nat.le_add_right ..) (by omega), cond_false]
    exact lw_stop k (fun i a b => h i a (by omega))

theorem lw_at {j N : Nat} (hj : j < N) (w : wr j = true) (h : ∀ i, j < i → i < N → wr i = false) : lw wr val ini N = val j := by
  obtain ⟨k, rfl⟩ : ∃ k, N = j + 1 + k := ⟨N - (j + 1), by omega⟩
  rw [lw_stop k (fun i a b => h i a b)]
  simp only [lw, w, cond_true]

theorem lw_meet {j N : Nat} (hj : j ≤ N) (hb : ∀ i, i < j → wr i = wr' i) (h : ∀ i, j ≤ i → i < N → wr i = false) : lw wr val ini N = lw wr' val ini j := by
  obtain ⟨k, rfl⟩ : ∃ k, N = j + k := ⟨N - j, by omega⟩
  rw [lw_stop k h, lw_congr j hb]
end

/-! ### What is ahead of what -/

theorem before_list (l : List Oper) : Region.before l.toArray = l.foldl (fun acc o => acc.push (o.after.foldl (fun s e => if Region.binds .any e then s ||| 2 ^ e.on ||| acc.getD e.on 0 else s) 0)) #[] := by
  unfold Region.before; simp

theorem mask_bit (acc : Array Nat) : ∀ (es : List Edge) (s i : Nat), (es.foldl (fun s e => if Region.binds .any e then s ||| 2 ^ e.on ||| acc.getD e.on 0 else s) s).testBit i = true →
    s.testBit i = true ∨ ∃ e ∈ es, Region.binds .any e = true ∧ (i = e.on ∨ (acc.getD e.on 0).testBit i = true)
  | [], s, i, h => .inl h
  | e :: es, s, i, h => by
    rw [List.foldl_cons] at h
    rcases mask_bit acc es _ i h with h | ⟨e', he', q⟩
    · by_cases hb : Region.binds .any e = true
      · rw [if_pos hb, Nat.testBit_or, Nat.testBit_or, Bool.or_eq_true, Bool.or_eq_true] at h
        rcases h with (h | h) | h
        · exact .inl h
        · rw [Nat.testBit_two_pow] at h
          have : e.on = i := by simpa using h
          exact .inr ⟨e, List.mem_cons_self .., hb, .inl this.symm⟩
        · exact .inr ⟨e, List.mem_cons_self .., hb, .inr h⟩
      · rw [if_neg hb] at h; exact .inl h
    · exact .inr ⟨e', List.mem_cons_of_mem _ he', q⟩

/-- An entry's bit comes by an edge. -/
def BeforeOk (os : List Oper) (b : Array Nat) : Prop :=
  ∀ j i, (b.getD j 0).testBit i = true → ∃ o, os[j]? = some o ∧ ∃ e ∈ o.after.toList, Region.binds .any e = true ∧ (i = e.on ∨ (b.getD e.on 0).testBit i = true)

theorem before_fold : ∀ (r done : List Oper) (acc : Array Nat), acc.size = done.length → BeforeOk done acc →
    let b := r.foldl (fun acc o => acc.push (o.after.foldl (fun s e => if Region.binds .any e then s ||| 2 ^ e.on ||| acc.getD e.on 0 else s) 0)) acc
    b.size = (done ++ r).length ∧ BeforeOk (done ++ r) b
  | [], done, acc, hs, h => by simpa using ⟨hs, h⟩
  | o :: r, done, acc, hs, h => by
    intro b
    have := before_fold r (done ++ [o]) (acc.push (o.after.foldl (fun s e => if Region.binds .any e then s ||| 2 ^ e.on ||| acc.getD e.on 0 else s) 0)) (by simp [hs]) ?_
    · rw [List.append_assoc] at this; exact this
    · have keep : ∀ k i, (acc.getD k 0).testBit i = true → ((acc.push (o.after.foldl (fun s e => if Region.binds .any e then s ||| 2 ^ e.on ||| acc.getD e.on 0 else s) 0)).getD k 0).testBit i = true := by
        intro k i hk
        by_cases hlt : k < acc.size
        · have : k < (acc.push (o.after.foldl (fun s e => if Region.binds .any e then s ||| 2 ^ e.on ||| acc.getD e.on 0 else s) 0)).size := by simp; omega
          simp only [Array.getD, hlt, this, dite_true] at hk ⊢
          rw [Array.getInternal_eq_getElem] at hk ⊢
          rw [Array.getElem_push_lt hlt]; exact hk
        · simp only [Array.getD, hlt, dite_false, Nat.zero_testBit] at hk; cases hk
      intro j i hj
      by_cases hlt : j < acc.size
      · have hj' : (acc.getD j 0).testBit i = true := by
          have h2 : j < (acc.push (o.after.foldl (fun s e => if Region.binds .any e then s ||| 2 ^ e.on ||| acc.getD e.on 0 else s) 0)).size := by simp; omega
          simp only [Array.getD, h2, dite_true] at hj
          simp only [Array.getD, hlt, dite_true]
          rw [Array.getInternal_eq_getElem] at hj ⊢
          rw [Array.getElem_push_lt hlt] at hj; exact hj
        obtain ⟨o', ho', e, he, hb, q⟩ := h j i hj'
        refine ⟨o', ?_, e, he, hb, q.imp id (keep _ _)⟩
        rw [List.getElem?_append_left (by omega)]; exact ho'
      · by_cases heq : j = acc.size
        · subst heq
          have h2 : acc.size < (acc.push (o.after.foldl (fun s e => if Region.binds .any e then s ||| 2 ^ e.on ||| acc.getD e.on 0 else s) 0)).size := by simp
          simp only [Array.getD, h2, dite_true] at hj
          rw [Array.getInternal_eq_getElem, Array.getElem_push_eq, ← Array.foldl_toList] at hj
          rcases mask_bit acc _ 0 i hj with h0 | ⟨e, he, hb, q⟩
          · simp at h0
          · exact ⟨o, by rw [hs]; simp, e, he, hb, q.imp id (keep _ _)⟩
        · have h2 : ¬ j < (acc.push (o.after.foldl (fun s e => if Region.binds .any e then s ||| 2 ^ e.on ||| acc.getD e.on 0 else s) 0)).size := by simp; omega
          simp only [Array.getD, h2, dite_false, Nat.zero_testBit] at hj; cases hj

theorem before_spec (os : Array Oper) : (Region.before os).size = os.size ∧ BeforeOk os.toList (Region.before os) := by
  have := before_fold os.toList [] #[] rfl (fun j i h => by simp at h)
  obtain ⟨l⟩ := os
  rw [before_list]
  simpa using this

theorem slotsGo_spec : ∀ (r : List AOp) (ords : List Nat) (seen : List (Nat × AOp)) (j0 : Nat), slotsGo seen r ords j0 = true →
    (∀ j o y, r[j]? = some y → ords[j]? = some o → (∀ p ∈ seen, pairOkA p.1 o p.2 y = true) ∧ ∀ i x, i < j → r[i]? = some x → pairOkA (j0 + i) o x y = true)
  | [], _, _, _, _ => fun j o y h => by simp at h
  | y0 :: r, [], _, _, h => by simp [slotsGo] at h
  | y0 :: r, o0 :: ords, seen, j0, h => by
    simp only [slotsGo, Bool.and_eq_true, List.all_eq_true] at h
    intro j o y hj ho
    cases j with
    | zero =>
      simp at hj ho; subst hj; subst ho
      exact ⟨h.1, fun i x hi => by omega⟩
    | succ j =>
      simp at hj ho
      obtain ⟨h1, h2⟩ := slotsGo_spec r ords ((j0, y0) :: seen) (j0 + 1) h.2 j o y hj ho
      refine ⟨fun p hp => h1 p (List.mem_cons_of_mem _ hp), fun i x hi hx => ?_⟩
      cases i with
      | zero => simp at hx; subst hx; exact h1 (j0, y0) (List.mem_cons_self ..)
      | succ i =>
        simp at hx
        have := h2 i x (by omega) hx
        rw [show j0 + (i + 1) = j0 + 1 + i from by omega]; exact this

/-! ### How many are left -/

def cnt (f : Nat → Bool) : Nat → Nat
  | 0 => 0
  | n + 1 => cnt f n + (bif f n then 1 else 0)

theorem cnt_le {f g : Nat → Bool} (h : ∀ i, f i = true → g i = true) : ∀ n, cnt f n ≤ cnt g n
  | 0 => Nat.le_refl _
  | n + 1 => by
    have := cnt_le h n
    have hh := h n
    simp only [cnt]
    cases hf : f n
    · simp only [cond_false]; omega
    · simp only [hh hf, cond_true]; omega

theorem cnt_lt {f g : Nat → Bool} (h : ∀ i, f i = true → g i = true) {j : Nat} (hf : f j = false) (hg : g j = true) : ∀ n, j < n → cnt f n < cnt g n
  | 0, hj => by omega
  | n + 1, hj => by
    simp only [cnt]
    by_cases e : j = n
    · subst e
      have := cnt_le h j
      simp only [hf, hg, cond_true, cond_false]; omega
    · have := cnt_lt h hf hg n (by omega)
      have hh := h n
      cases hf : f n
      · simp only [cond_false]; omega
      · simp only [hh hf, cond_true]; omega

theorem cnt_zero {f : Nat → Bool} : ∀ n, cnt f n = 0 → ∀ i, i < n → f i = false
  | 0, _, i, hi => by omega
  | n + 1, h, i, hi => by
    simp only [cnt] at h
    by_cases e : i = n
    · subst e; cases hf : f i
      · rfl
      · rw [hf] at h; simp at h
    · exact cnt_zero n (by omega) i (by omega)

theorem cnt_top (f : Nat → Bool) : ∀ n, cnt f n ≤ n
  | 0 => Nat.le_refl _
  | n + 1 => by simp only [cnt]; have := cnt_top f n; cases f n <;> simp only [cond_false, cond_true] <;> omega

end Go.Am
