/-
  Regions whose order is drawn: whatever order the edges allow, what comes out is what the order of the text gives.
-/
import Derived.Test.YtadmjdnkhpngeaaGreatDoorAmCtl
namespace Go.Am

/-! ### What an operation looks at -/

section
variable {T T' : Tr AV}

theorem ev_congr {x : Opd} (h : ∀ s ∈ x.slots, T.get s = T'.get s) : ev T x = ev T' x := by
  cases x with
  | tmp t => exact h t (by simp [Opd.slots])
  | _ => rfl

theorem evs_congr : ∀ {l : List Opd}, (∀ s ∈ slotsL l, T.get s = T'.get s) → evs T l = evs T' l
  | [], _ => rfl
  | x :: r, h => by
    simp only [slotsL, List.mem_append] at h
    simp only [evs, ev_congr (x := x) (fun s hs => h s (.inl hs)), evs_congr (l := r) (fun s hs => h s (.inr hs))]

theorem evo_congr {x : Option Opd} (h : ∀ s ∈ slotsO x, T.get s = T'.get s) : evo T x = evo T' x := by
  cases x with
  | none => rfl
  | some x => simp only [evo, ev_congr (x := x) h]

theorem fillF_congr : ∀ {l : List (Nat × Nat × Opd)} {cs : List AV}, (∀ s ∈ slotsP l, T.get s = T'.get s) → fillF T cs l = fillF T' cs l
  | [], _, _ => rfl
  | (a, b, x) :: r, cs, h => by
    simp only [slotsP, List.mem_append] at h
    simp only [fillF, ev_congr (x := x) (fun s hs => h s (.inl hs))]
    cases ev T' x with
    | none => rfl
    | some v => simp only [fillF_congr (l := r) (fun s hs => h s (.inr hs))]

theorem op2_congr {call : CallF} {k : AK} (h : ∀ s ∈ k.slots, T.get s = T'.get s) (hp : Hp) (c : Nat) : op2 call T hp c k = op2 call T' hp c k := by
  cases k <;> simp only [AK.slots, List.mem_append] at h <;> simp only [op2, op1] <;> first
    | rfl
    | (simp only [O.move, O.box, O.load, O.nilCheck, O.un, O.conv, O.makeIface, O.fieldAddr, O.field, O.range, O.next, O.typeAssert, O.extract, O.len, O.cap, O.clear, ev_congr h]; done)
    | (simp only [O.store, O.bin, O.eqk, O.binAgg, O.makeSlice, O.indexAddrS, O.indexAddrA, O.indexA, O.indexS, O.append, O.appendZ, O.copy, ev_congr (fun s hs => h s (.inl hs)), ev_congr (fun s hs => h s (.inr hs))]; done)
    | (simp only [O.build, O.buildSlice, fillF_congr h]; done)
    | (simp only [O.makeFunc, O.min, O.max, evs_congr h]; done)
    | (simp only [ev_congr (fun s hs => h s (.inl hs)), evs_congr (fun s hs => h s (.inr hs))]; done)
    | (simp only [O.pick, ev_congr (fun s hs => h s (.inl (.inl hs))), ev_congr (fun s hs => h s (.inl (.inr hs))), ev_congr (fun s hs => h s (.inr hs))]; done)
    | (simp only [O.sliceStr, O.sliceSlc, O.sliceArr, ev_congr (fun s hs => h s (.inl (.inl hs))), evo_congr (fun s hs => h s (.inl (.inr hs))), evo_congr (fun s hs => h s (.inr hs))]; done)

theorem stepV_congr {call : CallF} {o : AOp} (h : ∀ s ∈ o.looks, T.get s = T'.get s) (hp : Hp) (c : Nat) : stepV call o T hp c = stepV call o T' hp c := by
  unfold stepV
  have hk : ∀ s ∈ o.k.slots, T.get s = T'.get s := fun s hs => h s (by
    unfold AOp.looks; split
    · exact List.mem_cons_of_mem _ hs
    · exact hs)
  have hw : wantedF T o.guard = wantedF T' o.guard := by
    unfold AOp.looks at h
    cases hg : o.guard with
    | none => rfl
    | some p =>
      obtain ⟨g, b⟩ := p
      rw [hg] at h
      simp only [wantedF, h g (by simp)]
  rw [hw, op2_congr hk]
end

/-! ### Logs -/

theorem offW_spec (m : Lg) : ∀ (l : Lg), m.offW l = true → ∀ id, m.writes id = true → l.touches id = false
  | .e, _, _, _ => rfl
  | .r i, h, id, hw => by
    simp only [Lg.offW, Bool.not_eq_true'] at h
    cases hb : Nat.beq i id
    · simp only [Lg.touches, hb]
    · have := beq_true hb; subst this; rw [hw] at h; cases h
  | .w i, h, id, hw => by
    simp only [Lg.offW, Bool.not_eq_true'] at h
    cases hb : Nat.beq i id
    · simp only [Lg.touches, hb]
    · have := beq_true hb; subst this; rw [hw] at h; cases h
  | .app a b, h, id, hw => by
    simp only [Lg.offW, Bool.and_eq_true] at h
    simp only [Lg.touches, offW_spec m a h.1 id hw, offW_spec m b h.2 id hw, Bool.or_false]

theorem isE_spec : ∀ (l : Lg), l.isE = true → ∀ id, l.touches id = false
  | .e, _, _ => rfl
  | .r _, h, _ => by cases h
  | .w _, h, _ => by cases h
  | .app a b, h, id => by
    simp only [Lg.isE, Bool.and_eq_true] at h
    simp only [Lg.touches, isE_spec a h.1 id, isE_spec b h.2 id, Bool.or_false]

/-- Two logs that do not meet. -/
def Apart (a b : Lg) : Prop := ∀ id, (a.writes id = true → b.touches id = false) ∧ (b.writes id = true → a.touches id = false)

theorem no_write {l : Lg} {id : Nat} (h : l.touches id = false) : l.writes id = false := by
  cases hw : l.writes id
  · rfl
  · rw [Lg.touch_of_write l id hw] at h; cases h

theorem apart_spec {a b : Lg} (h : a.apart b = true) : Apart a b := by
  unfold Lg.apart at h
  rw [Bool.or_eq_true, Bool.or_eq_true] at h
  intro id
  rcases h with (h | h) | h
  · have := isE_spec a h id
    exact ⟨(fun hw => by rw [no_write this] at hw; cases hw), fun _ => this⟩
  · have := isE_spec b h id
    exact ⟨fun _ => this, (fun hw => by rw [no_write this] at hw; cases hw)⟩
  · rw [Bool.and_eq_true] at h
    exact ⟨offW_spec a b h.1 id, offW_spec b a h.2 id⟩

theorem Apart.ofE {a b : Lg} (h : a.isE = true) : Apart a b := fun id =>
  ⟨(fun hw => by rw [no_write (isE_spec a h id)] at hw; cases hw), fun _ => isE_spec a h id⟩

/-! ### The run in the order of the text -/

structure Trace (call : CallF) (l : List AOp) (ords : List Nat) (i0 : Nat) (seen : List (Nat × Lg)) (T : Tr AV) (h : Hp) (c : Nat) (y : Out (Tr AV)) where
  Ts : Nat → Tr AV
  hs : Nat → Hp
  cs : Nat → Nat
  xs : Nat → Out AV
  start : Ts 0 = T ∧ hs 0 = h ∧ cs 0 = c
  last : Ts l.length = y.v ∧ hs l.length = y.h
  step : ∀ j o, l[j]? = some o → stepV call o (Ts j) (hs j) (cs j) = some (xs j) ∧ Ts (j + 1) = putT (Ts j) o.dst (xs j).v ∧ hs (j + 1) = (xs j).h ∧ cs (j + 1) = (xs j).c
  old : ∀ (j o : Nat), j < l.length → ords[j]? = some o → ∀ p ∈ seen, Nat.testBit o p.1 = true ∨ Apart p.2 (xs j).l
  mine : ∀ (i j o : Nat), i < j → j < l.length → ords[j]? = some o → Nat.testBit o (i0 + i) = true ∨ Apart (xs i).l (xs j).l

theorem trace {call : CallF} : ∀ (l : List AOp) (ords : List Nat) (i0 : Nat) (seen : List (Nat × Lg)) (T : Tr AV) (h : Hp) (c : Nat) (y : Out (Tr AV)),
    opsD call l ords i0 seen T h c = some y → Nonempty (Trace call l ords i0 seen T h c y)
  | [], ords, i0, seen, T, h, c, y, e => by
    cases e
    exact ⟨⟨fun _ => T, fun _ => h, fun _ => c, fun _ => ⟨.nilp, h, c, .e⟩, ⟨rfl, rfl, rfl⟩, ⟨rfl, rfl⟩, fun j o hj => (by cases hj), fun j o hj => (by cases hj), fun i j o _ hj => (by cases hj)⟩⟩
  | o :: r, [], i0, seen, T, h, c, y, e => by cases e
  | o :: r, ord :: ords, i0, seen, T, h, c, y, e => by
    simp only [opsD] at e
    split at e
    case h_2 => cases e
    rename_i x hx
    cases ha : apartAll ord x.l seen
    · rw [ha] at e; cases e
    rw [ha] at e
    simp only [cond_true] at e
    unfold addL at e
    split at e
    case h_2 => cases e
    rename_i y' hy'
    cases e
    rw [stepO_eq] at hx
    split at hx <;> cases hx
    rename_i v hv
    obtain ⟨t⟩ := trace r ords (i0 + 1) _ _ _ _ y' hy'
    have hall : ∀ p ∈ seen, Nat.testBit ord p.1 = true ∨ Apart p.2 v.l := by
      have : ∀ (seen : List (Nat × Lg)), apartAll ord v.l seen = true → ∀ p ∈ seen, Nat.testBit ord p.1 = true ∨ Apart p.2 v.l := by
        intro seen
        induction seen with
        | nil => intro _ p hp; cases hp
        | cons q s ih =>
          obtain ⟨i, m⟩ := q
          intro ha p hp
          simp only [apartAll, Bool.and_eq_true, Bool.or_eq_true] at ha
          cases hp with
          | head => exact ha.1.imp id apart_spec
          | tail _ hp => exact ih ha.2 p hp
      exact this seen ha
    refine ⟨⟨fun j => match j with | 0 => T | j + 1 => t.Ts j, fun j => match j with | 0 => h | j + 1 => t.hs j, fun j => match j with | 0 => c | j + 1 => t.cs j, fun j => match j with | 0 => v | j + 1 => t.xs j, ⟨rfl, rfl, rfl⟩, t.last, fun j q hj => ?_, fun j q hj hq p hp => ?_, fun i j q hij hj hq => ?_⟩⟩
    · cases j with
      | zero => cases hj; exact ⟨hv, t.start.1, t.start.2.1, t.start.2.2⟩
      | succ j => exact t.step j q hj
    · cases j with
      | zero => cases hq; exact hall p hp
      | succ j =>
        refine t.old j q (by simpa using hj) hq p ?_
        cases v.l.isE
        · exact List.mem_cons_of_mem _ hp
        · exact hp
    · cases j with
      | zero => omega
      | succ j =>
        cases i with
        | zero =>
          by_cases he : v.l.isE = true
          · exact .inr (Apart.ofE he)
          · exact t.old j q (by simpa using hj) hq (i0, v.l) (by simp only [Bool.eq_false_iff.mpr he, cond_false]; exact List.mem_cons_self ..)
        | succ i =>
          have := t.mine i j q (by omega) (by simpa using hj) hq
          rw [show i0 + (i + 1) = i0 + 1 + i from by omega]
          exact this

end Go.Am
