/-
  What a computation of the abstract machine hangs on is told by its log.
-/
import Derived.Test.YtadmjdnkhpngeaaGreatDoorAmBase
namespace Go.Am

structure Loc {α : Type} (m : Hp → Option (Out α)) : Prop where
  same : ∀ h o, m h = some o → ∀ id, o.l.writes id = false → o.h.get id = h.get id
  move : ∀ h o k, m h = some o → (∀ id, o.l.touches id = true → k.get id = h.get id) → ∃ o', m k = some o' ∧ o'.v = o.v ∧ o'.c = o.c ∧ o'.l = o.l ∧ ∀ id, o.l.writes id = true → o'.h.get id = o.h.get id

theorem Lg.touch_of_write : ∀ (l : Lg) (id : Nat), l.writes id = true → l.touches id = true
  | .e, _, h => h
  | .r _, _, h => by cases h
  | .w _, _, h => h
  | .app a b, id, h => by
    simp only [Lg.writes, Lg.touches, Bool.or_eq_true] at h ⊢
    exact h.imp (touch_of_write a id) (touch_of_write b id)

section
variable {α β : Type}

theorem Loc.none : Loc (fun _ => (Option.none : Option (Out α))) := ⟨fun _ _ e => (by cases e), fun _ _ _ e => (by cases e)⟩

theorem Loc.ret (v : α) (c : Nat) (l : Lg) : Loc (fun h => some (⟨v, h, c, l⟩ : Out α)) :=
  ⟨fun h o e id _ => by cases e; rfl, fun h o k e hk => by cases e; exact ⟨_, rfl, rfl, rfl, rfl, fun id hw => hk id (Lg.touch_of_write _ _ hw)⟩⟩

theorem Loc.okv (v : AV) (c : Nat) : Loc (fun h => okv v h c) := Loc.ret v c .e

theorem Loc.newB (b : Blk) (c : Nat) (mk : Nat → AV) : Loc (fun h => newB b h c mk) := by
  refine ⟨fun h o e id hw => ?_, fun h o k e hk => ?_⟩
  · unfold Am.newB at e
    split at e <;> cases e
    have hne : id ≠ c := fun q => by subst q; simp [Lg.writes] at hw
    exact Tr.get_set_ne _ _ hne
  · unfold Am.newB at e
    split at e <;> cases e
    rename_i hg
    have hc : k.get c = Option.none := by rw [hk c (by simp [Lg.touches])]; exact hg
    refine ⟨⟨mk c, k.set b c, c + 1, .w c⟩, by simp only [Am.newB, hc], rfl, rfl, rfl, fun id hw => ?_⟩
    have : c = id := beq_true hw
    subst this
    rw [Tr.get_set_same, Tr.get_set_same]

/-- A block is looked at. -/
theorem Loc.get {G : Option Blk → Hp → Option (Out α)} {id : Nat} (hG : ∀ b, Loc (G b)) (ht : ∀ b h o, G b h = some o → o.l.touches id = true) : Loc (fun h => G (h.get id) h) :=
  ⟨fun h o e => (hG _).same h o e, fun h o k e hk => by
    obtain ⟨o', e', q⟩ := (hG (h.get id)).move h o k e hk
    exact ⟨o', by show G (k.get id) k = _; rw [hk id (ht _ _ _ e)]; exact e', q⟩⟩

theorem rdCells_congr {h k : Hp} {id : Nat} (e : k.get id = h.get id) (off n : Nat) : rdCells k id off n = rdCells h id off n := by unfold rdCells; rw [e]

theorem Loc.rd {g : List AV → Hp → Option (Out α)} {id off n : Nat} (hG : ∀ vs, Loc (g vs)) (ht : ∀ vs h o, g vs h = some o → o.l.touches id = true) :
    Loc (fun h => match rdCells h id off n with | some vs => g vs h | Option.none => Option.none) := by
  refine ⟨fun h o e => ?_, fun h o k e hk => ?_⟩
  · split at e
    · exact (hG _).same h o e
    · cases e
  · split at e
    · rename_i vs hvs
      obtain ⟨o', e', q⟩ := (hG vs).move h o k e hk
      refine ⟨o', ?_, q⟩
      simp only [rdCells_congr (hk id (ht _ _ _ e)), hvs, e']
    · cases e

theorem wr_inv {h h' : Hp} {id off : Nat} {vs : List AV} (e : wrCells h id off vs = some h') : ∃ l, h.get id = some (.cells l false) ∧ h' = h.set (.cells (put l off vs) false) id ∧ (Nat.ble (off + vs.length) l.length && vs.all isCell) = true := by
  unfold wrCells at e
  split at e
  · rename_i l hg
    cases hb : (Nat.ble (off + vs.length) l.length && vs.all isCell)
    · rw [hb] at e; cases e
    · rw [hb] at e; cases e; exact ⟨l, hg, rfl, hb⟩
  · cases e

theorem Loc.wr (id off : Nat) (vs : List AV) (v : α) (c : Nat) (l : Lg) (hl : l.writes id = true) :
    Loc (fun h => match wrCells h id off vs with | some h' => some (⟨v, h', c, l⟩ : Out α) | Option.none => Option.none) := by
  refine ⟨fun h o e i hw => ?_, fun h o k e hk => ?_⟩
  · split at e <;> cases e
    rename_i h' hh
    obtain ⟨L, hg, rfl, hb⟩ := wr_inv hh
    have hne : i ≠ id := fun q => by subst q; rw [hl] at hw; cases hw
    exact Tr.get_set_ne _ _ hne
  · split at e <;> cases e
    rename_i h' hh
    obtain ⟨L, hg, rfl, hb⟩ := wr_inv hh
    have hkg : k.get id = some (.cells L false) := by rw [hk id (Lg.touch_of_write _ _ hl)]; exact hg
    have hkw : wrCells k id off vs = some (k.set (.cells (put L off vs) false) id) := by
      unfold wrCells; rw [hkg]; simp only [hb, cond_true]
    refine ⟨⟨v, k.set (.cells (put L off vs) false) id, c, l⟩, by simp only [hkw], rfl, rfl, rfl, fun i hw => ?_⟩
    show (k.set _ id).get i = (h.set _ id).get i
    rw [Tr.get_set, Tr.get_set]
    split
    · rfl
    · exact hk i (Lg.touch_of_write _ _ hw)

/-- One behind the other. -/
theorem Loc.bind {m : Hp → Option (Out α)} {f : α → Nat → Hp → Option (Out β)} (hm : Loc m) (hf : ∀ a c, Loc (f a c)) :
    Loc (fun h => match m h with | Option.none => Option.none | some r => Am.addL r.l (f r.v r.c r.h)) := by
  refine ⟨fun h o e id hw => ?_, fun h o k e hk => ?_⟩
  · split at e
    · cases e
    · rename_i r hr
      unfold Am.addL at e
      split at e
      · rename_i s hs
        cases e
        simp only [Lg.writes, Bool.or_eq_false_iff] at hw
        rw [(hf _ _).same _ s hs id hw.2, hm.same _ r hr id hw.1]
      · cases e
  · split at e
    · cases e
    · rename_i r hr
      unfold Am.addL at e
      split at e
      · rename_i s hs
        cases e
        obtain ⟨r', hr', ev, ec, el, ew⟩ := hm.move h r k hr (fun id ht => hk id (by simp [Lg.touches, ht]))
        have agree : ∀ id, s.l.touches id = true → r'.h.get id = r.h.get id := by
          intro id ht
          cases hw : r.l.writes id
          · rw [hm.same _ _ hr id hw, hm.same _ _ hr' id (by rw [el]; exact hw)]
            exact hk id (by simp [Lg.touches, ht])
          · exact ew id hw
        obtain ⟨s', hs', fv, fc, fl, fw⟩ := (hf r.v r.c).move r.h s r'.h hs agree
        refine ⟨⟨s'.v, s'.h, s'.c, .app r'.l s'.l⟩, ?_, fv, fc, by rw [el, fl], fun id hw => ?_⟩
        · simp only [hr', ev, ec, hs', Am.addL]
        · simp only [Lg.writes, Bool.or_eq_true] at hw
          cases hw2 : s.l.writes id
          · have hw1 : r.l.writes id = true := by
              rcases hw with q | q
              · exact q
              · rw [hw2] at q; cases q
            show s'.h.get id = s.h.get id
            rw [(hf _ _).same _ _ hs id hw2, (hf _ _).same _ _ hs' id (by rw [fl]; exact hw2)]
            exact ew id hw1
          · exact fw id hw2
      · cases e

theorem Loc.map {m : Hp → Option (Out α)} (g : α → β) (hm : Loc m) : Loc (fun h => match m h with | Option.none => Option.none | some r => some (⟨g r.v, r.h, r.c, r.l⟩ : Out β)) := by
  refine ⟨fun h o e id hw => ?_, fun h o k e hk => ?_⟩
  · split at e <;> cases e
    rename_i r hr
    exact hm.same _ r hr id hw
  · split at e <;> cases e
    rename_i r hr
    obtain ⟨r', hr', ev, ec, el, ew⟩ := hm.move h r k hr hk
    exact ⟨⟨g r'.v, r'.h, r'.c, r'.l⟩, by simp only [hr'], by rw [ev], ec, el, ew⟩

theorem Loc.congr {m n : Hp → Option (Out α)} (hm : Loc m) (e : ∀ h, n h = m h) : Loc n := by
  have : n = m := funext e
  rw [this]; exact hm
end
end Go.Am
