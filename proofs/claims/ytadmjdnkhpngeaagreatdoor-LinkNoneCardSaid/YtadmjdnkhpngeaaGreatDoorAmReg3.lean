/-
  Regions whose order is drawn: soundness.
-/
import Derived.Test.YtadmjdnkhpngeaaGreatDoorAmReg2
namespace Go.Am

theorem trOpers_spec {P : Program} {os : Array Oper} {n : Nat} : ∀ {ol : List Oper} {l : List AOp}, trOpers P os n ol = some l → l.length = ol.length ∧ ∀ (j : Nat) (o : Oper), ol[j]? = some o → ∃ o', l[j]? = some o' ∧ trOper P os n o = some o'
  | [], l, h => by cases h; exact ⟨rfl, fun j o hj => by simp at hj⟩
  | o :: r, l, h => by
    simp only [trOpers] at h
    split at h
    · rename_i o' ho
      split at h
      · rename_i l' hl'
        cases h
        obtain ⟨h1, h2⟩ := trOpers_spec hl'
        refine ⟨by simp [h1], fun j q hj => ?_⟩
        cases j with
        | zero => simp at hj; subst hj; exact ⟨o', rfl, ho⟩
        | succ j => simp at hj; obtain ⟨q', a, b⟩ := h2 j q hj; exact ⟨q', by simpa using a, b⟩
      · cases h
    · cases h

def wS (l : List AOp) (i s : Nat) : Bool := match l[i]? with | some o => o.dst == some s | none => false

theorem Loc.stepV {call : CallF} (hc : LocCall call) (o : AOp) (T : Tr AV) (c : Nat) : Loc (fun h => stepV call o T h c) := by
  cases hw : wantedF T o.guard with
  | none => exact Loc.none.congr (fun h => by simp only [Am.stepV, hw])
  | some b =>
    cases b
    · exact (Loc.ret (.tup []) c .e).congr (fun h => by simp only [Am.stepV, hw])
    · exact (Loc.op2 hc T c o.k).congr (fun h => by simp only [Am.stepV, hw])

section
variable {P : Program} {call : CallF} {os : Array Oper} {n : Nat} {l : List AOp} {T : Tr AV} {h : Hp} {c : Nat} {y : Out (Tr AV)}

structure Good (t : Trace call l (Region.before os).toList 0 [] T h c y) (L : Nat → Bool) (T' : Tr AV) (h' : Hp) : Prop where
  closed : ∀ j i, j < l.length → L j = true → ((Region.before os).getD j 0).testBit i = true → L i = true
  slots : ∀ s, T'.get s = lw (fun i => L i && wS l i s) (fun i => some (t.xs i).v) (T.get s) l.length
  heap : ∀ id, h'.get id = lw (fun i => L i && (t.xs i).l.writes id) (fun i => (t.hs (i + 1)).get id) (h.get id) l.length

theorem text_slots (t : Trace call l (Region.before os).toList 0 [] T h c y) (s : Nat) : ∀ m, m ≤ l.length → (t.Ts m).get s = lw (fun i => wS l i s) (fun i => some (t.xs i).v) (T.get s) m
  | 0, _ => by rw [t.start.1]; rfl
  | m + 1, hm => by
    have hlt : m < l.length := hm
    obtain ⟨_, e, _, _⟩ := t.step m l[m] (List.getElem?_eq_getElem hlt)
    rw [e]
    have ih := text_slots t s m (Nat.le_of_lt hm)
    have hw : wS l m s = (l[m].dst == some s) := by simp only [wS, List.getElem?_eq_getElem hlt]
    simp only [lw, hw]
    cases hd : l[m].dst with
    | none => simpa [putT] using ih
    | some d =>
      simp only [putT]
      by_cases hds : d = s
      · subst hds; simp [Tr.get_set_same]
      · rw [Tr.get_set_ne _ _ (fun q => hds q.symm)]
        have : ((some d : Option Nat) == some s) = false := by simp [hds]
        rw [this, cond_false]; exact ih

theorem text_heap (hl : LocCall call) (t : Trace call l (Region.before os).toList 0 [] T h c y) (id : Nat) : ∀ m, m ≤ l.length → (t.hs m).get id = lw (fun i => (t.xs i).l.writes id) (fun i => (t.hs (i + 1)).get id) (h.get id) m
  | 0, _ => by rw [t.start.2.1]; rfl
  | m + 1, hm => by
    have hlt : m < l.length := hm
    obtain ⟨e0, _, e, _⟩ := t.step m l[m] (List.getElem?_eq_getElem hlt)
    have ih := text_heap hl t id m (Nat.le_of_lt hm)
    simp only [lw]
    cases hw : (t.xs m).l.writes id
    · rw [cond_false, e, (Loc.stepV hl l[m] (t.Ts m) (t.cs m)).same _ _ e0 id hw]; exact ih
    · rfl

/-- Two operations of which the first stands ahead in the text. -/
theorem pair_slots (hs : slotsGo [] l (Region.before os).toList 0 = true) (hN : l.length = os.size) {i j : Nat} {x z : AOp} (hij : i < j) (hi : l[i]? = some x) (hj : l[j]? = some z) :
    ((Region.before os).getD j 0).testBit i = true ∨ ((∀ d, x.dst = some d → d ∉ z.looks ∧ z.dst ≠ some d) ∧ (∀ d, z.dst = some d → d ∉ x.looks)) := by
  have hjl : j < l.length := (List.getElem?_eq_some_iff.1 hj).1
  have hb : j < (Region.before os).size := by rw [(before_spec os).1]; omega
  have ho : (Region.before os).toList[j]? = some ((Region.before os).getD j 0) := by
    simp [Array.getD, hb]
  have := (slotsGo_spec l _ [] 0 hs j _ z hj ho).2 i x hij hi
  rw [Nat.zero_add, pairOkA, Bool.or_eq_true, Bool.and_eq_true] at this
  refine this.imp id (fun q => ⟨fun d hd => ?_, fun d hd => ?_⟩)
  · have q1 := q.1
    rw [hd] at q1
    simp only [Bool.and_eq_true, Bool.not_eq_true', List.contains_eq_mem, decide_eq_false_iff_not, beq_eq_false_iff_ne] at q1
    exact q1
  · have q1 := q.2
    rw [hd] at q1
    simp only [Bool.not_eq_true', List.contains_eq_mem, decide_eq_false_iff_not] at q1
    exact q1

theorem pair_logs (t : Trace call l (Region.before os).toList 0 [] T h c y) (hN : l.length = os.size) {i j : Nat} (hij : i < j) (hj : j < l.length) :
    ((Region.before os).getD j 0).testBit i = true ∨ Apart (t.xs i).l (t.xs j).l := by
  have hb : j < (Region.before os).size := by rw [(before_spec os).1]; omega
  have ho : (Region.before os).toList[j]? = some ((Region.before os).getD j 0) := by
    simp [Array.getD, hb]
  have := t.mine i j _ hij hj ho
  rwa [Nat.zero_add] at this

theorem wS_inv {i s : Nat} (w : wS l i s = true) : ∃ x, l[i]? = some x ∧ x.dst = some s := by
  unfold wS at w
  split at w
  · rename_i o ho; exact ⟨o, ho, by simpa using w⟩
  · cases w

/-- One more. -/
theorem Good.step (hl : LocCall call) (hs : slotsGo [] l (Region.before os).toList 0 = true) (hN : l.length = os.size) {t : Trace call l (Region.before os).toList 0 [] T h c y} {L : Nat → Bool} {T' : Tr AV} {h' : Hp} (gd : Good t L T' h')
    {j : Nat} {z : AOp} (hj : l[j]? = some z) (hn : L j = false) (hp : ∀ i, ((Region.before os).getD j 0).testBit i = true → L i = true) :
    ∃ x', stepV call z T' h' (t.cs j) = some x' ∧ Good t (fun i => L i || i == j) (putT T' z.dst x'.v) x'.h := by
  have hjl : j < l.length := (List.getElem?_eq_some_iff.1 hj).1
  obtain ⟨e0, e1, e2, e3⟩ := t.step j z hj
  -- the slots it looks at
  have looks : ∀ s ∈ z.looks, T'.get s = (t.Ts j).get s := by
    intro s hsl
    rw [gd.slots s, text_slots t s j (Nat.le_of_lt hjl)]
    refine lw_meet (Nat.le_of_lt hjl) (fun i hi => ?_) (fun i hi hiN => ?_)
    · cases w : wS l i s
      · simp
      · obtain ⟨x, hx, hd⟩ := wS_inv w
        rcases pair_slots hs hN hi hx hj with hb | hb
        · simp [hp i hb]
        · exact ((hb.1 s hd).1 hsl).elim
    · cases w : wS l i s
      · simp
      · obtain ⟨x, hx, hd⟩ := wS_inv w
        by_cases hij : i = j
        · subst hij; simp [hn]
        · cases hL : L i
          · rfl
          · rcases pair_slots hs hN (show j < i by omega) hj hx with hb | hb
            · rw [gd.closed i j hiN hL hb] at hn; cases hn
            · exact (hb.2 s hd hsl).elim
  -- the blocks it touches
  have touch : ∀ id, (t.xs j).l.touches id = true → h'.get id = (t.hs j).get id := by
    intro id ht
    rw [gd.heap id, text_heap hl t id j (Nat.le_of_lt hjl)]
    refine lw_meet (Nat.le_of_lt hjl) (fun i hi => ?_) (fun i hi hiN => ?_)
    · cases w : (t.xs i).l.writes id
      · simp
      · rcases pair_logs t hN hi hjl with hb | hb
        · simp [hp i hb]
        · rw [(hb id).1 w] at ht; cases ht
    · by_cases hij : i = j
      · subst hij; simp [hn]
      · cases hL : L i
        · rfl
        · cases w : (t.xs i).l.writes id
          · rfl
          · rcases pair_logs t hN (show j < i by omega) hiN with hb | hb
            · rw [gd.closed i j hiN hL hb] at hn; cases hn
            · rw [(hb id).2 w] at ht; cases ht
  obtain ⟨x', f0, f1, f2, f3, f4⟩ := (Loc.stepV hl z (t.Ts j) (t.cs j)).move _ _ h' e0 touch
  have f0' : stepV call z T' h' (t.cs j) = some x' := by rw [stepV_congr looks]; exact f0
  refine ⟨x', f0', ⟨fun k i hk hLk hb => ?_, fun s => ?_, fun id => ?_⟩⟩
  · simp only [Bool.or_eq_true, beq_iff_eq] at hLk ⊢
    rcases hLk with q | q
    · exact .inl (gd.closed k i hk q hb)
    · subst q; exact .inl (hp i hb)
  · by_cases hd : z.dst = some s
    · rw [hd]
      simp only [putT]
      rw [Tr.get_set_same]
      have : lw (fun i => (L i || i == j) && wS l i s) (fun i => some (t.xs i).v) (T.get s) l.length = some (t.xs j).v := by
        refine lw_at (val := fun i => some (t.xs i).v) hjl ?_ (fun i hi hiN => ?_)
        · simp [wS, hj, hd]
        · have hne : (i == j) = false := by simp; omega
          rw [hne, Bool.or_false]
          cases w : wS l i s
          · simp
          · obtain ⟨x, hx, hxd⟩ := wS_inv w
            cases hL : L i
            · rfl
            · rcases pair_slots hs hN hi hj hx with hb | hb
              · rw [gd.closed i j hiN hL hb] at hn; cases hn
              · exact ((hb.1 s hd).2 hxd).elim
      rw [this, f1]
    · have e : (putT T' z.dst x'.v).get s = T'.get s := by
        cases hz : z.dst with
        | none => rfl
        | some d => simp only [putT]; exact Tr.get_set_ne _ _ (fun q => hd (by rw [hz, q]))
      rw [e, gd.slots s]
      refine lw_congr _ (fun i hi => ?_)
      by_cases hij : i = j
      · subst hij
        have : wS l i s = false := by simp [wS, hj, hd]
        simp [this]
      · have hne : (i == j) = false := by simp [hij]
        rw [hne, Bool.or_false]
  · cases w : (t.xs j).l.writes id
    · rw [(Loc.stepV hl z T' (t.cs j)).same _ _ f0' id (by rw [f3]; exact w), gd.heap id]
      refine lw_congr _ (fun i hi => ?_)
      by_cases hij : i = j
      · subst hij; simp [w]
      · have hne : (i == j) = false := by simp [hij]
        rw [hne, Bool.or_false]
    · rw [f4 id w]
      have : lw (fun i => (L i || i == j) && (t.xs i).l.writes id) (fun i => (t.hs (i + 1)).get id) (h.get id) l.length = (t.hs (j + 1)).get id := by
        refine lw_at (val := fun i => (t.hs (i + 1)).get id) hjl ?_ (fun i hi hiN => ?_)
        · simp [w]
        · have hne : (i == j) = false := by simp; omega
          rw [hne, Bool.or_false]
          cases hL : L i
          · rfl
          · cases w2 : (t.xs i).l.writes id
            · rfl
            · rcases pair_logs t hN hi hiN with hb | hb
              · rw [gd.closed i j hiN hL hb] at hn; cases hn
              · have := (hb id).1 w
                rw [Lg.touch_of_write _ _ w2] at this; cases this
      rw [this, e2]

theorem ready_spec {listed : Array Bool} {i : Nat} (hi : i ∈ Region.ready .any os listed) : i < os.size ∧ listed.getD i true = false ∧ ∃ o, os[i]? = some o ∧ ∀ e ∈ o.after.toList, Region.binds .any e = true → listed.getD e.on false = true := by
  unfold Region.ready at hi
  rw [List.mem_filter, List.mem_range, Bool.and_eq_true] at hi
  obtain ⟨h1, h2, h3⟩ := hi
  refine ⟨h1, by simpa using h2, os[i], Array.getElem?_eq_getElem h1, fun e he hb => ?_⟩
  rw [Array.getElem?_eq_getElem h1] at h3
  simp only [Option.map_some, Option.getD_some, Array.all_eq_true'] at h3
  have := h3 e (by simpa using he)
  simpa [hb] using this

theorem all_listed (he : edgesOk os = true) {listed : Array Bool} (hsz : listed.size = os.size) (hr : Region.ready .any os listed = []) : ∀ i, i < os.size → listed.getD i true = true := by
  intro i
  induction i using Nat.strongRecOn with
  | _ i ih =>
    intro hi
    cases hL : listed.getD i true with
    | true => rfl
    | false =>
      exfalso
      have : i ∈ Region.ready .any os listed := by
        unfold Region.ready
        rw [List.mem_filter, List.mem_range]
        refine ⟨hi, ?_⟩
        rw [Array.getElem?_eq_getElem hi, hL]
        simp only [Bool.not_false, Bool.true_and, Option.map_some, Option.getD_some, Array.all_eq_true']
        intro e hem
        cases hb : Region.binds .any e with
        | false => simp
        | true =>
          have hlt : e.on < i := by
            unfold edgesOk at he
            rw [List.all_eq_true] at he
            have := he (os[i], i) (by
              rw [List.mem_zipIdx_iff_getElem?]
              simp [hi])
            simp only [List.all_eq_true, Array.all_eq_true'] at this
            have := this e hem
            simpa [hb] using this
          have := ih e.on hlt (by omega)
          have h2 : e.on < listed.size := by omega
          simp only [Array.getD, h2, dite_true] at this ⊢
          simpa using this
      rw [hr] at this; cases this

/-- Whatever the order. -/
theorem any_sound {Q : Exit → Act → World → Prop} (hc : CallOk P call) (hl : LocCall call) (htr : trOpers P os n os.toList = some l) (hs : slotsGo [] l (Region.before os).toList 0 = true) (he : edgesOk os = true)
    (t : Trace call l (Region.before os).toList 0 [] T h c y) {μ0 : Mu} {w0 : World} (g0 : Glob P μ0)
    (hQ : ∀ a' w' μ', FR μ' y.v n a' → Rel μ' y.h w' → Ext μ0 h w0 μ' y.h w' → Q .normal a' w') :
    ∀ (fuel : Nat) (listed : Array Bool) (T' : Tr AV) (h' : Hp) (μ : Mu) (a : Act) (w : World), listed.size = os.size → cnt (fun i => !listed.getD i true) os.size ≤ fuel → Good t (fun i => listed.getD i true) T' h' →
      FR μ T' n a → Rel μ h' w → Ext μ0 h w0 μ h' w → wpAny P .any os Q fuel listed a w := by
  have hN : l.length = os.size := by have := (trOpers_spec htr).1; simpa using this
  have done : ∀ (listed : Array Bool) (T' : Tr AV) (h' : Hp) (μ : Mu) (a : Act) (w : World), listed.size = os.size → Good t (fun i => listed.getD i true) T' h' →
      FR μ T' n a → Rel μ h' w → Ext μ0 h w0 μ h' w → Region.ready .any os listed = [] → Q .normal a w := by
    intro listed T' h' μ a w hsz gd f r e hr
    have all := all_listed he hsz hr
    have eS : ∀ s, T'.get s = y.v.get s := fun s => by
      rw [gd.slots s, ← t.last.1, text_slots t s l.length (Nat.le_refl _)]
      exact lw_congr _ (fun i hi => by simp [all i (by omega)])
    have eH : ∀ id, h'.get id = y.h.get id := fun id => by
      rw [gd.heap id, ← t.last.2, text_heap hl t id l.length (Nat.le_refl _)]
      exact lw_congr _ (fun i hi => by simp [all i (by omega)])
    exact hQ a w μ ⟨fun s v q => f.t s v (by rw [eS s]; exact q), f.n, f.d⟩ (r.congr fun i => (eH i).symm) (e.congr fun i => (eH i).symm)
  intro fuel
  induction fuel with
  | zero =>
    intro listed T' h' μ a w hsz hcnt gd f r e
    have hr : Region.ready .any os listed = [] := by
      cases hq : Region.ready .any os listed with
      | nil => rfl
      | cons i q =>
        exfalso
        obtain ⟨h1, h2, _⟩ := ready_spec (os := os) (listed := listed) (i := i) (by rw [hq]; exact List.mem_cons_self ..)
        have := cnt_zero os.size (Nat.le_zero.1 hcnt) i h1
        simp [h2] at this
    exact ⟨hr, done listed T' h' μ a w hsz gd f r e hr⟩
  | succ fuel ih =>
    intro listed T' h' μ a w hsz hcnt gd f r e
    refine ⟨fun hr => done listed T' h' μ a w hsz gd f r e hr, fun j hj => ?_⟩
    obtain ⟨hlt, hnl, o, ho, hed⟩ := ready_spec hj
    obtain ⟨z, hz, hoz⟩ := (trOpers_spec htr).2 j o (by simpa using ho)
    have hp : ∀ i, ((Region.before os).getD j 0).testBit i = true → listed.getD i true = true := by
      intro i hb
      obtain ⟨o', ho', ed, hem, hbi, q⟩ := (before_spec os).2 j i hb
      have : o' = o := by
        have : os[j]? = some o' := by simpa using ho'
        rw [this] at ho; exact Option.some.inj ho
      subst this
      have hL := hed ed hem hbi
      have h2 : ed.on < listed.size := by
        by_cases h2 : ed.on < listed.size
        · exact h2
        · simp [Array.getD, h2] at hL
      have hL' : listed.getD ed.on true = true := by
        simp only [Array.getD, h2, dite_true] at hL ⊢; exact hL
      rcases q with q | q
      · subst q; exact hL'
      · exact gd.closed ed.on i (by omega) hL' q
    obtain ⟨x', hx', gd'⟩ := gd.step hl hs hN hz hnl hp
    refine stepV_sound hc (g0.mono e.le) r ho hoz f hx' (fun a' w' μ' f' r' e' => ?_)
    have hsame : (fun i => listed.getD i true || i == j) = (fun i => (listed.setIfInBounds j true).getD i true) := by
      funext i
      by_cases hij : i = j
      · subst hij
        simp [Array.getD, hsz, hlt]
      · have hne : (i == j) = false := by simp [hij]
        rw [hne, Bool.or_false]
        by_cases h2 : i < listed.size
        · simp [Array.getD, h2, Array.getElem_setIfInBounds, Ne.symm hij]
        · simp [Array.getD, h2]
    rw [hsame] at gd'
    refine ih _ _ _ μ' a' w' (by simpa using hsz) ?_ gd' f' r' (e.trans e')
    have : cnt (fun i => !(listed.setIfInBounds j true).getD i true) os.size < cnt (fun i => !listed.getD i true) os.size := by
      refine cnt_lt (fun i hi => ?_) (j := j) ?_ ?_ os.size hlt
      · have := congrFun hsame i
        simp only [← this] at hi
        simp at hi ⊢
        exact hi.1
      · have := congrFun hsame j
        simp only [← this]; simp
      · simp [hnl]
    omega

theorem drawn_sound {Q : Exit → Act → World → Prop} (hm : P.follows .mixedOrders = true) (hc : CallOk P call) (hl : LocCall call) (htr : trOpers P os n os.toList = some l) (hs : slotsGo [] l (Region.before os).toList 0 = true) (he : edgesOk os = true)
    (hy : opsD call l (Region.before os).toList 0 [] T h c = some y) {μ : Mu} {a : Act} {w : World} {id : Nat} (g : Glob P μ) (f : FR μ T n a) (r : Rel μ h w)
    (hQ : ∀ a' w' μ', FR μ' y.v n a' → Rel μ' y.h w' → Ext μ h w μ' y.h w' → Q .normal a' w') : (Code.region id os true).wp P Q a w := by
  obtain ⟨t⟩ := trace l _ 0 [] T h c y hy
  refine wp_region_any hm ?_
  have r' : Rel μ h { w with drawn := w.drawn + 1 } := r.drew _
  have e' : Ext μ h w μ h { w with drawn := w.drawn + 1 } := Ext.drew _ _ _ _
  have hN : l.length = os.size := by have := (trOpers_spec htr).1; simpa using this
  refine any_sound hc hl htr hs he t g hQ os.size _ T h μ a _ (by simp) (cnt_top _ _) ⟨fun j i hj hL => ?_, fun s => ?_, fun id => ?_⟩ f r' e'
  · have : j < os.size := by omega
    simp [Array.getD, this] at hL
  · have : lw (fun i => (Array.replicate os.size false).getD i true && wS l i s) (fun i => some (t.xs i).v) (T.get s) l.length = T.get s := by
      have := lw_stop (wr := fun i => (Array.replicate os.size false).getD i true && wS l i s) (val := fun i => some (t.xs i).v) (ini := T.get s) (n := 0) l.length (fun i _ hi => by
        have : i < os.size := by omega
        simp [Array.getD, this])
      simpa [lw] using this
    exact this.symm
  · have := lw_stop (wr := fun i => (Array.replicate os.size false).getD i true && (t.xs i).l.writes id) (val := fun i => (t.hs (i + 1)).get id) (ini := h.get id) (n := 0) l.length (fun i _ hi => by
        have : i < os.size := by omega
        simp [Array.getD, this])
    have : lw (fun i => (Array.replicate os.size false).getD i true && (t.xs i).l.writes id) (fun i => (t.hs (i + 1)).get id) (h.get id) l.length = h.get id := by simpa [lw] using this
    exact this.symm
end
end Go.Am
