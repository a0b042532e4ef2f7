/-
  Whole functions.
-/
import Derived.Test.YtadmjdnkhpngeaaGreatDoorAmReg3
import Derived.LoopN
import Derived.Tactics
namespace Go.Am

def exOf : AEx → Exit
  | .normal => .normal
  | .exit id => .exit id
  | .ret => .ret

section
variable {P : Program} {call : CallF} {n : Nat}

/-- What a piece of code comes to. -/
def CodeOk (P : Program) (n : Nat) (cd : Code) (f : Sem1) : Prop :=
  ∀ (Q : Exit → Act → World → Prop) (T : Tr AV) (h : Hp) (c : Nat) (y : Fin) (μ : Mu) (a : Act) (w : World), f T h c = some y → Glob P μ → FR μ T n a → Rel μ h w →
    (∀ a' w' μ', FR μ' y.v.2 n a' → Rel μ' y.h w' → Ext μ h w μ' y.h w' → Q (exOf y.v.1) a' w') → cd.wp P Q a w

theorem seq_ok {cd : Code} {f g : Sem1} {R : Act → World → Prop} {Q : Exit → Act → World → Prop} (hf : CodeOk P n cd f) {T : Tr AV} {h : Hp} {c : Nat} {y : Fin} {μ : Mu} {a : Act} {w : World} (e : C.seq f g T h c = some y) (gl : Glob P μ) (fr : FR μ T n a) (r : Rel μ h w)
    (hR : ∀ (x : Fin) (z : Fin) a' w' μ', g x.v.2 x.h x.c = some z → FR μ' x.v.2 n a' → Rel μ' x.h w' → Ext μ h w μ' x.h w' → z.v = y.v → z.h = y.h → R a' w')
    (hQ : ∀ a' w' μ', FR μ' y.v.2 n a' → Rel μ' y.h w' → Ext μ h w μ' y.h w' → Q (exOf y.v.1) a' w') : cd.wp P (Exit.then R Q) a w := by
  unfold C.seq at e
  split at e
  · cases e
  rename_i x hx
  refine hf _ T h c x μ a w hx gl fr r (fun a' w' μ' f' r' e' => ?_)
  split at e
  · rename_i hn
    unfold addL at e
    split at e
    · rename_i z hz
      cases e
      rw [hn]
      exact hR x z a' w' μ' hz f' r' e' rfl rfl
    · cases e
  · rename_i xe hxe
    cases e
    simp only at hQ
    cases hv : x.v.1 with
    | normal => exact (hxe hv).elim
    | exit id => rw [hv] at hQ; exact hQ a' w' μ' f' r' e'
    | ret => rw [hv] at hQ; exact hQ a' w' μ' f' r' e'

theorem iter_ok {cd : Code} {f : Sem1} (hf : CodeOk P n cd f) : ∀ (k : Nat) (Q : Exit → Act → World → Prop) (T : Tr AV) (h : Hp) (c : Nat) (y : Fin) (μ : Mu) (a : Act) (w : World), iter f k T h c = some y → Glob P μ → FR μ T n a → Rel μ h w →
    (∀ a' w' μ', FR μ' y.v.2 n a' → Rel μ' y.h w' → Ext μ h w μ' y.h w' → Q (exOf y.v.1) a' w') → Code.rounds P cd Q k a w
  | 0, Q, T, h, c, y, μ, a, w, e, _, _, _, _ => by cases e
  | k + 1, Q, T, h, c, y, μ, a, w, e, gl, fr, r, hQ => by
    rw [rounds_succ]
    refine seq_ok hf e gl fr r (fun x z a' w' μ' hz f' r' e' hv hh => ?_) hQ
    refine iter_ok hf k Q _ _ _ z μ' a' w' hz (gl.mono e'.le) f' r' (fun a2 w2 μ2 f2 r2 e2 => ?_)
    rw [hv] at f2; rw [hv]
    rw [hh] at r2 e2
    exact hQ a2 w2 μ2 f2 r2 (e'.trans e2)

theorem exec_ok (hm : P.follows .mixedOrders = true) (hc : CallOk P call) (hl : LocCall call) (fuel : Nat) : ∀ (cd : Code) (ac : ACode), trCode P n cd = some ac → CodeOk P n cd (execC call fuel ac) := by
  intro cd
  induction cd with
  | skip =>
    intro ac ht Q T h c y μ a w e gl fr r hQ
    cases ht; cases e
    exact wp_skip (hQ a w μ fr r (Ext.refl _ _ _))
  | ret =>
    intro ac ht Q T h c y μ a w e gl fr r hQ
    cases ht; cases e
    exact wp_ret (hQ a w μ fr r (Ext.refl _ _ _))
  | exit id =>
    intro ac ht Q T h c y μ a w e gl fr r hQ
    cases ht; cases e
    exact wp_exit (hQ a w μ fr r (Ext.refl _ _ _))
  | region id os draw =>
    intro ac ht Q T h c y μ a w e gl fr r hQ
    simp only [trCode] at ht
    split at ht
    · cases ht
    rename_i l hl'
    split at ht
    · rename_i hd
      split at ht
      · rename_i hcond
        rw [Bool.and_eq_true] at hcond
        cases ht
        subst hd
        simp only [execC, C.regD] at e
        unfold C.fin at e
        split at e
        · rename_i s hs
          cases e
          exact drawn_sound hm hc hl hl' hcond.2 hcond.1 hs gl fr r hQ
        · cases e
      · cases ht
    · rename_i hd
      cases ht
      have hd' : draw = false := by simpa using hd
      subst hd'
      simp only [execC, C.reg] at e
      unfold C.fin at e
      split at e
      · rename_i s hs
        cases e
        refine wp_region ?_
        rw [List.range_eq_range']
        exact ops_sound hc os.size 0 l T h c a w μ s (by simp) (by simpa using hl') hs gl r fr hQ
      · cases e
  | seq x y ihx ihy =>
    intro ac ht Q T h c y' μ a w e gl fr r hQ
    simp only [trCode] at ht
    split at ht
    · rename_i a1 a2 h1 h2
      cases ht
      refine wp_seq ?_
      refine seq_ok (ihx a1 h1) e gl fr r (fun x' z a' w' μ' hz f' r' e' hv hh => ?_) hQ
      refine ihy a2 h2 Q _ _ _ z μ' a' w' hz (gl.mono e'.le) f' r' (fun a2 w2 μ2 f2 r2 e2 => ?_)
      rw [hv] at f2; rw [hv]
      rw [hh] at r2 e2
      exact hQ a2 w2 μ2 f2 r2 (e'.trans e2)
    · cases ht
  | cond q x y ihx ihy =>
    intro ac ht Q T h c y' μ a w e gl fr r hQ
    simp only [trCode] at ht
    split at ht
    · rename_i q' a1 a2 hq h1 h2
      cases ht
      simp only [execC, C.cond] at e
      split at e
      · rename_i b hb
        have hv := ev_sound gl fr.t hq hb
        have hv' : a.eval q = .bool b := hv
        refine wp_cond hv' ?_
        cases b
        · simp only [Bool.false_eq_true, if_false]
          exact ihy a2 h2 Q T h c y' μ a w e gl fr r hQ
        · simp only [if_true]
          exact ihx a1 h1 Q T h c y' μ a w e gl fr r hQ
      · cases e
    · cases ht
  | block id b ih =>
    intro ac ht Q T h c y' μ a w e gl fr r hQ
    simp only [trCode] at ht
    split at ht
    · rename_i b' hb
      cases ht
      simp only [execC] at e
      unfold C.block at e
      split at e
      · cases e
      rename_i x hx
      cases e
      refine wp_block ?_
      refine ih b' hb _ T h c x μ a w hx gl fr r (fun a' w' μ' f' r' e' => ?_)
      have hQ' := hQ a' w' μ' f' r' e'
      simp only at hQ'
      cases hv : x.v.1 with
      | normal => rw [hv] at hQ'; exact hQ'
      | ret => rw [hv] at hQ'; exact hQ'
      | exit i =>
        rw [hv] at hQ'
        simp only [C.exitB] at hQ'
        simp only [exOf, Exit.inBlock]
        by_cases hi : i = id
        · subst hi
          rw [Nat.beq_refl] at hQ'
          simp only [if_true]; exact hQ'
        · have : Nat.beq i id = false := by
            cases hb : Nat.beq i id
            · rfl
            · exact (hi (beq_true hb)).elim
          rw [this] at hQ'
          rw [if_neg hi]; exact hQ'
    · cases ht
  | loop b ih =>
    intro ac ht Q T h c y' μ a w e gl fr r hQ
    simp only [trCode] at ht
    split at ht
    · rename_i b' hb
      cases ht
      exact wp_loop_rounds fuel (iter_ok (ih b' hb) fuel Q T h c y' μ a w e gl fr r hQ)
    · cases ht
  | _ => intro ac ht; cases ht

/-! ### What a function hands back -/

theorem load_var_sound {μ : Mu} {h : Hp} {w : World} (r : Rel μ h w) {t : TypeId} {i : TI} (ht : ti P t = some i) {id off : Nat} {x : Value} (hx : V μ (.ptr id off) x) {vs : List AV}
    (hrd : rdCells h id off (if isAggT i.d then i.size else 1) = some vs) : (isAggT i.d = true → ∃ y, ((do loadVar t (← asAddr x) : Sem Value)).run P w = .ok y w ∧ V μ (.agg vs) y) ∧
      (isAggT i.d = false → ∀ v, vs = [v] → ∃ y, ((do loadVar t (← asAddr x) : Sem Value)).run P w = .ok y w ∧ V μ v y) := by
  obtain ⟨q, h1, h2, h3, h4, h5⟩ := ti_spec ht
  obtain ⟨R, base, fin, hm, rfl⟩ := hx
  obtain ⟨R', base', fin', rvs, hm', hvl, hlen, hrun, hcell⟩ := rd_sound P r hrd
  rw [hm] at hm'; cases hm'
  have hag := r_isAgg (w := w) h1
  constructor
  · intro hd
    rw [hd] at hag hrun
    refine ⟨.agg rvs.toArray, ?_, ⟨rvs, rfl, hvl⟩⟩
    simp only [if_true] at hrun
    simp only [asAddr, loadVar, Sem.run_bind, Sem.run_pure, Result.andThen_ok, hag, if_true, r_sizeOf h2, h3, hrun]
  · intro hd v hvs
    subst hvs
    rw [hd] at hag
    obtain ⟨y, rr, rfl, hy, hr⟩ := hvl
    refine ⟨y, ?_, hy⟩
    have := hcell 0 y rfl
    simp only [Nat.add_zero] at this
    simp only [asAddr, loadVar, Sem.run_bind, Sem.run_pure, Result.andThen_ok, hag, Bool.false_eq_true, if_false, run_load, this]

theorem getD_of {tm : Array Value} {t : Nat} {x : Value} (e : tm[t]? = some x) : tm.getD t undef = x := by
  rw [Array.getD_eq_getD_getElem?, e]; rfl

def resF (tm : Array Value) : ResultVar → Sem Value
  | .tmp t => pure (tm.getD t undef)
  | .cell a t => do loadVar t (← asAddr (tm.getD a undef))

theorem result_sound {μ : Mu} {h : Hp} {w : World} {T : Tr AV} {tm : Array Value} (r : Rel μ h w) (t : TR μ T tm) : ∀ (rl : List ResultVar) (l : List ARes) (vs : List AV) (g : Lg), trRes P rl = some l → result T h l = some (vs, g) →
    ∃ rvs, (rl.mapM (resF tm)).run P w = .ok rvs w ∧ VL μ vs rvs
  | [], l, vs, g, ht, e => by cases ht; cases e; exact ⟨[], rfl, rfl⟩
  | .tmp i :: rl, l, vs, g, ht, e => by
    simp only [trRes] at ht
    split at ht
    · rename_i l' hl'
      cases ht
      simp only [result] at e
      split at e
      · cases e
      rename_i v hv
      split at e
      · rename_i vs' g' hr
        cases e
        obtain ⟨rvs, h1, h2⟩ := result_sound r t rl l' vs' g hl' hr
        obtain ⟨x, hx, hvx⟩ := t i v hv
        refine ⟨x :: rvs, ?_, ⟨x, rvs, rfl, hvx, h2⟩⟩
        rw [List.mapM_cons]
        simp only [resF, Sem.run_bind, Sem.run_pure, Result.andThen_ok, getD_of hx]
        simp only [h1, Result.andThen_ok]
      · cases e
    · cases ht
  | .cell i ty :: rl, l, vs, g, ht, e => by
    simp only [trRes] at ht
    split at ht
    · rename_i q l' hq hl'
      cases ht
      simp only [result] at e
      split at e
      case h_2 => cases e
      rename_i id off hv
      obtain ⟨x, hx, hvx⟩ := t i _ hv
      split at e
      · cases e
      rename_i vs1 hrd
      have hrd' : rdCells h id off (if isAggT q.d then q.size else 1) = some vs1 := hrd
      obtain ⟨s1, s2⟩ := load_var_sound r hq hvx hrd'
      split at e
      · cases e
      rename_i vs' g' hr
      obtain ⟨rvs, h1, h2⟩ := result_sound r t rl l' vs' g' hl' hr
      split at e
      · rename_i hag
        cases e
        obtain ⟨y, e1, e2⟩ := s1 hag
        refine ⟨y :: rvs, ?_, ⟨y, rvs, rfl, e2, h2⟩⟩
        rw [List.mapM_cons]
        simp only [Sem.run_bind] at e1
        simp only [resF, Sem.run_bind, Sem.run_pure, Result.andThen_ok, getD_of hx]
        simp only [e1, h1, Result.andThen_ok]
      · rename_i v hag
        cases e
        obtain ⟨y, e1, e2⟩ := s2 hag v rfl
        refine ⟨y :: rvs, ?_, ⟨y, rvs, rfl, e2, h2⟩⟩
        rw [List.mapM_cons]
        simp only [Sem.run_bind] at e1
        simp only [resF, Sem.run_bind, Sem.run_pure, Result.andThen_ok, getD_of hx]
        simp only [e1, h1, Result.andThen_ok]
      · cases e
    · cases ht

theorem results_sound {μ : Mu} {h : Hp} {w : World} {T : Tr AV} {tm : Array Value} (r : Rel μ h w) (t : TR μ T tm) {fn : Func} {l : List ARes} {vs : List AV} {g : Lg} (ht : trRes P fn.results.toList = some l) (e : result T h l = some (vs, g)) :
    ∃ x, (results fn tm).run P w = .ok x w ∧ V μ (one vs) x := by
  obtain ⟨rvs, h1, h2⟩ := result_sound r t _ l vs g ht e
  have : results fn tm = (do let vs ← fn.results.mapM (resF tm); pure (if h : vs.size = 1 then vs[0] else .tuple vs)) := by
    unfold results; congr 1
  rw [this]
  rw [Sem.run_bind, Array.mapM_eq_mapM_toList, Sem.run_map, h1]
  simp only [Result.andThen_ok, Sem.run_pure]
  refine ⟨_, rfl, ?_⟩
  cases vs with
  | nil => cases h2; exact ⟨[], rfl, rfl⟩
  | cons v vs =>
    obtain ⟨x, rr, rfl, hx, hr⟩ := h2
    cases vs with
    | nil => cases hr; exact hx
    | cons v2 vs =>
      obtain ⟨x2, rr2, rfl, hx2, hr2⟩ := hr
      exact ⟨x :: x2 :: rr2, by simp, x, _, rfl, hx, x2, _, rfl, hx2, hr2⟩

theorem enterT_sound {μ : Mu} : ∀ (l : List AV) (rl : List Value) (i : Nat) (T : Tr AV) (tm : Array Value), VL μ l rl → TR μ T tm → (∀ j x, rl[j]? = some x → tm[i + j]? = some x) → TR μ (enterT l i T) tm
  | [], rl, i, T, tm, _, t, _ => t
  | v :: l, rl, i, T, tm, hv, t, hj => by
    obtain ⟨x, r, rfl, hx, hr⟩ := hv
    refine enterT_sound l r (i + 1) _ tm hr ?_ (fun j y hy => ?_)
    · intro s u hs
      rw [Tr.get_set] at hs
      split at hs
      · rename_i q; cases hs; subst q; exact ⟨x, by simpa using hj 0 x rfl, hx⟩
      · exact t s u hs
    · have := hj (j + 1) y (by simpa using hy)
      rw [show i + 1 + j = i + (j + 1) from by omega]; exact this

theorem enter_sound (hm : P.follows .mixedOrders = true) (hc : CallOk P call) (hl : LocCall call) (fuel : Nat) {f : Nat} {func : Func} {fn : AFn} (hf : P.funcs[f]? = some func) (ht : trFn P func = some fn) {args : List AV} {h : Hp} {c : Nat} {o : Out AV} (e : enter call fuel fn args h c = some o) : Spec P f args h o := by
  intro μ w rargs gl r hv
  unfold trFn at ht
  split at ht
  · cases ht
  rename_i cd hcd
  split at ht
  case h_2 => cases ht
  rename_i b rs hb hrs
  cases ht
  unfold enter at e
  split at e
  · cases e
  rename_i x hx
  refine calls_of_wp hf hcd ?_
  refine exec_ok (n := func.ntmps) hm hc hl fuel cd b hb _ _ h c x μ _ w hx gl ?_ r ?_
  · refine ⟨?_, by simp; omega, rfl⟩
    refine enterT_sound args rargs 0 .nil _ hv (fun s v q => by rw [Tr.get_nil] at q; cases q) (fun j y hy => ?_)
    have : j < rargs.length := (List.getElem?_eq_some_iff.1 hy).1
    simp only [Nat.zero_add]
    rw [Array.getElem?_append_left (by simpa using this)]
    simpa using hy
  · intro a' w' μ' f' r' e'
    have fin : ∀ vs g, result x.v.2 x.h rs = some (vs, g) → o.v = one vs → o.h = x.h → ∃ v, (results func a'.tmps).run P w' = .ok v w' ∧ ∃ y μ', Ending.returned v = .returned y ∧ V μ' o.v y ∧ Rel μ' o.h w' ∧ Ext μ h w μ' o.h w' := by
      intro vs g hr q1 q2
      obtain ⟨y, h1, h2⟩ := results_sound r' f'.t hrs hr
      refine ⟨y, h1, y, μ', rfl, by rw [q1]; exact h2, by rw [q2]; exact r', by rw [q2]; exact e'⟩
    split at e
    · cases e
    rename_i hnx
    split at e
    case h_2 => cases e
    rename_i vs g hr
    cases e
    cases hx1 : x.v.1 with
    | normal => exact ⟨f'.d, fin vs g hr rfl rfl⟩
    | ret => exact ⟨f'.d, fin vs g hr rfl rfl⟩
    | exit id => exact (hnx id hx1).elim

/-- A table of functions is the program's. -/
def TableOk (P : Program) (tb : Nat → Option AFn) : Prop := ∀ f fn, tb f = some fn → ∃ func, P.funcs[f]? = some func ∧ trFn P func = some fn ∧ callable P f = true

theorem run_ok (hm : P.follows .mixedOrders = true) {tb : Nat → Option AFn} (ht : TableOk P tb) : ∀ k, CallOk P (run tb k)
  | 0 => fun f args h c o e => by cases e
  | k + 1 => fun f args h c o e => by
    simp only [run] at e
    split at e
    · rename_i fn hfn
      obtain ⟨func, h1, h2, h3⟩ := ht f fn hfn
      exact ⟨h3, enter_sound hm (run_ok hm ht k) (LocCall.run tb k) k h1 h2 e⟩
    · cases e

/-- What the abstract machine says of a call holds of the model's. -/
theorem run_sound (hm : P.follows .mixedOrders = true) {tb : Nat → Option AFn} (ht : TableOk P tb) {k f : Nat} {args : List AV} {h : Hp} {c : Nat} {o : Out AV} (e : run tb k f args h c = some o) : Spec P f args h o := (run_ok hm ht k f args h c o e).2

/-! ### A table out of a list -/

def EntryOk (P : Program) (i : Nat) (fn : AFn) : Prop := ∃ func, P.funcs[i]? = some func ∧ trFn P func = some fn ∧ callable P i = true

def AllOk (P : Program) : List (Nat × AFn) → Prop
  | [] => True
  | p :: r => EntryOk P p.1 p.2 ∧ AllOk P r

def ofL : List (Nat × AFn) → Tr AFn
  | [] => .nil
  | p :: r => (ofL r).set p.2 p.1

theorem ofL_ok {P : Program} : ∀ {l : List (Nat × AFn)}, AllOk P l → ∀ i fn, (ofL l).get i = some fn → EntryOk P i fn
  | [], _, i, fn, h => by simp only [ofL, Tr.get_nil] at h; cases h
  | p :: r, ok, i, fn, h => by
    simp only [ofL, Tr.get_set] at h
    split at h
    · rename_i e; cases h; subst e; exact ok.1
    · exact ofL_ok ok.2 i fn h

theorem tableOk_of {P : Program} {l : List (Nat × AFn)} {t : Tr AFn} (e : ofL l = t) (ok : AllOk P l) : TableOk P (fun n => t.get n) := by
  intro f fn h
  rw [← e] at h
  exact ofL_ok ok f fn h
end
end Go.Am
