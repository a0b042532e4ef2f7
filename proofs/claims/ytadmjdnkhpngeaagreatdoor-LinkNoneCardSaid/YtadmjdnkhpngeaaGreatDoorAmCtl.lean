/-
  One step of a region, calls too; regions in the order of the text.
-/
import Derived.Test.YtadmjdnkhpngeaaGreatDoorAmOp
import Derived.Test.YtadmjdnkhpngeaaGreatDoorAmLoc2
import Derived.Orders
namespace Go.Am

/-- What a call of a function comes to. -/
def Spec (P : Program) (f : Nat) (args : List AV) (h : Hp) (o : Out AV) : Prop :=
  ∀ μ w (rargs : List Value), Glob P μ → Rel μ h w → VL μ args rargs →
    Calls P f rargs.toArray w fun e w' => ∃ x μ', e = .returned x ∧ V μ' o.v x ∧ Rel μ' o.h w' ∧ Ext μ h w μ' o.h w'

def CallOk (P : Program) (call : CallF) : Prop := ∀ f args h c o, call f args h c = some o → callable P f = true ∧ Spec P f args h o

/-- A frame. -/
structure FR (μ : Mu) (T : Tr AV) (n : Nat) (a : Act) : Prop where
  t : TR μ T a.tmps
  n : n ≤ a.tmps.size
  d : a.defers = []

theorem FR.mono {μ ν : Mu} {T : Tr AV} {n : Nat} {a : Act} (f : FR μ T n a) (h : Mu.le μ ν) : FR ν T n a := ⟨f.t.mono h, f.n, f.d⟩

theorem FR.put {μ : Mu} {T : Tr AV} {n : Nat} {a : Act} (f : FR μ T n a) {d : Option Nat} (hd : d.all (· < n) = true) {v : AV} {x : Value} (hv : V μ v x) : FR μ (putT T d v) n (a.put d x) := by
  cases d with
  | none => exact f
  | some d =>
    have hd' : d < n := by simpa using hd
    exact ⟨f.t.put (Nat.lt_of_lt_of_le hd' f.n) hv, by simp [Act.put]; exact f.n, f.d⟩

/-- The value of a step, and all else. -/
def stepV (call : CallF) (o : AOp) (T : Tr AV) (h : Hp) (c : Nat) : Option (Out AV) :=
  match wantedF T o.guard with
  | some true => op2 call T h c o.k
  | some false => some ⟨.tup [], h, c, .e⟩
  | none => none

theorem stepO_eq (call : CallF) (o : AOp) (T : Tr AV) (h : Hp) (c : Nat) : stepO call o T h c = (match stepV call o T h c with | some r => some ⟨putT T o.dst r.v, r.h, r.c, r.l⟩ | none => none) := by
  unfold stepO stepV
  rcases wantedF T o.guard with _ | _ | _ <;> rfl

section
variable {P : Program} {Q : Exit → Act → World → Prop} {μ : Mu} {h : Hp} {w : World} {T : Tr AV} {a : Act} {n : Nat} {call : CallF}

theorem trOper_inv {os : Array Oper} {o : Oper} {o' : AOp} (e : trOper P os n o = some o') : trK P o.op = some o'.k ∧ trGuard os o.guard = some o'.guard ∧ o'.dst = o.dst ∧ o.dst.all (· < n) = true := by
  unfold trOper at e
  split at e
  · rename_i k g hk hg
    split at e
    · rename_i hd; cases e; exact ⟨hk, hg, rfl, hd⟩
    · cases e
  · cases e

theorem wanted_sound {os : Array Oper} {o : Oper} {g : Option (Nat × Bool)} (hg : trGuard os o.guard = some g) (t : TR μ T a.tmps) {b : Bool} (hw : wantedF T g = some b) : Region.wanted o (yielded os a.tmps) = b := by
  unfold Region.wanted
  cases ho : o.guard with
  | none => rw [ho] at hg; cases hg; cases hw; rfl
  | some jb =>
    obtain ⟨j, b'⟩ := jb
    rw [ho] at hg
    simp only [trGuard] at hg
    split at hg
    · rename_i d hd
      cases hg
      simp only [wantedF] at hw
      simp only [yielded, hd, Option.bind_some]
      split at hw
      · rename_i x hx
        cases hw
        obtain ⟨v, e, rfl⟩ := t d _ hx
        rw [e]
        cases x <;> cases b' <;> rfl
      · rename_i v hv hx
        cases hw
        obtain ⟨x, e, q⟩ := t d _ hx
        rw [e]
        have : ∀ y, x ≠ .bool y := fun y e => by
          subst e
          cases v <;> first
            | (cases q; done)
            | (cases q; exact hv _ rfl)
            | (obtain ⟨_, _, _, _, q⟩ := q; cases q; done)
            | (obtain ⟨_, q, _⟩ := q; cases q; done)
            | (obtain ⟨_, _, _, _, _, _, q, _⟩ := q; cases q; done)
        cases x <;> first
          | exact (this _ rfl).elim
          | rfl
      · cases hw
    · cases hg

theorem builtin_noF {b : Builtin} {ts : Array TypeId} {l : List Opd} {k : AK} (h : trBuiltin P b ts l = some k) : (∀ f as, k ≠ .callF f as) ∧ (∀ x as, k ≠ .callV x as) := by
  unfold trBuiltin at h
  repeat' (split at h <;> first | (cases h; done) | skip)
  all_goals (cases h; exact ⟨fun _ _ e => (by cases e), fun _ _ e => (by cases e)⟩)

theorem trK_call {op : Op} {k : AK} (h : trK P op = some k) : ((∀ f as, k ≠ .callF f as) ∧ (∀ x as, k ≠ .callV x as)) ∨
    (∃ f as args ts, op = .call ⟨.value (.func f), args, ts⟩ ∧ k = .callF f as ∧ callable P f = true ∧ trOpds P args.toList = some as) ∨
    (∃ t as args ts, op = .call ⟨.value (.tmp t), args, ts⟩ ∧ k = .callV (.tmp t) as ∧ trOpds P args.toList = some as) := by
  have no : ∀ {k' : AK}, some k' = some k → ((∀ f as, k' ≠ .callF f as) ∧ (∀ x as, k' ≠ .callV x as)) → ((∀ f as, k ≠ .callF f as) ∧ (∀ x as, k ≠ .callV x as)) := fun e h => by cases e; exact h
  cases op with
  | call cl =>
    obtain ⟨callee, args, ts⟩ := cl
    cases callee with
    | value fo =>
      cases fo with
      | func fi =>
        simp only [trK] at h
        split at h
        case isFalse => cases h
        rename_i hcl
        split at h <;> cases h
        rename_i hl
        exact .inr (.inl ⟨_, _, _, _, rfl, rfl, hcl, hl⟩)
      | tmp t =>
        simp only [trK] at h
        split at h <;> cases h
        rename_i hl
        exact .inr (.inr ⟨_, _, _, _, rfl, rfl, hl⟩)
      | _ => simp [trK] at h
    | invoke _ _ => simp [trK] at h
    | builtin b =>
      simp only [trK] at h
      split at h
      · exact .inl (builtin_noF h)
      · cases h
  | makeFunc fn _ _ =>
    cases fn <;> simp only [trK] at h <;> try (cases h; done)
    repeat' (split at h <;> first | (cases h; done) | skip)
    all_goals exact .inl (no h ⟨fun _ _ e => (by cases e), fun _ _ e => (by cases e)⟩)
  | slice _ _ _ _ mx =>
    cases mx <;> simp only [trK] at h <;> try (cases h; done)
    repeat' (split at h <;> first | (cases h; done) | skip)
    all_goals exact .inl (no h ⟨fun _ _ e => (by cases e), fun _ _ e => (by cases e)⟩)
  | next _ b =>
    cases b <;> simp only [trK] at h <;> try (cases h; done)
    repeat' (split at h <;> first | (cases h; done) | skip)
    all_goals exact .inl (no h ⟨fun _ _ e => (by cases e), fun _ _ e => (by cases e)⟩)
  | _ =>
    simp only [trK] at h
    first
      | (cases h; done)
      | (repeat' (split at h <;> first | (cases h; done) | skip)
         all_goals exact .inl (no h ⟨fun _ _ e => (by cases e), fun _ _ e => (by cases e)⟩))
      | exact .inl (no h ⟨fun _ _ e => (by cases e), fun _ _ e => (by cases e)⟩)

theorem callable_inv {f : Nat} (h : callable P f = true) : ∃ fn, P.funcs[f]? = some fn ∧ fn.body.isNone = false ∧ (fn.name == "runtime.NumGoroutine") = false := by
  unfold callable at h
  split at h
  · rename_i fn hfn
    rw [Bool.and_eq_true] at h
    refine ⟨fn, hfn, ?_, ?_⟩
    · cases hb : fn.body with
      | none => rw [hb] at h; simp at h
      | some b => rfl
    · have := h.2; simpa using this
  · cases h

theorem callFunc_run {f : Nat} {fn : Func} (e1 : P.funcs[f]? = some fn) (e2 : fn.body.isNone = false) (e3 : (fn.name == "runtime.NumGoroutine") = false) (args : Array Value) : (callFunc f args).run P w = .ok (.enter f args) w := by
  simp only [callFunc, Sem.run_bind, run_program, Result.andThen_ok, e1, e2, e3, Bool.false_eq_true, if_false, Sem.run_pure]

/-- One step. -/
theorem stepV_sound (hc : CallOk P call) (g : Glob P μ) (r : Rel μ h w) {os : Array Oper} {i : Nat} {o : Oper} {o' : AOp} (hi : os[i]? = some o) (ho : trOper P os n o = some o') (f : FR μ T n a) {c : Nat} {x : Out AV}
    (hx : stepV call o' T h c = some x) {K : Act → World → Prop} (hK : ∀ a' w' μ', FR μ' (putT T o'.dst x.v) n a' → Rel μ' x.h w' → Ext μ h w μ' x.h w' → K a' w') : wpOp P os Q i K a w := by
  obtain ⟨hk, hg, hd, hdn⟩ := trOper_inv ho
  unfold stepV at hx
  unfold wpOp
  rw [hi]
  simp only
  split at hx
  · rename_i hw
    rw [wanted_sound hg f.t hw]
    simp only [if_true]
    refine .inl ?_
    have fin : ∀ (nx : Next) (w' : World) (μ' : Mu), (execOp a.eval o).run P w = .ok nx w' → NV μ' x.v nx → Rel μ' x.h w' → Ext μ h w μ' x.h w' → o.wp P a w K Q := by
      intro nx w' μ' e hv hr he
      unfold Oper.wp
      rw [e]
      rcases hv with ⟨y, rfl, hy⟩ | ⟨rfl, hy⟩
      · rw [Oper.upon_value]
        refine hK _ _ μ' ?_ hr he
        rw [hd]
        exact (f.mono he.le).put hdn hy
      · rw [Oper.upon_skip]
        refine hK _ _ μ' ?_ hr he
        rw [hd, hy]
        exact (f.mono he.le).put hdn (x := undef) ⟨[], rfl, rfl⟩
    have viaCall : ∀ (fid : Nat) (args : List AV) (rargs : List Value), (execOp a.eval o).run P w = .ok (.enter fid rargs.toArray) w → VL μ args rargs → call fid args h c = some x → o.wp P a w K Q := by
      intro fid args rargs e hv hcall
      unfold Oper.wp
      rw [e, Oper.upon_enter]
      refine ((hc fid args h c x hcall).2 μ w rargs g r hv).mono ?_
      rintro e w' ⟨y, μ', rfl, hy, hr, he⟩
      refine hK _ _ μ' ?_ hr he
      rw [hd]
      exact (f.mono he.le).put hdn hy
    have pure : ∀ (_ : ∀ fid as, o'.k ≠ .callF fid as) (_ : ∀ y as, o'.k ≠ .callV y as), o.wp P a w K Q := by
      intro n1 n2
      have h1 : op1 T h c o'.k = some x := by
        cases hkk : o'.k <;> rw [hkk] at hx <;> first
          | exact (n1 _ _ hkk).elim
          | exact (n2 _ _ hkk).elim
          | exact hx
      obtain ⟨nx, w', μ', e, hv, hr, he⟩ := op_pure_sound g f.t r hk h1
      exact fin nx w' μ' e hv hr he
    obtain ⟨dst, op, type, pos, after, guard⟩ := o
    rcases trK_call hk with hn | ⟨fid, as, args, ts, rfl, hkk, hcl, hl'⟩ | ⟨t', as, args, ts, rfl, hkk, hl'⟩
    · exact pure hn.1 hn.2
    · rw [hkk] at hx
      simp only [op2] at hx
      split at hx
      · rename_i l hl
        have hv := evs_sound g f.t hl' hl
        refine viaCall fid l _ ?_ hv hx
        obtain ⟨fn, e1, e2, e3⟩ := callable_inv hcl
        have : (args.toList.map a.eval).toArray = args.map a.eval := by apply Array.ext'; simp
        rw [this]
        have hcf := callFunc_run (P := P) (w := w) e1 e2 e3 (args.map a.eval)
        simp only [execOp, resolve, Deferred.ofValue, Act.eval, Sem.run_bind, Sem.run_pure, Result.andThen_ok, invoke]
        rw [show (#[] : Array Value) ++ args.map a.eval ++ #[] = args.map a.eval from by simp]
        exact hcf
      · cases hx
    · rw [hkk] at hx
      simp only [op2] at hx
      split at hx
      · rename_i fid cap l hy hl
        have hv := evs_sound g f.t hl' hl
        have hf := ev_sound (x := .tmp t') g f.t rfl hy
        obtain ⟨vs, e0, hcap⟩ := hf
        refine viaCall fid (l ++ cap) (args.toList.map a.eval ++ vs) ?_ (VL_append hv hcap) hx
        obtain ⟨fn, e1, e2, e3⟩ := callable_inv (hc _ _ _ _ _ hx).1
        have hcf := callFunc_run (P := P) (w := w) e1 e2 e3 ((args.toList.map a.eval ++ vs).toArray)
        simp only [execOp, resolve, Deferred.ofValue, e0, Sem.run_bind, Sem.run_pure, Result.andThen_ok, invoke]
        rw [show (#[] : Array Value) ++ args.map a.eval ++ vs.toArray = (args.toList.map a.eval ++ vs).toArray from by apply Array.ext'; simp]
        exact hcf
      · cases hx
  · rename_i hw
    cases hx
    rw [wanted_sound hg f.t hw]
    simp only [Bool.false_eq_true, if_false]
    refine hK _ _ μ ?_ r (Ext.refl _ _ _)
    rw [hd]
    exact f.put hdn (x := undef) ⟨[], rfl, rfl⟩
  · cases hx

/-- The operations of a region, in the order of the text. -/
theorem ops_sound (hc : CallOk P call) {os : Array Oper} : ∀ (m i : Nat) (l : List AOp) (T : Tr AV) (h : Hp) (c : Nat) (a : Act) (w : World) (μ : Mu) (y : Out (Tr AV)),
    i + m = os.size → trOpers P os n (os.toList.drop i) = some l → ops call l T h c = some y → Glob P μ → Rel μ h w → FR μ T n a →
    (∀ a' w' μ', FR μ' y.v n a' → Rel μ' y.h w' → Ext μ h w μ' y.h w' → Q .normal a' w') → wpOps P os Q (List.range' i m) a w := by
  intro m
  induction m with
  | zero =>
    intro i l T h c a w μ y hi hl hy g r f hQ
    rw [List.drop_of_length_le (by simp; omega)] at hl
    cases hl; cases hy
    exact hQ a w μ f r (Ext.refl _ _ _)
  | succ m ih =>
    intro i l T h c a w μ y hi hl hy g r f hQ
    have hlt : i < os.size := by omega
    rw [List.drop_eq_getElem_cons (by simpa using hlt)] at hl
    simp only [trOpers] at hl
    split at hl
    · rename_i o' ho
      split at hl
      · rename_i l' hl'
        cases hl
        simp only [ops] at hy
        split at hy
        · rename_i x hx
          rw [stepO_eq] at hx
          split at hx
          · rename_i v hv
            cases hx
            unfold addL at hy
            split at hy
            · rename_i s hs
              cases hy
              rw [List.range'_succ, wpOps_cons]
              refine stepV_sound hc g r (by rw [Array.getElem?_eq_getElem hlt]; rfl) ho f hv (fun a' w' μ' f' r' e' => ?_)
              exact ih (i + 1) l' _ _ _ a' w' μ' s (by omega) hl' hs (g.mono e'.le) r' f' (fun a2 w2 μ2 f2 r2 e2 => hQ a2 w2 μ2 f2 r2 (e'.trans e2))
            · cases hy
          · cases hx
        · cases hy
      · cases hl
    · cases hl

end
end Go.Am
