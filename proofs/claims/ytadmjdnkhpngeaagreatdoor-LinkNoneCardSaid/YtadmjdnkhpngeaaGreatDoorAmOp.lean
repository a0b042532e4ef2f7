/-
  Each operation of the abstract machine stands for the model's: all together.
-/
import Derived.Test.YtadmjdnkhpngeaaGreatDoorAmOps8
import Derived.Calls
namespace Go.Am
section
variable {P : Program} {μ : Mu} {h : Hp} {w : World} {c : Nat} {T : Tr AV} {a : Act}

/-- What an operation gives. -/
def NV (μ : Mu) (v : AV) (n : Next) : Prop := (∃ x, n = .value x ∧ V μ v x) ∨ (n = .skip ∧ v = .tup [])

def Did (P : Program) (μ : Mu) (h : Hp) (w : World) (s : Sem Next) (o : Out AV) : Prop :=
  ∃ n w' μ', s.run P w = .ok n w' ∧ NV μ' o.v n ∧ Rel μ' o.h w' ∧ Ext μ h w μ' o.h w'

theorem Did.of_fine {s : Sem Value} {o : Out AV} (f : Fine P μ h w s o) : Did P μ h w (do pure (.value (← s))) o := by
  obtain ⟨x, w', μ', e, v, r, q⟩ := f
  exact ⟨.value x, w', μ', by simp only [Sem.run_bind, e, Result.andThen_ok, Sem.run_pure], .inl ⟨x, rfl, v⟩, r, q⟩

theorem Did.of_unit {s : Sem Unit} {o : Out AV} (f : ∃ w', s.run P w = .ok () w' ∧ Rel μ o.h w' ∧ Ext μ h w μ o.h w') (hv : o.v = .tup []) : Did P μ h w (do s; pure .skip) o := by
  obtain ⟨w', e, r, q⟩ := f
  exact ⟨.skip, w', μ, by simp only [Sem.run_bind, e, Result.andThen_ok, Sem.run_pure], .inr ⟨rfl, hv⟩, r, q⟩

theorem trO_sound (g : Glob P μ) (t : TR μ T a.tmps) {x : Option Operand} {o : Option Opd} (hx : trO P x = some o) {v : Option AV} (he : evo T o = some v) : VOpt μ v (x.map a.eval) := by
  cases x with
  | none => cases hx; cases he; exact .inl ⟨rfl, rfl⟩
  | some x =>
    simp only [trO] at hx
    split at hx
    · rename_i u hu; cases hx
      simp only [evo] at he
      split at he
      · rename_i y hy; cases he
        exact .inr ⟨y, _, rfl, rfl, ev_sound g t hu hy⟩
      · cases he
    · cases hx

theorem eqGuard_ok {op : BinOp} {t : TypeId} {x y : Operand} {u v : Value} (h1 : ¬ (u = .nilIface ∧ v = .nilIface)) (h2 : (∀ l m, ¬ (u = .agg l ∧ v = .agg m)) ∨ P.eqGuardType P.depth t = false) : (eqGuard op t x y u v).run P w = .ok () w := by
  have key : ∀ b : Bool, (match u, v with
      | .nilIface, .nilIface => if (x matches .const _) || (y matches .const _) then (pure () : Sem Unit) else do
          if ← Op.eqGuardIn Op.maxDepth t u v then unsupported (.noEntry "binop/eql: two nil values of an interface type with methods, neither of them the literal nil")
      | .agg _, .agg _ => do
        if !(← program).eqGuardType (← program).depth t then return
        if ← Op.eqGuardIn Op.maxDepth t u v then unsupported (.noEntry "binop/eql: two nil values of an interface type with methods, in a part of a struct or an array")
      | _, _ => pure ()).run P w = .ok () w := by
    intro _
    split
    · exact (h1 ⟨rfl, rfl⟩).elim
    · rename_i l m
      rcases h2 with h2 | h2
      · exact (h2 l m ⟨rfl, rfl⟩).elim
      · simp [h2]
    · rfl
  cases op <;> first
    | rfl
    | exact key true

theorem beqo {a b : Nat} (h : (Nat.beq a b) = true) : a = b := beq_true h

theorem V_ints {k : IntKind} {n : Int} {x : Value} (h : V μ (.int k n) x) : x = .int k n := h

theorem one_arg {xs : List Operand} {x' : Opd} (h : trOpds P xs = some [x']) : ∃ x, xs = [x] ∧ trOpd P x = some x' := by
  cases xs with
  | nil => cases h
  | cons x r =>
    simp only [trOpds] at h
    split at h
    · rename_i o ho
      split at h
      · rename_i m hm
        cases h
        cases r with
        | nil => exact ⟨x, rfl, ho⟩
        | cons y r =>
          simp only [trOpds] at hm
          split at hm
          · split at hm <;> cases hm
          · cases hm
      · cases h
    · cases h

theorem two_args {xs : List Operand} {x' y' : Opd} (h : trOpds P xs = some [x', y']) : ∃ x y, xs = [x, y] ∧ trOpd P x = some x' ∧ trOpd P y = some y' := by
  cases xs with
  | nil => cases h
  | cons x r =>
    simp only [trOpds] at h
    split at h
    · rename_i o ho
      split at h
      · rename_i m hm
        cases h
        obtain ⟨y, rfl, hy⟩ := one_arg hm
        exact ⟨x, y, rfl, ho, hy⟩
      · cases h
    · cases h

theorem map1 (x : Operand) : (#[x] : Array Operand).map a.eval = #[a.eval x] := by simp
theorem map2 (x y : Operand) : (#[x, y] : Array Operand).map a.eval = #[a.eval x, a.eval y] := by simp

theorem Did.of_builtin {b : Builtin} {ts : Array TypeId} {args : Array Operand} {dst : Option Nat} {type : TypeId} {pos : String} {after : Array Edge} {guard : Option (Nat × Bool)} {o : Out AV} {s : Sem Value}
    (hb : ∀ cs, builtin b ts type cs (args.map a.eval) = (do pure (.value (← s)))) (f : Fine P μ h w s o) : Did P μ h w (execOp a.eval ⟨dst, .call ⟨.builtin b, args, ts⟩, type, pos, after, guard⟩) o := by
  obtain ⟨n, w', μ', e, q⟩ := Did.of_fine f
  refine ⟨n, w', μ', ?_, q⟩
  rw [← e]
  simp only [execOp, resolve, Sem.run_bind, Sem.run_pure, Result.andThen_ok, invoke, hb]

set_option maxHeartbeats 1000000 in
theorem builtin_sound (g : Glob P μ) (t : TR μ T a.tmps) (r : Rel μ h w) {b : Builtin} {ts : Array TypeId} {args : Array Operand} {dst : Option Nat} {type : TypeId} {pos : String} {after : Array Edge} {guard : Option (Nat × Bool)} {l : List Opd} {k : AK}
    (hl : trOpds P args.toList = some l) (hk : trBuiltin P b ts l = some k) {out : Out AV} (he : op1 T h c k = some out) : Did P μ h w (execOp a.eval ⟨dst, .call ⟨.builtin b, args, ts⟩, type, pos, after, guard⟩) out := by
  unfold trBuiltin at hk
  split at hk
  · -- len
    rename_i x'
    obtain ⟨x, hx, hx'⟩ := one_arg hl
    have hargs : args = #[x] := Array.ext' hx
    subst hargs
    split at hk
    case h_2 => cases hk
    rename_i t0 ht0
    have key : ∀ (ek : EK) (d : TypeDesc), P.underlying t0 = some d → ekOf d = some ek → AK.len ek x' = k → Did P μ h w (execOp a.eval ⟨dst, .call ⟨.builtin .len, #[x], ts⟩, type, pos, after, guard⟩) out := by
      intro ek d hd hek e
      subst e
      simp only [op1, O.len] at he
      split at he <;> cases he
      all_goals
        rename_i hv
        exact Did.of_builtin (s := Builtin.len_ ts type #[a.eval x]) (fun _ => by rw [map1]; rfl) (len_sound ht0 r hd hek (ev_sound g t hx' hv) rfl)
    split at hk <;> cases hk
    · rename_i hd; exact key .str _ hd rfl rfl
    · rename_i e hd; exact key .slice _ hd rfl rfl
  · -- cap
    rename_i x'
    obtain ⟨x, hx, hx'⟩ := one_arg hl
    have hargs : args = #[x] := Array.ext' hx
    subst hargs
    split at hk
    case h_2 => cases hk
    rename_i t0 ht0
    split at hk <;> cases hk
    rename_i e hd
    simp only [op1, O.cap] at he
    split at he <;> cases he
    rename_i hv
    exact Did.of_builtin (s := Builtin.cap_ ts type #[a.eval x]) (fun _ => by rw [map1]; rfl) (cap_sound ht0 r hd (ev_sound g t hx' hv))
  · -- append
    rename_i x' y'
    obtain ⟨x, y, hx, hx', hy'⟩ := two_args hl
    have hargs : args = #[x, y] := Array.ext' hx
    subst hargs
    split at hk
    case h_2 => cases hk
    rename_i t0 u0 ht0 hu0
    split at hk
    · rename_i e kk hd hu
      split at hk
      case h_2 => cases hk
      rename_i i hi
      split at hk
      case h_2 => cases hk
      rename_i z hz
      split at hk <;> cases hk
      rename_i hzl
      simp only [op1, O.appendZ] at he
      split at he
      · rename_i v k0 n hv hn
        cases hb : Nat.ble (n * (i.bytes + i.size + 1)) maxStr
        · rw [hb] at he; cases he
        rw [hb] at he
        exact Did.of_builtin (s := Builtin.append_ ts type #[a.eval x, a.eval y]) (fun _ => by rw [map2]; rfl)
          (appendZ_sound ht0 hu0 r hd hi hz hzl hu (ev_sound g t hx' hv) (ev_sound g t hy' hn) (Nat.le_of_ble_eq_true hb) he)
      · cases he
    · rename_i e du hne hd hu
      split at hk
      case h_2 => cases hk
      rename_i i hi
      split at hk
      case h_2 => cases hk
      rename_i zv hz
      split at hk <;> cases hk
      rename_i hzs
      simp only [op1, O.append] at he
      split at he
      · cases he
      · rename_i n new lg hsrc
        split at he
        · rename_i v hv
          cases hy : ev T y' with
          | none => rw [hy] at hsrc; cases hsrc
          | some vy =>
            rw [hy] at hsrc
            refine Did.of_builtin (s := Builtin.append_ ts type #[a.eval x, a.eval y]) (fun _ => by rw [map2]; rfl)
              (append_sound ht0 hu0 r hd hi hz hzs hu (fun kk e => hne _ e) (ev_sound g t hx' hv) (ev_sound g t hy' hy) (b := vy) (n := n) (new := new) (lg := lg) ?_ he)
            cases vy <;> exact hsrc
        · cases he
    · cases hk
  · -- copy
    rename_i x' y'
    obtain ⟨x, y, hx, hx', hy'⟩ := two_args hl
    have hargs : args = #[x, y] := Array.ext' hx
    subst hargs
    split at hk
    case h_2 => cases hk
    rename_i t0 ht0
    split at hk
    case h_2 => cases hk
    rename_i e hd
    split at hk <;> cases hk
    rename_i i hi
    obtain ⟨q, h1, h2, h3, h4, h5⟩ := ti_spec hi
    refine Did.of_builtin (s := Builtin.copy_ ts type #[a.eval x, a.eval y]) (fun _ => by rw [map2]; rfl) ?_
    simp only [op1, O.copy] at he
    split at he
    · rename_i vx vy hvx hvy
      rw [← h3] at he
      exact copyF_sound ht0 r hd h2 (ev_sound g t hx' hvx) (ev_sound g t hy' hvy) he
    · cases he
  · -- min
    rename_i xs
    cases hk
    simp only [op1, O.min] at he
    split at he
    · rename_i kk n rest hvs
      split at he <;> cases he
      rename_i v hv
      have hvl := evs_sound g t hl hvs
      obtain ⟨X, rs, e1, e2, e3⟩ := hvl
      cases e2
      refine Did.of_builtin (s := Builtin.min_ ts type (args.map a.eval)) (fun _ => rfl) (Fine.pure r (x := .int kk v) ?_ rfl)
      have : (args.map a.eval).toList = .int kk n :: rs := by rw [Array.toList_map]; exact e1
      simp only [Builtin.min_, this]
      exact minmax_sound false rest rs kk n v hv e3
    · cases he
  · -- max
    rename_i xs
    cases hk
    simp only [op1, O.max] at he
    split at he
    · rename_i kk n rest hvs
      split at he <;> cases he
      rename_i v hv
      have hvl := evs_sound g t hl hvs
      obtain ⟨X, rs, e1, e2, e3⟩ := hvl
      cases e2
      refine Did.of_builtin (s := Builtin.max_ ts type (args.map a.eval)) (fun _ => rfl) (Fine.pure r (x := .int kk v) ?_ rfl)
      have : (args.map a.eval).toList = .int kk n :: rs := by rw [Array.toList_map]; exact e1
      simp only [Builtin.max_, this]
      exact minmax_sound true rest rs kk n v hv e3
    · cases he
  · -- clear
    rename_i x'
    obtain ⟨x, hx, hx'⟩ := one_arg hl
    have hargs : args = #[x] := Array.ext' hx
    subst hargs
    split at hk
    case h_2 => cases hk
    rename_i t0 ht0
    split at hk
    case h_2 => cases hk
    rename_i e hd
    split at hk
    case h_2 => cases hk
    rename_i i hi
    split at hk <;> cases hk
    rename_i z hz
    obtain ⟨q, h1, h2, h3, h4, h5⟩ := ti_spec hi
    obtain ⟨zv, hv, hl'⟩ := zeroC_spec hz μ
    refine Did.of_builtin (s := Builtin.clear_ ts type #[a.eval x]) (fun _ => by rw [map1]; rfl) ?_
    simp only [op1, O.clear] at he
    split at he
    · rename_i hvx; cases he
      have ex := ev_sound g t hx' hvx
      rw [show a.eval x = .slice none 0 0 from ex]
      exact Fine.pure r (x := .tuple #[]) (clear_nil ht0 hd) ⟨[], rfl, rfl⟩
    · rename_i id off n sz' hvx
      have ex := ev_sound g t hx' hvx
      obtain ⟨R, base, fin, y, rc, hm, e1, g1, g2, g3, g4⟩ := ex
      rw [e1]
      cases hn : Nat.beq n 0
      · rw [hn] at he
        simp only [cond_false] at he
        cases hs : Nat.beq i.size sz'
        · rw [hs] at he; cases he
        rw [hs] at he
        simp only [cond_true] at he
        split at he <;> cases he
        rename_i h' hh
        have hn0 := beq_false hn
        obtain ⟨R', base', fin', w', hm', hrun, hr, hx⟩ := wr_sound P r hh (repl_VL hl' n)
        rw [hm] at hm'; cases hm'
        refine ⟨.tuple #[], w', μ, ?_, ⟨[], rfl, rfl⟩, hr, hx⟩
        rw [clear_run ht0 hd h2 (h5.trans hv) hn0]
        have e2 : (Builtin.zeroCells zv.cells n).toList = ((Array.range (n * zv.cells.size)).map (fun i => zv.cells[i % zv.cells.size]!)).toList := rfl
        rw [g4 hn0, e2]
        simp only [Sem.run_bind, hrun, Result.andThen_ok, Sem.run_pure]
      · rw [hn] at he; cases he
        have := beq_true hn
        subst this
        exact Fine.pure r (x := .tuple #[]) (clear_nil ht0 hd) ⟨[], rfl, rfl⟩
    · cases he
  · cases hk

set_option maxHeartbeats 1000000 in
theorem op_pure_sound (g : Glob P μ) (t : TR μ T a.tmps) (r : Rel μ h w) {o : Oper} {k : AK} (hk : trK P o.op = some k) {out : Out AV} (he : op1 T h c k = some out) : Did P μ h w (execOp a.eval o) out := by
  obtain ⟨dst, op, type, pos, after, guard⟩ := o
  simp only at hk
  cases op with
  | move x =>
    simp only [trK] at hk; split at hk <;> cases hk
    rename_i x' hx
    simp only [op1, O.move] at he
    split at he <;> cases he
    rename_i v hv
    exact ⟨.value (a.eval x), w, μ, rfl, .inl ⟨_, rfl, ev_sound g t hx hv⟩, r, Ext.refl _ _ _⟩
  | assign x =>
    simp only [trK] at hk; split at hk <;> cases hk
    rename_i x' hx
    simp only [op1, O.move] at he
    split at he <;> cases he
    rename_i v hv
    exact ⟨.value (a.eval x), w, μ, rfl, .inl ⟨_, rfl, ev_sound g t hx hv⟩, r, Ext.refl _ _ _⟩
  | pick q x y =>
    simp only [trK] at hk; split at hk <;> cases hk
    rename_i q' x' y' hq hx hy
    simp only [op1, O.pick] at he
    split at he
    · rename_i hqv
      split at he <;> cases he
      rename_i v hv
      have e1 := ev_sound g t hq hqv
      refine ⟨.value (a.eval x), w, μ, ?_, .inl ⟨_, rfl, ev_sound g t hx hv⟩, r, Ext.refl _ _ _⟩
      simp only [execOp, V] at e1 ⊢
      simp [e1, asBool]
    · rename_i hqv
      split at he <;> cases he
      rename_i v hv
      have e1 := ev_sound g t hq hqv
      refine ⟨.value (a.eval y), w, μ, ?_, .inl ⟨_, rfl, ev_sound g t hy hv⟩, r, Ext.refl _ _ _⟩
      simp only [execOp, V] at e1 ⊢
      simp [e1, asBool]
    · cases he
  | alloc e =>
    simp only [trK] at hk; split at hk
    · rename_i i hi
      split at hk <;> cases hk
      rename_i z hz
      exact Did.of_fine (alloc_sound r hi hz he)
    · cases hk
  | box e x =>
    simp only [trK] at hk; split at hk <;> cases hk
    rename_i x' hx
    simp only [op1, O.box] at he
    split at he
    · rename_i v hv
      exact Did.of_fine (box_sound r e (ev_sound g t hx hv) he)
    · cases he
  | build ty parts =>
    simp only [trK] at hk; split at hk
    · rename_i i hi
      split at hk
      · rename_i z hz
        split at hk
        · rename_i fs hd
          split at hk
          · rename_i l hl
            split at hk <;> cases hk
            rename_i hall
            simp only [op1, O.build] at he
            split at he <;> cases he
            rename_i cs hcs
            exact Did.of_fine (build_struct_sound r g t hi hz hd (fun f hf => List.all_eq_true.1 hall f hf) hl hcs)
          · cases hk
        · rename_i n el hd
          split at hk
          · rename_i j hj
            split at hk <;> cases hk
            rename_i l hl
            simp only [op1, O.build] at he
            split at he <;> cases he
            rename_i cs hcs
            exact Did.of_fine (build_array_sound r g t hi hz hd hj hl hcs)
          · cases hk
        · cases hk
      · cases hk
    · cases hk
  | buildSlice ty len parts =>
    simp only [trK] at hk; split at hk
    · rename_i el hu
      split at hk
      · rename_i i hi
        split at hk
        · rename_i z hz
          split at hk
          · rename_i l hl
            split at hk <;> cases hk
            rename_i hc
            simp only [op1, O.buildSlice] at he
            split at he
            · rename_i cs hcs
              exact Did.of_fine (buildSlice_sound r g t hu hi hz hc.2 hc.1 hl hcs he)
            · cases he
          · cases hk
        · cases hk
      · cases hk
    · cases hk
  | load ty x =>
    simp only [trK] at hk; split at hk <;> cases hk
    rename_i i x' hi hx
    simp only [op1, O.load] at he
    split at he
    · rename_i id off hv
      split at he
      · rename_i vs hvs
        have := load_sound (c := c) r hi (ev_sound g t hx hv) hvs
        split at he
        · rename_i hag; cases he
          exact Did.of_fine (this.1 hag)
        · rename_i v hag; cases he
          exact Did.of_fine (this.2 hag v rfl)
        · cases he
      · cases he
    · cases he
  | store ty x y =>
    simp only [trK] at hk; split at hk <;> cases hk
    rename_i i x' y' hi hx hy
    simp only [op1, O.store] at he
    split at he
    · rename_i id off v hv hw
      cases hb : Nat.beq (avCells v).length i.size
      · rw [hb] at he; cases he
      rw [hb] at he
      simp only [cond_true] at he
      split at he <;> cases he
      rename_i h' hh
      exact Did.of_unit (store_sound r hi (ev_sound g t hx hv) (ev_sound g t hy hw) (beq_true hb) hh) rfl
    · cases he
  | nilCheck x =>
    simp only [trK] at hk; split at hk <;> cases hk
    rename_i x' hx
    simp only [op1, O.nilCheck] at he
    split at he
    · rename_i id off hv; cases he
      have e1 := ev_sound g t hx hv
      obtain ⟨R, b, f, hm, e2⟩ := e1
      exact ⟨.value (a.eval x), w, μ, by simp only [execOp, e2]; rfl, .inl ⟨_, rfl, ev_sound g t hx hv⟩, r, Ext.refl _ _ _⟩
    · rename_i ty' v hv; cases he
      have e1 := ev_sound g t hx hv
      obtain ⟨y, e2, e3⟩ := e1
      exact ⟨.value (a.eval x), w, μ, by simp only [execOp, e2]; rfl, .inl ⟨_, rfl, ev_sound g t hx hv⟩, r, Ext.refl _ _ _⟩
    · rename_i f l hv; cases he
      have e1 := ev_sound g t hx hv
      obtain ⟨vs, e2, e3⟩ := e1
      exact ⟨.value (a.eval x), w, μ, by simp only [execOp, e2]; rfl, .inl ⟨_, rfl, ev_sound g t hx hv⟩, r, Ext.refl _ _ _⟩
    · cases he
  | unOp op ty x =>
    simp only [trK] at hk; split at hk <;> cases hk
    rename_i x' hx
    simp only [op1, O.un] at he
    split at he
    · rename_i v hv
      split at he <;> cases he
      rename_i u hu
      exact Did.of_fine (un_sound r (ev_sound g t hx hv) hu)
    · cases he
  | makeInterface ty x =>
    simp only [trK] at hk; split at hk
    · cases hk
    · rename_i d x' hne hd hx
      cases hk
      simp only [op1, O.makeIface] at he
      split at he <;> cases he
      rename_i v hv
      exact Did.of_fine (makeIface_sound r hd hne (ev_sound g t hx hv))
    · cases hk
  | extract x i =>
    simp only [trK] at hk; split at hk <;> cases hk
    rename_i x' hx
    simp only [op1, O.extract] at he
    split at he
    · rename_i l hv
      split at he <;> cases he
      rename_i v hi
      exact Did.of_fine (extract_sound r (ev_sound g t hx hv) hi)
    · cases he
  | range ty x =>
    simp only [trK] at hk; split at hk <;> cases hk
    rename_i x' ht hx
    simp only [op1, O.range] at he
    split at he
    · rename_i s hv
      exact Did.of_fine (range_sound r ht (ev_sound g t hx hv) he)
    · cases he
  | binOp op ty x y yT =>
    simp only [trK] at hk
    split at hk
    · rename_i i x' y' hi hx hy
      obtain ⟨q, h1, h2, h3, h4, h5⟩ := ti_spec hi
      have hbin : ∀ op', AK.bin op' x' y' = k → op' = op → Did P μ h w (execOp a.eval ⟨dst, .binOp op ty x y yT, type, pos, after, guard⟩) out := by
        intro op' e e'
        subst e; subst e'
        simp only [op1, O.bin] at he
        split at he
        · rename_i u v hu hv
          split at he <;> cases he
          rename_i z hz
          have e1 := ev_sound g t hx hu
          have e2 := ev_sound g t hy hv
          obtain ⟨rz, hrun, hvz⟩ := bin_sound (P := P) (w := w) hz e1 e2 ty
          have hg : (eqGuard op' ty x y (a.eval x) (a.eval y)).run P w = .ok () w := by
            refine eqGuard_ok (fun e => ?_) (.inl fun l m e => ?_)
            · rw [e.1] at e1
              cases u <;> first | (cases e1; done) | (obtain ⟨_, _, _, _, e1⟩ := e1; cases e1; done) | (obtain ⟨_, e1, _⟩ := e1; cases e1; done) | (obtain ⟨_, _, _, _, _, _, e1, _⟩ := e1; cases e1; done) | (simp [binF] at hz; done)
            · rw [e.1] at e1
              cases u <;> first | (cases e1; done) | (obtain ⟨_, _, _, _, e1⟩ := e1; cases e1; done) | (simp [binF] at hz; done) | (obtain ⟨_, e1, _⟩ := e1; cases e1; done) | (obtain ⟨_, _, _, _, _, _, e1, _⟩ := e1; cases e1; done)
          refine Did.of_fine (Fine.pure r (x := rz) ?_ hvz)
          simp only [Sem.run_bind, hg, Result.andThen_ok, hrun]
        · cases he
      have heq : ∀ (neg : Bool), (neg = false → op = .eql) → (neg = true → op = .neq) →
          (match i.d with
            | .int _ | .string => some (AK.bin op x' y')
            | .struct _ | .array _ _ => if P.eqGuardType P.depth ty then none else match eqOffs P 100 ty 0 with
              | some offs => some (.binAgg neg offs x' y')
              | none => none
            | d => match ekOf d with
              | some k => some (.eqk k neg x' y')
              | none => none) = some k → Did P μ h w (execOp a.eval ⟨dst, .binOp op ty x y yT, type, pos, after, guard⟩) out := by
        intro neg hneg1 hneg2 hk
        have hop : ∀ (u v : Value) (b : Bool), (eqGuard op ty x y u v).run P w = .ok () w → (Op.equal ty u v).run P w = .ok b w → (∀ k n, u ≠ .int k n) → (∀ s, u ≠ .string s) → (∀ k n, u ≠ .float k n) → (∀ k n m, u ≠ .complex k n m) →
            (do eqGuard op ty x y u v; binOp op ty u v : Sem Value).run P w = .ok (.bool (bif neg then !b else b)) w := by
          intro u v b hg hb n1 n2 n3 n4
          simp only [Sem.run_bind, hg, Result.andThen_ok]
          cases neg
          · rw [hneg1 rfl]
            cases u <;> first
              | exact (n1 _ _ rfl).elim
              | exact (n2 _ rfl).elim
              | exact (n3 _ _ rfl).elim
              | exact (n4 _ _ _ rfl).elim
              | (simp only [binOp, Sem.run_bind, hb, Result.andThen_ok, Sem.run_pure]; rfl)
          · rw [hneg2 rfl]
            cases u <;> first
              | exact (n1 _ _ rfl).elim
              | exact (n2 _ rfl).elim
              | exact (n3 _ _ rfl).elim
              | exact (n4 _ _ _ rfl).elim
              | (simp only [binOp, Sem.run_bind, hb, Result.andThen_ok, Sem.run_pure]; rfl)
        have hagg : isAggT i.d = true → (if P.eqGuardType P.depth ty then none else match eqOffs P 100 ty 0 with
              | some offs => some (AK.binAgg neg offs x' y')
              | none => none) = some k → Did P μ h w (execOp a.eval ⟨dst, .binOp op ty x y yT, type, pos, after, guard⟩) out := by
          intro hag hk
          split at hk
          · cases hk
          rename_i hgt
          split at hk
          case h_2 => cases hk
          rename_i offs hoffs
          cases hk
          simp only [op1, O.binAgg] at he
          split at he
          · rename_i l m hl hm
            split at he <;> cases he
            rename_i b hb
            obtain ⟨vs, e1, g1⟩ := ev_sound g t hx hl
            obtain ⟨us, e2, g2⟩ := ev_sound g t hy hm
            have loc : ∀ {L : List AV} {vs : List Value}, VL μ L vs → LocAt P μ ty 0 L (.agg vs.toArray) := fun hv j hj => by
              rw [hi] at hj; cases hj
              refine ⟨fun _ => ⟨_, rfl, fun k b _ hk => ?_⟩, fun e => (by rw [hag] at e; cases e)⟩
              rw [Nat.zero_add] at hk
              obtain ⟨z, hz, hzv⟩ := VL_get hv hk
              exact ⟨z, by simpa using hz, hzv⟩
            have hq := eqOffs_sound (P := P) (μ := μ) (w := w) 100 ty 0 offs l m b (.agg vs.toArray) (.agg us.toArray) 10000 hoffs hb (by omega) (loc g1) (loc g2)
            refine Did.of_fine (Fine.pure r (x := .bool (bif neg then !b else b)) ?_ rfl)
            rw [e1, e2]
            exact hop _ _ b (eqGuard_ok (fun e => by cases e.1) (.inr (by simpa using hgt))) hq (fun _ _ e => by cases e) (fun _ e => by cases e) (fun _ _ e => by cases e) (fun _ _ _ e => by cases e)
          · cases he
        have hek : (match ekOf i.d with
              | some k => some (AK.eqk k neg x' y')
              | none => none) = some k → Did P μ h w (execOp a.eval ⟨dst, .binOp op ty x y yT, type, pos, after, guard⟩) out := by
          intro hk
          split at hk
          case h_2 => cases hk
          rename_i ek hek
          cases hk
          simp only [op1, O.eqk] at he
          split at he
          · rename_i u v hu hv
            split at he <;> cases he
            rename_i b hb
            have e1 := ev_sound g t hx hu
            have e2 := ev_sound g t hy hv
            refine Did.of_fine (Fine.pure r (x := .bool (bif neg then !b else b)) ?_ rfl)
            have nots : (¬ (a.eval x = .nilIface ∧ a.eval y = .nilIface)) ∧ (∀ l m, ¬ (a.eval x = .agg l ∧ a.eval y = .agg m)) ∧ (∀ k n, a.eval x ≠ .int k n) ∧ (∀ s, a.eval x ≠ .string s) ∧ (∀ k n, a.eval x ≠ .float k n) ∧ (∀ k n m, a.eval x ≠ .complex k n m) := by
              generalize a.eval x = X at e1 ⊢
              generalize a.eval y = Y at e2 ⊢
              clear hbin hop hagg
              cases u <;> first
                | (cases ek <;> simp [eqF] at hb; done)
                | (cases e1; refine ⟨fun e => ?_, fun l m e => ?_, fun k n e => ?_, fun s e => ?_, fun k n e => ?_, fun k n m e => ?_⟩ <;> first
                    | (cases e; done) | (cases e.1; done)
                    | (obtain ⟨_, e⟩ := e; subst e; cases v <;> first | (cases e2; done) | (obtain ⟨_, e2, _⟩ := e2; cases e2; done) | (obtain ⟨_, _, _, _, e2⟩ := e2; cases e2; done) | (obtain ⟨_, _, _, _, _, _, e2, _⟩ := e2; cases e2; done) | (cases ek <;> simp [eqF] at hb; done)))
                | (obtain ⟨_, _, _, _, rfl⟩ := e1; refine ⟨fun e => ?_, fun l m e => ?_, fun k n e => ?_, fun s e => ?_, fun k n e => ?_, fun k n m e => ?_⟩ <;> first | (cases e; done) | (cases e.1; done))
                | (obtain ⟨_, rfl, _⟩ := e1; refine ⟨fun e => ?_, fun l m e => ?_, fun k n e => ?_, fun s e => ?_, fun k n e => ?_, fun k n m e => ?_⟩ <;> first | (cases e; done) | (cases e.1; done))
                | (obtain ⟨_, _, _, _, _, _, rfl, _⟩ := e1; refine ⟨fun e => ?_, fun l m e => ?_, fun k n e => ?_, fun s e => ?_, fun k n e => ?_, fun k n m e => ?_⟩ <;> first | (cases e; done) | (cases e.1; done))
            exact hop _ _ b (eqGuard_ok nots.1 (.inl nots.2.1)) (eqk_sound hb e1 e2 h1 hek) nots.2.2.1 nots.2.2.2.1 nots.2.2.2.2.1 nots.2.2.2.2.2
          · cases he
        split at hk
        · cases hk; exact hbin _ rfl rfl
        · cases hk; exact hbin _ rfl rfl
        · rename_i e; exact hagg (by rw [e]; rfl) hk
        · rename_i e; exact hagg (by rw [e]; rfl) hk
        · exact hek hk
      split at hk
      · exact heq false (fun _ => rfl) (fun e => by cases e) hk
      · exact heq true (fun e => by cases e) (fun _ => rfl) hk
      · cases hk; exact hbin _ rfl rfl
    · cases hk
  | convert sT dT x =>
    simp only [trK] at hk
    split at hk
    · -- to a number
      rename_i ds kk x' hs hd hx
      cases hk
      simp only [op1, O.conv] at he
      split at he <;> cases he
      rename_i e2
      exact Did.of_fine (toInt_sound r hs hd (ev_sound g t hx e2))
    · rename_i x' hs hd hx
      cases hk
      simp only [op1, O.conv] at he
      split at he <;> cases he
      rename_i e2
      exact Did.of_fine (same_sound r hs hd (ev_sound g t hx e2))
    · rename_i el x' hs hd hx
      split at hk
      case h_2 => cases hk
      rename_i hel
      cases hk
      simp only [op1, O.conv] at he
      split at he
      case h_2 => cases he
      rename_i e2
      exact Did.of_fine (strBytes_sound r hs hd hel (ev_sound g t hx e2) he)
    · rename_i el x' hs hd hx
      split at hk
      · rename_i hel
        cases hk
        simp only [op1, O.conv] at he
        split at he
        · rename_i e2; cases he
          exact Did.of_fine (bytesNil_sound r hs hd hel (.inl rfl) (ev_sound g t hx e2))
        · rename_i e2
          split at he
          · rename_i vs hvs
            split at he <;> cases he
            rename_i l hl
            exact Did.of_fine (bytesStr_sound r hs hd hel rfl (ev_sound g t hx e2) hvs hl)
          · cases he
        · cases he
      · rename_i hel
        cases hk
        simp only [op1, O.conv] at he
        split at he
        · rename_i e2; cases he
          exact Did.of_fine (bytesNil_sound r hs hd hel (.inr rfl) (ev_sound g t hx e2))
        · rename_i e2
          split at he
          · rename_i vs hvs
            split at he <;> cases he
            rename_i l hl
            exact Did.of_fine (runesStr_sound r hs hd hel (ev_sound g t hx e2) hvs hl)
          · cases he
        · cases he
      · cases hk
    · rename_i el0 el x' hs hd hx
      split at hk
      case h_2 => cases hk
      rename_i hel
      split at hk
      case isFalse => cases hk
      rename_i hsd
      cases hk
      simp only [op1, O.conv] at he
      split at he
      case h_2 => cases he
      rename_i e2
      split at he <;> cases he
      rename_i l hl
      exact Did.of_fine (sliceSame_sound r hsd hd hel (ev_sound g t hx e2) hl)
    · rename_i kk x' hs hd hx
      cases hk
      simp only [op1, O.conv] at he
      split at he <;> cases he
      rename_i e2
      exact Did.of_fine (intStr_sound r hs hd (ev_sound g t hx e2))
    · cases hk
  | makeFunc fn first captured =>
    cases fn with
    | func f =>
      simp only [trK] at hk
      split at hk
      case isFalse => cases hk
      rename_i hfirst
      split at hk
      case h_2 => cases hk
      rename_i l hl
      cases hk
      simp only [op1, O.makeFunc] at he
      split at he <;> cases he
      rename_i vs hvs
      have hv := evs_sound g t hl hvs
      have hf : first = #[] := by simpa using hfirst
      subst hf
      refine Did.of_fine (Fine.pure r (x := .func (.func f) #[] (captured.map a.eval)) ?_ ⟨captured.toList.map a.eval, ?_, hv⟩)
      · simp [Instr.makeFunc]
      · congr 1; apply Array.ext'; simp
    | _ => simp [trK] at hk
  | makeSlice ty x y =>
    simp only [trK] at hk
    split at hk
    case h_2 => cases hk
    rename_i el hu
    split at hk
    case h_2 => cases hk
    rename_i i hi
    split at hk
    case h_2 => cases hk
    rename_i z x' y' hz hx hy
    split at hk
    case isFalse => cases hk
    rename_i hzl
    cases hk
    simp only [op1, O.makeSlice] at he
    split at he
    · rename_i n m hn hm
      cases hb : (Nat.ble n m && Nat.ble (m * (i.bytes + i.size + 1)) maxStr)
      · rw [hb] at he; cases he
      rw [hb] at he
      simp only [cond_true] at he
      rw [Bool.and_eq_true] at hb
      exact Did.of_fine (makeSlice_sound r hu hi hz hzl (ev_sound g t hx hn) (ev_sound g t hy hm) (Nat.le_of_ble_eq_true hb.1) (Nat.le_of_ble_eq_true hb.2) he)
    · cases he
  | slice ty x lo hi mx =>
    cases mx with
    | some _ => simp [trK] at hk
    | none =>
      simp only [trK] at hk
      have arr : ∀ (n el : Nat) (i : TI) (x' : Opd) (lo' hi' : Option Opd), (P.underlying ty = some (.array n el) ∨ ∃ b, P.underlying ty = some (.pointer b) ∧ P.underlying b = some (.array n el)) → ti P el = some i → trOpd P x = some x' → trO P lo = some lo' → trO P hi = some hi' →
          AK.sliceArr i.size n x' lo' hi' = k → Did P μ h w (execOp a.eval ⟨dst, .slice ty x lo hi none, type, pos, after, guard⟩) out := by
        intro n el i x' lo' hi' hty hi2 hx hlo hhi e
        subst e
        simp only [op1, O.sliceArr] at he
        split at he
        · rename_i id off lo2 hi2' hv hl2 hh2
          split at he
          · rename_i l u el2 eh2
            cases hb : (Nat.ble l u && Nat.ble u n)
            · rw [hb] at he; cases he
            rw [hb] at he
            simp only [cond_true] at he
            rw [Bool.and_eq_true] at hb
            split at he <;> cases he
            rename_i vs hvs
            exact Did.of_fine (sliceArr_sound r hty hi2 (ev_sound g t hx hv) (trO_sound g t hlo hl2) (trO_sound g t hhi hh2) el2 eh2 (Nat.le_of_ble_eq_true hb.1) (Nat.le_of_ble_eq_true hb.2) hvs)
          · cases he
        · cases he
      split at hk
      · rename_i x' lo' hi' hs hx hlo hhi
        cases hk
        simp only [op1, O.sliceStr] at he
        split at he
        · rename_i s lo2 hi2 hv hl2 hh2
          split at he
          · rename_i l u el2 eh2
            cases hb : (Nat.ble l u && Nat.ble u s.length)
            · rw [hb] at he; cases he
            rw [hb] at he
            cases he
            rw [Bool.and_eq_true] at hb
            exact Did.of_fine (sliceStr_sound r hs (ev_sound g t hx hv) (trO_sound g t hlo hl2) (trO_sound g t hhi hh2) el2 eh2 (Nat.le_of_ble_eq_true hb.1) (Nat.le_of_ble_eq_true hb.2))
          · cases he
        · cases he
      · rename_i el x' lo' hi' hs hx hlo hhi
        split at hk
        case h_2 => cases hk
        rename_i i hi2
        cases hk
        simp only [op1, O.sliceSlc] at he
        split at he
        · rename_i id off n sz' lo2 hi2' hv hl2 hh2
          split at he
          · rename_i l u el2 eh2
            cases hb : (Nat.ble l u && Nat.ble u n && Nat.beq i.size sz')
            · rw [hb] at he; cases he
            rw [hb] at he
            cases he
            rw [Bool.and_eq_true, Bool.and_eq_true] at hb
            have e := beq_true hb.2
            subst e
            exact Did.of_fine (sliceSlc_sound r hs hi2 (ev_sound g t hx hv) (trO_sound g t hlo hl2) (trO_sound g t hhi hh2) el2 eh2 (Nat.le_of_ble_eq_true hb.1.1) (Nat.le_of_ble_eq_true hb.1.2))
          · cases he
        · rename_i lo2 hi2' hv hl2 hh2
          split at he
          · rename_i el2 eh2
            cases he
            exact Did.of_fine (sliceNil_sound r hs hi2 (ev_sound g t hx hv) (trO_sound g t hlo hl2) (trO_sound g t hhi hh2) el2 eh2)
          · cases he
        · cases he
      · rename_i n el x' lo' hi' hs hx hlo hhi
        split at hk
        case h_2 => cases hk
        rename_i i hi2
        cases hk
        exact arr n el i x' lo' hi' (.inl hs) hi2 hx hlo hhi rfl
      · rename_i b x' lo' hi' hs hx hlo hhi
        split at hk
        case h_2 => cases hk
        rename_i n el hb
        split at hk
        case h_2 => cases hk
        rename_i i hi2
        cases hk
        exact arr n el i x' lo' hi' (.inr ⟨b, hs, hb⟩) hi2 hx hlo hhi rfl
      · cases hk
  | fieldAddr s x f =>
    simp only [trK] at hk
    split at hk
    case h_2 => cases hk
    rename_i fs x' hs hx
    split at hk
    case h_2 => cases hk
    rename_i fd hf
    split at hk
    case h_2 => cases hk
    rename_i i hi
    split at hk
    case isTrue => cases hk
    rename_i h0
    cases hk
    simp only [op1, O.fieldAddr] at he
    split at he <;> cases he
    rename_i id off hv
    exact Did.of_fine (fieldAddr_sound r hs hf hi h0 (ev_sound g t hx hv))
  | field s x f =>
    simp only [trK] at hk
    split at hk
    case h_2 => cases hk
    rename_i fs x' hs hx
    split at hk
    case h_2 => cases hk
    rename_i fd hf
    split at hk
    case h_2 => cases hk
    rename_i i hi
    cases hk
    simp only [op1, O.field] at he
    split at he
    · rename_i l hv
      have := field_sound (c := c) r hs hf hi (ev_sound g t hx hv)
      split at he
      · rename_i hag; cases he
        exact Did.of_fine (this.1 hag)
      · rename_i hag
        split at he <;> cases he
        rename_i v hl
        exact Did.of_fine (this.2 hag v hl)
    · cases he
  | indexAddr ty x ix =>
    simp only [trK] at hk
    split at hk
    · rename_i el x' ix' hs hx hix
      split at hk
      case h_2 => cases hk
      rename_i i hi
      cases hk
      simp only [op1, O.indexAddrS] at he
      split at he
      · rename_i id off n sz' kk j hv hj
        cases hb : (Nat.blt j n && Nat.beq i.size sz')
        · rw [hb] at he; cases he
        rw [hb] at he
        cases he
        rw [Bool.and_eq_true] at hb
        have e := beq_true hb.2
        subst e
        exact Did.of_fine (indexAddrS_sound r hs hi (ev_sound g t hx hv) (ev_sound g t hix hj) (by simpa using hb.1))
      · cases he
    · rename_i n el x' ix' hs hx hix
      split at hk
      case h_2 => cases hk
      rename_i i hi
      cases hk
      simp only [op1, O.indexAddrA] at he
      split at he
      · rename_i id off kk j hv hj
        cases hb : Nat.blt j n
        · rw [hb] at he; cases he
        rw [hb] at he
        cases he
        exact Did.of_fine (indexAddrA_sound r hs hi (ev_sound g t hx hv) (ev_sound g t hix hj) (by simpa using hb))
      · cases he
    · cases hk
  | index ty x ix =>
    simp only [trK] at hk
    split at hk
    · rename_i x' ix' hs hx hix
      cases hk
      simp only [op1, O.indexS] at he
      split at he
      · rename_i s kk j hv hj
        split at he <;> cases he
        rename_i b hb
        exact Did.of_fine (indexS_sound r hs (ev_sound g t hx hv) (ev_sound g t hix hj) hb)
      · cases he
    · rename_i n el x' ix' hs hx hix
      split at hk
      case h_2 => cases hk
      rename_i i hi
      cases hk
      simp only [op1, O.indexA] at he
      split at he
      · rename_i l kk j hv hj
        cases hb : Nat.blt j n
        · rw [hb] at he; cases he
        rw [hb] at he
        simp only [cond_true] at he
        have := indexA_sound (c := c) r hs hi (ev_sound g t hx hv) (ev_sound g t hix hj) (by simpa using hb)
        split at he
        · rename_i hag; cases he
          exact Did.of_fine (this.1 hag)
        · rename_i hag
          split at he <;> cases he
          rename_i v hl
          exact Did.of_fine (this.2 hag v hl)
      · cases he
    · cases hk
  | next it isString =>
    cases isString with
    | false => simp [trK] at hk
    | true =>
      simp only [trK] at hk; split at hk <;> cases hk
      rename_i x' hx
      simp only [op1, O.next] at he
      split at he
      · rename_i id hv
        split at he
        · rename_i s p hg
          cases hb : Nat.blt p s.length
          · rw [hb] at he; cases he
            exact Did.of_fine (next_over r type (ev_sound g t hx hv) hg (fun hlt => by have e : Nat.blt p s.length = true := (by simpa using hlt); rw [hb] at e; cases e))
          · rw [hb] at he; cases he
            exact Did.of_fine (next_sound r type (ev_sound g t hx hv) hg (by simpa using hb))
        · cases he
      · cases he
  | typeAssert x xT ty ok =>
    simp only [trK] at hk
    split at hk
    case h_2 => cases hk
    rename_i i x' hi hx
    obtain ⟨q, h1, h2, h3, h4, h5⟩ := ti_spec hi
    split at hk
    case h_1 => cases hk
    rename_i hne
    split at hk
    case h_2 => cases hk
    rename_i zv hzv
    split at hk
    case h_2 => cases hk
    rename_i z hz
    cases hk
    simp only [op1, O.typeAssert] at he
    split at he
    · rename_i t' v hv
      cases hb : Nat.beq ty t'
      · rw [hb] at he
        cases ok
        · cases he
        · cases he
          exact Did.of_fine (assert_no r hi hne hzv hz (ev_sound g t hx hv) (.inr ⟨_, _, rfl, fun e => beq_false hb e.symm⟩))
      · rw [hb] at he
        have e := beq_true hb
        subst e
        cases he
        exact Did.of_fine (assert_yes r h1 hne (ev_sound g t hx hv))
    · rename_i hv
      cases ok
      · cases he
      · cases he
        exact Did.of_fine (assert_no r hi hne hzv hz (ev_sound g t hx hv) (.inl rfl))
    · cases he
  | panic x =>
    simp only [trK] at hk; cases hk; cases he
  | call cl =>
    obtain ⟨callee, args, ts⟩ := cl
    cases callee with
    | value f =>
      cases f with
      | func f =>
        simp only [trK] at hk
        split at hk
        case isFalse => cases hk
        split at hk <;> cases hk
        cases he
      | tmp f =>
        simp only [trK] at hk
        split at hk <;> cases hk
        cases he
      | _ => simp [trK] at hk
    | invoke x m => simp [trK] at hk
    | builtin b =>
      simp only [trK] at hk
      split at hk
      case h_2 => cases hk
      rename_i l hl
      exact builtin_sound g t r hl hk he
  | _ => simp [trK] at hk

end
end Go.Am
