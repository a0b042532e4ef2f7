/-
  Each operation of the abstract machine stands for the model's: (2) comparisons, aggregates.
-/
import Derived.Test.YtadmjdnkhpngeaaGreatDoorAmOps
import Derived.Laws.Strings
namespace Go.Am

theorem seqB_eq : ∀ (a b : List Nat), seqB a b = decide (a.map UInt8.ofNat = b.map UInt8.ofNat)
  | [], [] => by simp [seqB]
  | [], _ :: _ => by simp [seqB]
  | _ :: _, [] => by simp [seqB]
  | x :: a, y :: b => by
    simp only [seqB, seqB_eq a b, List.map_cons, List.cons.injEq]
    have : Nat.beq (x % 256) (y % 256) = decide (UInt8.ofNat x = UInt8.ofNat y) := by
      rw [Bool.eq_iff_iff, decide_eq_true_iff]
      constructor
      · intro h
        have := beq_true h
        apply UInt8.toNat_inj.1
        simpa using this
      · intro h
        apply beqT
        have := congrArg UInt8.toNat h
        simpa using this
    rw [this, Bool.decide_and]

theorem baOf_toList (l : List Nat) : (baOf l).toList = l.map UInt8.ofNat := ByteArray.toList_mk _

theorem baOf_size (l : List Nat) : (baOf l).size = l.length := by simp [baOf, ByteArray.size]

theorem baOf_append (a b : List Nat) : baOf a ++ baOf b = baOf (a ++ b) := by
  apply ByteArray.ext
  simp [baOf, ByteArray.data_append]

variable {μ : Mu} {P : Program} {w : World}

theorem intCmp_eql (x y : Int) : (x == y) = decide (x = y) := by rw [Bool.eq_iff_iff]; simp
theorem intCmp_neq (x y : Int) : (x != y) = !decide (x = y) := by rw [bne, intCmp_eql]

/-- An operation on two numbers. -/
theorem intBin_sound {op : BinOp} {k : IntKind} {a b : Int} {v : AV} (h : intBin op k a b = some v) (t : TypeId) (hs : op ≠ .shl ∧ op ≠ .shr) :
    ∃ x, (binOp op t (.int k a) (.int k b)).run P w = .ok x w ∧ V μ v x := by
  cases op <;> simp only [intBin, Option.some.injEq] at h
  case add => subst h; exact ⟨_, by simp [binOp, Op.intArith]; rfl, by rw [wrapF_eq]; rfl⟩
  case sub => subst h; exact ⟨_, by simp [binOp, Op.intArith]; rfl, by rw [wrapF_eq]; rfl⟩
  case mul => subst h; exact ⟨_, by simp [binOp, Op.intArith]; rfl, by rw [wrapF_eq]; rfl⟩
  case quo =>
    rw [ieqB_eq] at h
    by_cases hb : b = 0
    · simp [hb] at h
    · simp only [hb, decide_false, cond_false, Option.some.injEq] at h
      subst h
      exact ⟨_, by simp [binOp, Op.intDiv, hb]; rfl, by rw [wrapF_eq]; rfl⟩
  case rem =>
    rw [ieqB_eq] at h
    by_cases hb : b = 0
    · simp [hb] at h
    · simp only [hb, decide_false, cond_false, Option.some.injEq] at h
      subst h
      exact ⟨.int k (a.tmod b), by simp [binOp, Op.intDiv, hb], rfl⟩
  case eql => subst h; exact ⟨_, by simp [binOp, Op.intCmp]; rfl, by rw [ieqB_eq, ← intCmp_eql]; rfl⟩
  case neq => subst h; exact ⟨_, by simp [binOp, Op.intCmp]; rfl, by rw [ieqB_eq, ← intCmp_neq]; rfl⟩
  case lss => subst h; exact ⟨_, by simp [binOp, Op.intCmp]; rfl, by rw [iltB_eq]; rfl⟩
  case leq => subst h; exact ⟨.bool (decide (a ≤ b)), by simp [binOp, Op.intCmp], by rw [iltB_eq, ← decide_not]; exact congrArg Value.bool (decide_eq_decide.2 (by omega))⟩
  case gtr => subst h; exact ⟨_, by simp [binOp, Op.intCmp]; rfl, by rw [iltB_eq]; rfl⟩
  case geq => subst h; exact ⟨.bool (decide (a ≥ b)), by simp [binOp, Op.intCmp], by rw [iltB_eq, ← decide_not]; exact congrArg Value.bool (decide_eq_decide.2 (by omega))⟩
  case shl => exact (hs.1 rfl).elim
  case shr => exact (hs.2 rfl).elim
  all_goals
    simp only [Option.map_eq_some_iff] at h
    obtain ⟨z, hz, rfl⟩ := h
    exact ⟨_, by simp [binOp, bits_sound hz], rfl⟩

theorem bin_sound {op : BinOp} {a b v : AV} {x y : Value} (h : binF op a b = some v) (ha : V μ a x) (hb : V μ b y) (t : TypeId) :
    ∃ z, (binOp op t x y).run P w = .ok z w ∧ V μ v z := by
  unfold binF at h
  split at h
  · rename_i k n k' m
    cases ha; cases hb
    split at h
    · simp only [Option.map_eq_some_iff] at h
      obtain ⟨z, hz, rfl⟩ := h
      exact ⟨.int k z, by simp only [binOp]; exact shift_sound hz P w, rfl⟩
    · simp only [Option.map_eq_some_iff] at h
      obtain ⟨z, hz, rfl⟩ := h
      exact ⟨.int k z, by simp only [binOp]; exact shift_sound hz P w, rfl⟩
    · rename_i h1 h2
      cases hk : kindEq k k'
      · rw [hk] at h; cases h
      · rw [hk] at h
        cases kindEq_eq hk
        exact intBin_sound h t ⟨fun e => h1 e, fun e => h2 e⟩
  · rename_i s r
    cases ha; cases hb
    split at h
    · cases hl : Nat.blt (s.length + r.length) maxStr
      · rw [hl] at h; cases h
      · rw [hl] at h
        simp only [cond_true, Option.some.injEq] at h
        subst h
        have hlt : s.length + r.length < maxStr := by simpa using hl
        refine ⟨.string (baOf s ++ baOf r), ?_, by rw [baOf_append]; rfl⟩
        simp only [binOp, Op.stringOp]
        rw [if_neg]
        · rfl
        · rw [baOf_size, baOf_size]
          unfold maxStr at hlt
          simp only [IntKind.max, IntKind.signed, IntKind.bits, if_true]
          omega
    · simp only [Option.some.injEq] at h
      subst h
      refine ⟨.bool (decide (s.map UInt8.ofNat = r.map UInt8.ofNat)), ?_, by rw [seqB_eq]; rfl⟩
      simp only [binOp, Op.stringOp, baOf_toList, Sem.run_pure]
      congr 2
      rw [Bool.eq_iff_iff]; simp
    · simp only [Option.some.injEq] at h
      subst h
      refine ⟨.bool (!decide (s.map UInt8.ofNat = r.map UInt8.ofNat)), ?_, by rw [seqB_eq]; rfl⟩
      simp only [binOp, Op.stringOp, baOf_toList, Sem.run_pure]
      congr 3
      rw [Bool.eq_iff_iff]; simp
    · cases h
  · cases h

theorem ek_bool {d : TypeDesc} (h : ekOf d = some .bool) : d = .bool := by cases d <;> simp [ekOf] at h ⊢
theorem ek_ptr {d : TypeDesc} (h : ekOf d = some .ptr) : ∃ e, d = .pointer e := by cases d <;> simp [ekOf] at h ⊢
theorem ek_slice {d : TypeDesc} (h : ekOf d = some .slice) : ∃ e, d = .slice e := by cases d <;> simp [ekOf] at h ⊢
theorem ek_map {d : TypeDesc} (h : ekOf d = some .map) : ∃ k e, d = .map k e := by cases d <;> simp [ekOf] at h ⊢
theorem ek_func {d : TypeDesc} (h : ekOf d = some .func) : ∃ a b c, d = .func a b c := by cases d <;> simp [ekOf] at h ⊢
theorem ek_iface {d : TypeDesc} (h : ekOf d = some .iface) : ∃ m, d = .interface m := by cases d <;> simp [ekOf] at h ⊢
theorem ek_str {d : TypeDesc} (h : ekOf d = some .str) : d = .string := by cases d <;> simp [ekOf] at h ⊢

theorem eqk_sound1 {k : EK} {a b : AV} {r : Bool} {x y : Value} {d : TypeDesc} {t : TypeId} (n : Nat) (h : eqF k a b = some r) (ha : V μ a x) (hb : V μ b y)
    (ht : P.underlying t = some d) (hk : ekOf d = some k) : (Op.equalIn (n + 1) t x y).run P w = .ok r w := by
  have hu : (underlying t).run P w = .ok d w := r_underlying ht
  cases k with
  | bool =>
    obtain rfl := ek_bool hk
    cases a <;> simp only [eqF, reduceCtorEq] at h
    cases b <;> simp only [eqF, reduceCtorEq, Option.some.injEq] at h
    cases ha; cases hb; subst h
    simp only [Op.equalIn, Sem.run_bind, hu, Result.andThen_ok, Sem.run_pure]
  | ptr =>
    obtain ⟨e, rfl⟩ := ek_ptr hk
    cases a <;> simp only [eqF, reduceCtorEq] at h <;> cases b <;> simp only [eqF, reduceCtorEq, Option.some.injEq] at h <;> subst h
    · obtain ⟨R, p, f, e, rfl⟩ := ha; cases hb; simp only [Op.equalIn, Sem.run_bind, hu, Result.andThen_ok, Sem.run_pure]
    · obtain ⟨R, p, f, e, rfl⟩ := hb; cases ha; simp only [Op.equalIn, Sem.run_bind, hu, Result.andThen_ok, Sem.run_pure]; rfl
    · cases ha; cases hb; simp only [Op.equalIn, Sem.run_bind, hu, Result.andThen_ok, Sem.run_pure]; rfl
  | slice =>
    obtain ⟨e, rfl⟩ := ek_slice hk
    cases a <;> simp only [eqF, reduceCtorEq] at h <;> cases b <;> simp only [eqF, reduceCtorEq, Option.some.injEq] at h <;> subst h
    · obtain ⟨R, p, f, z, rc, e, rfl, g⟩ := ha; cases hb; simp only [Op.equalIn, Sem.run_bind, hu, Result.andThen_ok, Sem.run_pure]
    · obtain ⟨R, p, f, z, rc, e, rfl, g⟩ := hb; cases ha; simp only [Op.equalIn, Sem.run_bind, hu, Result.andThen_ok, Sem.run_pure]; rfl
    · cases ha; cases hb; simp only [Op.equalIn, Sem.run_bind, hu, Result.andThen_ok, Sem.run_pure]; rfl
  | map =>
    obtain ⟨k, e, rfl⟩ := ek_map hk
    cases a <;> simp only [eqF, reduceCtorEq] at h <;> cases b <;> simp only [eqF, reduceCtorEq, Option.some.injEq] at h <;> subst h
    · obtain ⟨R, p, f, e, rfl⟩ := ha; cases hb; simp only [Op.equalIn, Sem.run_bind, hu, Result.andThen_ok, Sem.run_pure]
    · obtain ⟨R, p, f, e, rfl⟩ := hb; cases ha; simp only [Op.equalIn, Sem.run_bind, hu, Result.andThen_ok, Sem.run_pure]; rfl
    · cases ha; cases hb; simp only [Op.equalIn, Sem.run_bind, hu, Result.andThen_ok, Sem.run_pure]; rfl
  | func =>
    obtain ⟨_, _, _, rfl⟩ := ek_func hk
    cases a <;> simp only [eqF, reduceCtorEq] at h <;> cases b <;> simp only [eqF, reduceCtorEq, Option.some.injEq] at h <;> subst h
    · obtain ⟨z, rfl, g⟩ := ha; cases hb; simp only [Op.equalIn, Sem.run_bind, hu, Result.andThen_ok, Sem.run_pure]
    · obtain ⟨z, rfl, g⟩ := hb; cases ha; simp only [Op.equalIn, Sem.run_bind, hu, Result.andThen_ok, Sem.run_pure]
    · cases ha; cases hb; simp only [Op.equalIn, Sem.run_bind, hu, Result.andThen_ok, Sem.run_pure]
  | iface =>
    obtain ⟨m, rfl⟩ := ek_iface hk
    cases a <;> simp only [eqF, reduceCtorEq] at h <;> cases b <;> simp only [eqF, reduceCtorEq, Option.some.injEq] at h <;> subst h
    · obtain ⟨z, rfl, g⟩ := ha; cases hb; simp only [Op.equalIn, Sem.run_bind, hu, Result.andThen_ok, Sem.run_pure]
    · obtain ⟨z, rfl, g⟩ := hb; cases ha; simp only [Op.equalIn, Sem.run_bind, hu, Result.andThen_ok, Sem.run_pure]
  | str => simp [eqF] at h

/-- '==' with nil, or of bools. -/
theorem eqk_sound {k : EK} {a b : AV} {r : Bool} {x y : Value} {d : TypeDesc} {t : TypeId} (h : eqF k a b = some r) (ha : V μ a x) (hb : V μ b y)
    (ht : P.underlying t = some d) (hk : ekOf d = some k) : (Op.equal t x y).run P w = .ok r w := eqk_sound1 9999 h ha hb ht hk

end Go.Am
