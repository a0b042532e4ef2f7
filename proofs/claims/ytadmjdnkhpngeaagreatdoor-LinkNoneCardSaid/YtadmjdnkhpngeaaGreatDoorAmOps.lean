/-
  Each operation of the abstract machine stands for the model's: (1) those that touch no memory.
-/
import Derived.Test.YtadmjdnkhpngeaaGreatDoorAmMem
import Derived.Test.YtadmjdnkhpngeaaGreatDoorAmTr
namespace Go.Am

section
variable {P : Program} {w : World}

theorem r_underlying {t : TypeId} {d : TypeDesc} (h : P.underlying t = some d) : (underlying t).run P w = .ok d w := by simp [underlying, h]
theorem r_typeInfo {t : TypeId} {i : TypeInfo} (h : P.info? t = some i) : (typeInfo t).run P w = .ok i w := by simp [typeInfo, h]
theorem r_sizeOf {t : TypeId} {i : TypeInfo} (h : P.info? t = some i) : (sizeOf t).run P w = .ok i.size w := by simp [sizeOf, r_typeInfo h]
theorem r_zero {t : TypeId} {i : TypeInfo} {z : Value} (h : P.info? t = some i) (hz : i.zero = some z) : (zeroValue t).run P w = .ok z w := by simp [zeroValue, r_typeInfo h, hz]
theorem r_isAgg {t : TypeId} {d : TypeDesc} (h : P.underlying t = some d) : (isAgg t).run P w = .ok (isAggT d) w := by
  simp only [isAgg, Sem.run_bind, r_underlying h, Result.andThen_ok]
  cases d <;> rfl

theorem ti_spec {t : TypeId} {x : TI} (h : ti P t = some x) : ∃ i, P.underlying t = some x.d ∧ P.info? t = some i ∧ i.size = x.size ∧ i.bytes = x.bytes ∧ i.zero = x.zero := by
  unfold ti at h
  split at h
  · rename_i d i hd hi; cases h; exact ⟨i, hd, hi, rfl, rfl, rfl⟩
  · cases h
end

/-! ### Constants -/

theorem baOf_natsOf (b : ByteArray) : baOf (natsOf b) = b := by
  unfold baOf natsOf
  have : (b.data.toList.map UInt8.toNat).map UInt8.ofNat = b.data.toList := by
    rw [List.map_map]
    conv => rhs; rw [← List.map_id b.data.toList]
    apply List.map_congr_left
    intro x _
    simp
  rw [this]

mutual
theorem trVal_V (μ : Mu) : ∀ {v : Value} {a : AV}, trVal v = some a → V μ a v
  | .bool _, _, h => by simp only [trVal, Option.some.injEq] at h; subst h; rfl
  | .int _ _, _, h => by simp only [trVal, Option.some.injEq] at h; subst h; rfl
  | .string s, _, h => by simp only [trVal, Option.some.injEq] at h; subst h; show _ = _; rw [baOf_natsOf]
  | .pointer none, _, h => by simp only [trVal, Option.some.injEq] at h; subst h; rfl
  | .slice none 0 0, _, h => by simp only [trVal, Option.some.injEq] at h; subst h; rfl
  | .map none, _, h => by simp only [trVal, Option.some.injEq] at h; subst h; rfl
  | .nilFunc, _, h => by simp only [trVal, Option.some.injEq] at h; subst h; rfl
  | .nilIface, _, h => by simp only [trVal, Option.some.injEq] at h; subst h; rfl
  | .agg ⟨l⟩, _, h => by
    simp only [trVal] at h
    split at h
    · rename_i m hm; cases h; exact ⟨l, rfl, trVals_V μ hm⟩
    · cases h
  | .tuple ⟨l⟩, _, h => by
    simp only [trVal] at h
    split at h
    · rename_i m hm; cases h; exact ⟨l, rfl, trVals_V μ hm⟩
    · cases h
  | .pointer (some _), _, h => by simp [trVal] at h
  | .slice (some _) _ _, _, h => by simp [trVal] at h
  | .slice none (_ + 1) _, _, h => by simp [trVal] at h
  | .slice none 0 (_ + 1), _, h => by simp [trVal] at h
  | .map (some _), _, h => by simp [trVal] at h
  | .float _ _, _, h => by simp [trVal] at h
  | .complex _ _ _, _, h => by simp [trVal] at h
  | .chan _, _, h => by simp [trVal] at h
  | .func _ _ _, _, h => by simp [trVal] at h
  | .iface _ _, _, h => by simp [trVal] at h
theorem trVals_V (μ : Mu) : ∀ {l : List Value} {m : List AV}, trVals l = some m → VL μ m l
  | [], _, h => by simp only [trVals, Option.some.injEq] at h; subst h; rfl
  | v :: r, _, h => by
    simp only [trVals] at h
    split at h
    · rename_i a ha
      split at h
      · rename_i m hm; cases h; exact VL_cons (trVal_V μ ha) (trVals_V μ hm)
      · cases h
    · cases h
end

theorem zeroC_spec {x : TI} {z : List AV} (h : zeroC x = some z) (μ : Mu) : ∃ v, x.zero = some v ∧ VL μ z v.cells.toList := by
  unfold zeroC at h
  split at h
  · rename_i v hv
    split at h
    · rename_i a ha; cases h; exact ⟨v, hv, V_cells (trVal_V μ ha)⟩
    · cases h
  · cases h

/-! ### Frames -/

/-- The globals lie where they lie. -/
def Glob (P : Program) (μ : Mu) : Prop := ∀ g, g < P.globals.size → ∃ f, μ (gbase + g) = some (g, 0, f)

theorem Glob.mono {P : Program} {μ ν : Mu} (g : Glob P μ) (h : Mu.le μ ν) : Glob P ν := fun i hi => let ⟨f, e⟩ := g i hi; ⟨f, h _ _ e⟩

/-- A frame's slots. -/
def TR (μ : Mu) (T : Tr AV) (tm : Array Value) : Prop := ∀ t v, T.get t = some v → ∃ x, tm[t]? = some x ∧ V μ v x

theorem TR.mono {μ ν : Mu} {T : Tr AV} {tm : Array Value} (t : TR μ T tm) (h : Mu.le μ ν) : TR ν T tm := fun i v e => let ⟨x, a, b⟩ := t i v e; ⟨x, a, V_mono h _ _ b⟩

theorem TR.put {μ : Mu} {T : Tr AV} {tm : Array Value} (t : TR μ T tm) {d : Nat} {v : AV} {x : Value} (hd : d < tm.size) (hv : V μ v x) : TR μ (T.set v d) (tm.setIfInBounds d x) := by
  intro i u e
  rw [Tr.get_set] at e
  rw [Array.getElem?_setIfInBounds]
  split at e
  · rename_i hi; subst hi; cases e; exact ⟨x, by simp [hd], hv⟩
  · rename_i hi
    rw [if_neg (fun e => hi e.symm)]
    exact t i u e

section
variable {P : Program} {μ : Mu} {T : Tr AV} {a : Act}

theorem ev_sound (g : Glob P μ) (t : TR μ T a.tmps) {x : Operand} {o : Opd} (hx : trOpd P x = some o) {v : AV} (he : ev T o = some v) : V μ v (a.eval x) := by
  cases x with
  | tmp i =>
    cases hx
    obtain ⟨x, e, q⟩ := t i v he
    simp only [Act.eval, Array.getD_eq_getD_getElem?, e]
    exact q
  | const c =>
    simp only [trOpd] at hx
    split at hx
    · rename_i u hu; cases hx; cases he; exact trVal_V μ hu
    · cases hx
  | global i =>
    simp only [trOpd] at hx
    split at hx
    · rename_i hi; cases hx; cases he
      obtain ⟨f, e⟩ := g i hi
      exact ⟨i, 0, f, e, rfl⟩
    · cases hx
  | func f => cases hx; cases he; exact ⟨[], rfl, rfl⟩

theorem evs_sound (g : Glob P μ) (t : TR μ T a.tmps) : ∀ {xs : List Operand} {os : List Opd}, trOpds P xs = some os → ∀ {vs : List AV}, evs T os = some vs → VL μ vs (xs.map a.eval)
  | [], _, hx, _, he => by cases hx; cases he; rfl
  | x :: r, _, hx, _, he => by
    simp only [trOpds] at hx
    split at hx
    · rename_i o ho
      split at hx
      · rename_i os hos; cases hx
        simp only [evs] at he
        split at he
        · rename_i v hv
          split at he
          · rename_i vs hvs; cases he
            exact VL_cons (ev_sound g t ho hv) (evs_sound g t hos hvs)
          · cases he
        · cases he
      · cases hx
    · cases hx
end

/-! ### Numbers -/

theorem ofInt_land (k : Nat) (a b : Nat) : (BitVec.ofInt k (Int.ofNat a) &&& BitVec.ofInt k (Int.ofNat b)).toNat = (Nat.land a b) % 2 ^ k := by
  simp [BitVec.toNat_and, BitVec.toNat_ofInt]
  show _ = (a &&& b) % 2 ^ k
  rw [Nat.and_mod_two_pow]
theorem ofInt_lor (k : Nat) (a b : Nat) : (BitVec.ofInt k (Int.ofNat a) ||| BitVec.ofInt k (Int.ofNat b)).toNat = (Nat.lor a b) % 2 ^ k := by
  simp [BitVec.toNat_or, BitVec.toNat_ofInt]
  show _ = (a ||| b) % 2 ^ k
  rw [Nat.or_mod_two_pow]
theorem ofInt_xor (k : Nat) (a b : Nat) : (BitVec.ofInt k (Int.ofNat a) ^^^ BitVec.ofInt k (Int.ofNat b)).toNat = (Nat.xor a b) % 2 ^ k := by
  simp [BitVec.toNat_xor, BitVec.toNat_ofInt]
  show _ = (a ^^^ b) % 2 ^ k
  rw [Nat.xor_mod_two_pow]
theorem ofInt_andNot (k : Nat) (a b : Nat) : (BitVec.ofInt k (Int.ofNat a) &&& ~~~BitVec.ofInt k (Int.ofNat b)).toNat = (Nat.xor a (Nat.land a b)) % 2 ^ k := by
  have e : BitVec.ofInt k (Int.ofNat a) &&& ~~~BitVec.ofInt k (Int.ofNat b) = BitVec.ofInt k (Int.ofNat a) ^^^ (BitVec.ofInt k (Int.ofNat a) &&& BitVec.ofInt k (Int.ofNat b)) := by
    apply BitVec.eq_of_getLsbD_eq
    intro i hi
    simp only [BitVec.getLsbD_and, BitVec.getLsbD_not, BitVec.getLsbD_xor, hi, decide_true, Bool.true_and]
    cases (BitVec.ofInt k (Int.ofNat a)).getLsbD i <;> cases (BitVec.ofInt k (Int.ofNat b)).getLsbD i <;> rfl
  rw [e]
  simp [BitVec.toNat_xor, BitVec.toNat_and, BitVec.toNat_ofInt]
  show _ = (a ^^^ (a &&& b)) % 2 ^ k
  rw [Nat.xor_mod_two_pow, Nat.and_mod_two_pow]

theorem wrap_mod (k : IntKind) (n : Nat) : k.wrap ((n % 2 ^ k.bits : Nat) : Int) = k.wrap (Int.ofNat n) := by
  cases k <;> simp only [IntKind.wrap, IntKind.bits, IntKind.signed, Int.ofNat_eq_natCast] <;> simp

theorem bits_sound {op : BinOp} {k : IntKind} {x y z : Int} (h : bitsF op k x y = some z) (P : Program) (w : World) : (Op.intBits op k x y).run P w = .ok (.int k z) w := by
  unfold bitsF at h
  split at h
  · rename_i a b
    cases op <;> simp only [Option.some.injEq] at h <;> first
      | (cases h; done)
      | (subst h; simp only [Op.intBits, Sem.run_pure, wrapF_eq]; congr 2;
         first | rw [ofInt_land, wrap_mod] | rw [ofInt_lor, wrap_mod] | rw [ofInt_xor, wrap_mod] | rw [ofInt_andNot, wrap_mod])
  · cases op <;> simp only [Option.some.injEq] at h <;> first
      | (cases h; done)
      | (subst h; simp [Op.intBits])

theorem shift_sound {op : BinOp} {k yk : IntKind} {x y z : Int} (h : shiftF op k x y = some z) (P : Program) (w : World) : (Op.shift op k x yk y).run P w = .ok (.int k z) w := by
  unfold shiftF at h
  rw [iltB_eq] at h
  by_cases hy : y < 0
  · simp [hy] at h
  · simp only [hy, decide_false, cond_false] at h
    simp only [Op.shift, hy, if_false]
    have hn : y.toNat.min k.bits = min y.toNat k.bits := rfl
    rw [hn] at h
    cases op <;> simp only [Option.some.injEq] at h <;> try (cases h; done)
    · subst h; simp only [Sem.run_pure, wrapF_eq]
    · cases x with
      | ofNat a =>
        simp only [Option.some.injEq] at h
        subst h
        simp only [Sem.run_pure]
        congr 2
        have : (2 ^ (min y.toNat k.bits) : Int) = ((2 ^ (min y.toNat k.bits) : Nat) : Int) := by simp
        rw [this]
        exact (Int.ofNat_fdiv a _).symm
      | negSucc a =>
        simp only [Option.some.injEq] at h
        subst h
        rfl

end Go.Am
