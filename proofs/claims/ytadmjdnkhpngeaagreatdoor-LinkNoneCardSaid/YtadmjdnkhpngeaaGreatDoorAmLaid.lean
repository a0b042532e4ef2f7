/-
  The world in which a call begins: the listed variables; what a closed call comes to; its post-condition.
-/
import Derived.Test.YtadmjdnkhpngeaaGreatDoorAmExec
import Derived.OpenShut
import Derived.ChangeSame
import Derived.ChangeArms
import Derived.RowKit
namespace Go.Am

section
variable {H : Type} {enc : TypeId × Value → H} {P : Program} {w : World} {base : Nat} {spare : Nat → Bool} {held : Bool} {fuel : Nat}

theorem one_of_take {cs : List Value} {i : Nat} {y : Value} (h : (cs.drop i).take 1 = [y]) : cs[i]? = some y := by
  have : ((cs.drop i).take 1)[0]? = some y := by rw [h]; rfl
  rw [List.getElem?_take] at this
  simpa using this

theorem laid_ints {t e : TypeId} {k : IntKind} {n : Nat} (ht : P.underlying t = some (.array n e)) (he : P.underlying e = some (.int k)) (hc : P.cellsOf e = 1) {cs : List Value} {vs : List Int} {p : List MemPlace}
    (h : DataW.trod enc P w base spare held fuel t cs = some (.agg (vs.map fun v => .lit (.int k v)), p)) : ∀ (i : Nat) (v : Int), vs[i]? = some v → cs[i]? = some (.int k v) := by
  obtain ⟨xs, m, _, hx, hl, hn, hel⟩ := DataW.trod_array ht h
  simp only [Prod.mk.injEq, DataW.agg.injEq] at hx
  intro i v hv
  have hi : i < n := by
    have h1 := congrArg List.length hx.1
    simp only [List.length_map] at h1
    have := (List.getElem?_eq_some_iff.1 hv).1
    omega
  have h2 := hel i hi
  rw [hc, Nat.mul_one, List.getElem?_eq_getElem (by omega)] at h2
  obtain ⟨q, hq, hxi, _⟩ := DataW.trod_int he h2
  have h3 : (xs.map (·.1))[i]? = some (.lit (.int k v)) := by rw [← hx.1, List.getElem?_map, hv]; rfl
  rw [List.getElem?_map, List.getElem?_eq_getElem (by omega), Option.map_some, hxi] at h3
  simp only [Option.some.injEq, DataW.lit.injEq, Lit.int.injEq, true_and] at h3
  subst h3
  exact one_of_take hq

theorem laid_pairs {t e : TypeId} {f0 f1 : Field} {k : IntKind} {n : Nat} (ht : P.underlying t = some (.array n e)) (he : P.underlying e = some (.struct #[f0, f1])) (hc : P.cellsOf e = 2)
    (h0 : P.underlying f0.type = some (.int k)) (h1 : P.underlying f1.type = some (.int k)) (c0 : P.cellsOf f0.type = 1) (c1 : P.cellsOf f1.type = 1) (o0 : f0.offset = 0) (o1 : f1.offset = 1)
    {cs : List Value} {vs : List (Int × Int)} {p : List MemPlace}
    (h : DataW.trod enc P w base spare held fuel t cs = some (.agg (vs.map fun v => .agg [.lit (.int k v.1), .lit (.int k v.2)]), p)) :
    ∀ (i : Nat) (v : Int × Int), vs[i]? = some v → cs[2 * i]? = some (.int k v.1) ∧ cs[2 * i + 1]? = some (.int k v.2) := by
  obtain ⟨xs, m, _, hx, hl, hn, hel⟩ := DataW.trod_array ht h
  simp only [Prod.mk.injEq, DataW.agg.injEq] at hx
  intro i v hv
  have hi : i < n := by
    have h1 := congrArg List.length hx.1
    simp only [List.length_map] at h1
    have := (List.getElem?_eq_some_iff.1 hv).1
    omega
  have h2 := hel i hi
  rw [hc, List.getElem?_eq_getElem (by omega)] at h2
  obtain ⟨y0, y1, m', hxi, hlen, g0, g1⟩ := ChangeShapes.trod_struct2 he h2
  rw [c0, o0] at g0
  rw [c1, o1] at g1
  obtain ⟨q0, hq0, e0, _⟩ := DataW.trod_int h0 g0
  obtain ⟨q1, hq1, e1, _⟩ := DataW.trod_int h1 g1
  have h3 : (xs.map (·.1))[i]? = some (.agg [.lit (.int k v.1), .lit (.int k v.2)]) := by rw [← hx.1, List.getElem?_map, hv]; rfl
  rw [List.getElem?_map, List.getElem?_eq_getElem (by omega), Option.map_some, hxi] at h3
  simp only [Option.some.injEq, DataW.agg.injEq, List.cons.injEq, and_true, e0, e1, DataW.lit.injEq, Lit.int.injEq, true_and] at h3
  obtain ⟨a0, a1⟩ := h3
  rw [← a0, ← a1]
  have := one_of_take hq0
  have := one_of_take hq1
  constructor
  · have := one_of_take hq0
    rw [List.getElem?_take] at this
    simpa [Nat.mul_comm] using this
  · have := one_of_take hq1
    rw [List.getElem?_take] at this
    simpa [Nat.mul_comm] using this

/-- Numbers in a row. -/
def intsAV (k : IntKind) (vs : List Int) : List AV := vs.map (.int k ·)

def pairsAV (k : IntKind) : List (Int × Int) → List AV
  | [] => []
  | p :: r => .int k p.1 :: .int k p.2 :: pairsAV k r

theorem pairsAV_get {k : IntKind} : ∀ {vs : List (Int × Int)} {j : Nat} {a : AV}, (pairsAV k vs)[j]? = some a → ∃ i p, vs[i]? = some p ∧ ((j = 2 * i ∧ a = .int k p.1) ∨ (j = 2 * i + 1 ∧ a = .int k p.2))
  | [], j, a, h => by simp [pairsAV] at h
  | p :: r, 0, a, h => by simp [pairsAV] at h; exact ⟨0, p, rfl, .inl ⟨rfl, h.symm⟩⟩
  | p :: r, 1, a, h => by simp [pairsAV] at h; exact ⟨0, p, rfl, .inr ⟨rfl, h.symm⟩⟩
  | p :: r, j + 2, a, h => by
    simp only [pairsAV, List.getElem?_cons_succ] at h
    obtain ⟨i, q, hq, hh⟩ := pairsAV_get h
    refine ⟨i + 1, q, by simpa using hq, ?_⟩
    rcases hh with ⟨e, f⟩ | ⟨e, f⟩
    · exact .inl ⟨by omega, f⟩
    · exact .inr ⟨by omega, f⟩

/-- What a listed variable's block bears. -/
def Laid (W : World) (g : Nat) (l : List AV) : Prop := ∃ C T fz, W.heap[g]? = some (.cells C T fz) ∧ ∀ (k : Nat) (a : AV), l[k]? = some a → ∃ v, C[k]? = some v ∧ ∀ μ, V μ a v

theorem var_heap {W : World} {n : String} {g : Nat} {cs : Array Value} (hg : P.globalNamed n = some g) (h : W.var? P n = some cs) : ∃ T fz, W.heap[g]? = some (.cells cs T fz) := by
  simp only [World.var?, hg, Option.bind_some] at h
  split at h
  · rename_i c T fz hh; cases h; exact ⟨T, fz, hh⟩
  · cases h

theorem Laid.ints {W : World} {n : String} {g : Nat} {cs : Array Value} (hg : P.globalNamed n = some g) (h : W.var? P n = some cs) {k : IntKind} {vs : List Int} (hv : ∀ (i : Nat) (v : Int), vs[i]? = some v → cs.toList[i]? = some (.int k v)) : Laid W g (intsAV k vs) := by
  obtain ⟨T, fz, hh⟩ := var_heap hg h
  refine ⟨cs, T, fz, hh, fun i a ha => ?_⟩
  simp only [intsAV, List.getElem?_map, Option.map_eq_some_iff] at ha
  obtain ⟨v, hv', rfl⟩ := ha
  exact ⟨.int k v, by simpa using hv i v hv', fun μ => rfl⟩

theorem Laid.pairs {W : World} {n : String} {g : Nat} {cs : Array Value} (hg : P.globalNamed n = some g) (h : W.var? P n = some cs) {k : IntKind} {vs : List (Int × Int)} (hv : ∀ (i : Nat) (v : Int × Int), vs[i]? = some v → cs.toList[2 * i]? = some (.int k v.1) ∧ cs.toList[2 * i + 1]? = some (.int k v.2)) : Laid W g (pairsAV k vs) := by
  obtain ⟨T, fz, hh⟩ := var_heap hg h
  refine ⟨cs, T, fz, hh, fun i a ha => ?_⟩
  obtain ⟨j, p, hp, hq⟩ := pairsAV_get ha
  obtain ⟨h1, h2⟩ := hv j p hp
  rcases hq with ⟨rfl, rfl⟩ | ⟨rfl, rfl⟩
  · exact ⟨_, by simpa using h1, fun μ => rfl⟩
  · exact ⟨_, by simpa using h2, fun μ => rfl⟩

/-! ### The heap in which a call begins -/

def globH : List Blk → Nat → Hp → Hp
  | [], _, h => h
  | b :: r, i, h => globH r (i + 1) (h.set b (gbase + i))

theorem globH_get : ∀ (G : List Blk) (i : Nat) (h : Hp) (id : Nat), (globH G i h).get id = if gbase + i ≤ id ∧ id < gbase + i + G.length then G[id - (gbase + i)]? else h.get id
  | [], i, h, id => by simp only [globH, List.length_nil]; rw [if_neg (by omega)]
  | b :: r, i, h, id => by
    simp only [globH]
    rw [globH_get r (i + 1)]
    by_cases h1 : gbase + i = id
    · subst h1
      rw [if_neg (by omega), if_pos (by simp), Tr.get_set_same]
      simp
    · rw [Tr.get_set_ne _ _ (fun q => h1 q.symm)]
      by_cases h2 : gbase + (i + 1) ≤ id ∧ id < gbase + (i + 1) + r.length
      · rw [if_pos h2, if_pos (by simp only [List.length_cons]; omega)]
        have : id - (gbase + i) = (id - (gbase + (i + 1))) + 1 := by omega
        rw [this, List.getElem?_cons_succ]
      · rw [if_neg h2, if_neg (by simp only [List.length_cons]; omega)]

def Blk.len : Blk → Nat
  | .cells l _ => l.length
  | _ => 0

def mu0 (G : List Blk) : Mu := fun id => if gbase ≤ id ∧ id < gbase + G.length then some (id - gbase, 0, ((G[id - gbase]?).map Blk.len).getD 0) else none

theorem start {W : World} {G : List Blk} (hG : P.globals.size ≤ G.length) (hb : ∀ (g : Nat) (b : Blk), G[g]? = some b → b = .dead ∨ ∃ l, b = .cells l true ∧ Laid W g l) :
    Glob P (mu0 G) ∧ Rel (mu0 G) (globH G 0 .nil) W ∧ ∀ r, ¬ Own (mu0 G) (globH G 0 .nil) r := by
  have nowr : ∀ i b, (globH G 0 .nil).get i = some b → b.wr = false := by
    intro i b hi
    rw [globH_get] at hi
    split at hi
    · rcases hb _ b hi with rfl | ⟨l, rfl, _⟩ <;> rfl
    · rw [Tr.get_nil] at hi; cases hi
  refine ⟨fun g hg => ?_, ⟨fun i hi => ?_, fun i j b b' R x y x' y' hij gi gj hw => ?_, fun i b hi => ?_⟩, fun r ⟨i, b, x, y, hi, hw, _⟩ => ?_⟩
  · refine ⟨((G[gbase + g - gbase]?).map Blk.len).getD 0, ?_⟩
    unfold mu0
    rw [if_pos (by omega)]
    simp only [Nat.add_sub_cancel_left]
  · rw [globH_get] at hi
    unfold mu0
    split at hi
    · rename_i h1
      rw [List.getElem?_eq_getElem (by omega)] at hi; cases hi
    · rename_i h1; rw [if_neg (by simpa using h1)]
  · rw [nowr i b gi] at hw; cases hw
  · rw [globH_get] at hi
    split at hi
    · rename_i h1
      simp only [Nat.add_zero] at hi h1
      rcases hb _ b hi with rfl | ⟨l, rfl, C, T, fz, hh, hk⟩
      · trivial
      · refine ⟨i - gbase, 0, l.length, C, T, fz, ?_, hh, by omega, ?_, fun k a ha => ?_, fun q => by cases q⟩
        · unfold mu0
          rw [if_pos (by omega), hi]; rfl
        · by_cases h0 : l.length = 0
          · omega
          · obtain ⟨v, hv, _⟩ := hk (l.length - 1) l[l.length - 1] (List.getElem?_eq_getElem (by omega))
            have := (Array.getElem?_eq_some_iff.1 hv).1
            omega
        · obtain ⟨v, hv, hV⟩ := hk k a ha
          exact ⟨v, by simpa using hv, hV _⟩
    · rw [Tr.get_nil] at hi; cases hi
  · rw [nowr i b hi] at hw; cases hw

/-- What is true of a call that only makes new blocks. -/
def Kept (W W' : World) : Prop := (∀ r, r < W.heap.size → W'.heap[r]? = W.heap[r]?) ∧ W'.os = W.os ∧ W'.output = W.output

theorem Kept.keptBut {W W' : World} (h : Kept W W') (may : MemPlace → Prop) : W.keptBut W' may := by
  refine ⟨h.2.1, h.2.2, fun i hi => ?_⟩
  rw [h.1 i hi]
  cases W.heap[i]? with
  | none => simp
  | some b => cases b <;> simp

/-- A call that is made in the world in which a law begins. -/
theorem call_of_run (hm : P.follows .mixedOrders = true) {tb : Nat → Option AFn} (ht : TableOk P tb) {W : World} {G : List Blk} (hG : P.globals.size ≤ G.length) (hb : ∀ (g : Nat) (b : Blk), G[g]? = some b → b = .dead ∨ ∃ l, b = .cells l true ∧ Laid W g l)
    {k f : Nat} {args : List AV} {rargs : List Value} (hv : ∀ μ, VL μ args rargs) {o : Out AV} (e : run tb k f args (globH G 0 .nil) 0 = some o) :
    Calls P f rargs.toArray W fun e W' => ∃ x μ, e = .returned x ∧ V μ o.v x ∧ Kept W W' := by
  obtain ⟨h1, h2, h3⟩ := start (P := P) hG hb
  refine (run_sound hm ht e (mu0 G) W rargs h1 h2 (hv _)).mono ?_
  rintro e W' ⟨x, μ', rfl, hx, hr, he⟩
  exact ⟨x, μ', rfl, hx, fun r hlt => he.same r hlt (h3 r), he.os, he.out⟩

/-- A closed law: no parameter, no variable of its own. -/
theorem closed_post {f : Func} {s : ChangeSpec} {apart fresh handsOn again : Bool} {W W' : World} {tb : TypeId} (hW : DataW.Whole enc P f.params.toList s.vars apart W [] [] [] []) (hp : f.params = #[]) (hr : f.resultTypes = #[tb]) (htb : P.underlying tb = some .bool) (hvars : s.vars = [])
    (hs : s.fn H [] = { results := [.lit (.bool true)], args := [] }) (hk : Kept W W') : s.post enc P f apart fresh handsOn again W #[] (.bool true) W' := by
  have t1 : ∀ (b : Nat) (sp : Nat → Bool) (hd : Bool), DataW.TrodAll enc P W' b sp hd [tb] [.bool true] [.lit (.bool true)] [] := fun b sp hd => ChangeShapes.trodAll_mk1 (RowKit.shut_bool htb _)
  have e1 : (Value.bool true).resultList 1 = [.bool true] := rfl
  refine ⟨[], [], [], [], [], [], hW, ?_, ?_, ?_, hk.keptBut _, fun _ => ⟨?_, ?_⟩⟩
  · rw [hr, List.append_nil, hs]; exact t1 _ _ _
  · rw [hp, List.append_nil, hs]; rfl
  · rw [hvars, List.append_nil, hs]; rfl
  · intro j t r hj hr'
    rw [hr] at hj hr'
    cases j with
    | zero =>
      simp at hj
      subst hj
      have : r = .bool true := by simpa [Value.resultList] using hr'.symm
      subst this
      exact RowKit.okWide_bool_mk htb _
    | succ j => simp at hj
  · refine ⟨[.lit (.bool true)], [], [], ⟨[], [], ?_, ?_, rfl, ?_, fun _ => List.nodup_nil⟩, fun p hp => by cases hp⟩
    · rw [hr, hp]; exact t1 _ _ _
    · rw [hvars]; rfl
    · intro b off hp; cases hp
end
end Go.Am
