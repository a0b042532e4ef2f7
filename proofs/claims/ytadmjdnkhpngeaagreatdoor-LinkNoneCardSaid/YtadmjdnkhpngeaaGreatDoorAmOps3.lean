/-
  Each operation of the abstract machine stands for the model's: (3) aggregates compared.
-/
import Derived.Test.YtadmjdnkhpngeaaGreatDoorAmOps2
import Derived.Laws.StructEq
namespace Go.Am
variable {μ : Mu} {P : Program} {w : World}

theorem aggEq_append (xs ys : List AV) : ∀ (m l : List (Nat × Nat)) (r : Bool), aggEq xs ys (m ++ l) = some r → ∃ r1 r2, aggEq xs ys m = some r1 ∧ aggEq xs ys l = some r2 ∧ r = (r1 && r2)
  | [], l, r, h => ⟨true, r, rfl, h, by simp⟩
  | o :: m, l, r, h => by
    simp only [List.cons_append, aggEq] at h ⊢
    split at h
    · rename_i x y hx hy
      split at h
      · rename_i b hb
        split at h
        · rename_i c hc
          cases h
          obtain ⟨r1, r2, e1, e2, rfl⟩ := aggEq_append xs ys m l c hc
          exact ⟨b && r1, r2, by simp only [e1], e2, by cases b <;> simp⟩
        · cases h
      · cases h
    · cases h

/-- A value of a type lies at a place of a list of cells. -/
def LocAt (P : Program) (μ : Mu) (t : TypeId) (base : Nat) (L : List AV) (x : Value) : Prop :=
  ∀ i, ti P t = some i → (isAggT i.d = true → ∃ X : Array Value, x = .agg X ∧ ∀ (k : Nat) (a : AV), k < i.size → L[base + k]? = some a → ∃ v, X[k]? = some v ∧ V μ a v) ∧
    (isAggT i.d = false → ∀ a, L[base]? = some a → V μ a x)

theorem part_agg {L : List AV} {X : Array Value} {n base off : Nat} {t : TypeId} {i : TI} (h : ∀ (k : Nat) (a : AV), k < n → L[base + k]? = some a → ∃ v, X[k]? = some v ∧ V μ a v)
    (ht : ti P t = some i) (ho : off + i.size ≤ n) (hd : isAggT i.d = true) :
    ∃ y, (part t X off).run P w = .ok y w ∧ LocAt P μ t (base + off) L y := by
  obtain ⟨q, h1, h2, h3, _, _⟩ := ti_spec ht
  have hag := r_isAgg (w := w) h1
  rw [hd] at hag
  refine ⟨.agg (X.extract off (off + i.size)), ?_, fun j hj => ?_⟩
  · simp only [part, Sem.run_bind, hag, Result.andThen_ok, if_true, r_sizeOf h2, h3, Sem.run_pure]
  · rw [ht] at hj; cases hj
    refine ⟨fun _ => ⟨_, rfl, fun k a hk hl => ?_⟩, fun e => by rw [hd] at e; cases e⟩
    obtain ⟨v, e, g⟩ := h (off + k) a (by omega) (by rw [← Nat.add_assoc]; exact hl)
    refine ⟨v, ?_, g⟩
    have hlt : off + k < X.size := by
      rcases Nat.lt_or_ge (off + k) X.size with g | g
      · exact g
      · rw [Array.getElem?_eq_none g] at e; cases e
    rw [Array.getElem?_extract, if_pos (by omega)]
    exact e

theorem part_cell {L : List AV} {X : Array Value} {n base off : Nat} {t : TypeId} {i : TI} {a : AV} (h : ∀ (k : Nat) (a : AV), k < n → L[base + k]? = some a → ∃ v, X[k]? = some v ∧ V μ a v)
    (ht : ti P t = some i) (ho : off < n) (hL : L[base + off]? = some a) (hd : isAggT i.d = false) :
    ∃ y, (part t X off).run P w = .ok y w ∧ LocAt P μ t (base + off) L y := by
  obtain ⟨q, h1, h2, h3, _, _⟩ := ti_spec ht
  have hag := r_isAgg (w := w) h1
  rw [hd] at hag
  obtain ⟨v, e, g⟩ := h off a ho hL
  refine ⟨v, ?_, fun j hj => ?_⟩
  · simp only [part, Sem.run_bind, hag, Result.andThen_ok, Bool.false_eq_true, if_false, e, Sem.run_pure]
  · rw [ht] at hj; cases hj
    refine ⟨fun e => (by rw [hd] at e; cases e), fun _ b hb => ?_⟩
    rw [hL] at hb; cases hb; exact g

theorem cell_bool {a b : AV} {r : Bool} {x y : Value} {t : TypeId} (n : Nat) (h : cellEq 0 a b = some r) (ha : V μ a x) (hb : V μ b y) (ht : P.underlying t = some .bool) :
    (Op.equalIn (n + 1) t x y).run P w = .ok r w := by
  cases a <;> simp only [cellEq, reduceCtorEq] at h <;> cases b <;> simp only [cellEq, reduceCtorEq, Option.some.injEq] at h
  cases ha; cases hb; subst h
  exact run_equalIn_bool' w n t _ _ ht

theorem cell_int {a b : AV} {r : Bool} {x y : Value} {t : TypeId} {k : IntKind} (n : Nat) (h : cellEq 1 a b = some r) (ha : V μ a x) (hb : V μ b y) (ht : P.underlying t = some (.int k)) :
    (Op.equalIn (n + 1) t x y).run P w = .ok r w := by
  cases a <;> simp only [cellEq, reduceCtorEq] at h <;> cases b <;> simp only [cellEq, reduceCtorEq] at h
  rename_i k1 a k2 b
  cases hk : kindEq k1 k2
  · rw [hk] at h; cases h
  · rw [hk] at h
    simp only [cond_true, Option.some.injEq] at h
    cases kindEq_eq hk
    cases ha; cases hb; subst h
    rw [run_equalIn_int w n t _ k _ _ ht, ieqB_eq, intCmp_eql]

theorem cell_str {a b : AV} {r : Bool} {x y : Value} {t : TypeId} (n : Nat) (h : cellEq 2 a b = some r) (ha : V μ a x) (hb : V μ b y) (ht : P.underlying t = some .string) :
    (Op.equalIn (n + 1) t x y).run P w = .ok r w := by
  cases a <;> simp only [cellEq, reduceCtorEq] at h <;> cases b <;> simp only [cellEq, reduceCtorEq, Option.some.injEq] at h
  cases ha; cases hb; subst h
  rw [run_equalIn_string w n t _ _ ht, baOf_toList, baOf_toList, seqB_eq]
  congr 1
  rw [Bool.eq_iff_iff]; simp

theorem aggEq_one {xs ys : List AV} {o k : Nat} {r : Bool} (h : aggEq xs ys [(o, k)] = some r) : ∃ a b, xs[o]? = some a ∧ ys[o]? = some b ∧ cellEq k a b = some r := by
  unfold aggEq at h
  split at h
  · rename_i a b ha hb
    split at h
    · rename_i c hc
      simp only [aggEq, Bool.and_true, Option.some.injEq] at h
      subst h
      exact ⟨a, b, ha, hb, hc⟩
    · cases h
  · cases h

/-- What the struct's fields' comparison comes to. -/
theorem run_array_eq (d n sz : Nat) (elem : TypeId) (X Y : Array Value) (f : Nat → Bool) (hn : ∀ k, k < n → ∃ a b, (part elem X (k * sz)).run P w = .ok a w ∧ (part elem Y (k * sz)).run P w = .ok b w ∧
      (Op.equalIn d elem a b).run P w = .ok (f k) w) :
    ∀ (m s : Nat), s + m ≤ n → (forIn (m := Sem) (List.range' s m) ((none, ()) : Option Bool × Unit) (fun i r => do
        let a ← part elem X (i * sz)
        let b ← part elem Y (i * sz)
        let c ← Op.equalIn d elem a b
        if (!c) = true then pure (ForInStep.done (some false, ())) else pure (ForInStep.yield (none, ())))).run P w =
      .ok (if (List.range' s m).all f then (none, ()) else (some false, ())) w := by
  intro m
  induction m with
  | zero => intro s _; simp
  | succ m ih =>
    intro s hs
    obtain ⟨a, b, e1, e2, e3⟩ := hn s (by omega)
    rw [List.range'_succ, List.forIn_cons]
    by_cases hf : f s = true
    · rw [hf] at e3
      simp only [Sem.run_bind, e1, e2, e3, Result.andThen_ok, List.all_cons, hf, Bool.not_true, Bool.false_eq_true, if_false, Sem.run_pure, Bool.true_and]
      exact ih (s + 1) (by omega)
    · have hf' : f s = false := by simpa using hf
      rw [hf'] at e3
      simp [Sem.run_bind, e1, e2, e3, hf']

theorem fold_fields {d base : Nat} {i : TI} : ∀ {fs : List Field} {offs : List (Nat × Nat)},
    fs.foldr (fun f acc => match acc with
            | none => none
            | some l => match ti P f.type with
              | none => none
              | some j => if f.name = "_" ∨ j.size = 0 ∨ i.size < f.offset + j.size then none else match eqOffs P d f.type (base + f.offset) with
                | some m => some (m ++ l)
                | none => none) (some []) = some offs →
    (∀ f ∈ fs, f.name ≠ "_") ∧ (fs = [] → offs = []) ∧
    (∀ f r, fs = f :: r → ∃ j m l, ti P f.type = some j ∧ (0 < j.size ∧ f.offset + j.size ≤ i.size) ∧ eqOffs P d f.type (base + f.offset) = some m ∧ offs = m ++ l ∧
      r.foldr (fun f acc => match acc with
            | none => none
            | some l => match ti P f.type with
              | none => none
              | some j => if f.name = "_" ∨ j.size = 0 ∨ i.size < f.offset + j.size then none else match eqOffs P d f.type (base + f.offset) with
                | some m => some (m ++ l)
                | none => none) (some []) = some l)
  | [], _, h => by cases h; exact ⟨fun f hf => (by cases hf), fun _ => rfl, fun f r e => (by cases e)⟩
  | f :: fs, offs, h => by
    rw [List.foldr_cons] at h
    split at h
    · cases h
    · rename_i l hl
      split at h
      · cases h
      · rename_i j hj
        split at h
        · cases h
        · rename_i hc
          split at h
          · rename_i m hm
            cases h
            have := fold_fields hl
            refine ⟨fun g hg => ?_, fun e => (by cases e), fun g r e => ?_⟩
            · cases hg with
              | head => exact fun e => hc (.inl e)
              | tail _ hg => exact this.1 g hg
            · cases e
              exact ⟨j, m, l, hj, by have h1 := fun q => hc (.inr (.inl q)); have h2 := fun q => hc (.inr (.inr q)); exact ⟨by omega, by omega⟩, hm, rfl, hl⟩
          · cases h

theorem fold_elems {d base : Nat} {e : TypeId} {i j : TI} : ∀ {ks : List Nat} {offs : List (Nat × Nat)} {L M : List AV} {r : Bool},
    ks.foldr (fun k acc => match acc with
            | none => none
            | some l => if j.size = 0 ∨ i.size < k * j.size + j.size then none else match eqOffs P d e (base + k * j.size) with
              | some m => some (m ++ l)
              | none => none) (some []) = some offs → aggEq L M offs = some r →
    ∃ f : Nat → Bool, r = ks.all f ∧ ∀ k ∈ ks, (0 < j.size ∧ k * j.size + j.size ≤ i.size) ∧ ∃ m, eqOffs P d e (base + k * j.size) = some m ∧ aggEq L M m = some (f k)
  | [], _, _, _, r, h, g => by cases h; cases g; exact ⟨fun _ => true, rfl, fun k hk => (by cases hk)⟩
  | k :: ks, offs, L, M, r, h, g => by
    rw [List.foldr_cons] at h
    split at h
    · cases h
    · rename_i l hl
      split at h
      · cases h
      · rename_i hc
        split at h
        · rename_i m hm
          cases h
          obtain ⟨r1, r2, e1, e2, rfl⟩ := aggEq_append L M m l r g
          obtain ⟨f, hf, hall⟩ := fold_elems hl e2
          by_cases hk : k ∈ ks
          · obtain ⟨q, m', hm', hr'⟩ := hall k hk
            rw [hm] at hm'; cases hm'
            rw [e1] at hr'
            refine ⟨f, by rw [List.all_cons, ← hf]; cases hr'; rfl, fun x hx => ?_⟩
            cases hx with
            | head => exact ⟨q, m, hm, by rw [e1]; exact hr'⟩
            | tail _ hx => exact hall x hx
          · refine ⟨fun x => if x = k then r1 else f x, ?_, fun x hx => ?_⟩
            · rw [List.all_cons, if_pos rfl, hf]
              congr 1
              rw [Bool.eq_iff_iff, List.all_eq_true, List.all_eq_true]
              have hne : ∀ x ∈ ks, ¬ x = k := fun x hx e => hk (e ▸ hx)
              exact ⟨fun g x hx => by rw [if_neg (hne x hx)]; exact g x hx, fun g x hx => by have := g x hx; rw [if_neg (hne x hx)] at this; exact this⟩
            · show _ ∧ ∃ m, _ ∧ aggEq L M m = some (if x = k then r1 else f x)
              by_cases hxk : x = k
              · subst hxk; rw [if_pos rfl]; exact ⟨by omega, m, hm, e1⟩
              · rw [if_neg hxk]
                cases hx with
                | head => exact (hxk rfl).elim
                | tail _ hx => exact hall x hx
        · cases h

theorem eqOffs_sound : ∀ (n : Nat) (t : TypeId) (base : Nat) (offs : List (Nat × Nat)) (L M : List AV) (r : Bool) (x y : Value) (d : Nat),
    eqOffs P n t base = some offs → aggEq L M offs = some r → n ≤ d → LocAt P μ t base L x → LocAt P μ t base M y → (Op.equalIn d t x y).run P w = .ok r w := by
  intro n
  induction n with
  | zero => intro t base offs L M r x y d h; cases h
  | succ n ih =>
    intro t base offs L M r x y d h g hd hx hy
    obtain ⟨d, rfl⟩ : ∃ k, d = k + 1 := ⟨d - 1, by omega⟩
    unfold eqOffs at h
    split at h
    · cases h
    rename_i i hi
    obtain ⟨q, h1, h2, h3, _, _⟩ := ti_spec hi
    have hxi := hx i hi
    have hyi := hy i hi
    split at h
    · rename_i e; cases h
      obtain ⟨a, b, ea, eb, ec⟩ := aggEq_one g
      exact cell_bool d ec (hxi.2 (by rw [e]; rfl) a ea) (hyi.2 (by rw [e]; rfl) b eb) (by rw [h1, e])
    · rename_i k e; cases h
      obtain ⟨a, b, ea, eb, ec⟩ := aggEq_one g
      exact cell_int d ec (hxi.2 (by rw [e]; rfl) a ea) (hyi.2 (by rw [e]; rfl) b eb) (by rw [h1, e])
    · rename_i e; cases h
      obtain ⟨a, b, ea, eb, ec⟩ := aggEq_one g
      exact cell_str d ec (hxi.2 (by rw [e]; rfl) a ea) (hyi.2 (by rw [e]; rfl) b eb) (by rw [h1, e])
    · rename_i fs e
      obtain ⟨X, rfl, hX⟩ := hxi.1 (by rw [e]; rfl)
      obtain ⟨Y, rfl, hY⟩ := hyi.1 (by rw [e]; rfl)
      split at h
      · cases h
      rename_i hst
      have hfo : P.fieldsOf t = fs := by unfold Program.fieldsOf; rw [h1, e]
      rw [run_equalIn_struct w d t X Y (by rw [hfo, h1, e]) (by simpa using hst), hfo]
      have key : ∀ (l : List Field) (offs : List (Nat × Nat)) (r : Bool), l.foldr (fun f acc => match acc with
            | none => none
            | some l => match ti P f.type with
              | none => none
              | some j => if f.name = "_" ∨ j.size = 0 ∨ i.size < f.offset + j.size then none else match eqOffs P n f.type (base + f.offset) with
                | some m => some (m ++ l)
                | none => none) (some []) = some offs → aggEq L M offs = some r → (Op.eqFields d X Y l).run P w = .ok r w := by
        intro l
        induction l with
        | nil => intro offs r h g; cases h; cases g; rfl
        | cons f l ihl =>
          intro offs r h g
          obtain ⟨hn, _, hc⟩ := fold_fields h
          obtain ⟨j, m, l', hj, hs, hm, rfl, hl'⟩ := hc f l rfl
          obtain ⟨r1, r2, e1, e2, rfl⟩ := aggEq_append L M m l' r g
          have hpart : ∃ a b, (part f.type X f.offset).run P w = .ok a w ∧ (part f.type Y f.offset).run P w = .ok b w ∧ LocAt P μ f.type (base + f.offset) L a ∧ LocAt P μ f.type (base + f.offset) M b := by
            cases hag : isAggT j.d with
            | true =>
              obtain ⟨a, ea, la⟩ := part_agg (w := w) hX hj hs.2 hag
              obtain ⟨b, eb, lb⟩ := part_agg (w := w) hY hj hs.2 hag
              exact ⟨a, b, ea, eb, la, lb⟩
            | false =>
              -- a field of one cell
              have hone : ∃ k, m = [(base + f.offset, k)] := by
                cases n with
                | zero => cases hm
                | succ n =>
                  unfold eqOffs at hm
                  rw [hj] at hm
                  simp only at hm
                  split at hm <;> first
                    | (cases hm; exact ⟨_, rfl⟩)
                    | (rename_i e; rw [e] at hag; cases hag)
                    | cases hm
              obtain ⟨k, rfl⟩ := hone
              obtain ⟨a, b, ea, eb, _⟩ := aggEq_one e1
              obtain ⟨a', ea', la⟩ := part_cell (w := w) hX hj (by omega) ea hag
              obtain ⟨b', eb', lb⟩ := part_cell (w := w) hY hj (by omega) eb hag
              exact ⟨a', b', ea', eb', la, lb⟩
          obtain ⟨a, b, ea, eb, la, lb⟩ := hpart
          have heq := ih f.type (base + f.offset) m L M r1 a b d hm e1 (by omega) la lb
          simp only [Op.eqFields, if_pos (hn f (by simp)), Sem.run_bind, ea, eb, heq, Result.andThen_ok]
          cases r1
          · simp
          · simp only [Bool.not_true, Bool.false_eq_true, if_false, Bool.true_and]
            exact ihl l' r2 hl' e2
      exact key fs.toList offs r h g
    · rename_i len e ed
      obtain ⟨X, rfl, hX⟩ := hxi.1 (by rw [ed]; rfl)
      obtain ⟨Y, rfl, hY⟩ := hyi.1 (by rw [ed]; rfl)
      split at h
      · rename_i j hj
        obtain ⟨qj, j1, j2, j3, _, _⟩ := ti_spec hj
        obtain ⟨f, rfl, hall⟩ := fold_elems h g
        have hn : ∀ k, k < len → ∃ a b, (part e X (k * j.size)).run P w = .ok a w ∧ (part e Y (k * j.size)).run P w = .ok b w ∧ (Op.equalIn d e a b).run P w = .ok (f k) w := by
          intro k hk
          obtain ⟨hs, m, hm, hr⟩ := hall k (by simpa using hk)
          cases hag : isAggT j.d with
          | true =>
            obtain ⟨a, ea, la⟩ := part_agg (w := w) hX hj hs.2 hag
            obtain ⟨b, eb, lb⟩ := part_agg (w := w) hY hj hs.2 hag
            exact ⟨a, b, ea, eb, ih e _ m L M (f k) a b d hm hr (by omega) la lb⟩
          | false =>
            have hone : ∃ q, m = [(base + k * j.size, q)] := by
              cases n with
              | zero => cases hm
              | succ n =>
                unfold eqOffs at hm
                rw [hj] at hm
                simp only at hm
                split at hm <;> first
                  | (cases hm; exact ⟨_, rfl⟩)
                  | (rename_i e; rw [e] at hag; cases hag)
                  | cases hm
            obtain ⟨q, rfl⟩ := hone
            obtain ⟨a, b, ea, eb, _⟩ := aggEq_one hr
            obtain ⟨a', ea', la⟩ := part_cell (w := w) hX hj (by omega) ea hag
            obtain ⟨b', eb', lb⟩ := part_cell (w := w) hY hj (by omega) eb hag
            exact ⟨a', b', ea', eb', ih e _ _ L M (f k) a' b' d hm hr (by omega) la lb⟩
        simp only [Op.equalIn, Sem.run_bind, r_underlying h1, ed, Result.andThen_ok, r_sizeOf j2, j3, Std.Legacy.Range.forIn_eq_forIn_range']
        have hrun := run_array_eq (P := P) (w := w) d len j.size e X Y f hn len 0 (by omega)
        have hsz : ([:len] : Std.Legacy.Range).size = len := by simp [Std.Legacy.Range.size]
        rw [hsz, hrun, List.range_eq_range']
        cases List.all (List.range' 0 len) f <;> rfl
      · cases h
    · cases h

end Go.Am
