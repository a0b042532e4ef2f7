/-
  What a computation of the abstract machine hangs on is told by its log: the operations, code, calls.
-/
import Derived.Test.YtadmjdnkhpngeaaGreatDoorAmLoc
namespace Go.Am

theorem Loc.appendF (sz bytes : Nat) (x : AV) (n : Nat) (new : List AV) (lg : Lg) (c : Nat) : Loc (fun h => appendF sz bytes x n new lg h c) := by
  have hnew : ∀ (b : Blk) (mk : Nat → AV), Loc (fun h => match Am.newB b h c mk with
      | some o => some (⟨o.v, o.h, o.c, .app lg o.l⟩ : Out AV)
      | Option.none => Option.none) := fun b mk =>
    (Loc.bind (m := fun h => some ⟨(), h, c, lg⟩) (f := fun _ c h => Am.newB b h c mk) (Loc.ret _ _ _) (fun _ _ => Loc.newB _ _ _)).congr (fun h => by
      simp only [Am.addL]; cases Am.newB b h c mk <;> rfl)
  cases x with
  | nils =>
    simp only [Am.appendF]
    cases Nat.beq n 0
    · cases Nat.ble (n * (bytes + sz + 1)) maxStr
      · exact Loc.none
      · exact hnew _ _
    · exact Loc.ret _ _ _
  | slice id off m sz' =>
    simp only [Am.appendF]
    cases Nat.beq n 0
    · simp only [cond_false]
      cases (Nat.beq sz sz' && Nat.ble ((m + n) * (bytes + sz + 1)) maxStr && new.all isCell)
      · exact Loc.none
      · simp only [cond_true]
        refine ⟨fun h o e i hw => ?_, fun h o k e hk => ?_⟩
        · split at e
          case h_2 => cases e
          rename_i l hg
          cases hb : Nat.ble (off + m * sz) l.length
          · rw [hb] at e; cases e
          rw [hb] at e
          simp only [cond_true] at e
          unfold Am.newB at e
          split at e <;> cases e
          rename_i o' ho
          split at ho <;> cases ho
          simp only [Lg.writes, Bool.or_eq_false_iff] at hw
          have h1 : i ≠ id := fun q => by subst q; have := hw.2.1; rw [beqT rfl] at this; cases this
          have h2 : i ≠ c := fun q => by subst q; have := hw.2.2; rw [beqT rfl] at this; cases this
          show ((h.set Blk.dead id).set _ c).get i = _
          rw [Tr.get_set_ne _ _ h2, Tr.get_set_ne _ _ h1]
        · split at e
          case h_2 => cases e
          rename_i l hg
          cases hb : Nat.ble (off + m * sz) l.length
          · rw [hb] at e; cases e
          rw [hb] at e
          simp only [cond_true] at e
          unfold Am.newB at e
          split at e <;> cases e
          rename_i o' ho
          split at ho <;> cases ho
          rename_i hc
          have hid : k.get id = some (.cells l false) := by rw [hk id (by simp only [Lg.touches, Bool.or_eq_true]; exact .inr (.inl (beqT rfl)))]; exact hg
          have hne : c ≠ id := fun q => by subst q; rw [Tr.get_set_same] at hc; cases hc
          rw [Tr.get_set_ne _ _ hne] at hc
          have hcc : (k.set Blk.dead id).get c = Option.none := by
            rw [Tr.get_set_ne _ _ hne, hk c (by simp only [Lg.touches, Bool.or_eq_true]; exact .inr (.inr (beqT rfl)))]; exact hc
          refine ⟨⟨.slice c 0 (m + n) sz, (k.set Blk.dead id).set (.cells ((l.drop off).take (m * sz) ++ new) false) c, c + 1, .app lg (.app (.w id) (.w c))⟩, ?_, rfl, rfl, rfl, fun i hw => ?_⟩
          · simp only [hid, hb, cond_true, Am.newB, hcc]
          · show ((k.set _ _).set _ _).get i = ((h.set _ _).set _ _).get i
            rw [Tr.get_set, Tr.get_set, Tr.get_set, Tr.get_set]
            split
            · rfl
            · split
              · rfl
              · exact hk i (Lg.touch_of_write _ _ hw)
    · exact Loc.ret _ _ _
  | _ => exact Loc.none

theorem Loc.copyW (id off n : Nat) (new : List AV) (lg : Lg) (c : Nat) : Loc (fun h => copyW id off n new lg h c) := by
  simp only [Am.copyW]
  cases Nat.beq n 0
  · exact Loc.wr _ _ _ _ _ _ (by simp [Lg.writes])
  · exact Loc.ret _ _ _

theorem Loc.copyF (sz : Nat) (x y : AV) (c : Nat) : Loc (fun h => copyF sz x y h c) := by
  cases x with
  | nils => cases y <;> first | exact Loc.ret _ _ _ | exact Loc.none
  | slice id off m sz' =>
    simp only [Am.copyF]
    cases Nat.beq sz sz'
    · exact Loc.none
    · simp only [cond_true]
      cases y <;> simp only <;> first
        | exact Loc.ret _ _ _
        | exact Loc.none
        | (cases Nat.beq sz 1
           · exact Loc.none
           · exact Loc.copyW _ _ _ _ _ _)
        | (rename_i id2 off2 n sz2
           cases Nat.beq sz sz2
           · exact Loc.none
           · refine Loc.rd (fun vs => Loc.copyW _ _ _ _ _ _) (fun vs h o e => ?_)
             unfold Am.copyW at e
             cases hb : Nat.beq (n.min m) 0 <;> rw [hb] at e
             · simp only [cond_false] at e
               split at e <;> cases e
               simp [Lg.touches]
             · cases e; simp [Lg.touches])
  | _ => exact Loc.none

theorem Loc.op1 (T : Tr AV) (c : Nat) (k : AK) : Loc (fun h => op1 T h c k) := by
  have okv : ∀ v : AV, Loc (fun h => Am.okv v h c) := fun v => Loc.okv v c
  cases k with
  | move x => simp only [Am.op1, O.move]; cases ev T x <;> first | exact Loc.none | exact okv _
  | pick q a b =>
    simp only [Am.op1, O.pick]
    rcases ev T q with _ | v
    · exact Loc.none
    · cases v <;> first
        | exact Loc.none
        | (rename_i b'; cases b'
           · cases ev T b <;> first | exact Loc.none | exact okv _
           · cases ev T a <;> first | exact Loc.none | exact okv _)
  | alloc z => simp only [Am.op1, O.alloc]; exact Loc.newB _ _ _
  | box x => simp only [Am.op1, O.box]; cases ev T x <;> first | exact Loc.none | exact Loc.newB _ _ _
  | build z p => simp only [Am.op1, O.build]; cases fillF T z p <;> first | exact Loc.none | exact okv _
  | buildSlice s n z p => simp only [Am.op1, O.buildSlice]; cases fillF T z p <;> first | exact Loc.none | exact Loc.newB _ _ _
  | load agg n x =>
    simp only [Am.op1, O.load]
    rcases ev T x with _ | v
    · exact Loc.none
    · cases v <;> simp only <;> first
        | exact Loc.none
        | (refine Loc.rd (fun vs => ?_) (fun vs h o e => ?_)
           · cases agg
             · rcases vs with _ | ⟨v, _ | ⟨u, r⟩⟩ <;> first | exact Loc.none | exact Loc.ret _ _ _
             · exact Loc.ret _ _ _
           · split at e <;> cases e <;> simp [Lg.touches])
  | store n x v =>
    simp only [Am.op1, O.store]
    rcases ev T x with _ | a
    · exact Loc.none
    · rcases ev T v with _ | b
      · cases a <;> exact Loc.none
      · cases a <;> simp only <;> first
          | exact Loc.none
          | (cases Nat.beq (avCells b).length n
             · exact Loc.none
             · exact Loc.wr _ _ _ _ _ _ (by simp [Lg.writes]))
  | nilCheck x =>
    simp only [Am.op1, O.nilCheck]
    rcases ev T x with _ | v
    · exact Loc.none
    · cases v <;> first | exact Loc.none | exact okv _
  | bin op x y =>
    simp only [Am.op1, O.bin]
    cases ev T x <;> cases ev T y <;> simp only <;> first
      | exact Loc.none
      | (rename_i a b; cases binF op a b <;> first | exact Loc.none | exact okv _)
  | eqk k n x y =>
    simp only [Am.op1, O.eqk]
    cases ev T x <;> cases ev T y <;> simp only <;> first
      | exact Loc.none
      | (rename_i a b; cases eqF k a b <;> first | exact Loc.none | exact okv _)
  | binAgg n l x y =>
    simp only [Am.op1, O.binAgg]
    rcases ev T x with _ | a
    · exact Loc.none
    · rcases ev T y with _ | b
      · cases a <;> exact Loc.none
      · cases a <;> first
          | exact Loc.none
          | (rename_i xs; cases b <;> first
              | exact Loc.none
              | (rename_i ys; simp only; cases aggEq xs ys l <;> first | exact Loc.none | exact okv _))
  | un op x =>
    simp only [Am.op1, O.un]
    cases ev T x <;> simp only <;> first
      | exact Loc.none
      | (rename_i a; cases unF op a <;> first | exact Loc.none | exact okv _)
  | conv cv x =>
    simp only [Am.op1, O.conv]
    rcases ev T x with _ | a
    · cases cv <;> exact Loc.none
    · cases cv <;> simp only <;> cases a <;> simp only <;> first
        | exact Loc.none
        | exact okv _
        | exact Loc.newB _ _ _
        | (refine Loc.rd (fun vs => ?_) (fun vs h o e => ?_)
           · cases bytesOf vs <;> first | exact Loc.none | exact Loc.ret _ _ _
           · split at e <;> cases e <;> simp [Lg.touches])
        | (refine Loc.rd (fun vs => ?_) (fun vs h o e => ?_)
           · cases runesOf vs <;> first | exact Loc.none | exact Loc.ret _ _ _
           · split at e <;> cases e <;> simp [Lg.touches])
        | (rename_i id off n sz
           refine Loc.get (id := id) (G := fun b h => match b with
              | some (.cells _ false) => some (⟨.slice id off n sz, h, c, .w id⟩ : Out AV)
              | _ => Option.none) (fun b => ?_) (fun b h o e => ?_)
           · rcases b with _ | b
             · exact Loc.none
             · cases b <;> first
                | exact Loc.none
                | (rename_i ro; cases ro <;> first | exact Loc.ret _ _ _ | exact Loc.none)
           · split at e <;> cases e; simp [Lg.touches])
  | makeIface t x => simp only [Am.op1, O.makeIface]; cases ev T x <;> first | exact Loc.none | exact okv _
  | makeFunc f l => simp only [Am.op1, O.makeFunc]; cases evs T l <;> first | exact Loc.none | exact okv _
  | makeSlice s b z l cp =>
    simp only [Am.op1, O.makeSlice]
    rcases ev T l with _ | a
    · exact Loc.none
    · rcases ev T cp with _ | b'
      · cases a <;> first | exact Loc.none | (rename_i k n; cases k <;> cases n <;> exact Loc.none)
      · cases a <;> first
          | exact Loc.none
          | (rename_i k n; cases k <;> cases n <;> first
              | exact Loc.none
              | (cases b' <;> first
                  | exact Loc.none
                  | (rename_i n k m; cases k <;> cases m <;> first
                      | exact Loc.none
                      | (rename_i m; simp only
                         cases (Nat.ble n m && Nat.ble (m * (b + s + 1)) maxStr)
                         · exact Loc.none
                         · simp only [cond_true]; exact Loc.newB _ _ _))))
  | sliceStr x lo hi =>
    simp only [Am.op1, O.sliceStr]
    rcases ev T x with _ | a
    · exact Loc.none
    · rcases evo T lo with _ | lo
      · cases a <;> exact Loc.none
      · rcases evo T hi with _ | hi
        · cases a <;> exact Loc.none
        · cases a <;> first
            | exact Loc.none
            | (rename_i q; simp only
               rcases bnd 0 lo with _ | l
               · exact Loc.none
               · rcases bnd q.length hi with _ | u
                 · exact Loc.none
                 · simp only
                   cases (Nat.ble l u && Nat.ble u q.length) <;> first | exact Loc.none | exact okv _)
  | sliceSlc sz x lo hi =>
    simp only [Am.op1, O.sliceSlc]
    rcases ev T x with _ | a
    · exact Loc.none
    · rcases evo T lo with _ | lo
      · cases a <;> exact Loc.none
      · rcases evo T hi with _ | hi
        · cases a <;> exact Loc.none
        · cases a <;> first
            | exact Loc.none
            | (rename_i id off n sz'; simp only
               rcases bnd 0 lo with _ | l
               · exact Loc.none
               · rcases bnd n hi with _ | u
                 · exact Loc.none
                 · simp only
                   cases (Nat.ble l u && Nat.ble u n && Nat.beq sz sz') <;> first | exact Loc.none | exact okv _)
            | (simp only
               rcases bnd 0 lo with _ | _ | l
               · exact Loc.none
               · rcases bnd 0 hi with _ | _ | u <;> first | exact Loc.none | exact okv _
               · exact Loc.none)
  | sliceArr sz n x lo hi =>
    simp only [Am.op1, O.sliceArr]
    rcases ev T x with _ | a
    · exact Loc.none
    · rcases evo T lo with _ | lo
      · cases a <;> exact Loc.none
      · rcases evo T hi with _ | hi
        · cases a <;> exact Loc.none
        · cases a <;> first
            | exact Loc.none
            | (rename_i id off; simp only
               rcases bnd 0 lo with _ | l
               · exact Loc.none
               · rcases bnd n hi with _ | u
                 · exact Loc.none
                 · simp only
                   cases (Nat.ble l u && Nat.ble u n)
                   · exact Loc.none
                   · simp only [cond_true]
                     refine Loc.rd (g := fun vs h => some (⟨.slice id (off + l * sz) (u - l) sz, h, c, .r id⟩ : Out AV)) (fun vs => Loc.ret _ _ _) (fun vs h o e => ?_)
                     cases e; simp [Lg.touches])
  | fieldAddr o x =>
    simp only [Am.op1, O.fieldAddr]
    rcases ev T x with _ | v
    · exact Loc.none
    · cases v <;> first | exact Loc.none | exact okv _
  | field agg off n x =>
    simp only [Am.op1, O.field]
    rcases ev T x with _ | v
    · exact Loc.none
    · cases v <;> first
        | exact Loc.none
        | (rename_i l; cases agg
           · simp only; cases l[off]? <;> first | exact Loc.none | exact okv _
           · exact okv _)
  | indexAddrS sz x i =>
    simp only [Am.op1, O.indexAddrS]
    rcases ev T x with _ | a
    · exact Loc.none
    · rcases ev T i with _ | b
      · cases a <;> exact Loc.none
      · cases a <;> first
          | exact Loc.none
          | (rename_i id off n sz'
             cases b <;> first
              | exact Loc.none
              | (rename_i k j; cases j <;> simp only
                 · rename_i j; cases (Nat.blt j n && Nat.beq sz sz') <;> first | exact Loc.none | exact okv _
                 · exact Loc.none))
  | indexAddrA sz n x i =>
    simp only [Am.op1, O.indexAddrA]
    rcases ev T x with _ | a
    · exact Loc.none
    · rcases ev T i with _ | b
      · cases a <;> exact Loc.none
      · cases a <;> first
          | exact Loc.none
          | (rename_i id off
             cases b <;> first
              | exact Loc.none
              | (rename_i k j; cases j <;> simp only
                 · rename_i j; cases Nat.blt j n <;> first | exact Loc.none | exact okv _
                 · exact Loc.none))
  | indexA agg sz n x i =>
    simp only [Am.op1, O.indexA]
    rcases ev T x with _ | a
    · exact Loc.none
    · rcases ev T i with _ | b
      · cases a <;> exact Loc.none
      · cases a <;> first
          | exact Loc.none
          | (rename_i l
             cases b <;> first
              | exact Loc.none
              | (rename_i k j; cases j <;> simp only
                 · rename_i j; cases Nat.blt j n
                   · exact Loc.none
                   · cases agg
                     · simp only [cond_true]; cases l[j * sz]? <;> first | exact Loc.none | exact okv _
                     · exact okv _
                 · exact Loc.none))
  | indexS x i =>
    simp only [Am.op1, O.indexS]
    rcases ev T x with _ | a
    · exact Loc.none
    · rcases ev T i with _ | b
      · cases a <;> exact Loc.none
      · cases a <;> first
          | exact Loc.none
          | (rename_i l
             cases b <;> first
              | exact Loc.none
              | (rename_i k j; cases j <;> simp only
                 · rename_i j; cases l[j]? <;> first | exact Loc.none | exact okv _
                 · exact Loc.none))
  | range x =>
    simp only [Am.op1, O.range]
    rcases ev T x with _ | v
    · exact Loc.none
    · cases v <;> first | exact Loc.none | exact Loc.newB _ _ _
  | next x =>
    simp only [Am.op1, O.next]
    rcases ev T x with _ | v
    · exact Loc.none
    · cases v <;> first
        | exact Loc.none
        | (rename_i id off; cases off
           · simp only
             refine ⟨fun h o e i hw => ?_, fun h o k e hk => ?_⟩
             · split at e
               · rename_i q p hg
                 cases hb : Nat.blt p q.length <;> rw [hb] at e <;> cases e
                 · rfl
                 · have hne : i ≠ id := fun q => by subst q; simp [Lg.writes] at hw
                   exact Tr.get_set_ne _ _ hne
               · cases e
             · split at e
               · rename_i q p hg
                 cases hb : Nat.blt p q.length <;> rw [hb] at e <;> cases e
                 · have hk' : k.get id = some (.siter q p) := by rw [hk id (by simp [Lg.touches])]; exact hg
                   exact ⟨⟨.tup [.bool false], k, c, .r id⟩, by simp only [hk', hb, cond_false], rfl, rfl, rfl, fun i hw => by cases hw⟩
                 · have hk' : k.get id = some (.siter q p) := by rw [hk id (by simp [Lg.touches])]; exact hg
                   refine ⟨⟨_, k.set (.siter q (p + (Utf8.decode (baOf q) p).2)) id, c, .w id⟩, by simp only [hk', hb, cond_true], rfl, rfl, rfl, fun i hw => ?_⟩
                   have : id = i := beq_true hw
                   subst this
                   show (k.set _ _).get _ = (h.set _ _).get _
                   rw [Tr.get_set_same, Tr.get_set_same]
               · cases e
           · exact Loc.none)
  | typeAssert t ok z x =>
    simp only [Am.op1, O.typeAssert]
    rcases ev T x with _ | v
    · exact Loc.none
    · cases v <;> first
        | exact Loc.none
        | (rename_i t' v; simp only
           cases Nat.beq t t' <;> cases ok <;> first | exact Loc.none | exact okv _)
        | (cases ok <;> first | exact Loc.none | exact okv _)
  | extract x i =>
    simp only [Am.op1, O.extract]
    rcases ev T x with _ | v
    · exact Loc.none
    · cases v <;> first
        | exact Loc.none
        | (rename_i l; simp only; cases l[i]? <;> first | exact Loc.none | exact okv _)
  | callF f a => exact Loc.none
  | callV x a => exact Loc.none
  | len k x =>
    simp only [Am.op1, O.len]
    rcases ev T x with _ | v
    · cases k <;> exact Loc.none
    · cases k <;> cases v <;> first | exact Loc.none | exact okv _
  | cap x =>
    simp only [Am.op1, O.cap]
    rcases ev T x with _ | v
    · exact Loc.none
    · cases v <;> first | exact Loc.none | exact okv _
  | append sz b x y =>
    simp only [Am.op1, O.append]
    have key : ∀ (n : Nat) (new : List AV) (lg : Lg), Loc (fun h => match ev T x with
      | some v => Am.appendF sz b v n new lg h c
      | Option.none => Option.none) := fun n new lg => by
        cases ev T x <;> first | exact Loc.none | exact Loc.appendF _ _ _ _ _ _ _
    rcases ev T y with _ | v
    · exact Loc.none
    · cases v <;> simp only <;> first
        | exact Loc.none
        | exact key _ _ _
        | (cases Nat.beq sz 1 <;> first | exact Loc.none | exact key _ _ _)
        | (rename_i id off n sz'
           cases Nat.beq sz sz'
           · exact Loc.none
           · simp only [cond_true]
             refine (Loc.rd (g := fun vs h => match ev T x with
                | some v => Am.appendF sz b v n vs (.r id) h c
                | Option.none => Option.none) (id := id) (off := off) (n := n * sz) (fun vs => key n vs _) (fun vs h o e => ?_)).congr (fun h => ?_)
             · split at e
               · rename_i v' _
                 unfold Am.appendF at e
                 split at e
                 · cases hn : Nat.beq n 0 <;> rw [hn] at e
                   · cases hb : Nat.ble (n * (b + sz + 1)) maxStr <;> rw [hb] at e
                     · cases e
                     · simp only [cond_true, cond_false] at e
                       split at e <;> cases e
                       simp [Lg.touches]
                   · cases e; simp [Lg.touches]
                 · rename_i id2 off2 m sz2 _
                   cases hn : Nat.beq n 0 <;> rw [hn] at e
                   · simp only [cond_false] at e
                     cases hb : (Nat.beq sz sz2 && Nat.ble ((m + n) * (b + sz + 1)) maxStr && vs.all isCell) <;> rw [hb] at e
                     · cases e
                     · simp only [cond_true] at e
                       split at e
                       · rename_i l _
                         cases hb2 : Nat.ble (off2 + m * sz) l.length <;> rw [hb2] at e
                         · cases e
                         · simp only [cond_true] at e
                           split at e <;> cases e
                           simp [Lg.touches]
                       · cases e
                   · cases e; simp [Lg.touches]
                 · cases e
               · cases e
             · cases rdCells h id off (n * sz) <;> rfl)
  | appendZ sz b z x y =>
    simp only [Am.op1, O.appendZ]
    rcases ev T x with _ | a
    · exact Loc.none
    · rcases ev T y with _ | v
      · exact Loc.none
      · cases v <;> first
          | exact Loc.none
          | (rename_i k n; cases n <;> simp only
             · rename_i n
               cases Nat.ble (n * (b + sz + 1)) maxStr
               · exact Loc.none
               · exact Loc.appendF _ _ _ _ _ _ _
             · exact Loc.none)
  | copy sz x y =>
    simp only [Am.op1, O.copy]
    cases ev T x <;> cases ev T y <;> first | exact Loc.none | exact Loc.copyF _ _ _ _
  | min xs =>
    simp only [Am.op1, O.min]
    rcases evs T xs with _ | _ | ⟨a, r⟩
    · exact Loc.none
    · exact Loc.none
    · cases a <;> first
        | exact Loc.none
        | (rename_i k n; simp only; cases minmax false n r k <;> first | exact Loc.none | exact okv _)
  | max xs =>
    simp only [Am.op1, O.max]
    rcases evs T xs with _ | _ | ⟨a, r⟩
    · exact Loc.none
    · exact Loc.none
    · cases a <;> first
        | exact Loc.none
        | (rename_i k n; simp only; cases minmax true n r k <;> first | exact Loc.none | exact okv _)
  | clear sz z x =>
    simp only [Am.op1, O.clear]
    rcases ev T x with _ | v
    · exact Loc.none
    · cases v <;> first
        | exact Loc.none
        | exact okv _
        | (rename_i id off n sz'; simp only
           cases Nat.beq n 0
           · cases Nat.beq sz sz'
             · exact Loc.none
             · exact Loc.wr _ _ _ _ _ _ (by simp [Lg.writes])
           · exact okv _)
  | bad => exact Loc.none

/-! ### Code and calls -/

def LocCall (call : CallF) : Prop := ∀ f args c, Loc (fun h => call f args h c)

theorem Loc.op2 {call : CallF} (hc : LocCall call) (T : Tr AV) (c : Nat) (k : AK) : Loc (fun h => op2 call T h c k) := by
  cases k with
  | callF f args =>
    simp only [Am.op2]
    cases evs T args <;> first | exact Loc.none | exact hc _ _ _
  | callV x args =>
    simp only [Am.op2]
    rcases ev T x with _ | v
    · cases evs T args <;> exact Loc.none
    · cases v <;> first
        | (cases evs T args <;> exact Loc.none)
        | (cases evs T args <;> first | exact Loc.none | exact hc _ _ _)
  | _ => simp only [Am.op2]; exact Loc.op1 T c _

theorem Loc.stepO {call : CallF} (hc : LocCall call) (o : AOp) (T : Tr AV) (c : Nat) : Loc (fun h => stepO call o T h c) := by
  simp only [Am.stepO]
  rcases wantedF T o.guard with _ | _ | _
  · exact Loc.none
  · exact Loc.ret _ _ _
  · exact (Loc.map (fun v => putT T o.dst v) (Loc.op2 hc T c o.k)).congr (fun h => by
      simp only; cases Am.op2 call T h c o.k <;> rfl)

theorem Loc.ops {call : CallF} (hc : LocCall call) : ∀ (l : List AOp) (T : Tr AV) (c : Nat), Loc (fun h => ops call l T h c)
  | [], T, c => Loc.ret _ _ _
  | o :: r, T, c => Loc.bind (m := fun h => Am.stepO call o T h c) (f := fun T c h => Am.ops call r T h c) (Loc.stepO hc o T c) (fun T c => Loc.ops hc r T c) |>.congr (fun h => by
      simp only [Am.ops]; cases Am.stepO call o T h c <;> rfl)

/-- As 'bind', but what follows may look at the first one's log too. -/
theorem Loc.bindL {α β : Type} {m : Hp → Option (Out α)} {f : α → Nat → Lg → Hp → Option (Out β)} (hm : Loc m) (hf : ∀ a c l, Loc (f a c l)) :
    Loc (fun h => match m h with | Option.none => Option.none | some r => Am.addL r.l (f r.v r.c r.l r.h)) := by
  have hm' : Loc (fun h => match m h with | Option.none => Option.none | some r => some (⟨(r.v, r.l), r.h, r.c, r.l⟩ : Out (α × Lg))) := by
    refine ⟨fun h o e id hw => ?_, fun h o k e hk => ?_⟩
    · split at e <;> cases e
      rename_i r hr
      exact hm.same _ r hr id hw
    · split at e <;> cases e
      rename_i r hr
      obtain ⟨r', hr', ev, ec, el, ew⟩ := hm.move h r k hr hk
      exact ⟨⟨(r'.v, r'.l), r'.h, r'.c, r'.l⟩, by simp only [hr'], by rw [ev, el], ec, el, ew⟩
  exact (Loc.bind hm' (f := fun a c h => f a.1 c a.2 h) (fun a c => hf _ _ _)).congr (fun h => by
    cases m h <;> rfl)

theorem Loc.opsD {call : CallF} (hc : LocCall call) : ∀ (l : List AOp) (ords : List Nat) (i : Nat) (seen : List (Nat × Lg)) (T : Tr AV) (c : Nat), Loc (fun h => opsD call l ords i seen T h c)
  | [], _, _, _, T, c => Loc.ret _ _ _
  | o :: r, [], _, _, T, c => Loc.none
  | o :: r, ord :: ords, i, seen, T, c =>
    (Loc.bindL (m := fun h => Am.stepO call o T h c) (f := fun T c l h => bif apartAll ord l seen then Am.opsD call r ords (i + 1) (bif l.isE then seen else (i, l) :: seen) T h c else Option.none) (Loc.stepO hc o T c) (fun T c l => by
      cases apartAll ord l seen
      · exact Loc.none
      · exact Loc.opsD hc r ords (i + 1) _ T c)).congr (fun h => by
        simp only [Am.opsD]
        cases Am.stepO call o T h c with
        | none => rfl
        | some x => simp only; cases apartAll ord x.l seen <;> rfl)

def LocSem (f : Sem1) : Prop := ∀ T c, Loc (fun h => f T h c)

theorem LocSem.seq {f g : Sem1} (hf : LocSem f) (hg : LocSem g) : LocSem (C.seq f g) := fun T c =>
  have key : ∀ (a : AEx × Tr AV) (c : Nat), Loc (fun h => match a.1 with
      | .normal => g a.2 h c
      | x => (some ⟨(x, a.2), h, c, .e⟩ : Option Fin)) := fun a c => by
    rcases a with ⟨x, T⟩
    cases x <;> first | exact hg T c | exact Loc.ret _ _ _
  -- the log of what follows an exit is none: another shape of the same thing
  ⟨fun h o e id hw => by
      unfold C.seq at e
      split at e
      · cases e
      · rename_i r hr
        split at e
        · rename_i hx
          unfold addL at e
          split at e
          · rename_i s hs
            cases e
            simp only [Lg.writes, Bool.or_eq_false_iff] at hw
            rw [(hg _ _).same _ s hs id hw.2, (hf _ _).same _ r hr id hw.1]
          · cases e
        · cases e
          exact (hf _ _).same _ r hr id hw,
    fun h o k e hk => by
      have hb := Loc.bind (hf T c) (f := fun a c h => g a.2 h c) (fun a c => hg a.2 c)
      unfold C.seq at e
      split at e
      · cases e
      · rename_i r hr
        split at e
        · rename_i hx
          obtain ⟨o', e', q⟩ := hb.move h o k (by simp only [hr]; exact e) hk
          refine ⟨o', ?_, q⟩
          split at e'
          · cases e'
          · rename_i r' hr'
            obtain ⟨r2, hr2, ev, _⟩ := (hf T c).move h r k hr (fun id ht => hk id (by
              unfold addL at e
              split at e <;> cases e
              simp [Lg.touches, ht]))
            rw [hr'] at hr2; cases hr2
            simp only [C.seq, hr', ev, hx]
            rw [← ev]; exact e'
        · rename_i x hx
          cases e
          obtain ⟨r', hr', ev, ec, el, ew⟩ := (hf T c).move h r k hr hk
          refine ⟨⟨(r'.v.1, r'.v.2), r'.h, r'.c, r'.l⟩, ?_, by rw [ev], ec, el, ew⟩
          simp only [C.seq, hr', ev]⟩

theorem LocSem.cond (q : Opd) {f g : Sem1} (hf : LocSem f) (hg : LocSem g) : LocSem (C.cond q f g) := fun T c => by
  simp only [C.cond]
  rcases ev T q with _ | v
  · exact Loc.none
  · cases v <;> first
      | exact Loc.none
      | (rename_i b; cases b
         · exact hg T c
         · exact hf T c)

theorem LocSem.block (id : Nat) {f : Sem1} (hf : LocSem f) : LocSem (C.block id f) := fun T c =>
  (Loc.map (fun v : AEx × Tr AV => (C.exitB id v.1, v.2)) (hf T c)).congr (fun h => by
    simp only [C.block]; cases f T h c <;> rfl)

theorem LocSem.iter {f : Sem1} (hf : LocSem f) : ∀ n, LocSem (iter f n)
  | 0 => fun _ _ => Loc.none
  | n + 1 => fun T c => LocSem.seq hf (LocSem.iter hf n) T c

theorem LocSem.fin {m : Hp → Option (Out (Tr AV))} (hm : Loc m) : Loc (fun h => C.fin (m h)) :=
  (Loc.map (fun T => (AEx.normal, T)) hm).congr (fun h => by cases m h <;> rfl)

theorem LocSem.execC {call : CallF} (hc : LocCall call) (fuel : Nat) : ∀ (a : ACode), LocSem (execC call fuel a)
  | .skip => fun _ _ => Loc.ret _ _ _
  | .region os none => fun T c => LocSem.fin (Loc.ops hc os T c)
  | .region os (some ords) => fun T c => LocSem.fin (Loc.opsD hc os ords 0 [] T c)
  | .seq a b => LocSem.seq (LocSem.execC hc fuel a) (LocSem.execC hc fuel b)
  | .cond q a b => LocSem.cond q (LocSem.execC hc fuel a) (LocSem.execC hc fuel b)
  | .block id b => LocSem.block id (LocSem.execC hc fuel b)
  | .loop b => LocSem.iter (LocSem.execC hc fuel b) fuel
  | .exit _ => fun _ _ => Loc.ret _ _ _
  | .ret => fun _ _ => Loc.ret _ _ _

theorem Loc.result (T : Tr AV) : ∀ (l : List ARes) (c : Nat), Loc (fun h => match result T h l with | some (vs, g) => (some ⟨vs, h, c, g⟩ : Option (Out (List AV))) | Option.none => Option.none)
  | [], c => Loc.ret _ _ _
  | .tmp t :: r, c => by
    have ih := Loc.result T r c
    rcases ht : T.get t with _ | v
    · simp only [Am.result, ht]; exact Loc.none
    · refine (Loc.map (fun l => v :: l) ih).congr (fun h => ?_)
      simp only [Am.result, ht]
      rcases Am.result T h r with _ | ⟨l, g⟩ <;> rfl
  | .cell t n agg :: r, c => by
    have ih := Loc.result T r c
    rcases ht : T.get t with _ | v
    · simp only [Am.result, ht]; exact Loc.none
    · cases v with
      | ptr id off =>
        have key : Loc (fun h => match rdCells h id off n with
            | some vs => (match (match agg, vs with
              | true, vs => some (AV.agg vs)
              | false, [v] => some v
              | _, _ => Option.none : Option AV) with
              | some v => addL (.r id) ((fun h => match (match Am.result T h r with | some (vs, g) => (some ⟨vs, h, c, g⟩ : Option (Out (List AV))) | Option.none => Option.none) with
                  | some q => (some ⟨v :: q.v, q.h, q.c, q.l⟩ : Option (Out (List AV)))
                  | Option.none => Option.none) h)
              | Option.none => Option.none)
            | Option.none => Option.none) := by
          refine Loc.rd (fun vs => ?_) (fun vs h o e => ?_)
          · rcases (match agg, vs with
              | true, vs => some (AV.agg vs)
              | false, [v] => some v
              | _, _ => Option.none : Option AV) with _ | v
            · exact Loc.none
            · exact (Loc.bind (m := fun h => some ⟨(), h, c, .r id⟩) (Loc.ret _ _ _) (f := fun _ _ h => match (match Am.result T h r with | some (vs, g) => (some ⟨vs, h, c, g⟩ : Option (Out (List AV))) | Option.none => Option.none) with
                  | some q => (some ⟨v :: q.v, q.h, q.c, q.l⟩ : Option (Out (List AV)))
                  | Option.none => Option.none) (fun _ _ => (Loc.map (fun l => v :: l) ih).congr (fun h => by
                    rcases Am.result T h r with _ | ⟨l, g⟩ <;> rfl))).congr (fun h => rfl)
          · split at e
            · unfold addL at e
              split at e <;> cases e
              simp [Lg.touches]
            · cases e
        refine key.congr (fun h => ?_)
        simp only [Am.result, ht]
        rcases rdCells h id off n with _ | vs
        · rfl
        · rcases Am.result T h r with _ | ⟨l, g⟩
          · cases agg
            · rcases vs with _ | ⟨v, _ | ⟨u, q⟩⟩ <;> rfl
            · rfl
          · cases agg
            · rcases vs with _ | ⟨v, _ | ⟨u, q⟩⟩ <;> rfl
            · rfl
      | _ => simp only [Am.result, ht]; exact Loc.none

theorem Loc.enter {call : CallF} (hc : LocCall call) (fuel : Nat) (fn : AFn) (args : List AV) (c : Nat) : Loc (fun h => enter call fuel fn args h c) := by
  have h1 := LocSem.execC hc fuel fn.body (enterT args 0 .nil) c
  have h2 := Loc.bind h1 (f := fun v c h => match v.1 with
    | .exit _ => Option.none
    | _ => match (match Am.result v.2 h fn.results with | some (vs, g) => (some ⟨vs, h, c, g⟩ : Option (Out (List AV))) | Option.none => Option.none) with
      | some q => (some ⟨one q.v, q.h, q.c, q.l⟩ : Option (Out AV))
      | Option.none => Option.none) (fun v c => by
        rcases v with ⟨x, T⟩
        cases x <;> first
          | exact Loc.none
          | exact (Loc.map one (Loc.result T fn.results c)).congr (fun h => by
              simp only; rcases Am.result T h fn.results with _ | ⟨vs, g⟩ <;> rfl))
  refine h2.congr (fun h => ?_)
  unfold Am.enter
  rcases Am.execC call fuel fn.body (enterT args 0 .nil) h c with _ | r
  · rfl
  · rcases r with ⟨⟨x, T⟩, h', c', l⟩
    cases x <;> simp only <;> first
      | rfl
      | (rcases Am.result T h' fn.results with _ | ⟨vs, g⟩ <;> rfl)

theorem LocCall.run (P : Nat → Option AFn) : ∀ n, LocCall (run P n)
  | 0 => fun _ _ _ => Loc.none
  | n + 1 => fun f args c => by
    simp only [Am.run]
    cases P f <;> first | exact Loc.none | exact Loc.enter (LocCall.run P n) n _ args c

end Go.Am
