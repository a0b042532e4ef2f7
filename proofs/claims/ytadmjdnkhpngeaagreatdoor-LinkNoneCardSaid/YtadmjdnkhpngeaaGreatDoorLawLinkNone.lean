/-
  PROVED: the law 'glowworm/glowwormlaw20.LinkNone' answers true, whatever the memory, on every order that Go leaves open, and everything that was there reads as before. CONDITIONS: the three listed variables of Go's library hold what the program's text lays (the card ties them to that text). The road is not walked by hand: a small deterministic machine, shown sound against the model's calls, carries the call out inside the kernel.
-/
import Derived.Test.YtadmjdnkhpngeaaGreatDoorCards
import Derived.Test.YtadmjdnkhpngeaaGreatDoorTie
import Derived.Test.YtadmjdnkhpngeaaGreatDoorAmOk
import Derived.Test.YtadmjdnkhpngeaaGreatDoorAmLaid
import Derived.ProofKit
import Derived.OpenShut
import Derived.LaidMore
import Derived.Lay
import Derived.SevenTiedAt
import Derived.Stop.Joined
namespace Go.Proofs.YtadmjdnkhpngeaaGreatDoor
open Go Go.Am Go.ChangeShapes Go.WideShapes Go.ChangeAt Go.RowKit
set_option maxRecDepth 100000

def zDe : List Int := [0, 1, 28, 2, 29, 14, 24, 3, 30, 22, 20, 15, 25, 17, 4, 8, 31, 27, 13, 23, 21, 19, 16, 7, 26, 12, 18, 6, 11, 5, 10, 9]
def zFirst : List Int := [240, 240, 240, 240, 240, 240, 240, 240, 240, 240, 240, 240, 240, 240, 240, 240, 240, 240, 240, 240, 240, 240, 240, 240, 240, 240, 240, 240, 240, 240, 240, 240, 240, 240, 240, 240, 240, 240, 240, 240, 240, 240, 240, 240, 240, 240, 240, 240, 240, 240, 240, 240, 240, 240, 240, 240, 240, 240, 240, 240, 240, 240, 240, 240, 240, 240, 240, 240, 240, 240, 240, 240, 240, 240, 240, 240, 240, 240, 240, 240, 240, 240, 240, 240, 240, 240, 240, 240, 240, 240, 240, 240, 240, 240, 240, 240, 240, 240, 240, 240, 240, 240, 240, 240, 240, 240, 240, 240, 240, 240, 240, 240, 240, 240, 240, 240, 240, 240, 240, 240, 240, 240, 240, 240, 240, 240, 240, 240, 241, 241, 241, 241, 241, 241, 241, 241, 241, 241, 241, 241, 241, 241, 241, 241, 241, 241, 241, 241, 241, 241, 241, 241, 241, 241, 241, 241, 241, 241, 241, 241, 241, 241, 241, 241, 241, 241, 241, 241, 241, 241, 241, 241, 241, 241, 241, 241, 241, 241, 241, 241, 241, 241, 241, 241, 241, 241, 241, 241, 241, 241, 241, 241, 241, 241, 2, 2, 2, 2, 2, 2, 2, 2, 2, 2, 2, 2, 2, 2, 2, 2, 2, 2, 2, 2, 2, 2, 2, 2, 2, 2, 2, 2, 2, 2, 19, 3, 3, 3, 3, 3, 3, 3, 3, 3, 3, 3, 3, 35, 3, 3, 52, 4, 4, 4, 68, 241, 241, 241, 241, 241, 241, 241, 241, 241, 241, 241]
def zAcc : List (Int × Int) := [(128, 191), (160, 191), (128, 159), (144, 191), (128, 143), (0, 0), (0, 0), (0, 0), (0, 0), (0, 0), (0, 0), (0, 0), (0, 0), (0, 0), (0, 0), (0, 0)]
theorem dDe : (Rows.laid_math_bits_deBruijn32tab : DataW Unit) = .agg (zDe.map fun v => .lit (.int .u8 v)) := by kernel_rfl
theorem dFirst : Rows.laid_unicode_utf8_first = .agg (zFirst.map fun v => .lit (.int .u8 v)) := by kernel_rfl
theorem dAcc : (Rows.laid_unicode_utf8_acceptRanges : DataW Unit) = .agg (zAcc.map fun v => .agg [.lit (.int .u8 v.1), .lit (.int .u8 v.2)]) := by kernel_rfl

/-- The blocks of the variables. -/
def gBlks : List Blk := [.cells [.int .u8 (.ofNat 0), .int .u8 (.ofNat 1), .int .u8 (.ofNat 28), .int .u8 (.ofNat 2), .int .u8 (.ofNat 29), .int .u8 (.ofNat 14), .int .u8 (.ofNat 24), .int .u8 (.ofNat 3), .int .u8 (.ofNat 30), .int .u8 (.ofNat 22), .int .u8 (.ofNat 20), .int .u8 (.ofNat 15), .int .u8 (.ofNat 25), .int .u8 (.ofNat 17), .int .u8 (.ofNat 4), .int .u8 (.ofNat 8), .int .u8 (.ofNat 31), .int .u8 (.ofNat 27), .int .u8 (.ofNat 13), .int .u8 (.ofNat 23), .int .u8 (.ofNat 21), .int .u8 (.ofNat 19), .int .u8 (.ofNat 16), .int .u8 (.ofNat 7), .int .u8 (.ofNat 26), .int .u8 (.ofNat 12), .int .u8 (.ofNat 18), .int .u8 (.ofNat 6), .int .u8 (.ofNat 11), .int .u8 (.ofNat 5), .int .u8 (.ofNat 10), .int .u8 (.ofNat 9)] true, .cells [.int .u8 (.ofNat 240), .int .u8 (.ofNat 240), .int .u8 (.ofNat 240), .int .u8 (.ofNat 240), .int .u8 (.ofNat 240), .int .u8 (.ofNat 240), .int .u8 (.ofNat 240), .int .u8 (.ofNat 240), .int .u8 (.ofNat 240), .int .u8 (.ofNat 240), .int .u8 (.ofNat 240), .int .u8 (.ofNat 240), .int .u8 (.ofNat 240), .int .u8 (.ofNat 240), .int .u8 (.ofNat 240), .int .u8 (.ofNat 240), .int .u8 (.ofNat 240), .int .u8 (.ofNat 240), .int .u8 (.ofNat 240), .int .u8 (.ofNat 240), .int .u8 (.ofNat 240), .int .u8 (.ofNat 240), .int .u8 (.ofNat 240), .int .u8 (.ofNat 240), .int .u8 (.ofNat 240), .int .u8 (.ofNat 240), .int .u8 (.ofNat 240), .int .u8 (.ofNat 240), .int .u8 (.ofNat 240), .int .u8 (.ofNat 240), .int .u8 (.ofNat 240), .int .u8 (.ofNat 240), .int .u8 (.ofNat 240), .int .u8 (.ofNat 240), .int .u8 (.ofNat 240), .int .u8 (.ofNat 240), .int .u8 (.ofNat 240), .int .u8 (.ofNat 240), .int .u8 (.ofNat 240), .int .u8 (.ofNat 240), .int .u8 (.ofNat 240), .int .u8 (.ofNat 240), .int .u8 (.ofNat 240), .int .u8 (.ofNat 240), .int .u8 (.ofNat 240), .int .u8 (.ofNat 240), .int .u8 (.ofNat 240), .int .u8 (.ofNat 240), .int .u8 (.ofNat 240), .int .u8 (.ofNat 240), .int .u8 (.ofNat 240), .int .u8 (.ofNat 240), .int .u8 (.ofNat 240), .int .u8 (.ofNat 240), .int .u8 (.ofNat 240), .int .u8 (.ofNat 240), .int .u8 (.ofNat 240), .int .u8 (.ofNat 240), .int .u8 (.ofNat 240), .int .u8 (.ofNat 240), .int .u8 (.ofNat 240), .int .u8 (.ofNat 240), .int .u8 (.ofNat 240), .int .u8 (.ofNat 240), .int .u8 (.ofNat 240), .int .u8 (.ofNat 240), .int .u8 (.ofNat 240), .int .u8 (.ofNat 240), .int .u8 (.ofNat 240), .int .u8 (.ofNat 240), .int .u8 (.ofNat 240), .int .u8 (.ofNat 240), .int .u8 (.ofNat 240), .int .u8 (.ofNat 240), .int .u8 (.ofNat 240), .int .u8 (.ofNat 240), .int .u8 (.ofNat 240), .int .u8 (.ofNat 240), .int .u8 (.ofNat 240), .int .u8 (.ofNat 240), .int .u8 (.ofNat 240), .int .u8 (.ofNat 240), .int .u8 (.ofNat 240), .int .u8 (.ofNat 240), .int .u8 (.ofNat 240), .int .u8 (.ofNat 240), .int .u8 (.ofNat 240), .int .u8 (.ofNat 240), .int .u8 (.ofNat 240), .int .u8 (.ofNat 240), .int .u8 (.ofNat 240), .int .u8 (.ofNat 240), .int .u8 (.ofNat 240), .int .u8 (.ofNat 240), .int .u8 (.ofNat 240), .int .u8 (.ofNat 240), .int .u8 (.ofNat 240), .int .u8 (.ofNat 240), .int .u8 (.ofNat 240), .int .u8 (.ofNat 240), .int .u8 (.ofNat 240), .int .u8 (.ofNat 240), .int .u8 (.ofNat 240), .int .u8 (.ofNat 240), .int .u8 (.ofNat 240), .int .u8 (.ofNat 240), .int .u8 (.ofNat 240), .int .u8 (.ofNat 240), .int .u8 (.ofNat 240), .int .u8 (.ofNat 240), .int .u8 (.ofNat 240), .int .u8 (.ofNat 240), .int .u8 (.ofNat 240), .int .u8 (.ofNat 240), .int .u8 (.ofNat 240), .int .u8 (.ofNat 240), .int .u8 (.ofNat 240), .int .u8 (.ofNat 240), .int .u8 (.ofNat 240), .int .u8 (.ofNat 240), .int .u8 (.ofNat 240), .int .u8 (.ofNat 240), .int .u8 (.ofNat 240), .int .u8 (.ofNat 240), .int .u8 (.ofNat 240), .int .u8 (.ofNat 240), .int .u8 (.ofNat 240), .int .u8 (.ofNat 240), .int .u8 (.ofNat 241), .int .u8 (.ofNat 241), .int .u8 (.ofNat 241), .int .u8 (.ofNat 241), .int .u8 (.ofNat 241), .int .u8 (.ofNat 241), .int .u8 (.ofNat 241), .int .u8 (.ofNat 241), .int .u8 (.ofNat 241), .int .u8 (.ofNat 241), .int .u8 (.ofNat 241), .int .u8 (.ofNat 241), .int .u8 (.ofNat 241), .int .u8 (.ofNat 241), .int .u8 (.ofNat 241), .int .u8 (.ofNat 241), .int .u8 (.ofNat 241), .int .u8 (.ofNat 241), .int .u8 (.ofNat 241), .int .u8 (.ofNat 241), .int .u8 (.ofNat 241), .int .u8 (.ofNat 241), .int .u8 (.ofNat 241), .int .u8 (.ofNat 241), .int .u8 (.ofNat 241), .int .u8 (.ofNat 241), .int .u8 (.ofNat 241), .int .u8 (.ofNat 241), .int .u8 (.ofNat 241), .int .u8 (.ofNat 241), .int .u8 (.ofNat 241), .int .u8 (.ofNat 241), .int .u8 (.ofNat 241), .int .u8 (.ofNat 241), .int .u8 (.ofNat 241), .int .u8 (.ofNat 241), .int .u8 (.ofNat 241), .int .u8 (.ofNat 241), .int .u8 (.ofNat 241), .int .u8 (.ofNat 241), .int .u8 (.ofNat 241), .int .u8 (.ofNat 241), .int .u8 (.ofNat 241), .int .u8 (.ofNat 241), .int .u8 (.ofNat 241), .int .u8 (.ofNat 241), .int .u8 (.ofNat 241), .int .u8 (.ofNat 241), .int .u8 (.ofNat 241), .int .u8 (.ofNat 241), .int .u8 (.ofNat 241), .int .u8 (.ofNat 241), .int .u8 (.ofNat 241), .int .u8 (.ofNat 241), .int .u8 (.ofNat 241), .int .u8 (.ofNat 241), .int .u8 (.ofNat 241), .int .u8 (.ofNat 241), .int .u8 (.ofNat 241), .int .u8 (.ofNat 241), .int .u8 (.ofNat 241), .int .u8 (.ofNat 241), .int .u8 (.ofNat 241), .int .u8 (.ofNat 241), .int .u8 (.ofNat 241), .int .u8 (.ofNat 241), .int .u8 (.ofNat 2), .int .u8 (.ofNat 2), .int .u8 (.ofNat 2), .int .u8 (.ofNat 2), .int .u8 (.ofNat 2), .int .u8 (.ofNat 2), .int .u8 (.ofNat 2), .int .u8 (.ofNat 2), .int .u8 (.ofNat 2), .int .u8 (.ofNat 2), .int .u8 (.ofNat 2), .int .u8 (.ofNat 2), .int .u8 (.ofNat 2), .int .u8 (.ofNat 2), .int .u8 (.ofNat 2), .int .u8 (.ofNat 2), .int .u8 (.ofNat 2), .int .u8 (.ofNat 2), .int .u8 (.ofNat 2), .int .u8 (.ofNat 2), .int .u8 (.ofNat 2), .int .u8 (.ofNat 2), .int .u8 (.ofNat 2), .int .u8 (.ofNat 2), .int .u8 (.ofNat 2), .int .u8 (.ofNat 2), .int .u8 (.ofNat 2), .int .u8 (.ofNat 2), .int .u8 (.ofNat 2), .int .u8 (.ofNat 2), .int .u8 (.ofNat 19), .int .u8 (.ofNat 3), .int .u8 (.ofNat 3), .int .u8 (.ofNat 3), .int .u8 (.ofNat 3), .int .u8 (.ofNat 3), .int .u8 (.ofNat 3), .int .u8 (.ofNat 3), .int .u8 (.ofNat 3), .int .u8 (.ofNat 3), .int .u8 (.ofNat 3), .int .u8 (.ofNat 3), .int .u8 (.ofNat 3), .int .u8 (.ofNat 35), .int .u8 (.ofNat 3), .int .u8 (.ofNat 3), .int .u8 (.ofNat 52), .int .u8 (.ofNat 4), .int .u8 (.ofNat 4), .int .u8 (.ofNat 4), .int .u8 (.ofNat 68), .int .u8 (.ofNat 241), .int .u8 (.ofNat 241), .int .u8 (.ofNat 241), .int .u8 (.ofNat 241), .int .u8 (.ofNat 241), .int .u8 (.ofNat 241), .int .u8 (.ofNat 241), .int .u8 (.ofNat 241), .int .u8 (.ofNat 241), .int .u8 (.ofNat 241), .int .u8 (.ofNat 241)] true, .cells [.int .u8 (.ofNat 128), .int .u8 (.ofNat 191), .int .u8 (.ofNat 160), .int .u8 (.ofNat 191), .int .u8 (.ofNat 128), .int .u8 (.ofNat 159), .int .u8 (.ofNat 144), .int .u8 (.ofNat 191), .int .u8 (.ofNat 128), .int .u8 (.ofNat 143), .int .u8 (.ofNat 0), .int .u8 (.ofNat 0), .int .u8 (.ofNat 0), .int .u8 (.ofNat 0), .int .u8 (.ofNat 0), .int .u8 (.ofNat 0), .int .u8 (.ofNat 0), .int .u8 (.ofNat 0), .int .u8 (.ofNat 0), .int .u8 (.ofNat 0), .int .u8 (.ofNat 0), .int .u8 (.ofNat 0), .int .u8 (.ofNat 0), .int .u8 (.ofNat 0), .int .u8 (.ofNat 0), .int .u8 (.ofNat 0), .int .u8 (.ofNat 0), .int .u8 (.ofNat 0), .int .u8 (.ofNat 0), .int .u8 (.ofNat 0), .int .u8 (.ofNat 0), .int .u8 (.ofNat 0)] true]
theorem gBlks_eq : gBlks = [.cells (intsAV .u8 zDe) true, .cells (intsAV .u8 zFirst) true, .cells (pairsAV .u8 zAcc) true] := by kernel_rfl

def isTrue : Option (Out AV) → Bool
  | some ⟨.bool true, _, _, _⟩ => true
  | _ => false
theorem isTrue_inv {o : Option (Out AV)} (h : isTrue o = true) : ∃ r, o = some r ∧ r.v = .bool true := by
  unfold isTrue at h
  split at h
  · exact ⟨_, rfl, rfl⟩
  · cases h

/-- The road, carried out. -/
theorem law_run : isTrue (run table 100000 3 [] (globH gBlks 0 .nil) 0) = true := by kernel_rfl

def laid3 : List (String × DataW Unit) := Rows.linkNoneRow.laid

theorem laid_blks {W : World} (h : laidMetH Tryz.prog laid3 W) : ∀ (g : Nat) (b : Blk), gBlks[g]? = some b → b = .dead ∨ ∃ l, b = .cells l true ∧ Laid W g l := by
  rw [MakeChecks.laidMetH_plain _ _ _ (by kernel_rfl)] at h
  obtain ⟨ps, ⟨g0, t0, cs0, f0, p0, q0, hg0, ht0, hv0, hd0, ⟨g1, t1, cs1, f1, p1, q1, hg1, ht1, hv1, hd1, ⟨g2, t2, cs2, f2, p2, q2, hg2, ht2, hv2, hd2, _, _⟩, _⟩, _⟩, _, _⟩ := h
  obtain rfl := Option.some.inj ((show Tryz.prog.globalNamed "math/bits.deBruijn32tab" = some 0 by kernel_rfl).symm.trans hg0)
  obtain rfl := Option.some.inj ((show Tryz.prog.globalNamed "unicode/utf8.acceptRanges" = some 2 by kernel_rfl).symm.trans hg1)
  obtain rfl := Option.some.inj ((show Tryz.prog.globalNamed "unicode/utf8.first" = some 1 by kernel_rfl).symm.trans hg2)
  obtain rfl := Option.some.inj ((show (Tryz.prog.globals[0]?).map (·.type) = some 188 by kernel_rfl).symm.trans ht0)
  obtain rfl := Option.some.inj ((show (Tryz.prog.globals[2]?).map (·.type) = some 253 by kernel_rfl).symm.trans ht1)
  obtain rfl := Option.some.inj ((show (Tryz.prog.globals[1]?).map (·.type) = some 250 by kernel_rfl).symm.trans ht2)
  rw [dDe] at hd0
  rw [dAcc] at hd1
  rw [dFirst] at hd2
  have c1 : Tryz.prog.cellsOf 5 = 1 := by kernel_rfl
  have c2 : Tryz.prog.cellsOf 252 = 2 := by kernel_rfl
  have l0 := Laid.ints hg0 hv0 (laid_ints Tryz.underlying188 Tryz.underlying5 c1 hd0)
  have l1 := Laid.ints hg2 hv2 (laid_ints Tryz.underlying250 Tryz.underlying5 c1 hd2)
  have l2 := Laid.pairs hg1 hv1 (laid_pairs Tryz.underlying253 Tryz.underlying252 c2 Tryz.underlying5 Tryz.underlying5 c1 c1 rfl rfl hd1)
  intro g b hb
  rw [gBlks_eq] at hb
  match g, hb with
  | 0, hb => cases hb; exact .inr ⟨_, rfl, l0⟩
  | 1, hb => cases hb; exact .inr ⟨_, rfl, l1⟩
  | 2, hb => cases hb; exact .inr ⟨_, rfl, l2⟩
  | g + 3, hb => cases hb

theorem follows : Tryz.prog.follows .mixedOrders = true := by kernel_rfl
theorem sizeG : Tryz.prog.globals.size ≤ gBlks.length := of_decide_eq_true (by kernel_rfl)

theorem law_calls {W : World} (h : laidMetH Tryz.prog laid3 W) : Calls Tryz.prog 3 #[] W fun e W' => e = .returned (.bool true) ∧ Kept W W' := by
  obtain ⟨r, hr, hv⟩ := isTrue_inv law_run
  refine (call_of_run (args := []) (rargs := []) follows tableOk sizeG (laid_blks h) (fun _ => rfl) hr).mono ?_
  rintro e W' ⟨x, μ, rfl, hx, hk⟩
  rw [hv] at hx
  cases hx
  exact ⟨rfl, hk⟩

theorem own : ownKnob Tryz.prog.godebug = none := by kernel_rfl

theorem lifted (os : Os) (started : os.Started) (H : Type) (enc : TypeId × Value → H) :
    ReturnsInHanded {} Tryz.checked os 3 .any (fun w args => (Rows.linkNoneSpec.pre enc Tryz.prog Tryz.f3 [] false w args ∧ laidMetH Tryz.prog laid3 w) ∧ sizedMet enc Tryz.prog Tryz.f3 (OpenSpec.ofChange Rows.linkNoneSpec) false w args)
      (Rows.linkNoneSpec.post enc Tryz.prog Tryz.f3 false true false false) := by
  refine returnsInHanded_of_change_and (C := Tryz.checked) (X := fun w _ => laidMetH Tryz.prog laid3 w) (fun _ _ _ hh h => h.of_heap hh) own started (by kernel_rfl) Tryz.func3
    (ChangeSpec.witness_shaped (enc := enc) (C := Tryz.checked) (os := os) (X := fun w _ => laidMetH Tryz.prog laid3 w) false (World.laidAll Tryz.prog os laid3) #[] 8 (World.laidAll_os _ _ _)
      (World.shaped_of_ZipB (by kernel_rfl) (by kernel_rfl)) (by kernel_rfl) (by kernel_rfl) (by kernel_rfl)
      (by rw [MakeChecks.laidMetH_plain _ _ _ (by kernel_rfl)]; exact laidMet_laidAll _ (by kernel_rfl) (by kernel_rfl))) ?_
  intro W base args ds gs before hval0 hW _ _ hL _
  have hW' := hW
  obtain ⟨p, q, hA0, hV, rfl, hfz, hnd⟩ := hW
  have hA : DataW.TrodAll enc Tryz.prog W 0 (fun _ => true) true Tryz.f3.params.toList args.toList ds p := hA0
  have hp : Tryz.f3.params = #[] := by kernel_rfl
  rw [hp] at hA
  obtain ⟨ha, rfl, rfl⟩ := trodAll_nil hA
  obtain ⟨rfl, rfl⟩ := trodVars_none hV
  obtain rfl : args = #[] := Array.ext' (by simpa using ha)
  refine (law_calls hL).mono ?_
  rintro e W' ⟨rfl, hk⟩
  exact ⟨_, rfl, closed_post hW' hp (by kernel_rfl) Tryz.underlying4 rfl rfl hk⟩

theorem holds : Rows.LinkNoneSaid :=
  OpenClaim.holds_of_wide 3 Tryz.f3 rfl rfl rfl rfl rfl rfl rfl ⟨rfl, rfl, rfl, rfl, rfl⟩ rfl rfl rfl rfl rfl (by kernel_rfl) Tryz.func3 (by kernel_rfl)
    (of_decide_eq_true (by kernel_rfl)) (by unfold Func.isWrapper; first | (rw [if_pos (by decide +kernel)]; kernel_rfl) | (rw [if_neg (by decide +kernel)]; exact ⟨rfl, rfl⟩))
    (fun os started H enc _ => lifted os started H enc)

theorem linkNone_card : Rows.LinkNoneCardSaid :=
  Claim7.holds_tied_plain_at .later [] [.data, .data, .pinned] true (true, "3c5c3788e22ba2dffff20907f45ee72d3e953d7847e54a98e77e909b5881336a") true
    holds (fun _ h => by cases h) (by kernel_rfl) (fun _ h => by cases h) linkNone_row_tie rfl ⟨rfl, rfl⟩ (by kernel_rfl) rfl
    (fun f fn hf hfn => by
      obtain rfl : f = 3 := Option.some.inj ((show Tryz.prog.funcNamed "glowworm/glowwormlaw20.LinkNone" = some 3 by kernel_rfl).symm.trans hf) |>.symm
      obtain rfl : fn = Tryz.f3 := (Option.some.inj (Tryz.func3.symm.trans hfn)).symm
      exact ⟨by kernel_rfl, fun j t ht => by
        rw [show Tryz.f3.params = #[] by kernel_rfl] at ht
        simp at ht⟩)
    (by kernel_rfl)
#print axioms linkNone_card
end Go.Proofs.YtadmjdnkhpngeaaGreatDoor
