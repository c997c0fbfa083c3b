/- The law FnExactTextWidth: at every list of at most 2^20 bytes the program's TextWidth and the reference's answer the same, and the argument is left alone. -/
import Derived.Test.YtcokdccbfbbhbaaTDecT
import Derived.Test.YtcokdccbfbbhbaaLawIB
namespace Go.Proofs.YtcokdccbfbbhbaaE
open Go Go.RowKit Go.Proofs
set_option linter.unusedVariables false

theorem law_TextWidth (xs : List Int) (A : Option Addr) (c : Nat) (W : World) (hx : RdB W (.slice A xs.length c) xs) (hb : byteOK xs) :
    Calls Try.prog 8 #[.slice A xs.length c] W fun e w' => e = .returned (.bool true) ∧ Below W.heap.size W w' := by
  have H := (St.enter W).ro0 rfl hx
  refine calls_of_vcV (args := [.slice A xs.length c]) Try.func8 rfl (by kernel_rfl) (Nat.le_of_ble_eq_true rfl) ?_
  refine ifB (fun h => And.intro rfl (Below.refl _ _)) fun h => ?_
  have hl : xs.length ≤ 1048576 := by omega
  refine callRow ok_toByteS (laws_toByteS xs A c W hx (by omega)) H fun A1 c1 w H => ?_
  refine callV ok_spec_TextWidth (spec_TextWidth hb (by omega) (H.rd 0 rfl)) H fun w H => ?_
  refine callRow ok_toByteS (laws_toByteS xs A c w (H.rd 1 rfl) (by omega)) H fun A2 c2 w H => ?_
  refine callV ok_TextWidth (impl_TextWidth hb (by omega) (H.rd 0 rfl)) H fun w H => ?_
  refine ifSame (fun h => h rfl) ?_
  refine callRow ok_toByteS (laws_toByteS xs A c w (H.rd 2 rfl) (by omega)) H fun A3 c3 w H => ?_
  refine callV ok_eqByteS ((laws_eqByteS_same xs A2 A3 c2 c3 w (H.rd 1 rfl) (H.rd 0 rfl) (by omega)).mono fun e w' ⟨he, hb⟩ => ⟨_, he, rfl, St.ofBelow hb⟩) H fun w H => ?_
  refine ifF ?_
  exact And.intro rfl H.below
end Go.Proofs.YtcokdccbfbbhbaaE
