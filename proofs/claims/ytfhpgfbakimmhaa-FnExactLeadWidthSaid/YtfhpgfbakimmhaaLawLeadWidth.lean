/- The law FnExactLeadWidth. -/
import Derived.Test.YtfhpgfbakimmhaaLawDoc
namespace Go.Proofs.YtfhpgfbakimmhaaE
open Go Go.RowKit
set_option linter.unusedVariables false
set_option linter.unusedSimpArgs false
set_option maxRecDepth 100000
set_option maxHeartbeats 2000000

theorem law_LeadWidth {fs : List PieceG} {A : Option Addr} {n c : Nat} {W : World} (hx : RdPiece W (.slice A n c) n fs) (hl : n ≤ 9223372036854775807) (hs : ∀ f ∈ fs, LenPiece f) (hb : ∀ f ∈ fs, byteOK f.text) :
    Calls Try.prog 12 #[.slice A n c] W fun e w => e = .returned (.bool true) ∧ Below W.heap.size W w := by
  have H := St.enter W
  refine calls_of_vcV (args := [.slice A n c]) Try.func12 rfl (by kernel_rfl) (Nat.le_of_ble_eq_true rfl) ?_
  refine callV ok_szPieceS (laws_szPieceS (by decide) (by decide) hx hl hs) H fun w H => ?_
  refine ifB (fun c3 => And.intro rfl H.below) (fun c3 => ?_)
  have hn := hx.len
  have hz := szI_okD c3
  unfold sizePiece at hz
  have hsm : ∀ f ∈ fs, SmallPiece f := fun f hf => ⟨Nat.le_trans (show f.text.length ≤ _ from sizePiece_mem hf) (by omega)⟩
  obtain ⟨r, hr⟩ : ∃ r, Value.int .i64 (leadF (fs.map PieceG.p)) = r := ⟨_, rfl⟩
  have toC : ∀ {w : World}, Below W.heap.size W w → Calls Try.prog 40 #[.slice A n c] w fun e w' => ∃ A' c' gs, e = .returned (.slice A' n c') ∧ gs.map PieceG.p = fs.map PieceG.p ∧ St w.heap.size w w' (.rowPiece (.slice A' n c') n gs :: gs.flatMap PieceG.own) := fun hB => laws_toPieceS (hx.ext hB) (by omega) hsm
  have spC : ∀ {w : World} {A' : Option Addr} {c' : Nat} {gs : List PieceG}, RdPiece w (.slice A' n c') n gs → gs.map PieceG.p = fs.map PieceG.p → GivesV Try.prog 46 [.slice A' n c'] w r := fun h he => by rw [← hr, ← he]; exact spec_LeadWidth h (by omega) (docOK_of he hsm hb)
  have imC : ∀ {w : World} {A' : Option Addr} {c' : Nat} {gs : List PieceG}, RdPiece w (.slice A' n c') n gs → gs.map PieceG.p = fs.map PieceG.p → GivesV Try.prog 47 [.slice A' n c'] w r := fun h he => by rw [← hr, ← he]; exact impl_LeadWidth h (by omega) (docOK_of he hsm hb)
  refine CallS.mk ok_toPieceS ((toC H.below).mono ?_)
  rintro _ w1 ⟨A1, k1, gs1, rfl, e1, H1⟩
  have H := H.joinL H1 (rowPieceAll _ _ _)
  refine callV ok_spec_LeadWidth (spC (rdPm H (.slice A1 n k1) n gs1 (by simp) (fun it hit => by simp [hit])) e1) H fun w H => ?_
  refine CallS.mk ok_toPieceS ((toC H.below).mono ?_)
  rintro _ w2 ⟨A2, k2, gs2, rfl, e2, H2⟩
  have H := H.joinL H2 (rowPieceAll _ _ _)
  refine callV ok_impl_LeadWidth (imC (rdPm H (.slice A2 n k2) n gs2 (by simp) (fun it hit => by simp [hit])) e2) H fun w H => ?_
  subst hr
  refine ifB (fun q => absurd rfl q) (fun _ => ?_)
  refine CallS.mk ok_toPieceS ((toC H.below).mono ?_)
  rintro _ w3 ⟨A3, k3, gs3, rfl, e3, H3⟩
  have H := H.joinL H3 (rowPieceAll _ _ _)
  refine callV ok_eqPieceS (laws_eqPieceS (rdPm H (.slice A2 n k2) n gs2 (by simp) (fun it hit => by simp [hit])) (rdPm H (.slice A3 n k3) n gs3 (by simp) (fun it hit => by simp [hit])) (e2.trans e3.symm) (by omega) (smallPiece_p e2 hsm)) H fun w H => ?_
  refine ifNot ?_
  refine ifT ?_
  exact And.intro rfl H.below
end Go.Proofs.YtfhpgfbakimmhaaE
