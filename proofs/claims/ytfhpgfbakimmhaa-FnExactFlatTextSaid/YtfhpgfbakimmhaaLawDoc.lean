/- What the laws over documents share. -/
import Derived.Test.YtfhpgfbakimmhaaTDocV
namespace Go.Proofs.YtfhpgfbakimmhaaE
open Go Go.RowKit
set_option linter.unusedVariables false
set_option linter.unusedSimpArgs false
set_option maxRecDepth 100000
set_option maxHeartbeats 2000000

theorem szI_okD {k : Nat} (h : ¬ szI 1048576 k < 0) : k ≤ 1048576 := by unfold szI at h; split at h <;> omega
theorem byte_ofP {fs gs : List PieceG} (h : gs.map PieceG.p = fs.map PieceG.p) (hs : ∀ f ∈ fs, byteOK f.text) : ∀ g ∈ gs, byteOK g.text := fun g hg => by
  have : g.p ∈ fs.map PieceG.p := h ▸ List.mem_map_of_mem hg
  obtain ⟨f, hf, he⟩ := List.mem_map.1 this
  have := hs f hf
  simp only [PieceG.p, PieceP.mk.injEq] at he
  exact he.2.1 ▸ this
theorem docOK_of {fs gs : List PieceG} (h : gs.map PieceG.p = fs.map PieceG.p) (hs : ∀ f ∈ fs, SmallPiece f) (hb : ∀ f ∈ fs, byteOK f.text) : DocOK gs := ⟨fun g hg => ⟨byte_ofP h hb g hg, (smallPiece_p h hs g hg).text⟩⟩
theorem rdPm {w : World} {B : Nat} {W0 : World} {L : List It} (H : St B W0 w L) (v : Value) (n : Nat) (gs : List PieceG) (h0 : It.rowPiece v n gs ∈ L) (h : ∀ it ∈ gs.flatMap PieceG.own, it ∈ L) : RdPiece w v n gs := rdPieceo H h0 h
end Go.Proofs.YtfhpgfbakimmhaaE
