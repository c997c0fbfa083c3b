/- The law FnExactFlatText. -/
import Derived.Test.YtfhpgfbakimmhaaLawDoc
namespace Go.Proofs.YtfhpgfbakimmhaaE
open Go Go.RowKit
set_option linter.unusedVariables false
set_option linter.unusedSimpArgs false
set_option maxRecDepth 100000
set_option maxHeartbeats 8000000

theorem stepsP_sum : ∀ gs : List PieceG, (gs.map stepsPiece).sum = (gs.map PieceG.size).sum + 2 * gs.length
  | [] => rfl
  | g :: gs => by simp only [List.map_cons, List.sum_cons, stepsP_sum gs, List.length_cons, stepsPiece, PieceG.size]; omega
theorem law_FlatText {fs : List PieceG} {A : Option Addr} {n c : Nat} {W : World} (hx : RdPiece W (.slice A n c) n fs) (hl : n ≤ 9223372036854775807) (hs : ∀ f ∈ fs, LenPiece f) (hb : ∀ f ∈ fs, byteOK f.text) :
    Calls Try.prog 11 #[.slice A n c] W fun e w => e = .returned (.bool true) ∧ Below W.heap.size W w := by
  have H := St.enter W
  refine calls_of_vcV (args := [.slice A n c]) Try.func11 rfl (by kernel_rfl) (Nat.le_of_ble_eq_true rfl) ?_
  refine callV ok_szPieceS (laws_szPieceS (by decide) (by decide) hx hl hs) H fun w H => ?_
  refine ifB (fun c3 => And.intro rfl H.below) (fun c3 => ?_)
  have hn := hx.len
  have hz := szI_okD c3
  unfold sizePiece at hz
  have hsm : ∀ f ∈ fs, SmallPiece f := fun f hf => ⟨Nat.le_trans (show f.text.length ≤ _ from sizePiece_mem hf) (by omega)⟩
  obtain ⟨r, hr⟩ : ∃ r, flatF (fs.map PieceG.p) = r := ⟨_, rfl⟩
  have hrl : r.1.length ≤ 140000 := by
    rw [← hr]; unfold flatF
    cases hv : validD (fs.map PieceG.p) with
    | none => exact Nat.zero_le _
    | some dg =>
      obtain ⟨d, g⟩ := dg
      have v := validOf hv
      simp only
      cases hf : flatD d with
      | none => exact Nat.zero_le _
      | some t => exact Nat.le_trans (flat_len_le hf) v.tl
  have toC : ∀ {w : World}, Below W.heap.size W w → Calls Try.prog 40 #[.slice A n c] w fun e w' => ∃ A' c' gs, e = .returned (.slice A' n c') ∧ gs.map PieceG.p = fs.map PieceG.p ∧ St w.heap.size w w' (.rowPiece (.slice A' n c') n gs :: gs.flatMap PieceG.own) := fun hB => laws_toPieceS (hx.ext hB) (by omega) hsm
  have spC : ∀ {w : World} {A' : Option Addr} {c' : Nat} {gs : List PieceG}, RdPiece w (.slice A' n c') n gs → gs.map PieceG.p = fs.map PieceG.p → Calls Try.prog 43 #[.slice A' n c'] w fun e w' => ∃ A' c', e = .returned (.tuple #[.slice A' r.1.length c', .bool r.2]) ∧ St w.heap.size w w' [.rowB (.slice A' r.1.length c') r.1] := fun h he => by
    have := spec_FlatText h (by omega) (docOK_of he hsm hb)
    rw [he, hr] at this; exact this
  have imC : ∀ {w : World} {A' : Option Addr} {c' : Nat} {gs : List PieceG}, RdPiece w (.slice A' n c') n gs → gs.map PieceG.p = fs.map PieceG.p → Calls Try.prog 44 #[.slice A' n c'] w fun e w' => ∃ A' c', e = .returned (.tuple #[.slice A' r.1.length c', .bool r.2]) ∧ St w.heap.size w w' [.rowB (.slice A' r.1.length c') r.1] := fun h he => by
    have := impl_FlatText h (by omega) (docOK_of he hsm hb)
    rw [he, hr] at this; exact this
  clear hr
  obtain ⟨r1, r2⟩ := r
  dsimp only at hrl spC imC
  refine CallS.mk ok_toPieceS ((toC H.below).mono ?_)
  rintro _ w1 ⟨A1, k1, gs1, rfl, e1, H1⟩
  have H := H.joinL H1 (rowPieceAll _ _ _)
  refine CallS.mk ok_spec_FlatText ((spC (rdPm H (.slice A1 n k1) n gs1 (by simp) (fun it hit => by simp [hit])) e1).mono ?_)
  rintro _ w2 ⟨A2, k2, rfl, H2⟩
  have H := (H.joinL H2 rfl).sel (M := [.rowB (.slice A2 r1.length k2) r1]) (fun q => by simp only [cntL_append, cntL, List.cons_append, List.nil_append, List.set_cons_zero, List.set_cons_succ, List.flatMap_append, List.flatMap_cons, List.flatMap_nil, It.rowF, It.rowB, It.rowI, It.roB, It.roI]; omega)
  refine CallS.mk ok_toPieceS ((toC H.below).mono ?_)
  rintro _ w3 ⟨A3, k3, gs3, rfl, e3, H3⟩
  have H := H.joinL H3 (rowPieceAll _ _ _)
  refine CallS.mk ok_impl_FlatText ((imC (rdPm H (.slice A3 n k3) n gs3 (by simp) (fun it hit => by simp [hit])) e3).mono ?_)
  rintro _ w4 ⟨A4, k4, rfl, H4⟩
  have H := (H.joinL H4 rfl).sel (M := .rowB (.slice A4 r1.length k4) r1 :: .rowB (.slice A2 r1.length k2) r1 :: .rowPiece (.slice A3 n k3) n gs3 :: gs3.flatMap PieceG.own) (fun q => by simp only [cntL_append, cntL, List.cons_append, List.nil_append, List.set_cons_zero, List.set_cons_succ, List.flatMap_append, List.flatMap_cons, List.flatMap_nil, It.rowB, It.rowI, It.roB, It.roI, It.rowPiece]; omega)
  refine RegV.mk ?_
  refine callV ok_eqByteS (eqB2 (H.rd 0 rfl) (H.rd 1 rfl) (by omega)) H fun w H => ?_
  refine gNot ?_
  refine gY ?_
  refine ifNot ?_
  refine ifB (fun c3 => ?_) (fun c3 => ?_)
  · refine CallS.mk ok_toPieceS ((toC H.below).mono ?_)
    rintro _ w5 ⟨A5, k5, gs5, rfl, e5, H5⟩
    have H := H.joinL H5 (rowPieceAll _ _ _)
    refine callV ok_eqPieceS (laws_eqPieceS (rdPm H (.slice A3 n k3) n gs3 (by simp) (fun it hit => by simp [hit])) (rdPm H (.slice A5 n k5) n gs5 (by simp) (fun it hit => by simp [hit])) (e3.trans e5.symm) (by omega) (smallPiece_p e3 hsm)) H fun w H => ?_
    have hg3 : gs3.length = n := by have := congrArg List.length e3; rw [List.length_map, List.length_map] at this; omega
    have hst := stepsP_sum gs3
    have hsz := sizePiece_p e3
    have H := H.sel (M := .rowPiece (.slice A3 n k3) n gs3 :: (gs3.flatMap PieceG.own ++ [.rowB (.slice A4 r1.length k4) r1, .rowB (.slice A2 r1.length k2) r1])) (fun q => by simp only [cntL_append, cntL, List.cons_append, List.nil_append, List.set_cons_zero, List.set_cons_succ, List.flatMap_append, List.flatMap_cons, List.flatMap_nil, It.rowB, It.rowI, It.roB, It.roI, It.rowPiece]; omega)
    refine ifNot ?_
    refine ifT ?_
    refine CallS.mk ok_markPieceS ((laws_markPieceS (by decide) (by omega) hg3.symm H).mono ?_)
    rintro _ w6 ⟨rfl, H⟩
    have hen := endPieceL_eq gs3 1
    have H := H.sel (M := [.rowB (.slice A4 r1.length k4) r1, .rowB (.slice A2 r1.length k2) r1]) (fun q => by simp only [cntL_append, cntL, List.cons_append, List.nil_append, List.set_cons_zero, List.set_cons_succ, List.flatMap_append, List.flatMap_cons, List.flatMap_nil, It.rowB, It.rowI, It.roB, It.roI, It.rowPiece]; omega)
    refine RegV.mk ?_
    refine gF (fun c1 => ?_) (fun c1 => absurd c1 (by omega))
    refine callV ok_eqByteS (eqB2 (H.rd 0 rfl) (H.rd 1 rfl) (by omega)) H fun w H => ?_
    refine gNot ?_
    refine gY ?_
    refine ifNot ?_
    refine ifB (fun c6 => ?_) (fun c6 => ?_)
    · refine markB_call H rfl (by omega) (by omega) fun w H => ?_
      have rdc : ∀ {w : World} {L : List It}, St W.heap.size W w L → .rowB (.slice A4 r1.length k4) (cnt (· % 256) 1 r1.length) ∈ L → Rd w (.slice A4 r1.length k4) 1 r1.length ((cnt (· % 256) 1 r1.length).map (.int .u8)) := fun H hm => by
        have := H.rdm hm (v := .slice A4 r1.length k4) (sz := 1) (n := (cnt (· % 256) 1 r1.length).length) (cs := (cnt (· % 256) 1 r1.length).map (.int .u8)) rfl
        rwa [cnt_len] at this
      have H := H.sel (M := [.rowB (.slice A4 r1.length k4) (cnt (· % 256) 1 r1.length), .rowB (.slice A2 r1.length k2) r1]) (fun q => by simp only [cntL_append, cntL, List.cons_append, List.nil_append, List.set_cons_zero, List.set_cons_succ, List.flatMap_append, List.flatMap_cons, List.flatMap_nil, It.rowF, It.rowB, It.rowI, It.roB, It.roI]; omega)
      refine callV ok_heldByteS (heldV (rdc H (by simp)) (by omega) (by omega)) H fun w H => ?_
      refine ifB (fun c1 => absurd c1 (by omega)) (fun c1 => ?_)
      refine ifB (fun c2 => absurd c2 (by omega)) (fun c2 => ?_)
      refine CallS.mk ok_toPieceS ((toC H.below).mono ?_)
      rintro _ w7 ⟨A7, k7, gs7, rfl, e7, H7⟩
      have H := H.joinL H7 (rowPieceAll _ _ _)
      refine CallS.mk ok_impl_FlatText ((imC (rdPm H (.slice A7 n k7) n gs7 (by simp) (fun it hit => by simp [hit])) e7).mono ?_)
      rintro _ w8 ⟨A8, k8, rfl, H8⟩
      have H := (H.joinL H8 rfl).sel (M := [.rowB (.slice A8 r1.length k8) r1, .rowB (.slice A2 r1.length k2) r1, .rowB (.slice A4 r1.length k4) (cnt (· % 256) 1 r1.length)]) (fun q => by simp only [cntL_append, cntL, List.cons_append, List.nil_append, List.set_cons_zero, List.set_cons_succ, List.flatMap_append, List.flatMap_cons, List.flatMap_nil, It.rowF, It.rowB, It.rowI, It.roB, It.roI]; omega)
      refine RegV.mk ?_
      refine callV ok_eqByteS (eqB2 (H.rd 0 rfl) (H.rd 1 rfl) (by omega)) H fun w H => ?_
      refine gNot ?_
      refine gY ?_
      refine ifNot ?_
      refine ifB (fun c3 => ?_) (fun c3 => ?_)
      · refine callV ok_heldByteS (heldV (rdc H (by simp)) (by omega) (by omega)) H fun w H => ?_
        refine ifB (fun c5 => absurd c5 (by omega)) (fun c5 => ?_)
        refine ifB (fun c6 => absurd c6 (by omega)) (fun c6 => ?_)
        exact And.intro rfl H.below
      · exact absurd rfl ‹¬ r2 = r2›
    · exact absurd rfl ‹¬ r2 = r2›
  · exact absurd rfl ‹¬ r2 = r2›
end Go.Proofs.YtfhpgfbakimmhaaE
