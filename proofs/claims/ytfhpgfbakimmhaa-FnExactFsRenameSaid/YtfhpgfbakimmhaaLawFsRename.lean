/- The law FnExactFsRename. -/
import Derived.Test.YtfhpgfbakimmhaaLawFsOut2
import Derived.Test.YtfhpgfbakimmhaaLawFsOut
namespace Go.Proofs.YtfhpgfbakimmhaaE
open Go Go.RowKit
set_option linter.unusedVariables false
set_option maxRecDepth 100000
set_option maxHeartbeats 2000000

theorem law_FsRename {fs : List FileG} {A : Option Addr} {n c : Nat} {Aa0 : Option Addr} {na0 ca0 : Nat} {xs0 : List Int} {Aa1 : Option Addr} {na1 ca1 : Nat} {xs1 : List Int} {W : World} (hx : RdF W (.slice A n c) n fs) (hl : n ≤ 9223372036854775807) (hs : ∀ f ∈ fs, f.nm.length ≤ 9223372036854775807 ∧ f.dt.length ≤ 9223372036854775807) (hb : ∀ f ∈ fs, byteOK f.nm ∧ byteOK f.dt) (hv0 : RdB W (.slice Aa0 na0 ca0) xs0) (hn0 : byteOK xs0) (hl0 : xs0.length ≤ 9223372036854775807) (hv1 : RdB W (.slice Aa1 na1 ca1) xs1) (hn1 : byteOK xs1) (hl1 : xs1.length ≤ 9223372036854775807) :
    Calls Try.prog 9 #[.agg #[.slice A n c], .slice Aa0 na0 ca0, .slice Aa1 na1 ca1] W fun e w => e = .returned (.bool true) ∧ Below W.heap.size W w := by
  have H := St.enter W
  obtain rfl : na0 = xs0.length := by obtain ⟨_, _, _, e, _⟩ := id hv0; cases e; rfl
  obtain rfl : na1 = xs1.length := by obtain ⟨_, _, _, e, _⟩ := id hv1; cases e; rfl
  refine calls_of_vcV (args := [.agg #[.slice A n c], .slice Aa0 xs0.length ca0, .slice Aa1 xs1.length ca1]) Try.func9 rfl (by kernel_rfl) (Nat.le_of_ble_eq_true rfl) ?_
  refine newR (o := .cells #[.slice A n c] _) H fun g0 w H => ?_
  refine ifB (fun q => And.intro rfl H.below) (fun hla0 => ?_)
  refine ifB (fun q => And.intro rfl H.below) (fun hla1 => ?_)
  refine loadO H 0 rfl rfl ?_
  refine callV ok_szFs (laws_szFs (hx.ext H.below) hl hs) H fun w H => ?_
  refine ifB (fun c3 => And.intro rfl H.below) (fun c3 => ?_)
  have hn := hx.len
  have hz := szI_ok c3
  have hz5 := hz
  unfold sizeF at hz
  have hsm : ∀ f ∈ fs, SmallF f := fun f hf => by have := sumF_mem hf; exact ⟨by omega, by omega⟩
  obtain ⟨r, hr⟩ : ∃ r, renameF (fs.map FileG.p) xs0 xs1 = r := ⟨_, rfl⟩
  have hro : OutB r := by rw [← hr]; exact renameF_out (val_each hz) (by omega)
  have spC : ∀ {w : World} {A' : Option Addr} {c' : Nat} {gs : List FileG} {B0 : Option Addr} {d0 : Nat} {B1 : Option Addr} {d1 : Nat}, RdF w (.slice A' n c') n gs → gs.map FileG.p = fs.map FileG.p → RdB w (.slice B0 xs0.length d0) xs0 → RdB w (.slice B1 xs1.length d1) xs1 → FsOut 36 [.agg #[.slice A' n c'], .slice B0 xs0.length d0, .slice B1 xs1.length d1] w r := fun h he v0 v1 => by
    have := spec_FsRename h (by omega) (small_of he hsm) (fun g hg => (byte_of he hb g hg).1) v0 hn0 (by omega) v1 hn1 (by omega)
    rw [he, hr] at this; exact this
  have imC : ∀ {w : World} {A' : Option Addr} {c' : Nat} {gs : List FileG} {B0 : Option Addr} {d0 : Nat} {B1 : Option Addr} {d1 : Nat}, RdF w (.slice A' n c') n gs → gs.map FileG.p = fs.map FileG.p → RdB w (.slice B0 xs0.length d0) xs0 → RdB w (.slice B1 xs1.length d1) xs1 → FsOut 37 [.agg #[.slice A' n c'], .slice B0 xs0.length d0, .slice B1 xs1.length d1] w r := fun h he v0 v1 => by
    have := impl_FsRename h (by omega) (small_of he hsm) (fun g hg => (byte_of he hb g hg).1) v0 hn0 (by omega) v1 hn1 (by omega)
    rw [he, hr] at this; exact this
  have toC : ∀ {w : World}, Below W.heap.size W w → Calls Try.prog 17 #[.agg #[.slice A n c]] w fun e w' => ∃ A' c' gs, e = .returned (.agg #[.slice A' n c']) ∧ gs.map FileG.p = fs.map FileG.p ∧ St w.heap.size w w' (.rowF (.slice A' n c') n gs :: gs.flatMap FileG.own) := fun hB => laws_toFs (hx.ext hB) (by omega) hsm
  clear hr
  obtain ⟨r1, r2⟩ := r
  obtain ⟨hro1, hro2⟩ := hro
  dsimp only at *
  have ld0 : ∀ {w : World} {L : List It}, St W.heap.size W w L → .obj g0 (.cells #[.slice A n c] 24) ∈ L → w.cell? ⟨g0, 0, none⟩ = some (.slice A n c) := fun H hm => cellM H (cs := [.slice A n c]) hm rfl
  refine loadO H 0 rfl rfl ?_
  refine CallS.mk ok_toFs ((toC H.below).mono ?_)
  rintro _ w1 ⟨A1, k1, gs1, rfl, e1, H1⟩
  have H := H.joinS H1 (own_all _ _ _ _ _)
  refine callRow ok_toByteS (laws_toByteS _ _ _ _ (hv0.ext H.below) (by omega)) H fun X0 d0 w H => ?_
  refine callRow ok_toByteS (laws_toByteS _ _ _ _ (hv1.ext H.below) (by omega)) H fun X1 d1 w H => ?_
  refine CallS.mk ok_specFsRename ((spC (rdFm H (.slice A1 n k1) n gs1 (by simp) (fun it hit => by simp [hit])) e1 (H.rd 1 rfl) (H.rd 0 rfl)).mono ?_)
  rintro _ w3 ⟨A3, n3, k3, gs3, rfl, e3, H3⟩
  have H := H.joinS H3 (own_all _ _ _ _ _)
  have l3 : n3 = gs3.length := by have := (H.rd 0 rfl).len; rw [flat_len FileG.cells_len] at this; omega
  refine newR (o := .cells #[.slice none 0 0] _) H fun g3 w H => ?_
  refine storeO H 0 rfl rfl rfl fun w H => ?_
  have H : St W.heap.size W w (.obj g3 (.cells #[.slice A3 n3 k3] 29) :: .rowF (.slice A3 n3 k3) n3 gs3 :: (gs3.flatMap FileG.own ++ ([.obj g0 (.cells #[.slice A n c] 24)]))) := H.sel (fun q => by simp only [cntL_append, cntL, List.cons_append, List.nil_append, List.set_cons_zero, List.set_cons_succ, List.flatMap_append, List.flatMap_cons, List.flatMap_nil, It.rowF, It.rowB, It.rowI, It.roB, It.roI]; omega)
  have ld3 : ∀ {w : World} {L : List It}, St W.heap.size W w L → .obj g3 (.cells #[.slice A3 n3 k3] 29) ∈ L → w.cell? ⟨g3, 0, none⟩ = some (.slice A3 n3 k3) := fun H hm => cellM H (cs := [.slice A3 n3 k3]) hm rfl
  refine loadS (ld0 H (by simp)) ?_
  refine CallS.mk ok_toFs ((toC H.below).mono ?_)
  rintro _ w4 ⟨A4, k4, gs4, rfl, e4, H4⟩
  have H := H.joinS H4 (own_all _ _ _ _ _)
  refine newR (o := .cells #[.slice none 0 0] _) H fun g4 w H => ?_
  refine storeO H 0 rfl rfl rfl fun w H => ?_
  have ld4 : ∀ {w : World} {L : List It}, St W.heap.size W w L → .obj g4 (.cells #[.slice A4 n k4] 29) ∈ L → w.cell? ⟨g4, 0, none⟩ = some (.slice A4 n k4) := fun H hm => cellM H (cs := [.slice A4 n k4]) hm rfl
  refine callRow ok_toByteS (laws_toByteS _ _ _ _ (hv0.ext H.below) (by omega)) H fun Y0 y0 w H => ?_
  refine callRow ok_toByteS (laws_toByteS _ _ _ _ (hv1.ext H.below) (by omega)) H fun Y1 y1 w H => ?_
  refine loadS (ld4 H (by simp)) ?_
  refine CallS.mk ok_implFsRename ((imC (rdFm H (.slice A4 n k4) n gs4 (by simp) (fun it hit => by simp [hit])) e4 (H.rd 1 rfl) (H.rd 0 rfl)).mono ?_)
  rintro _ w7 ⟨A7, n7, k7, gs7, rfl, e7, H7⟩
  have H := H.joinS H7 (own_all _ _ _ _ _)
  have l7 : n7 = gs7.length := by have := (H.rd 0 rfl).len; rw [flat_len FileG.cells_len] at this; omega
  refine newR (o := .cells #[.slice none 0 0] _) H fun g7 w H => ?_
  refine storeO H 0 rfl rfl rfl fun w H => ?_
  have H : St W.heap.size W w (.obj g7 (.cells #[.slice A7 n7 k7] 29) :: .rowF (.slice A7 n7 k7) n7 gs7 :: (gs7.flatMap FileG.own ++ (.rowB (.slice Y1 xs1.length y1) xs1 :: .rowB (.slice Y0 xs0.length y0) xs0 :: .obj g4 (.cells #[.slice A4 n k4] 29) :: .rowF (.slice A4 n k4) n gs4 :: (gs4.flatMap FileG.own ++ (.obj g3 (.cells #[.slice A3 n3 k3] 29) :: .rowF (.slice A3 n3 k3) n3 gs3 :: (gs3.flatMap FileG.own ++ ([.obj g0 (.cells #[.slice A n c] 24)]))))))) := H.sel (fun q => by simp only [cntL_append, cntL, List.cons_append, List.nil_append, List.set_cons_zero, List.set_cons_succ, List.flatMap_append, List.flatMap_cons, List.flatMap_nil, It.rowF, It.rowB, It.rowI, It.roB, It.roI]; omega)
  have ld7 : ∀ {w : World} {L : List It}, St W.heap.size W w L → .obj g7 (.cells #[.slice A7 n7 k7] 29) ∈ L → w.cell? ⟨g7, 0, none⟩ = some (.slice A7 n7 k7) := fun H hm => cellM H (cs := [.slice A7 n7 k7]) hm rfl
  have sm7 := out_small e7 hro2
  have hn7 : n7 ≤ 4294967296 := by have := congrArg List.length e7; simp only [List.length_map] at this; omega
  have h37 : n3 = n7 := by have h1 := congrArg List.length e7; have h2 := congrArg List.length e3; simp only [List.length_map] at h1 h2; omega
  subst h37
  have eqC : ∀ {w : World} {L : List It} {A9 : Option Addr} {k9 : Nat} {gs9 : List FileG}, St W.heap.size W w L → (∀ it ∈ It.rowF (.slice A3 n3 k3) n3 gs3 :: gs3.flatMap FileG.own, it ∈ L) → (∀ it ∈ It.rowF (.slice A9 n3 k9) n3 gs9 :: gs9.flatMap FileG.own, it ∈ L) → gs9.map FileG.p = r1 → GivesV Try.prog 19 [.agg #[.slice A9 n3 k9], .agg #[.slice A3 n3 k3]] w (.bool true) := fun H h3 h9 e9 => laws_eqFs (rdFm H _ _ _ (h9 _ (by simp)) (fun it hit => h9 it (by simp [hit]))) (rdFm H _ _ _ (h3 _ (by simp)) (fun it hit => h3 it (by simp [hit]))) (e9.trans e3.symm) hn7 (out_small e9 hro2)
  refine RegV.mk ?_
  refine loadS (ld7 H (by simp)) ?_
  refine loadS (ld3 H (by simp)) ?_
  refine callV ok_eqFs (eqC H (fun it hit => by rcases List.mem_cons.1 hit with rfl | h <;> simp [*]) (fun it hit => by rcases List.mem_cons.1 hit with rfl | h <;> simp [*]) e7) H fun w H => ?_
  refine gNot ?_
  refine gY ?_
  refine ifB (fun c2 => absurd rfl c2) (fun c2 => ?_)
  refine regG [2, 3] [2] [0, 1] [0, 1, 2, 3, 4] (by kernel_rfl) ?_
  refine drawR H fun w H => ?_
  refine loadS (ld4 H (by simp)) ?_
  refine loadS (ld0 H (by simp)) ?_
  refine CallS.mk ok_toFs ((toC H.below).mono ?_)
  rintro _ w8 ⟨A8, k8, gs8, rfl, e8, H8⟩
  have hB := H8.below
  have H := H.joinS H8 (own_all _ _ _ _ _)
  refine KeepS.mk ⟨HeldW.ofBelow hB, ?_⟩
  refine callV ok_eqFs (laws_eqFs (rdFm H (.slice A4 n k4) n gs4 (by simp) (fun it hit => by simp [hit])) (rdFm H (.slice A8 n k8) n gs8 (by simp) (fun it hit => by simp [hit])) (e4.trans e8.symm) (by omega) (small_of e4 hsm)) H fun w H => ?_
  have H : St W.heap.size W w (.obj g7 (.cells #[.slice A7 n3 k7] 29) :: .rowF (.slice A7 n3 k7) n3 gs7 :: (gs7.flatMap FileG.own ++ (.rowB (.slice Y1 xs1.length y1) xs1 :: .rowB (.slice Y0 xs0.length y0) xs0 :: .obj g4 (.cells #[.slice A4 n k4] 29) :: .rowF (.slice A4 n k4) n gs4 :: (gs4.flatMap FileG.own ++ (.obj g3 (.cells #[.slice A3 n3 k3] 29) :: .rowF (.slice A3 n3 k3) n3 gs3 :: (gs3.flatMap FileG.own ++ ([.obj g0 (.cells #[.slice A n c] 24)]))))))) := H.sel (fun q => by simp only [cntL_append, cntL, List.cons_append, List.nil_append, List.set_cons_zero, List.set_cons_succ, List.flatMap_append, List.flatMap_cons, List.flatMap_nil, It.rowF, It.rowB, It.rowI, It.roB, It.roI]; omega)
  refine ifNot ?_
  refine ifT ?_
  refine callRow ok_toByteS (laws_toByteS _ _ _ _ (hv0.ext H.below) (by omega)) H fun Z0 z0 w H => ?_
  refine callV ok_eqByteS (eqB (H.rdm (it := .rowB (.slice Y0 xs0.length y0) xs0) (by simp) rfl) (H.rd 0 rfl) (by omega)) H fun w H => ?_
  have H := H.tl
  refine ifNot ?_
  refine ifT ?_
  refine callRow ok_toByteS (laws_toByteS _ _ _ _ (hv1.ext H.below) (by omega)) H fun Z1 z1 w H => ?_
  refine callV ok_eqByteS (eqB (H.rdm (it := .rowB (.slice Y1 xs1.length y1) xs1) (by simp) rfl) (H.rd 0 rfl) (by omega)) H fun w H => ?_
  have H := H.tl
  refine ifNot ?_
  refine ifT ?_
  refine loadS (ld4 H (by simp)) ?_
  have hz4 := sizeF_p e4
  have hn4 : n = gs4.length := by have := congrArg List.length e4; simp only [List.length_map] at this; omega
  have H : St W.heap.size W w (.rowF (.slice A4 n k4) n gs4 :: (gs4.flatMap FileG.own ++ (.obj g7 (.cells #[.slice A7 n3 k7] 29) :: .rowF (.slice A7 n3 k7) n3 gs7 :: (gs7.flatMap FileG.own ++ (.rowB (.slice Y1 xs1.length y1) xs1 :: .rowB (.slice Y0 xs0.length y0) xs0 :: .obj g3 (.cells #[.slice A3 n3 k3] 29) :: .rowF (.slice A3 n3 k3) n3 gs3 :: (gs3.flatMap FileG.own ++ ([.obj g0 (.cells #[.slice A n c] 24)]))))))) := H.sel (fun q => by simp only [cntL_append, cntL, List.cons_append, List.nil_append, List.set_cons_zero, List.set_cons_succ, List.flatMap_append, List.flatMap_cons, List.flatMap_nil, It.rowF, It.rowB, It.rowI, It.roB, It.roI]; omega)
  refine CallS.mk ok_markFs ((laws_markFs (by decide) (by omega) hn4 H).mono ?_)
  rintro _ w10 ⟨rfl, H⟩
  have H : St W.heap.size W w10 (.obj g7 (.cells #[.slice A7 n3 k7] 29) :: .rowF (.slice A7 n3 k7) n3 gs7 :: (gs7.flatMap FileG.own ++ (.rowB (.slice Y1 xs1.length y1) xs1 :: .rowB (.slice Y0 xs0.length y0) xs0 :: .obj g3 (.cells #[.slice A3 n3 k3] 29) :: .rowF (.slice A3 n3 k3) n3 gs3 :: (gs3.flatMap FileG.own ++ ([.obj g0 (.cells #[.slice A n c] 24)]))))) := H.sel (fun q => by simp only [cntL_append, cntL, List.cons_append, List.nil_append, List.set_cons_zero, List.set_cons_succ, List.flatMap_append, List.flatMap_cons, List.flatMap_nil, It.rowF, It.rowB, It.rowI, It.roB, It.roI]; omega)
  have H : St W.heap.size W w10 (.rowB (.slice Y0 xs0.length y0) xs0 :: .obj g7 (.cells #[.slice A7 n3 k7] 29) :: .rowF (.slice A7 n3 k7) n3 gs7 :: (gs7.flatMap FileG.own ++ (.rowB (.slice Y1 xs1.length y1) xs1 :: .obj g3 (.cells #[.slice A3 n3 k3] 29) :: .rowF (.slice A3 n3 k3) n3 gs3 :: (gs3.flatMap FileG.own ++ ([.obj g0 (.cells #[.slice A n c] 24)]))))) := H.sel (fun q => by simp only [cntL_append, cntL, List.cons_append, List.nil_append, List.set_cons_zero, List.set_cons_succ, List.flatMap_append, List.flatMap_cons, List.flatMap_nil, It.rowF, It.rowB, It.rowI, It.roB, It.roI]; omega)
  refine markB_call H rfl (by omega) (by omega) fun w H => ?_
  have H := H.tl
  have H : St W.heap.size W w (.rowB (.slice Y1 xs1.length y1) xs1 :: .obj g7 (.cells #[.slice A7 n3 k7] 29) :: .rowF (.slice A7 n3 k7) n3 gs7 :: (gs7.flatMap FileG.own ++ (.obj g3 (.cells #[.slice A3 n3 k3] 29) :: .rowF (.slice A3 n3 k3) n3 gs3 :: (gs3.flatMap FileG.own ++ ([.obj g0 (.cells #[.slice A n c] 24)]))))) := H.sel (fun q => by simp only [cntL_append, cntL, List.cons_append, List.nil_append, List.set_cons_zero, List.set_cons_succ, List.flatMap_append, List.flatMap_cons, List.flatMap_nil, It.rowF, It.rowB, It.rowI, It.roB, It.roI]; omega)
  refine markB_call H rfl (by omega) (by omega) fun w H => ?_
  have H := H.tl
  refine RegV.mk ?_
  refine gY ?_
  refine loadS (ld7 H (by simp)) ?_
  refine loadS (ld3 H (by simp)) ?_
  refine callV ok_eqFs (eqC H (fun it hit => by rcases List.mem_cons.1 hit with rfl | h <;> simp [*]) (fun it hit => by rcases List.mem_cons.1 hit with rfl | h <;> simp [*]) e7) H fun w H => ?_
  refine gNot ?_
  refine gY ?_
  refine ifB (fun c6 => absurd c6 (by omega)) (fun c6 => ?_)
  refine loadS (ld7 H (by simp)) ?_
  have sz7 := out_size e7 hro1 hro2
  have H : St W.heap.size W w (.rowF (.slice A7 n3 k7) n3 gs7 :: (gs7.flatMap FileG.own ++ (.obj g7 (.cells #[.slice A7 n3 k7] 29) :: (.obj g3 (.cells #[.slice A3 n3 k3] 29) :: .rowF (.slice A3 n3 k3) n3 gs3 :: (gs3.flatMap FileG.own ++ ([.obj g0 (.cells #[.slice A n c] 24)])))))) := H.sel (fun q => by simp only [cntL_append, cntL, List.cons_append, List.nil_append, List.set_cons_zero, List.set_cons_succ, List.flatMap_append, List.flatMap_cons, List.flatMap_nil, It.rowF, It.rowB, It.rowI, It.roB, It.roI]; omega)
  refine CallS.mk ok_markFs ((laws_markFs (by decide) (by omega) l7 H).mono ?_)
  rintro _ w11 ⟨rfl, H⟩
  have hM : ∀ {w : World} {L : List It}, St W.heap.size W w L → (∀ it ∈ It.rowF (.slice A7 n3 k7) n3 (markFL gs7 1) :: (markFL gs7 1).flatMap FileG.own, it ∈ L) → GivesV Try.prog 29 [.agg #[.slice A7 n3 k7], .int .i64 1] w (.int .i64 (1 + sizeF gs7)) := fun H h => laws_heldFs (by decide) (by omega) (rdFm H _ _ _ (h _ (by simp)) (fun it hit => h it (by simp [hit])))
  refine loadS (ld7 H (by simp)) ?_
  refine callV ok_heldFs (hM H (fun it hit => by rcases List.mem_cons.1 hit with rfl | h <;> simp [*])) H fun w H => ?_
  refine ifB (fun c2 => absurd c2 (by omega)) (fun c2 => ?_)
  refine ifB (fun c3 => absurd c3 (by omega)) (fun c3 => ?_)
  skip
  refine loadS (ld0 H (by simp)) ?_
  refine CallS.mk ok_toFs ((toC H.below).mono ?_)
  rintro _ w14 ⟨A14, k14, gs14, rfl, e14, H14⟩
  have H := H.joinS H14 (own_all _ _ _ _ _)
  refine callRow ok_toByteS (laws_toByteS _ _ _ _ (hv0.ext H.below) (by omega)) H fun V0 v0 w H => ?_
  refine callRow ok_toByteS (laws_toByteS _ _ _ _ (hv1.ext H.below) (by omega)) H fun V1 v1 w H => ?_
  refine CallS.mk ok_implFsRename ((imC (rdFm H (.slice A14 n k14) n gs14 (by simp) (fun it hit => by simp [hit])) e14 (H.rd 1 rfl) (H.rd 0 rfl)).mono ?_)
  rintro _ w16 ⟨A16, n16, k16, gs16, rfl, e16, H16⟩
  have H := H.joinS H16 (own_all _ _ _ _ _)
  have l16 : n16 = gs16.length := by have := (H.rd 0 rfl).len; rw [flat_len FileG.cells_len] at this; omega
  refine newR (o := .cells #[.slice none 0 0] _) H fun g16 w H => ?_
  refine storeO H 0 rfl rfl rfl fun w H => ?_
  have h16 : n16 = n3 := by have h1 := congrArg List.length e7; have h2 := congrArg List.length e16; simp only [List.length_map] at h1 h2; omega
  subst h16
  have ld16 : ∀ {w : World} {L : List It}, St W.heap.size W w L → .obj g16 (.cells #[.slice A16 n16 k16] 29) ∈ L → w.cell? ⟨g16, 0, none⟩ = some (.slice A16 n16 k16) := fun H hm => cellM H (cs := [.slice A16 n16 k16]) hm rfl
  refine RegV.mk ?_
  refine loadS (ld16 H (by simp)) ?_
  refine loadS (ld3 H (by simp)) ?_
  refine callV ok_eqFs (eqC H (fun it hit => by rcases List.mem_cons.1 hit with rfl | h <;> simp [*]) (fun it hit => by rcases List.mem_cons.1 hit with rfl | h <;> simp [*]) e16) H fun w H => ?_
  refine gNot ?_
  refine gY ?_
  refine ifB (fun c2 => absurd rfl c2) (fun c2 => ?_)
  refine loadS (ld7 H (by simp)) ?_
  refine callV ok_heldFs (hM H (fun it hit => by rcases List.mem_cons.1 hit with rfl | h <;> simp [*])) H fun w H => ?_
  refine ifB (fun c2 => absurd c2 (by omega)) (fun c2 => ?_)
  refine ifB (fun c3 => absurd c3 (by omega)) (fun c3 => ?_)
  exact And.intro rfl H.below
end Go.Proofs.YtfhpgfbakimmhaaE
