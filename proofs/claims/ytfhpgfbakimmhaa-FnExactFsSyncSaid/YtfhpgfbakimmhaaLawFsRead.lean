/- The law FnExactFsRead. -/
import Derived.Test.YtfhpgfbakimmhaaTFsRead2
import Derived.Test.YtfhpgfbakimmhaaTFile2
import Derived.Test.YtfhpgfbakimmhaaLawValidFs
namespace Go.Proofs.YtfhpgfbakimmhaaE
open Go Go.RowKit
set_option linter.unusedVariables false
set_option maxRecDepth 100000
set_option maxHeartbeats 2000000

theorem bringN {α : Type} (k : Nat) (L M : List α) {Q : List α} (h : L.drop k = M ++ Q) : L.Perm (M ++ (L.take k ++ Q)) := by
  have e : L = L.take k ++ (M ++ Q) := by rw [← h, List.take_append_drop]
  exact (List.Perm.of_eq e).trans (List.perm_append_comm_assoc _ _ _)
theorem cellM {B : Nat} {W0 w : World} {L : List It} {g off : Nat} {cs : List Value} {t : TypeId} {z : Nat × Nat} {v : Value} (H : St B W0 w L) (hm : .obj g (.cells cs.toArray t z) ∈ L) (hv : cs[off]? = some v) : w.cell? ⟨g, off, none⟩ = some v := by
  obtain ⟨i, hi⟩ := List.mem_iff_getElem?.1 hm
  exact cell0 H i hi hv
theorem eqB {xs : List Int} {A A' : Option Addr} {c c' : Nat} {w : World} (hx : RdB w (.slice A xs.length c) xs) (hy : RdB w (.slice A' xs.length c') xs) (hl : xs.length ≤ 1099511627776) : GivesV Try.prog 23 [.slice A xs.length c, .slice A' xs.length c'] w (.bool true) :=
  givesV_of ((laws_eqByteS_same _ _ _ _ _ _ hx hy hl).mono fun e w' ⟨h1, h2⟩ => ⟨_, h1, rfl, h2⟩)
theorem readF_len {fs : List FileP} {nm : List Int} {k : Nat} (h : ∀ f ∈ fs, f.dt.length ≤ k) : (readF fs nm).1.length ≤ k := by
  unfold readF
  split
  · split
    · exact h _ (List.mem_of_find?_eq_some (by assumption))
    · simp
  · simp
theorem sumF_p : ∀ {gs fs : List FileG}, gs.map FileG.p = fs.map FileG.p → sumF gs = sumF fs
  | [], [], _ => rfl
  | [], f :: fs, h => by simp at h
  | g :: gs, [], h => by simp at h
  | g :: gs, f :: fs, h => by
    simp only [List.map_cons, List.cons.injEq] at h
    have e1 : g.nm = f.nm := congrArg FileP.nm h.1
    have e2 : g.dt = f.dt := congrArg FileP.dt h.1
    have ih := sumF_p h.2
    unfold sumF at ih ⊢
    simp only [List.map_cons, List.sum_cons, e1, e2, ih]
theorem sizeF_p {gs fs : List FileG} (h : gs.map FileG.p = fs.map FileG.p) : sizeF gs = sizeF fs := by
  have := congrArg List.length h
  simp only [List.length_map] at this
  unfold sizeF; rw [sumF_p h, this]
theorem law_FsRead {fs : List FileG} {A A0 : Option Addr} {n n0 c c0 : Nat} {nm : List Int} {W : World} (hx : RdF W (.slice A n c) n fs) (hl : n ≤ 9223372036854775807) (hs : ∀ f ∈ fs, f.nm.length ≤ 9223372036854775807 ∧ f.dt.length ≤ 9223372036854775807) (hb : ∀ f ∈ fs, byteOK f.nm ∧ byteOK f.dt)
    (hv : RdB W (.slice A0 n0 c0) nm) (hn0 : byteOK nm) (hl0 : nm.length ≤ 9223372036854775807) :
    Calls Try.prog 4 #[.agg #[.slice A n c], .slice A0 n0 c0] W fun e w => e = .returned (.bool true) ∧ Below W.heap.size W w := by
  have H := St.enter W
  obtain rfl : n0 = nm.length := by obtain ⟨_, _, _, e, _⟩ := id hv; cases e; rfl
  refine calls_of_vcV (args := [.agg #[.slice A n c], .slice A0 nm.length c0]) Try.func4 rfl (by kernel_rfl) (Nat.le_of_ble_eq_true rfl) ?_
  refine newR (o := .cells #[.slice A n c] _) H fun g0 w H => ?_
  refine ifB (fun c1 => ?_) (fun c1 => ?_)
  · exact And.intro rfl H.below
  refine loadO H 0 rfl rfl ?_
  refine callV ok_szFs (laws_szFs (hx.ext H.below) hl hs) H fun w H => ?_
  refine ifB (fun c3 => ?_) (fun c3 => ?_)
  · exact And.intro rfl H.below
  have hn := hx.len
  have hz := szI_ok c3
  unfold sizeF at hz
  have hsm : ∀ f ∈ fs, SmallF f := fun f hf => by have := sumF_mem hf; exact ⟨by omega, by omega⟩
  obtain ⟨r, hr⟩ : ∃ r, readF (fs.map FileG.p) nm = r := ⟨_, rfl⟩
  have hrl : r.1.length ≤ 1048576 := by
    rw [← hr]
    refine readF_len fun p hp => ?_
    obtain ⟨f, hf, rfl⟩ := List.mem_map.1 hp
    have := sumF_mem hf
    show f.dt.length ≤ _
    omega
  have toC : ∀ {w : World}, Below W.heap.size W w → Calls Try.prog 17 #[.agg #[.slice A n c]] w fun e w' => ∃ A' c' gs, e = .returned (.agg #[.slice A' n c']) ∧ gs.map FileG.p = fs.map FileG.p ∧ St w.heap.size w w' (.rowF (.slice A' n c') n gs :: gs.flatMap FileG.own) := fun hB => laws_toFs (hx.ext hB) (by omega) hsm
  have spC : ∀ {w : World} {A' A1 : Option Addr} {c' c1 : Nat} {gs : List FileG}, RdF w (.slice A' n c') n gs → gs.map FileG.p = fs.map FileG.p → RdB w (.slice A1 nm.length c1) nm → Calls Try.prog 20 #[.agg #[.slice A' n c'], .slice A1 nm.length c1] w fun e w' => ∃ x, e = .returned (.tuple #[x, .int .i64 r.2]) ∧ OwnB w' w.heap.size x r.1 ∧ Below w.heap.size w w' := fun h he hv => by
    have := spec_FsRead h (by omega) (small_of he hsm) (fun g hg => (byte_of he hb g hg).1) hv hn0
    rw [he, hr] at this
    exact this
  have imC : ∀ {w : World} {A' A1 : Option Addr} {c' c1 : Nat} {gs : List FileG}, RdF w (.slice A' n c') n gs → gs.map FileG.p = fs.map FileG.p → RdB w (.slice A1 nm.length c1) nm → Calls Try.prog 22 #[.agg #[.slice A' n c'], .slice A1 nm.length c1] w fun e w' => ∃ x, e = .returned (.tuple #[x, .int .i64 r.2]) ∧ OwnB w' w.heap.size x r.1 ∧ Below w.heap.size w w' := fun h he hv => by
    have := impl_FsRead h (by omega) (small_of he hsm) (fun g hg => (byte_of he hb g hg).1) hv hn0
    rw [he, hr] at this
    exact this
  clear hr
  obtain ⟨r1, r2⟩ := r
  dsimp only at *
  refine loadO H 0 rfl rfl ?_
  refine CallS.mk ok_toFs ((toC H.below).mono ?_)
  rintro _ w1 ⟨A1, k1, gs1, rfl, e1, H1⟩
  have H := H.joinS H1 (own_all _ _ _ _ _)
  refine callRow ok_toByteS (laws_toByteS _ _ _ _ (hv.ext H.below) (by omega)) H fun A2 k2 w H => ?_
  refine callRow2 ok_specFsRead (spC (rdFm H (.slice A1 n k1) n gs1 (by simp) (fun it hit => by simp [hit])) e1 (H.rd 0 rfl)) H fun A3 k3 w H => ?_
  have ld0 : ∀ {w : World} {L : List It}, St W.heap.size W w L → .obj g0 (.cells #[.slice A n c] 24) ∈ L → w.cell? ⟨g0, 0, none⟩ = some (.slice A n c) := fun H hm => cellM H (cs := [.slice A n c]) hm rfl
  refine loadS (ld0 H (by simp)) ?_
  refine CallS.mk ok_toFs ((toC H.below).mono ?_)
  rintro _ w4 ⟨A4, k4, gs4, rfl, e4, H4⟩
  have H := H.joinS H4 (own_all _ _ _ _ _)
  refine newR (o := .cells #[.slice none 0 0] _) H fun g5 w H => ?_
  refine storeO H 0 rfl rfl rfl fun w H => ?_
  refine callRow ok_toByteS (laws_toByteS _ _ _ _ (hv.ext H.below) (by omega)) H fun A6 k6 w H => ?_
  refine loadO H 1 rfl rfl ?_
  refine callRow2 ok_implFsRead (imC (rdFm H (.slice A4 n k4) n gs4 (by simp) (fun it hit => by simp [hit])) e4 (H.rd 0 rfl)) H fun A7 k7 w H => ?_
  refine RegV.mk ?_
  refine callV ok_eqByteS (eqB (H.rd 0 rfl) (H.rdm (it := .rowB (.slice A3 r1.length k3) r1) (by simp) rfl) (by omega)) H fun w H => ?_
  refine gNot ?_
  refine gY ?_
  refine ifB (fun c2 => absurd c2 (by omega)) (fun c2 => ?_)
  refine regG [2, 3] [2] [0, 1] [0, 1, 2, 3, 4] (by kernel_rfl) ?_
  refine drawR H fun w H => ?_
  refine loadO H 2 rfl rfl ?_
  refine loadS (ld0 H (by simp)) ?_
  refine CallS.mk ok_toFs ((toC H.below).mono ?_)
  rintro _ w8 ⟨A8, k8, gs8, rfl, e8, H8⟩
  have hB := H8.below
  have H := H.joinL H8 (own_all _ _ _ _ _)
  refine KeepS.mk ⟨HeldW.ofBelow hB, ?_⟩
  refine callV ok_eqFs (laws_eqFs (rdFm H (.slice A4 n k4) n gs4 (by simp) (fun it hit => by simp [hit])) (rdFm H (.slice A8 n k8) n gs8 (by simp) (fun it hit => by simp [hit])) (e4.trans e8.symm) (by omega) (small_of e4 hsm)) H fun w H => ?_
  refine ifNot ?_
  refine ifT ?_
  refine callRow ok_toByteS (laws_toByteS _ _ _ _ (hv.ext H.below) (by omega)) H fun A9 k9 w H => ?_
  refine callV ok_eqByteS (eqB (H.rdm (it := .rowB (.slice A6 nm.length k6) nm) (by simp) rfl) (H.rd 0 rfl) (by omega)) H fun w H => ?_
  have H : St W.heap.size W w (.rowB (.slice A9 nm.length k9) nm :: ((.rowB (.slice A7 r1.length k7) r1 :: .rowB (.slice A6 nm.length k6) nm :: .obj g5 (.cells #[.slice A4 n k4] 29) :: .rowF (.slice A4 n k4) n gs4 :: (gs4.flatMap FileG.own ++ (.rowB (.slice A3 r1.length k3) r1 :: .rowB (.slice A2 nm.length k2) nm :: .rowF (.slice A1 n k1) n gs1 :: (gs1.flatMap FileG.own ++ [.obj g0 (.cells #[.slice A n c] 24)])))) ++ (.rowF (.slice A8 n k8) n gs8 :: gs8.flatMap FileG.own))) := H
  have H := H.tl.sublist (List.sublist_append_left _ _)
  refine ifNot ?_
  refine ifT ?_
  refine loadO H 2 rfl rfl ?_
  have hz4 := sizeF_p e4
  have hz5 : sizeF fs ≤ 1048576 := by unfold sizeF; omega
  have hn4 : n = gs4.length := by have := congrArg List.length e4; simp only [List.length_map] at this; omega
  have H := H.perm (bringN 3 _ (.rowF (.slice A4 n k4) n gs4 :: gs4.flatMap FileG.own) rfl)
  refine CallS.mk ok_markFs ((laws_markFs (by decide) (by omega) hn4 H).mono ?_)
  rintro _ w10 ⟨rfl, H⟩
  have H : St W.heap.size W w10 (.rowB (.slice A7 r1.length k7) r1 :: .rowB (.slice A6 nm.length k6) nm :: .obj g5 (.cells #[.slice A4 n k4] 29) :: .rowB (.slice A3 r1.length k3) r1 :: .rowB (.slice A2 nm.length k2) nm :: .rowF (.slice A1 n k1) n gs1 :: (gs1.flatMap FileG.own ++ [.obj g0 (.cells #[.slice A n c] 24)])) :=
    H.sublist ((List.sublist_append_right _ _).cons _)
  have H := H.sw2
  refine markB_call H rfl (by omega) (by omega) fun w H => ?_
  have H := H.tl
  refine RegV.mk ?_
  refine gY ?_
  refine callV ok_eqByteS (eqB (H.rd 0 rfl) (H.rd 2 rfl) (by omega)) H fun w H => ?_
  refine gNot ?_
  refine gY ?_
  refine ifB (fun c2 => absurd c2 (by omega)) (fun c2 => ?_)
  refine markB_call H rfl (by omega) (by omega) fun w H => ?_
  have heldR : ∀ {w : World} {L : List It}, St W.heap.size W w L → .rowB (.slice A7 r1.length k7) (cnt (· % 256) 1 r1.length) ∈ L → GivesV Try.prog 26 [.slice A7 r1.length k7, .int .i64 1] w (.int .i64 (1 + r1.length)) := fun H hm => by
    have h1 := H.rdm hm rfl
    rw [cnt_len] at h1
    exact heldV h1 (by omega) (by omega)
  refine callV ok_heldByteS (heldR H (by simp)) H fun w H => ?_
  refine ifB (fun c0 => absurd c0 (by omega)) (fun c0 => ?_)
  refine ifB (fun c1 => absurd c1 (by omega)) (fun c1 => ?_)
  refine loadS (ld0 H (by simp)) ?_
  refine CallS.mk ok_toFs ((toC H.below).mono ?_)
  rintro _ w14 ⟨A14, k14, gs14, rfl, e14, H14⟩
  have H := H.joinS H14 (own_all _ _ _ _ _)
  refine callRow ok_toByteS (laws_toByteS _ _ _ _ (hv.ext H.below) (by omega)) H fun A15 k15 w H => ?_
  refine callRow2 ok_implFsRead (imC (rdFm H (.slice A14 n k14) n gs14 (by simp) (fun it hit => by simp [hit])) e14 (H.rd 0 rfl)) H fun A16 k16 w H => ?_
  refine RegV.mk ?_
  refine callV ok_eqByteS (eqB (H.rd 0 rfl) (H.rdm (it := .rowB (.slice A3 r1.length k3) r1) (by simp) rfl) (by omega)) H fun w H => ?_
  refine gNot ?_
  refine gY ?_
  refine ifB (fun c2 => absurd c2 (by omega)) (fun c2 => ?_)
  refine callV ok_heldByteS (heldR H (by simp)) H fun w H => ?_
  refine ifB (fun c0 => absurd c0 (by omega)) (fun c0 => ?_)
  refine ifB (fun c1 => absurd c1 (by omega)) (fun c1 => ?_)
  exact And.intro rfl H.below
end Go.Proofs.YtfhpgfbakimmhaaE
