/- The law FnExactValidFs: at every list of files of at most 2^20 elements in all the program's ValidFs and the reference's answer the same, and the argument is left alone. -/
import Derived.Test.YtfhpgfbakimmhaaTValid
namespace Go.Proofs.YtfhpgfbakimmhaaE
open Go Go.RowKit
set_option linter.unusedVariables false
set_option maxRecDepth 100000
set_option maxHeartbeats 2000000

theorem szI_ok {k : Nat} (h : ¬ szI 1048576 k < 0) : k ≤ 1048576 := by unfold szI at h; split at h <;> omega
theorem sumF_mem {fs : List FileG} {f : FileG} (h : f ∈ fs) : f.nm.length + f.dt.length ≤ sumF fs := by
  obtain ⟨i, hi, he⟩ := List.getElem_of_mem h
  have h1 := sumF_take (fs := fs) (j := i) (f := f) (by rw [List.getElem?_eq_getElem hi, he])
  have h2 := sumF_le fs (i + 1)
  omega
theorem small_of {fs gs : List FileG} (h : gs.map FileG.p = fs.map FileG.p) (hs : ∀ f ∈ fs, SmallF f) : ∀ g ∈ gs, SmallF g := fun g hg => by
  have : g.p ∈ fs.map FileG.p := h ▸ List.mem_map_of_mem hg
  obtain ⟨f, hf, he⟩ := List.mem_map.1 this
  have := hs f hf
  obtain ⟨h1, h2⟩ := this
  simp only [FileG.p, FileP.mk.injEq] at he
  exact ⟨he.1 ▸ h1, he.2.1 ▸ h2⟩
theorem byte_of {fs gs : List FileG} (h : gs.map FileG.p = fs.map FileG.p) (hs : ∀ f ∈ fs, byteOK f.nm ∧ byteOK f.dt) : ∀ g ∈ gs, byteOK g.nm ∧ byteOK g.dt := fun g hg => by
  have : g.p ∈ fs.map FileG.p := h ▸ List.mem_map_of_mem hg
  obtain ⟨f, hf, he⟩ := List.mem_map.1 this
  have := hs f hf
  simp only [FileG.p, FileP.mk.injEq] at he
  exact ⟨he.1 ▸ this.1, he.2.1 ▸ this.2⟩
theorem own_rdF {w : World} {B : Nat} {W0 : World} {v : Value} {e : TypeId} {n : Nat} {gs : List FileG} (H : St B W0 w (.row v e 3 n (gs.flatMap FileG.cells) :: gs.flatMap FileG.own)) : RdF w v n gs := H.rdFo List.mem_cons_self fun it hit => List.mem_cons_of_mem _ hit
theorem rdFm {w : World} {B : Nat} {W0 : World} {L : List It} (H : St B W0 w L) (v : Value) (n : Nat) (gs : List FileG) (h0 : It.rowF v n gs ∈ L) (h : ∀ it ∈ gs.flatMap FileG.own, it ∈ L) : RdF w v n gs := H.rdFo h0 h
theorem ifBne {b : Bool} {X Y : Prop} (h : Y) : CondB (!(b == b)) X Y := ⟨fun e => by simp at e, fun _ => h⟩
theorem law_ValidFs {fs : List FileG} {A : Option Addr} {n c : Nat} {W : World} (hx : RdF W (.slice A n c) n fs) (hl : n ≤ 9223372036854775807) (hs : ∀ f ∈ fs, f.nm.length ≤ 9223372036854775807 ∧ f.dt.length ≤ 9223372036854775807) (hb : ∀ f ∈ fs, byteOK f.nm ∧ byteOK f.dt) :
    Calls Try.prog 3 #[.agg #[.slice A n c]] W fun e w => e = .returned (.bool true) ∧ Below W.heap.size W w := by
  have H := St.enter W
  refine calls_of_vcV (args := [.agg #[.slice A n c]]) Try.func3 rfl (by kernel_rfl) (Nat.le_of_ble_eq_true rfl) ?_
  refine newR (o := .cells #[.slice A n c] _) H fun g0 w H => ?_
  refine loadO H 0 rfl rfl ?_
  refine callV ok_szFs (laws_szFs (hx.ext H.below) hl hs) H fun w H => ?_
  refine ifB (fun c3 => ?_) (fun c3 => ?_)
  · exact And.intro rfl H.below
  · refine loadO H 0 rfl rfl ?_
    have hn := hx.len
    have hz := szI_ok c3
    unfold sizeF at hz
    have hsm : ∀ f ∈ fs, SmallF f := fun f hf => by have := sumF_mem hf; exact ⟨by omega, by omega⟩
    have toC : ∀ {w : World}, Below W.heap.size W w → Calls Try.prog 17 #[.agg #[.slice A n c]] w fun e w' => ∃ A' c' gs, e = .returned (.agg #[.slice A' n c']) ∧ gs.map FileG.p = fs.map FileG.p ∧ St w.heap.size w w' (.rowF (.slice A' n c') n gs :: gs.flatMap FileG.own) := fun hB => laws_toFs (hx.ext hB) (by omega) hsm
    have spC : ∀ {w : World} {A' : Option Addr} {c' : Nat} {gs : List FileG}, RdF w (.slice A' n c') n gs → gs.map FileG.p = fs.map FileG.p → GivesV Try.prog 16 [.agg #[.slice A' n c']] w (.bool (validF (fs.map FileG.p))) := fun h he => he ▸ spec_ValidFs h (by omega) (small_of he hsm) fun g hg => (byte_of he hb g hg).1
    have imC : ∀ {w : World} {A' : Option Addr} {c' : Nat} {gs : List FileG}, RdF w (.slice A' n c') n gs → gs.map FileG.p = fs.map FileG.p → GivesV Try.prog 18 [.agg #[.slice A' n c']] w (.bool (validF (fs.map FileG.p))) := fun h he => he ▸ impl_ValidFs h (by omega) (small_of he hsm) fun g hg => (byte_of he hb g hg).1
    refine CallS.mk ok_toFs ((toC H.below).mono ?_)
    rintro _ w1 ⟨A1, k1, gs1, rfl, e1, H1⟩
    have H := H.joinL H1 (own_all _ _ _ _ _)
    refine callV ok_spec_ValidFs (spC (rdFm H (.slice A1 n k1) n gs1 (by simp) (fun it hit => by simp [hit])) e1) H fun w H => ?_
    refine loadO H 0 rfl rfl ?_
    refine CallS.mk ok_toFs ((toC H.below).mono ?_)
    rintro _ w2 ⟨A2, k2, gs2, rfl, e2, H2⟩
    have H := H.joinL H2 (own_all _ _ _ _ _)
    refine newR (o := .cells #[.slice none 0 0] _) H fun g0 w H => ?_
    refine storeO H 0 rfl rfl rfl fun w H => ?_
    refine loadO H 0 rfl rfl ?_
    refine callV ok_impl_ValidFs (imC (rdFm H (.slice A2 n k2) n gs2 (by simp) (fun it hit => by simp [hit])) e2) H fun w H => ?_
    refine ifNot ?_
    refine ifB (fun _ => ?_) (fun q => absurd rfl q)
    refine regG [2, 3] [2] [0, 1] [0, 1, 2, 3, 4] (by kernel_rfl) ?_
    refine drawR H fun w H => ?_
    refine loadO H 0 rfl rfl ?_
    refine loadO H 1 rfl rfl ?_
    (refine CallS.mk ok_toFs ((toC H.below).mono ?_); rintro _ w3 ⟨A3, k3, gs3, rfl, e3, H3⟩; have H := H.joinL H3 (own_all _ _ _ _ _); have hB := H3.below)
    refine KeepS.mk ⟨HeldW.ofBelow hB, ?_⟩
    refine callV ok_eqFs (laws_eqFs (rdFm H (.slice A2 n k2) n gs2 (by simp) (fun it hit => by simp [hit])) (rdFm H (.slice A3 n k3) n gs3 (by simp) (fun it hit => by simp [hit])) (e2.trans e3.symm) (by omega) (small_of e2 hsm)) H fun w H => ?_
    refine ifNot ?_
    refine ifT ?_
    exact And.intro rfl H.below
end Go.Proofs.YtfhpgfbakimmhaaE
