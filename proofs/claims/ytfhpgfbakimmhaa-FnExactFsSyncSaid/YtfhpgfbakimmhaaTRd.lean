/- (*memory).read and the codes of errors. -/
import Derived.Test.YtfhpgfbakimmhaaTBin
namespace Go.Proofs.YtfhpgfbakimmhaaE
open Go Go.RowKit
set_option linter.unusedVariables false
set_option maxRecDepth 100000
set_option maxHeartbeats 2000000

theorem RdF.cell {w : World} {b off n c : Nat} {fs : List FileG} (hx : RdF w (.slice (some ⟨b, off, none⟩) n c) n fs) {i : Nat} {f : FileG} (hf : fs[i]? = some f) (j : Nat) (hj : j < 3) : w.cell? ⟨b, off + (i * 3 + j), none⟩ = f.cells[j]? := by
  have hi := (List.getElem?_eq_some_iff.1 hf).1
  have hlen := hx.len
  have hl := hx.row.len
  obtain ⟨A, c', e, _, h⟩ := hx.row.ex
  cases e
  rcases h with h | ⟨b', off', e, h⟩
  · omega
  · cases e
    rw [h (i * 3 + j) (by rw [hl, hlen]; omega), flat_get FileG.cells_len fs i j f hf hj]
theorem ok_read : callOK Try.prog 65 = true := by kernel_rfl
theorem impl_read_no {g : Nat} {fs : List FileG} {nm : List Int} {A : Option Addr} {n c : Nat} {v : Value} {i0 : Nat} {W : World} (hg : W.cell? ⟨g, 0, none⟩ = some (.slice A n c)) (hx : RdF W (.slice A n c) n fs) (hl : n ≤ 4294967296) (hb : ∀ f ∈ fs, byteOK f.nm) (hv : RdB W v nm) (hn : byteOK nm) (hi : LowF fs nm i0) (hh : hitF fs nm i0 = false) :
    GivesV Try.prog 65 [.pointer (some ⟨g, 0, none⟩), v] W (.tuple #[.slice none 0 0, .iface 138 (.int .i64 5)]) := by
  have H := St.enter W
  obtain ⟨_, A0, c0, rfl, _⟩ := id hv
  refine calls_of_vcV (args := [.pointer (some ⟨g, 0, none⟩), .slice A0 nm.length c0]) Try.func65 rfl (by kernel_rfl) (Nat.le_of_ble_eq_true rfl) ?_
  refine callV ok_file (impl_file_no hg hx hl hb hv hn hi hh) H fun w H => ?_
  refine ifNot ?_
  refine ifF ?_
  exact Exists.intro _ (And.intro rfl (And.intro rfl H.none))
theorem impl_read {g : Nat} {fs : List FileG} {nm : List Int} {b off : Nat} {n c : Nat} {v : Value} {i0 : Nat} {f : FileG} {W : World} (hg : W.cell? ⟨g, 0, none⟩ = some (.slice (some ⟨b, off, none⟩) n c)) (hx : RdF W (.slice (some ⟨b, off, none⟩) n c) n fs) (hl : n ≤ 4294967296) (hs : ∀ f ∈ fs, SmallF f) (hb : ∀ f ∈ fs, byteOK f.nm) (hv : RdB W v nm) (hn : byteOK nm) (hi : LowF fs nm i0) (hf : fs[i0]? = some f) (hh : hitF fs nm i0 = true) :
    Calls Try.prog 65 #[.pointer (some ⟨g, 0, none⟩), v] W fun e w => ∃ x, e = .returned (.tuple #[x, .nilIface]) ∧ OwnB w W.heap.size x f.dt ∧ Below W.heap.size W w := by
  have H := St.enter W
  obtain ⟨_, A0, c0, rfl, _⟩ := id hv
  refine calls_of_vcV (args := [.pointer (some ⟨g, 0, none⟩), .slice A0 nm.length c0]) Try.func65 rfl (by kernel_rfl) (Nat.le_of_ble_eq_true rfl) ?_
  refine callV ok_file (impl_file hg hx hl hb hv hn hi hh) H fun w H => ?_
  refine ifNot ?_
  refine ifT ?_
  have hc := (hx.ext H.below).cell hf 1 (by decide)
  have k1 := (hx.kids f (List.mem_of_getElem? hf)).2
  have hs1 := (hs f (List.mem_of_getElem? hf)).dt
  obtain ⟨nv, dv, fm, dt, sf⟩ := f
  obtain ⟨_, A2, c2, e2, _⟩ := id k1
  dsimp only at *
  subst e2
  refine loadS (v := .slice A2 dt.length c2) hc ?_
  refine callRow ok_clone (slices_Clone (k1.ext H.below) (by omega)) H fun A4 k4 w H => ?_
  exact Exists.intro _ (And.intro rfl (And.intro (H.own 0 rfl) H.below))
end Go.Proofs.YtfhpgfbakimmhaaE
