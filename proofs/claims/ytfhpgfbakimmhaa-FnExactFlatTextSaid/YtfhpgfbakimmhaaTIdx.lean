/- bytes.IndexByte. -/
import Derived.Test.YtfhpgfbakimmhaaTByt
namespace Go.Proofs.YtfhpgfbakimmhaaE
open Go Go.RowKit
set_option linter.unusedVariables false
set_option linter.unusedSimpArgs false
set_option maxRecDepth 100000
set_option maxHeartbeats 2000000

def idxB (xs : List Int) (c : Int) : Int := match (List.range xs.length).find? (fun i => decide (xs.getD i 0 = c)) with | some i => i | none => -1
theorem idxB_iff (xs : List Int) (c : Int) : (0 ≤ idxB xs c ↔ c ∈ xs) ∧ -1 ≤ idxB xs c ∧ idxB xs c ≤ xs.length := by
  unfold idxB
  cases hf : (List.range xs.length).find? (fun i => decide (xs.getD i 0 = c)) with
  | some i =>
    rw [List.find?_range_eq_some] at hf
    obtain ⟨h1, h2, h3⟩ := hf
    rw [List.mem_range] at h2
    rw [decide_eq_true_eq] at h1
    refine ⟨⟨fun _ => ?_, fun _ => by simp only []; omega⟩, by simp only []; omega, by simp only []; omega⟩
    rw [List.getD_eq_getElem?_getD, List.getElem?_eq_getElem h2] at h1
    have h1 : xs[i] = c := h1
    exact h1 ▸ List.getElem_mem h2
  | none =>
    rw [List.find?_range_eq_none] at hf
    refine ⟨⟨fun h => absurd h (by decide), fun hm => ?_⟩, by decide, by simp only []; omega⟩
    obtain ⟨i, hi, he⟩ := List.getElem_of_mem hm
    have := hf i hi
    rw [List.getD_eq_getElem?_getD, List.getElem?_eq_getElem hi] at this
    simp [he] at this
theorem find_congr {p q : Nat → Bool} : ∀ (l : List Nat), (∀ i ∈ l, p i = q i) → l.find? p = l.find? q
  | [], _ => rfl
  | a :: l, h => by rw [List.find?_cons, List.find?_cons, h a (by simp), find_congr l (fun i hi => h i (by simp [hi]))]
theorem idx_str {xs : List Int} (hx : byteOK xs) {c : Int} (h0 : 0 ≤ c) (h1 : c < 256) : ((List.range (strOfNums xs).size).find? fun i => (strOfNums xs)[i]! == c.toNat.toUInt8) = (List.range xs.length).find? (fun i => decide (xs.getD i 0 = c)) := by
  rw [str_size]
  refine find_congr _ fun i hi => ?_
  rw [List.mem_range] at hi
  have e := str_bang hx hi
  have ec : ((c.toNat.toUInt8).toNat : Int) = c := by show ((UInt8.ofNat c.toNat).toNat : Int) = c; rw [UInt8.toNat_ofNat']; omega
  rw [Bool.eq_iff_iff, beq_iff_eq, decide_eq_true_eq]
  constructor
  · intro h; rw [← e, h]; exact ec
  · intro h; exact UInt8.toNat_inj.1 (by omega)
theorem ok_IndexByte : callOK Try.prog 117 = true := by kernel_rfl
theorem bytes_IndexByte {xs : List Int} (hx : byteOK xs) {c : Int} (h0 : 0 ≤ c) (h1 : c < 256) {A : Option Addr} {n cc : Nat} {W : World} (rx : Rd W (.slice A n cc) 1 n (xs.map (.int .u8))) :
    GivesV Try.prog 117 [.slice A n cc, .int .u8 c] W (.int .i64 (idxB xs c)) := by
  have H := St.enter W
  refine calls_of_vcV (args := [.slice A n cc, .int .u8 c]) Try.func117 rfl (by kernel_rfl) (Nat.le_of_ble_eq_true rfl) ?_
  have hrun : (callFunc 135 #[.slice A n cc, .int .u8 c]).run Try.prog W = .ok (.value (.int .i64 (idxB xs c))) W := by
    rw [run_callFunc_extern (e := Extern.BytealgIndexByte.indexByte) Try.func135 (by kernel_rfl) (by kernel_rfl) (by kernel_rfl) (by kernel_rfl)]
    have hc : Extern.BytealgIndexByte.indexByte #[.slice A n cc, .int .u8 c] = (do
      let b ← Extern.Bytes.bytesOf (.slice A n cc)
      let c' ← Extern.Bytes.asByte (.int .u8 c)
      match (List.range b.size).find? fun i => b[i]! == c' with
      | some i => pure (goInt i)
      | none => pure (goInt (-1))) := rfl
    have hf := idx_str hx h0 h1
    simp only [hc, Sem.run_bind, Result.andThen_ok, bytes_of rx, Extern.Bytes.asByte, Sem.run_pure]
    rw [hf]
    unfold idxB
    cases (List.range xs.length).find? (fun i => decide (xs.getD i 0 = c)) <;> rfl
  refine CallS.ext hrun ?_
  exact Exists.intro _ (And.intro rfl (And.intro rfl H.none))
end Go.Proofs.YtfhpgfbakimmhaaE
