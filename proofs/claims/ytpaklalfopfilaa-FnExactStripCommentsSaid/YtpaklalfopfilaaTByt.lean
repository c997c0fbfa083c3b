/- Bytes handed to a function of Go's library. -/
import Derived.Test.YtpaklalfopfilaaNest
import Derived.Laws.Externs
namespace Go.Proofs.YtpaklalfopfilaaE
open Go Go.RowKit
set_option linter.unusedVariables false
set_option linter.unusedSimpArgs false
set_option maxRecDepth 100000
set_option maxHeartbeats 2000000

theorem str_size (xs : List Int) : (strOfNums xs).size = xs.length := by simp [strOfNums, ByteArray.size]
theorem str_bang {xs : List Int} (hb : byteOK xs) {i : Nat} (hi : i < xs.length) : ((strOfNums xs)[i]!.toNat : Int) = xs.getD i 0 := by
  have h : i < (strOfNums xs).size := by rw [str_size]; exact hi
  rw [getElem!_pos _ i h]
  exact str_get hb h
theorem load_bytes {P : Program} {w : World} {b : Nat} : ∀ (xs : List Int) (off : Nat) (acc : List Int), (∀ j, j < xs.length → w.cell? ⟨b, off + j, none⟩ = (xs.map (Value.int .u8))[j]?) → (Extern.Bytes.loadBytes ⟨b, off, none⟩ xs.length (strOfNums acc)).run P w = .ok (strOfNums (acc ++ xs)) w
  | [], off, acc, h => by simp [Extern.Bytes.loadBytes]
  | x :: xs, off, acc, h => by
    have h0 := h 0 (by simp)
    simp only [Nat.add_zero, List.map_cons, List.getElem?_cons_zero] at h0
    have hr := load_bytes (P := P) (w := w) (b := b) xs (off + 1) (acc ++ [x]) (fun j hj => by
      have := h (j + 1) (by simp only [List.length_cons]; omega)
      simp only [List.map_cons, List.getElem?_cons_succ] at this
      rw [← this]; congr 2; omega)
    rw [List.append_assoc] at hr
    simp only [List.length_cons, Extern.Bytes.loadBytes, load, Sem.run_bind, Sem.run, h0, Result.andThen_ok]
    have e1 : (⟨b, off, none⟩ : Addr).add 1 = ⟨b, off + 1, none⟩ := add_plain b off 1
    have e2 : (strOfNums acc).push x.toNat.toUInt8 = strOfNums (acc ++ [x]) := by
      apply ByteArray.ext; simp [strOfNums]
    rw [e1, e2]
    exact hr
theorem bytes_of {P : Program} {w : World} {A : Option Addr} {n c : Nat} {xs : List Int} (h : Rd w (.slice A n c) 1 n (xs.map (.int .u8))) : (Extern.Bytes.bytesOf (.slice A n c)).run P w = .ok (strOfNums xs) w := by
  obtain ⟨hl, A', c', hv, hcap, hc⟩ := h
  cases hv
  obtain rfl : n = xs.length := by simpa using hl.symm
  have hnil : strOfNums ([] : List Int) = ByteArray.empty := rfl
  cases A with
  | none =>
    have : xs = [] := by
      rcases hc with h | ⟨b, off, h, _⟩
      · exact List.length_eq_zero_iff.1 h
      · cases h
    subst this
    rfl
  | some a =>
    rcases hc with h | ⟨b, off, ha, h⟩
    · have : xs = [] := List.length_eq_zero_iff.1 h
      subst this
      rfl
    · cases ha
      have := load_bytes (P := P) xs off [] (fun j hj => h j (by simpa using hj))
      rw [List.nil_append] at this
      exact this
end Go.Proofs.YtpaklalfopfilaaE
