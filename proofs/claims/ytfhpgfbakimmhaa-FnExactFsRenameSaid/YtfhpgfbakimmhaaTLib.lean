/- Two functions of Go's library over bytes: bytes.Compare, slices.Clone. -/
import Derived.Test.YtfhpgfbakimmhaaNest
import Derived.Test.YtfhpgfbakimmhaaPCmp
import Derived.Laws.Externs
namespace Go.Proofs.YtfhpgfbakimmhaaE
open Go Go.RowKit
set_option linter.unusedVariables false
set_option maxRecDepth 100000
set_option maxHeartbeats 1000000

theorem str_size (xs : List Int) : (strOfNums xs).size = xs.length := by simp [strOfNums, ByteArray.size]
theorem str_bang {xs : List Int} (hb : byteOK xs) {i : Nat} (hi : i < xs.length) : ((strOfNums xs)[i]!.toNat : Int) = xs.getD i 0 := by
  have h : i < (strOfNums xs).size := by rw [str_size]; exact hi
  rw [getElem!_pos _ i h]
  exact str_get hb h
theorem cmp_str {xs ys : List Int} (hx : byteOK xs) (hy : byteOK ys) : Extern.BytealgCompare.cmp (strOfNums xs) (strOfNums ys) = cmpB xs ys := by
  unfold Extern.BytealgCompare.cmp
  rw [str_size, str_size]
  have hne : ∀ i, i < xs.length → i < ys.length → ((strOfNums xs)[i]! = (strOfNums ys)[i]! ↔ xs.getD i 0 = ys.getD i 0) := by
    intro i h1 h2
    rw [← str_bang hx h1, ← str_bang hy h2]
    constructor
    · intro h; rw [h]
    · intro h; exact UInt8.toNat_inj.1 (by omega)
  cases hf : (List.range (min xs.length ys.length)).find? (fun i => (strOfNums xs)[i]! != (strOfNums ys)[i]!) with
  | some i =>
    rw [List.find?_range_eq_some] at hf
    obtain ⟨h1, h2, h3⟩ := hf
    rw [List.mem_range] at h2
    have a1 : i < xs.length := by omega
    have a2 : i < ys.length := by omega
    have hd : xs.getD i 0 ≠ ys.getD i 0 := fun e => by simp [(hne i a1 a2).2 e] at h1
    rw [cmpB_at i xs ys a1 a2 (fun j hj => by
      have := h3 j hj
      simp only [Bool.not_eq_true', bne_eq_false_iff_eq] at this
      exact (hne j (by omega) (by omega)).1 this) hd]
    have e1 := str_bang hx a1
    have e2 := str_bang hy a2
    simp only []
    by_cases h : xs.getD i 0 < ys.getD i 0
    · rw [if_pos h, if_pos (UInt8.lt_iff_toNat_lt.2 (by omega))]
    · rw [if_neg h, if_neg (fun q => by have := UInt8.lt_iff_toNat_lt.1 q; omega)]
  | none =>
    rw [List.find?_range_eq_none] at hf
    rw [cmpB_pre xs ys fun j hj => by
      have := hf j hj
      simp only [Bool.not_eq_true', bne_eq_false_iff_eq] at this
      exact (hne j (by omega) (by omega)).1 this]
theorem u8_of {x : Int} (h0 : 0 ≤ x) (h1 : x < 256) : ((UInt8.ofNat x.toNat).toNat : Int) = x := by
  rw [UInt8.toNat_ofNat']; omega
theorem less_list : ∀ (xs ys : List Int), byteOK xs → byteOK ys → Op.bytesLess (xs.map fun n => UInt8.ofNat n.toNat) (ys.map fun n => UInt8.ofNat n.toNat) = decide (cmpB xs ys < 0)
  | [], [], _, _ => rfl
  | [], y :: ys, _, _ => rfl
  | x :: xs, [], _, _ => rfl
  | x :: xs, y :: ys, hx, hy => by
    obtain ⟨⟨x0, x1⟩, hx'⟩ := hx.cons
    obtain ⟨⟨y0, y1⟩, hy'⟩ := hy.cons
    have ex := u8_of x0 x1
    have ey := u8_of y0 y1
    simp only [List.map_cons, Op.bytesLess, less_list xs ys hx' hy']
    rw [Bool.eq_iff_iff, decide_eq_true_eq, cmpB_cons]
    by_cases h : x < y
    · rw [if_pos h, decide_eq_true (show UInt8.ofNat x.toNat < UInt8.ofNat y.toNat from UInt8.lt_iff_toNat_lt.2 (by omega))]; simp
    · rw [if_neg h, decide_eq_false (show ¬ UInt8.ofNat x.toNat < UInt8.ofNat y.toNat from fun q => by have := UInt8.lt_iff_toNat_lt.1 q; omega)]
      by_cases h2 : y < x
      · rw [if_pos h2]
        have : ¬ UInt8.ofNat x.toNat = UInt8.ofNat y.toNat := fun q => by rw [q] at ex; omega
        simp [this]
      · rw [if_neg h2]
        have : x = y := by omega
        subst this
        simp
theorem less_str {xs ys : List Int} (hx : byteOK xs) (hy : byteOK ys) : Op.bytesLess (strOfNums xs).toList (strOfNums ys).toList = decide (cmpB xs ys < 0) := by
  rw [ByteArray.toList_eq, ByteArray.toList_eq]
  exact less_list xs ys hx hy
theorem load_bytes {P : Program} {w : World} {b : Nat} : ∀ (xs : List Int) (off : Nat) (acc : List Int), (∀ j, j < xs.length → w.cell? ⟨b, off + j, none⟩ = (xs.map (Value.int .u8))[j]?) → (Extern.Bytes.loadBytes ⟨b, off, none⟩ xs.length (strOfNums acc)).run P w = .ok (strOfNums (acc ++ xs)) w
  | [], off, acc, h => by simp [Extern.Bytes.loadBytes]
  | x :: xs, off, acc, h => by
    have h0 := h 0 (by simp)
    simp only [Nat.add_zero, List.map_cons, List.getElem?_cons_zero] at h0
    have hr := load_bytes (P := P) (w := w) (b := b) xs (off + 1) (acc ++ [x]) (fun j hj => by
      have := h (j + 1) (by simp only [List.length_cons]; omega)
      simp only [List.map_cons, List.getElem?_cons_succ] at this
      rw [← this]; congr 2; omega)
    rw [List.append_assoc] at hr
    simp only [List.length_cons, Extern.Bytes.loadBytes, load, Sem.run_bind, Sem.run, h0, Result.andThen_ok]
    have e1 : (⟨b, off, none⟩ : Addr).add 1 = ⟨b, off + 1, none⟩ := add_plain b off 1
    have e2 : (strOfNums acc).push x.toNat.toUInt8 = strOfNums (acc ++ [x]) := by
      apply ByteArray.ext; simp [strOfNums]
    rw [e1, e2]
    exact hr
theorem bytes_of {P : Program} {w : World} {A : Option Addr} {n c : Nat} {xs : List Int} (h : Rd w (.slice A n c) 1 n (xs.map (.int .u8))) : (Extern.Bytes.bytesOf (.slice A n c)).run P w = .ok (strOfNums xs) w := by
  obtain ⟨hl, A', c', hv, hcap, hc⟩ := h
  cases hv
  obtain rfl : n = xs.length := by simpa using hl.symm
  have hnil : strOfNums ([] : List Int) = ByteArray.empty := rfl
  cases A with
  | none =>
    have : xs = [] := by
      rcases hc with h | ⟨b, off, h, _⟩
      · exact List.length_eq_zero_iff.1 h
      · cases h
    subst this
    rfl
  | some a =>
    rcases hc with h | ⟨b, off, ha, h⟩
    · have : xs = [] := List.length_eq_zero_iff.1 h
      subst this
      rfl
    · cases ha
      have := load_bytes (P := P) xs off [] (fun j hj => h j (by simpa using hj))
      rw [List.nil_append] at this
      exact this
theorem ok_bCompare : callOK Try.prog 60 = true := by kernel_rfl
theorem bytes_Compare {xs ys : List Int} (hx : byteOK xs) (hy : byteOK ys) {A A' : Option Addr} {n c n' c' : Nat} {W : World} (rx : Rd W (.slice A n c) 1 n (xs.map (.int .u8))) (ry : Rd W (.slice A' n' c') 1 n' (ys.map (.int .u8))) :
    GivesV Try.prog 60 [.slice A n c, .slice A' n' c'] W (.int .i64 (cmpB xs ys)) := by
  have H := ((St.enter W).ro0 rfl ry).ro0 rfl rx
  refine calls_of_vcV (args := [.slice A n c, .slice A' n' c']) Try.func60 rfl (by kernel_rfl) (Nat.le_of_ble_eq_true rfl) ?_
  have hrun : (callFunc 104 #[.slice A n c, .slice A' n' c']).run Try.prog W = .ok (.value (.int .i64 (cmpB xs ys))) W := by
    rw [run_callFunc_extern (e := Extern.BytealgCompare.compare) Try.func104 (by kernel_rfl) (by kernel_rfl) (by kernel_rfl) (by kernel_rfl)]
    have hc : Extern.BytealgCompare.compare #[.slice A n c, .slice A' n' c'] = (do pure (goInt (Extern.BytealgCompare.cmp (← Extern.Bytes.bytesOf (.slice A n c)) (← Extern.Bytes.bytesOf (.slice A' n' c'))))) := rfl
    simp only [hc, Sem.run_bind, Result.andThen_ok, bytes_of rx, bytes_of ry, cmp_str hx hy]
    rfl
  refine CallS.ext hrun ?_
  exact Exists.intro _ (And.intro rfl (And.intro rfl H.none))
end Go.Proofs.YtfhpgfbakimmhaaE
