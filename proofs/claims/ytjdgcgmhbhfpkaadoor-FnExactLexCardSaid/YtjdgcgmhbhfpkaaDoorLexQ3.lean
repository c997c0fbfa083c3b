/- Bytes handed to a function of Go's library. -/
import Derived.Test.YtjdgcgmhbhfpkaaDoorLexQ2
import Derived.Test.YtjdgcgmhbhfpkaaDoorPLex
import Derived.Test.YtjdgcgmhbhfpkaaDoorPrim4
import Derived.Test.YtjdgcgmhbhfpkaaDoorPScan
import Derived.Test.YtjdgcgmhbhfpkaaDoorPTree
import Derived.Laws.Externs
namespace Go.Proofs.YtjdgcgmhbhfpkaaDoorE
open Go Go.RowKit
set_option linter.unusedVariables false
set_option linter.unusedSimpArgs false
set_option maxRecDepth 100000
set_option maxHeartbeats 2000000

theorem str_size (xs : List Int) : (strOfNums xs).size = xs.length := by simp [strOfNums, ByteArray.size]
theorem str_bang {xs : List Int} (hb : byteOK xs) {i : Nat} (hi : i < xs.length) : ((strOfNums xs)[i]!.toNat : Int) = xs.getD i 0 := by
  have h : i < (strOfNums xs).size := by rw [str_size]; exact hi
  rw [getElem!_pos _ i h]
  exact str_get hb h
theorem load_bytes {P : Program} {w : World} {b : Nat} : ∀ (xs : List Int) (off : Nat) (acc : List Int), (∀ j, j < xs.length → w.cell? ⟨b, off + j, none⟩ = (xs.map (Value.int .u8))[j]?) → (Extern.Bytes.loadBytes ⟨b, off, none⟩ xs.length (strOfNums acc)).run P w = .ok (strOfNums (acc ++ xs)) w
  | [], off, acc, h => by simp [Extern.Bytes.loadBytes]
  | x :: xs, off, acc, h => by
    have h0 := h 0 (by simp)
    simp only [Nat.add_zero, List.map_cons, List.getElem?_cons_zero] at h0
    have hr := load_bytes (P := P) (w := w) (b := b) xs (off + 1) (acc ++ [x]) (fun j hj => by
      have := h (j + 1) (by simp only [List.length_cons]; omega)
      simp only [List.map_cons, List.getElem?_cons_succ] at this
      rw [← this]; congr 2; omega)
    rw [List.append_assoc] at hr
    simp only [List.length_cons, Extern.Bytes.loadBytes, load, Sem.run_bind, Sem.run, h0, Result.andThen_ok]
    have e1 : (⟨b, off, none⟩ : Addr).add 1 = ⟨b, off + 1, none⟩ := add_plain b off 1
    have e2 : (strOfNums acc).push x.toNat.toUInt8 = strOfNums (acc ++ [x]) := by
      apply ByteArray.ext; simp [strOfNums]
    rw [e1, e2]
    exact hr
theorem bytes_of {P : Program} {w : World} {A : Option Addr} {n c : Nat} {xs : List Int} (h : Rd w (.slice A n c) 1 n (xs.map (.int .u8))) : (Extern.Bytes.bytesOf (.slice A n c)).run P w = .ok (strOfNums xs) w := by
  obtain ⟨hl, A', c', hv, hcap, hc⟩ := h
  cases hv
  obtain rfl : n = xs.length := by simpa using hl.symm
  have hnil : strOfNums ([] : List Int) = ByteArray.empty := rfl
  cases A with
  | none =>
    have : xs = [] := by
      rcases hc with h | ⟨b, off, h, _⟩
      · exact List.length_eq_zero_iff.1 h
      · cases h
    subst this
    rfl
  | some a =>
    rcases hc with h | ⟨b, off, ha, h⟩
    · have : xs = [] := List.length_eq_zero_iff.1 h
      subst this
      rfl
    · cases ha
      have := load_bytes (P := P) xs off [] (fun j hj => h j (by simpa using hj))
      rw [List.nil_append] at this
      exact this
end Go.Proofs.YtjdgcgmhbhfpkaaDoorE
/- bytes.IndexByte. -/
namespace Go.Proofs.YtjdgcgmhbhfpkaaDoorE
open Go Go.RowKit
set_option linter.unusedVariables false
set_option linter.unusedSimpArgs false
set_option maxRecDepth 100000
set_option maxHeartbeats 2000000

def idxB (xs : List Int) (c : Int) : Int := match (List.range xs.length).find? (fun i => decide (xs.getD i 0 = c)) with | some i => i | none => -1
theorem idxB_iff (xs : List Int) (c : Int) : (0 ≤ idxB xs c ↔ c ∈ xs) ∧ -1 ≤ idxB xs c ∧ idxB xs c ≤ xs.length := by
  unfold idxB
  cases hf : (List.range xs.length).find? (fun i => decide (xs.getD i 0 = c)) with
  | some i =>
    rw [List.find?_range_eq_some] at hf
    obtain ⟨h1, h2, h3⟩ := hf
    rw [List.mem_range] at h2
    rw [decide_eq_true_eq] at h1
    refine ⟨⟨fun _ => ?_, fun _ => by simp only []; omega⟩, by simp only []; omega, by simp only []; omega⟩
    rw [List.getD_eq_getElem?_getD, List.getElem?_eq_getElem h2] at h1
    have h1 : xs[i] = c := h1
    exact h1 ▸ List.getElem_mem h2
  | none =>
    rw [List.find?_range_eq_none] at hf
    refine ⟨⟨fun h => absurd h (by decide), fun hm => ?_⟩, by decide, by simp only []; omega⟩
    obtain ⟨i, hi, he⟩ := List.getElem_of_mem hm
    have := hf i hi
    rw [List.getD_eq_getElem?_getD, List.getElem?_eq_getElem hi] at this
    simp [he] at this
theorem find_congr {p q : Nat → Bool} : ∀ (l : List Nat), (∀ i ∈ l, p i = q i) → l.find? p = l.find? q
  | [], _ => rfl
  | a :: l, h => by rw [List.find?_cons, List.find?_cons, h a (by simp), find_congr l (fun i hi => h i (by simp [hi]))]
theorem idx_str {xs : List Int} (hx : byteOK xs) {c : Int} (h0 : 0 ≤ c) (h1 : c < 256) : ((List.range (strOfNums xs).size).find? fun i => (strOfNums xs)[i]! == c.toNat.toUInt8) = (List.range xs.length).find? (fun i => decide (xs.getD i 0 = c)) := by
  rw [str_size]
  refine find_congr _ fun i hi => ?_
  rw [List.mem_range] at hi
  have e := str_bang hx hi
  have ec : ((c.toNat.toUInt8).toNat : Int) = c := by show ((UInt8.ofNat c.toNat).toNat : Int) = c; rw [UInt8.toNat_ofNat']; omega
  rw [Bool.eq_iff_iff, beq_iff_eq, decide_eq_true_eq]
  constructor
  · intro h; rw [← e, h]; exact ec
  · intro h; exact UInt8.toNat_inj.1 (by omega)
theorem ok_IndexByte : callOK Tryd.prog 48 = true := by kernel_rfl
theorem bytes_IndexByte {xs : List Int} (hx : byteOK xs) {c : Int} (h0 : 0 ≤ c) (h1 : c < 256) {A : Option Addr} {n cc : Nat} {W : World} (rx : Rd W (.slice A n cc) 1 n (xs.map (.int .u8))) :
    GivesV Tryd.prog 48 [.slice A n cc, .int .u8 c] W (.int .i64 (idxB xs c)) := by
  have H := St.enter W
  refine calls_of_vcV (args := [.slice A n cc, .int .u8 c]) Tryd.func48 rfl (by kernel_rfl) (Nat.le_of_ble_eq_true rfl) ?_
  have hrun : (callFunc 63 #[.slice A n cc, .int .u8 c]).run Tryd.prog W = .ok (.value (.int .i64 (idxB xs c))) W := by
    rw [run_callFunc_extern (e := Extern.BytealgIndexByte.indexByte) Tryd.func63 (by kernel_rfl) (by kernel_rfl) (by kernel_rfl) (by kernel_rfl)]
    have hc : Extern.BytealgIndexByte.indexByte #[.slice A n cc, .int .u8 c] = (do
      let b ← Extern.Bytes.bytesOf (.slice A n cc)
      let c' ← Extern.Bytes.asByte (.int .u8 c)
      match (List.range b.size).find? fun i => b[i]! == c' with
      | some i => pure (goInt i)
      | none => pure (goInt (-1))) := rfl
    have hf := idx_str hx h0 h1
    simp only [hc, Sem.run_bind, Result.andThen_ok, bytes_of rx, Extern.Bytes.asByte, Sem.run_pure]
    rw [hf]
    unfold idxB
    cases (List.range xs.length).find? (fun i => decide (xs.getD i 0 = c)) <;> rfl
  refine CallS.ext hrun ?_
  exact Exists.intro _ (And.intro rfl (And.intro rfl H.none))
end Go.Proofs.YtjdgcgmhbhfpkaaDoorE
/- bytes.IndexRune over the six signs that are tokens by themselves. -/
namespace Go.Proofs.YtjdgcgmhbhfpkaaDoorE
open Go Go.RowKit Go.Proofs
set_option linter.unusedVariables false
set_option linter.unusedSimpArgs false
set_option maxRecDepth 100000
set_option maxHeartbeats 4000000

theorem or128S {x : Int} {K : Int → Prop} (h0 : 0 ≤ x) (h1 : x < 64) (q : K (128 + x)) : BitS .or .u8 128 x K := bitR (by
  have h := contB x h0
  rw [w8k, show x % 256 = x by omega, u8_and63 x h0 (by omega), show x % 64 = x by omega] at h
  exact h) q
theorem enc_fin {t : TypeId} {g : Nat} {B : Nat} {W0 w : World} {L : List It} {r : Int} (v : Int) (n : Nat) (hv : v = n) (e : need r = v) (a b c d : Int) (h1 : 128 ≤ [a, b, c, d].getD (n - 1) 0) (h2 : [a, b, c, d].getD (n - 1) 0 < 192) (H : St B W0 w (.obj g (.cells #[.int .u8 a, .int .u8 b, .int .u8 c, .int .u8 d] t) :: L)) :
    ∃ a b c d : Int, Ending.returned (.int .i64 v) = .returned (.int .i64 (need r)) ∧ 128 ≤ [a, b, c, d].getD ((need r).toNat - 1) 0 ∧ [a, b, c, d].getD ((need r).toNat - 1) 0 < 192 ∧ St B W0 w (.obj g (.cells #[.int .u8 a, .int .u8 b, .int .u8 c, .int .u8 d] t) :: L) := by
  subst hv
  exact ⟨a, b, c, d, by rw [e], by rw [e]; exact h1, by rw [e]; exact h2, H⟩
theorem ok_encodeNA : callOK Tryd.prog 65 = true := by kernel_rfl
theorem utf8_encodeNA (r : Int) (hr : need r ≠ 0) (h128 : 128 ≤ r) {t : TypeId} {g : Nat} {a b c d : Int} {B : Nat} {W0 w : World} {L : List It} (H : St B W0 w (.obj g (.cells #[.int .u8 a, .int .u8 b, .int .u8 c, .int .u8 d] t) :: L)) :
    Calls Tryd.prog 65 #[.slice (some ⟨g, 0, none⟩) 4 4, .int .i32 r] w fun e w' => ∃ a b c d : Int, e = .returned (.int .i64 (need r)) ∧ 128 ≤ [a, b, c, d].getD ((need r).toNat - 1) 0 ∧ [a, b, c, d].getD ((need r).toNat - 1) 0 < 192 ∧ St B W0 w' (.obj g (.cells #[.int .u8 a, .int .u8 b, .int .u8 c, .int .u8 d] t) :: L) := by
  have hn := need_cases r
  refine calls_of_vcV (args := [.slice (some ⟨g, 0, none⟩) 4 4, .int .i32 r]) Tryd.func65 rfl (by kernel_rfl) (Nat.le_of_ble_eq_true rfl) ?_
  refine aru32 (by omega) (by omega) ?_
  refine ifB (fun c1 => ?_) (fun c1 => ?_)
  · refine idxS (b := g) (off := 0) (by decide) (by decide) rfl ?_
    refine loadO H 0 rfl rfl ?_
    refine shrR (d := 64) rfl (by decide) ?_
    refine ar8 (by omega) (by omega) ?_
    refine bitR rfl ?_
    refine idxS (b := g) (off := 0) (by decide) (by decide) rfl ?_
    refine storeO H 0 rfl rfl rfl fun w H => ?_
    refine arU8 ?_
    refine and63S (by omega) (by omega) ?_
    refine or128S (by omega) (by omega) ?_
    refine idxS (b := g) (off := 0) (by decide) (by decide) rfl ?_
    refine storeO H 0 rfl rfl rfl fun w H => ?_
    have H : St B W0 w (.obj g (.cells #[.int .u8 (bits .or .u8 192 (r / 64)), .int .u8 (128 + r % 256 % 64), .int .u8 (c), .int .u8 (d)] t) :: L) := H
    exact enc_fin 2 2 rfl (by omega) _ _ _ _ (by show (128 : Int) ≤ 128 + r % 256 % 64; omega) (by show (128 : Int) + r % 256 % 64 < 192; omega) H
  · refine JoinV.mk ?_
    refine ifB (fun c15 => ?_) (fun c15 => ?_)
    · refine ifB (fun c16 => ?_) (fun c16 => absurd c16 (by omega))
      refine idxS (b := g) (off := 0) (by decide) (by decide) rfl ?_
      refine loadO H 0 rfl rfl ?_
      refine shrR (d := 4096) rfl (by decide) ?_
      refine ar8 (by omega) (by omega) ?_
      refine bitR rfl ?_
      refine idxS (b := g) (off := 0) (by decide) (by decide) rfl ?_
      refine storeO H 0 rfl rfl rfl fun w H => ?_
      refine shrR (d := 64) rfl (by decide) ?_
      refine arU8 ?_
      refine and63S (by omega) (by omega) ?_
      refine or128S (by omega) (by omega) ?_
      refine idxS (b := g) (off := 0) (by decide) (by decide) rfl ?_
      refine storeO H 0 rfl rfl rfl fun w H => ?_
      refine arU8 ?_
      refine and63S (by omega) (by omega) ?_
      refine or128S (by omega) (by omega) ?_
      refine idxS (b := g) (off := 0) (by decide) (by decide) rfl ?_
      refine storeO H 0 rfl rfl rfl fun w H => ?_
      have H : St B W0 w (.obj g (.cells #[.int .u8 (bits .or .u8 224 (r / 4096)), .int .u8 (128 + r / 64 % 256 % 64), .int .u8 (128 + r % 256 % 64), .int .u8 (d)] t) :: L) := H
      exact enc_fin 3 3 rfl (by omega) _ _ _ _ (by show (128 : Int) ≤ 128 + r % 256 % 64; omega) (by show (128 : Int) + r % 256 % 64 < 192; omega) H
    · refine RegV.mk ?_
      refine gT (fun c36 => ?_) (fun c36 => absurd c36 (by omega))
      refine ifB (fun c37 => ?_) (fun c37 => ?_)
      · refine idxS (b := g) (off := 0) (by decide) (by decide) rfl ?_
        refine loadO H 0 rfl rfl ?_
        refine shrR (d := 4096) rfl (by decide) ?_
        refine ar8 (by omega) (by omega) ?_
        refine bitR rfl ?_
        refine idxS (b := g) (off := 0) (by decide) (by decide) rfl ?_
        refine storeO H 0 rfl rfl rfl fun w H => ?_
        refine shrR (d := 64) rfl (by decide) ?_
        refine arU8 ?_
        refine and63S (by omega) (by omega) ?_
        refine or128S (by omega) (by omega) ?_
        refine idxS (b := g) (off := 0) (by decide) (by decide) rfl ?_
        refine storeO H 0 rfl rfl rfl fun w H => ?_
        refine arU8 ?_
        refine and63S (by omega) (by omega) ?_
        refine or128S (by omega) (by omega) ?_
        refine idxS (b := g) (off := 0) (by decide) (by decide) rfl ?_
        refine storeO H 0 rfl rfl rfl fun w H => ?_
        have H : St B W0 w (.obj g (.cells #[.int .u8 (bits .or .u8 224 (r / 4096)), .int .u8 (128 + r / 64 % 256 % 64), .int .u8 (128 + r % 256 % 64), .int .u8 (d)] t) :: L) := H
        exact enc_fin 3 3 rfl (by omega) _ _ _ _ (by show (128 : Int) ≤ 128 + r % 256 % 64; omega) (by show (128 : Int) + r % 256 % 64 < 192; omega) H
      · refine RegV.mk ?_
        refine gT (fun c57 => ?_) (fun c57 => absurd c57 (by omega))
        refine ifB (fun c58 => ?_) (fun c58 => absurd c58 (by omega))
        refine idxS (b := g) (off := 0) (by decide) (by decide) rfl ?_
        refine loadO H 0 rfl rfl ?_
        refine shrR (d := 262144) rfl (by decide) ?_
        refine ar8 (by omega) (by omega) ?_
        refine bitR rfl ?_
        refine idxS (b := g) (off := 0) (by decide) (by decide) rfl ?_
        refine storeO H 0 rfl rfl rfl fun w H => ?_
        refine shrR (d := 4096) rfl (by decide) ?_
        refine arU8 ?_
        refine and63S (by omega) (by omega) ?_
        refine or128S (by omega) (by omega) ?_
        refine idxS (b := g) (off := 0) (by decide) (by decide) rfl ?_
        refine storeO H 0 rfl rfl rfl fun w H => ?_
        refine shrR (d := 64) rfl (by decide) ?_
        refine arU8 ?_
        refine and63S (by omega) (by omega) ?_
        refine or128S (by omega) (by omega) ?_
        refine idxS (b := g) (off := 0) (by decide) (by decide) rfl ?_
        refine storeO H 0 rfl rfl rfl fun w H => ?_
        refine arU8 ?_
        refine and63S (by omega) (by omega) ?_
        refine or128S (by omega) (by omega) ?_
        refine idxS (b := g) (off := 0) (by decide) (by decide) rfl ?_
        refine storeO H 0 rfl rfl rfl fun w H => ?_
        have H : St B W0 w (.obj g (.cells #[.int .u8 (bits .or .u8 240 (r / 262144)), .int .u8 (128 + r / 4096 % 256 % 64), .int .u8 (128 + r / 64 % 256 % 64), .int .u8 (128 + r % 256 % 64)] t) :: L) := H
        exact enc_fin 4 4 rfl (by omega) _ _ _ _ (by show (128 : Int) ≤ 128 + r % 256 % 64; omega) (by show (128 : Int) + r % 256 % 64 < 192; omega) H
end Go.Proofs.YtjdgcgmhbhfpkaaDoorE
/- bytes.IndexRune over the six signs. -/
namespace Go.Proofs.YtjdgcgmhbhfpkaaDoorE
open Go Go.RowKit Go.Proofs
set_option linter.unusedVariables false
set_option linter.unusedSimpArgs false
set_option maxRecDepth 100000
set_option maxHeartbeats 4000000

theorem ok_EncodeRune : callOK Tryd.prog 50 = true := by kernel_rfl
theorem utf8_EncodeRune (r : Int) (hr : need r ≠ 0) (h128 : 128 ≤ r) {t : TypeId} {g : Nat} {a b c d : Int} {B : Nat} {W0 w : World} {L : List It} (H : St B W0 w (.obj g (.cells #[.int .u8 a, .int .u8 b, .int .u8 c, .int .u8 d] t) :: L)) :
    Calls Tryd.prog 50 #[.slice (some ⟨g, 0, none⟩) 4 4, .int .i32 r] w fun e w' => ∃ a b c d : Int, e = .returned (.int .i64 (need r)) ∧ 128 ≤ [a, b, c, d].getD ((need r).toNat - 1) 0 ∧ [a, b, c, d].getD ((need r).toNat - 1) 0 < 192 ∧ St B W0 w' (.obj g (.cells #[.int .u8 a, .int .u8 b, .int .u8 c, .int .u8 d] t) :: L) := by
  have hn := need_cases r
  refine calls_of_vcV (args := [.slice (some ⟨g, 0, none⟩) 4 4, .int .i32 r]) Tryd.func50 rfl (by kernel_rfl) (Nat.le_of_ble_eq_true rfl) ?_
  refine aru32 (by omega) (by omega) ?_
  refine ifB (fun c1 => absurd c1 (by omega)) (fun c1 => ?_)
  refine CallS.mk ok_encodeNA ((utf8_encodeNA r hr h128 H).mono ?_)
  rintro _ w ⟨a, b, c, d, rfl, h1, h2, H⟩
  exact Exists.intro a (Exists.intro b (Exists.intro c (Exists.intro d (And.intro rfl (And.intro h1 (And.intro h2 H))))))
theorem byteOK_ones : byteOK onesQ := by intro x hx; simp [onesQ] at hx; omega
theorem ok_DecodeRune : callOK Tryd.prog 49 = true := by kernel_rfl
theorem utf8_DecodeASCII {x : Int} {r : List Int} (h0 : 0 ≤ x) (h1 : x < 128) {A : Option Addr} {n c : Nat} {W : World} (hx : Rd W (.slice A n c) 1 n ((x :: r).map (.int .u8))) (hn : n ≤ 4294967296) : GivesV Tryd.prog 49 [.slice A n c] W (.tuple #[.int .i32 x, .int .i64 1]) := by
  have H := (St.enter W).ro0 rfl hx
  have hln := hx.len
  simp only [List.length_map, List.length_cons] at hln
  refine calls_of_vcV (args := [.slice A n c]) Tryd.func49 rfl (by kernel_rfl) (Nat.le_of_ble_eq_true rfl) ?_
  refine loopV (by kernel_rfl) (fun m e w => e 6 = .slice A n c ∧ e 7 = .int .i64 n ∧ e 8 = .int .i64 0 ∧ St W.heap.size W w [.ro (.slice A n c) 1 n ((x :: r).map (.int .u8))]) 1
    ⟨rfl, rfl, rfl, H⟩ ?_
  rintro m e w ⟨h6, h7, h8, H⟩
  rw [Env.three h6 h7 h8]
  refine ifB (fun c0 => ?_) (fun c0 => absurd c0 (by omega))
  refine JoinV.mk ?_
  refine idxN (i := 0) (H.rd 0 rfl) (by omega) fun b off hc => ?_
  refine loadS hc ?_
  refine ifB (fun c4 => ?_) (fun c4 => ?_)
  · refine ar32 (show -2147483648 ≤ x by omega) (show x ≤ 2147483647 by omega) ?_
    exact Exists.intro _ (And.intro rfl (And.intro rfl H.none))
  · exact absurd h1 c4
theorem idx_ones (r : Int) : idxB onesQ r = braceQ r - 1 := by
  have key : ∀ x, idxB onesQ x = (if 123 = x then 0 else if 125 = x then 1 else if 91 = x then 2 else if 93 = x then 3 else if 58 = x then 4 else if 44 = x then 5 else -1) := fun x => by
    unfold idxB
    have e : (List.range onesQ.length).find? (fun i => decide (onesQ.getD i 0 = x)) = [0, 1, 2, 3, 4, 5].find? (fun i => decide (onesQ.getD i 0 = x)) := rfl
    rw [e]
    simp only [List.find?_cons, List.find?_nil, onesQ, List.getD_cons_zero, List.getD_cons_succ]
    by_cases h1 : (123 : Int) = x
    · simp [h1]
    by_cases h2 : (125 : Int) = x
    · simp [h1, h2]
    by_cases h3 : (91 : Int) = x
    · simp [h1, h2, h3]
    by_cases h4 : (93 : Int) = x
    · simp [h1, h2, h3, h4]
    by_cases h5 : (58 : Int) = x
    · simp [h1, h2, h3, h4, h5]
    by_cases h6 : (44 : Int) = x
    · simp [h1, h2, h3, h4, h5, h6]
    · simp [h1, h2, h3, h4, h5, h6]
  rw [key]
  unfold braceQ
  repeat' split
  all_goals omega
theorem ok_IndexRune : callOK Tryd.prog 33 = true := by kernel_rfl
theorem bytes_IndexRune {r : Int} (h0 : -1 ≤ r) (h1 : r ≤ 1114111) {A : Option Addr} {c : Nat} {W : World} (hx : Rd W (.slice A 6 c) 1 6 (onesQ.map (.int .u8))) : GivesV Tryd.prog 33 [.slice A 6 c, .int .i32 r] W (.int .i64 (braceQ r - 1)) := by
  have H := (St.enter W).ro0 rfl hx
  have hn := need_cases r
  refine calls_of_vcV (args := [.slice A 6 c, .int .i32 r]) Tryd.func33 rfl (by kernel_rfl) (Nat.le_of_ble_eq_true rfl) ?_
  refine cutG (fun e w => e 0 = .slice A 6 c ∧ e 1 = .int .i32 r ∧ e 165 = .bool (decide (0 ≤ r ∧ r < 128)) ∧ St W.heap.size W w [.ro (.slice A 6 c) 1 6 (onesQ.map (.int .u8))]) ?_ ?_
  · refine gT (fun c0 => ?_) (fun c0 => ?_)
    · refine ⟨rfl, rfl, congrArg Value.bool ?_, H⟩
      (rw [Bool.eq_iff_iff]; simp only [decide_eq_true_eq, Bool.false_eq_true, true_iff, iff_true, false_iff, iff_false]; omega)
    · refine ⟨rfl, rfl, congrArg Value.bool ?_, H⟩
      (rw [Bool.eq_iff_iff]; simp only [decide_eq_true_eq, Bool.false_eq_true, true_iff, iff_true, false_iff, iff_false]; omega)
  rintro e w ⟨h0, h1, h165, H⟩
  rw [Env.three h0 h1 h165]
  refine ifB (fun c0 => ?_) (fun c0 => ?_)
  · refine ar8 (by omega) (by omega) ?_
    refine callV ok_IndexByte (bytes_IndexByte byteOK_ones (by omega) (by omega) (H.rd 0 rfl)) H fun w H => ?_
    have hE : idxB onesQ r = braceQ r - 1 := idx_ones r
    rw [← hE]
    exact Exists.intro _ (And.intro rfl (And.intro rfl H.none))
  · refine ifB (fun c3 => ?_) (fun c3 => ?_)
    · have e1 : braceQ r - 1 = -1 := by rw [c3]; decide
      rw [e1]
      refine loopV (by kernel_rfl) (fun m e w => e 0 = .slice A 6 c ∧ ∃ j : Nat, e 5 = .int .i64 j ∧ j + m = 6 ∧ St W.heap.size W w [.ro (.slice A 6 c) 1 6 (onesQ.map (.int .u8))]) 6 ⟨rfl, 0, rfl, rfl, H⟩ ?_
      rintro m e w ⟨h0, j, h5, hj, H⟩
      rw [Env.two h0 h5]
      refine ifB (fun c0 => ?_) (fun c0 => ?_)
      · have hjl : j < onesQ.length := by show j < 6; omega
        have hdr := drop_cons onesQ j hjl
        have hbj : 0 ≤ onesQ.getD j 0 ∧ onesQ.getD j 0 < 128 := by
          have : ∀ k : Fin 6, 0 ≤ onesQ.getD k.val 0 ∧ onesQ.getD k.val 0 < 128 := by decide
          exact this ⟨j, by omega⟩
        refine dropR (l := j) H 0 rfl rfl (by omega) fun A2 H => ?_
        have hR := H.rd 0 rfl
        rw [hdr] at hR
        refine callV ok_DecodeRune (utf8_DecodeASCII hbj.1 hbj.2 hR (by omega)) H fun w H => ?_
        refine ifB (fun c1 => absurd c1 (by omega)) (fun c1 => ?_)
        refine arN (by omega) ?_
        exact Exists.intro (m - 1) (And.intro (by omega) ⟨rfl, j + 1, rfl, by omega, H.sub [1] (by decide)⟩)
      · exact Exists.intro _ (And.intro rfl (And.intro rfl H.none))
    · refine callV ok_ValidRune ((utf8_ValidRune _ _).mono fun e w' ⟨he, hb⟩ => ⟨_, he, rfl, St.ofBelow hb⟩) H fun w H => ?_
      refine ifNot ?_
      refine ifB (fun c6 => ?_) (fun c6 => ?_)
      · refine newR H fun g w H => ?_
        have e1 : braceQ r - 1 = -1 := by rw [show braceQ r = 0 by unfold braceQ; rw [if_neg (by omega), if_neg (by omega), if_neg (by omega), if_neg (by omega), if_neg (by omega), if_neg (by omega)]]; rfl
        rw [e1]
        refine RunS.mk ⟨.slice (some ⟨g, 0, none⟩) 4 4, w, by kernel_rfl, ?_⟩
        have H : St W.heap.size W w [.obj g (.cells #[.int .u8 0, .int .u8 0, .int .u8 0, .int .u8 0] _), .ro (.slice A 6 c) 1 6 (onesQ.map (.int .u8))] := H
        refine CallS.mk ok_EncodeRune ((utf8_EncodeRune r c6 (by omega) H).mono ?_)
        rintro _ w ⟨a, b, c', d, rfl, q1, q2, H⟩
        refine ar64 (by omega) (by omega) ?_
        refine loopV (by kernel_rfl) (fun m e w => e 0 = .slice A 6 c ∧ e 8 = .pointer (some ⟨g, 0, none⟩) ∧ e 9 = .int .i64 (need r) ∧ e 10 = .int .i64 (need r - 1) ∧ e 11 = .int .i64 (need r - 1) ∧ St W.heap.size W w [.obj g (.cells #[.int .u8 a, .int .u8 b, .int .u8 c', .int .u8 d] _), .ro (.slice A 6 c) 1 6 (onesQ.map (.int .u8))]) 1 ⟨rfl, rfl, rfl, rfl, rfl, H⟩ ?_
        rintro m e w ⟨h0, h8, h9, h10, h11, H⟩
        rw [Env.five h0 h8 h9 h10 h11]
        refine ifB (fun c10 => ?_) (fun c10 => absurd c10 (by omega))
        refine JoinV.mk ?_
        have hn2 : need r = 2 ∨ need r = 3 ∨ need r = 4 := by omega
        have hl : ∀ j, j < 6 → onesQ.getD j 0 < 128 := fun j hj => by
          have : ∀ k : Fin 6, onesQ.getD k.val 0 < 128 := by decide
          exact this ⟨j, hj⟩
        have hno : ∀ (j : Nat) (x : Int), 128 ≤ x → idxB (onesQ.drop j) x < 0 := fun j x hx => by
          have h := idxB_iff (onesQ.drop j) x
          have : ¬ x ∈ onesQ.drop j := fun hm => by
            have := List.mem_of_mem_drop hm
            simp [onesQ] at this; omega
          exact Int.not_le.1 fun z => this (h.1.1 z)
        rcases hn2 with e2 | e2 | e2
        all_goals rw [e2] at q1 q2 ⊢
        · have q1 : 128 ≤ b := q1
          have q2 : b < 192 := q2
          have hl1 : onesQ.getD 1 0 < 128 := hl 1 (by decide)
          refine drawR H fun w H => ?_
          refine idxP (i := 1) (p := onesQ.getD 1 0) rfl (H.rd 1 rfl) (by decide) fun b0 off hc => ?_
          refine loadS hc ?_
          refine idxS (b := g) (off := 0) (by decide) (by decide) rfl ?_
          refine loadO H 0 rfl rfl ?_
          refine ifB (fun c20 => ?_) (fun c20 => absurd c20 (by omega))
          refine drawR H fun w H => ?_
          refine ar64 (by omega) (by omega) ?_
          refine dropR (l := 2) H 1 rfl rfl (by omega) fun A2 H => ?_
          refine idxS (b := g) (off := 0) (by decide) (by decide) rfl ?_
          refine loadO H 1 rfl rfl ?_
          refine callV ok_IndexByte (bytes_IndexByte (byteOK_ones.drop 2) (by omega) (by omega) (H.rd 0 rfl)) H fun w H => ?_
          refine ifB (fun c6 => ?_) (fun c6 => ?_)
          · exact Exists.intro _ (And.intro rfl (And.intro rfl H.none))
          · have hz : idxB (onesQ.drop 2) b < 0 := hno 2 b q1
            exact absurd hz (by assumption)
        · have q1 : 128 ≤ c' := q1
          have q2 : c' < 192 := q2
          have hl1 : onesQ.getD 2 0 < 128 := hl 2 (by decide)
          refine drawR H fun w H => ?_
          refine idxP (i := 2) (p := onesQ.getD 2 0) rfl (H.rd 1 rfl) (by decide) fun b0 off hc => ?_
          refine loadS hc ?_
          refine idxS (b := g) (off := 0) (by decide) (by decide) rfl ?_
          refine loadO H 0 rfl rfl ?_
          refine ifB (fun c20 => ?_) (fun c20 => absurd c20 (by omega))
          refine drawR H fun w H => ?_
          refine ar64 (by omega) (by omega) ?_
          refine dropR (l := 3) H 1 rfl rfl (by omega) fun A2 H => ?_
          refine idxS (b := g) (off := 0) (by decide) (by decide) rfl ?_
          refine loadO H 1 rfl rfl ?_
          refine callV ok_IndexByte (bytes_IndexByte (byteOK_ones.drop 3) (by omega) (by omega) (H.rd 0 rfl)) H fun w H => ?_
          refine ifB (fun c6 => ?_) (fun c6 => ?_)
          · exact Exists.intro _ (And.intro rfl (And.intro rfl H.none))
          · have hz : idxB (onesQ.drop 3) c' < 0 := hno 3 c' q1
            exact absurd hz (by assumption)
        · have q1 : 128 ≤ d := q1
          have q2 : d < 192 := q2
          have hl1 : onesQ.getD 3 0 < 128 := hl 3 (by decide)
          refine drawR H fun w H => ?_
          refine idxP (i := 3) (p := onesQ.getD 3 0) rfl (H.rd 1 rfl) (by decide) fun b0 off hc => ?_
          refine loadS hc ?_
          refine idxS (b := g) (off := 0) (by decide) (by decide) rfl ?_
          refine loadO H 0 rfl rfl ?_
          refine ifB (fun c20 => ?_) (fun c20 => absurd c20 (by omega))
          refine drawR H fun w H => ?_
          refine ar64 (by omega) (by omega) ?_
          refine dropR (l := 4) H 1 rfl rfl (by omega) fun A2 H => ?_
          refine idxS (b := g) (off := 0) (by decide) (by decide) rfl ?_
          refine loadO H 1 rfl rfl ?_
          refine callV ok_IndexByte (bytes_IndexByte (byteOK_ones.drop 4) (by omega) (by omega) (H.rd 0 rfl)) H fun w H => ?_
          refine ifB (fun c6 => ?_) (fun c6 => ?_)
          · exact Exists.intro _ (And.intro rfl (And.intro rfl H.none))
          · have hz : idxB (onesQ.drop 4) d < 0 := hno 4 d q1
            exact absurd hz (by assumption)
      · have e1 : braceQ r - 1 = -1 := by rw [show braceQ r = 0 by unfold braceQ; rw [if_neg (by omega), if_neg (by omega), if_neg (by omega), if_neg (by omega), if_neg (by omega), if_neg (by omega)]]; rfl
        rw [e1]
        exact Exists.intro _ (And.intro rfl (And.intro rfl H.none))
end Go.Proofs.YtjdgcgmhbhfpkaaDoorE
/- The text conversions undo one another, with no program in sight. -/
namespace Go.Proofs.YtjdgcgmhbhfpkaaDoorE
open Go Go.RowKit Go.Proofs
set_option linter.unusedVariables false
set_option maxRecDepth 100000
set_option maxHeartbeats 1000000

theorem goodU_cons {u : Int} {l : List Int} : goodU (u :: l) = true ↔ (0 ≤ u ∧ u ≤ 65535) ∧ goodU l = true := by simp [goodU]
theorem units_from : ∀ (n : Nat) (l : List Int), l.length ≤ n → goodU l = true → unitsAll (fromAll l) = some l := by
  intro n
  induction n with
  | zero => intro l h _; have : l = [] := List.length_eq_zero_iff.1 (by omega); subst this; rfl
  | succ n ih =>
    intro l h hg
    match l, h, hg with
    | [], _, _ => rfl
    | [u], _, hg =>
      have := (goodU_cons.1 hg).1
      simp only [fromAll, unitsAll]; rw [if_neg (by omega)]; unfold unitsOne; rw [if_pos (by omega)]; rfl
    | u :: v :: r, h, hg =>
      obtain ⟨hu, hg1⟩ := goodU_cons.1 hg
      obtain ⟨hv, hg2⟩ := goodU_cons.1 hg1
      simp only [List.length_cons] at h
      rw [fromAll]
      split
      · rename_i hp
        obtain ⟨⟨p1, p2⟩, p3, p4⟩ := hp
        rw [unitsAll, if_neg (by omega), ih r (by omega) hg2]
        unfold unitsOne
        rw [if_neg (by omega)]
        simp only [Option.map_some, List.cons_append, List.nil_append, Option.some.injEq, List.cons.injEq, and_true]
        constructor <;> omega
      · rw [unitsAll, if_neg (by omega), ih (v :: r) (by simp only [List.length_cons]; omega) hg1]
        unfold unitsOne; rw [if_pos (by omega)]; rfl
theorem need_ok {p : Int} (h : need p ≠ 0) : 0 ≤ p ∧ p ≤ 1114111 ∧ ¬ (55296 ≤ p ∧ p ≤ 57343) := by
  rcases need_cases p with q | q
  · exact absurd q.1 h
  · omega
theorem fromAll_skip {p : Int} (h : ¬ (55296 ≤ p ∧ p ≤ 56319)) (l : List Int) : fromAll (p :: l) = p :: fromAll l := by
  cases l with
  | nil => rfl
  | cons v r => rw [fromAll, if_neg (fun q => h q.1)]
theorem from_units : ∀ q : List Int, (∀ p ∈ q, need p ≠ 0) → ∃ v, unitsAll q = some v ∧ goodU v = true ∧ fromAll v = q
  | [], _ => ⟨[], rfl, rfl, rfl⟩
  | p :: q, h => by
    obtain ⟨v, h1, h2, h3⟩ := from_units q fun x hx => h x (List.mem_cons_of_mem _ hx)
    obtain ⟨p0, p1, p2⟩ := need_ok (h p List.mem_cons_self)
    by_cases hp : p < 65536
    · refine ⟨p :: v, ?_, goodU_cons.2 ⟨by omega, h2⟩, ?_⟩
      · rw [unitsAll, if_neg (by omega), h1]; unfold unitsOne; rw [if_pos hp]; rfl
      · rw [fromAll_skip (by omega), h3]
    · refine ⟨(55296 + (p - 65536) / 1024) :: (56320 + (p - 65536) % 1024) :: v, ?_, goodU_cons.2 ⟨by omega, goodU_cons.2 ⟨by omega, h2⟩⟩, ?_⟩
      · rw [unitsAll, if_neg (by omega), h1]; unfold unitsOne; rw [if_neg hp]; rfl
      · rw [fromAll, if_pos ⟨by omega, by omega, by omega⟩, h3]
        congr 1; omega
theorem encB_need {p : Int} (h : need p ≠ 0) : ((encB p).length : Int) = need p ∧ byteOK (encB p) := by
  obtain ⟨p0, p1, p2⟩ := need_ok h
  rcases need_cases p with q | q
  · omega
  · unfold encB
    rcases q.2 with ⟨e, q⟩ | ⟨e, q⟩ | ⟨e, q⟩ | ⟨e, q⟩
    · rw [if_pos (by omega), e]; exact ⟨rfl, fun x hx => by simp at hx; omega⟩
    · rw [if_neg (by omega), if_pos (by omega), e]; exact ⟨rfl, fun x hx => by simp [tailB] at hx; omega⟩
    · rw [if_neg (by omega), if_neg (by omega), if_pos (by omega), e]; exact ⟨rfl, fun x hx => by simp [tailB] at hx; omega⟩
    · rw [if_neg (by omega), if_neg (by omega), if_neg (by omega), e]; exact ⟨rfl, fun x hx => by simp [tailB] at hx; omega⟩
theorem dec_encB {p : Int} (h : need p ≠ 0) (r : List Int) (hr : byteOK r) : (dec1 (encB p ++ r)).1 = p ∧ (dec1 (encB p ++ r)).2 = need p := by
  obtain ⟨p0, p1, p2⟩ := need_ok h
  obtain ⟨hl, hbe⟩ := encB_need h
  have hb : byteOK (encB p ++ r) := hbe.app hr
  have hn : ∃ n : Nat, need p = n ∧ 1 ≤ n ∧ n ≤ 4 := by
    rcases need_cases p with q | q
    · omega
    · rcases q.2 with ⟨e, q⟩ | ⟨e, q⟩ | ⟨e, q⟩ | ⟨e, q⟩
      · exact ⟨1, e, by omega, by omega⟩
      · exact ⟨2, e, by omega, by omega⟩
      · exact ⟨3, e, by omega, by omega⟩
      · exact ⟨4, e, by omega, by omega⟩
  obtain ⟨n, en, n1, n4⟩ := hn
  have hv : l1v (encB p ++ r) n = p := by
    have hs := l1v_spec (encB p ++ r) hb n ⟨n1, n4⟩
    have hlen : n ≤ (encB p ++ r).length := by rw [List.length_append]; omega
    rcases need_cases p with q | q
    · omega
    · rcases q.2 with ⟨e, q⟩ | ⟨e, q⟩ | ⟨e, q⟩ | ⟨e, q⟩
      · have g0 : (encB p ++ r).getD 0 0 = p := by unfold encB; rw [if_pos q]; rfl
        rw [g0] at hs; omega
      · have e1 : encB p = [192 + p / 64, 128 + p % 64] := by unfold encB; rw [if_neg (by omega), if_pos (by omega)]; simp [tailB]
        have g0 : (encB p ++ r).getD 0 0 = 192 + p / 64 := by rw [e1]; rfl
        have g1 : (encB p ++ r).getD 1 0 = 128 + p % 64 := by rw [e1]; rfl
        rw [g0, g1] at hs; omega
      · have e1 : encB p = [224 + p / 4096, 128 + p / 64 % 64, 128 + p % 64] := by unfold encB; rw [if_neg (by omega), if_neg (by omega), if_pos (by omega)]; simp [tailB]
        have g0 : (encB p ++ r).getD 0 0 = 224 + p / 4096 := by rw [e1]; rfl
        have g1 : (encB p ++ r).getD 1 0 = 128 + p / 64 % 64 := by rw [e1]; rfl
        have g2 : (encB p ++ r).getD 2 0 = 128 + p % 64 := by rw [e1]; rfl
        rw [g0, g1, g2] at hs; omega
      · have e1 : encB p = [240 + p / 262144, 128 + p / 4096 % 64, 128 + p / 64 % 64, 128 + p % 64] := by unfold encB; rw [if_neg (by omega), if_neg (by omega), if_neg (by omega)]; simp [tailB]
        have g0 : (encB p ++ r).getD 0 0 = 240 + p / 262144 := by rw [e1]; rfl
        have g1 : (encB p ++ r).getD 1 0 = 128 + p / 4096 % 64 := by rw [e1]; rfl
        have g2 : (encB p ++ r).getD 2 0 = 128 + p / 64 % 64 := by rw [e1]; rfl
        have g3 : (encB p ++ r).getD 3 0 = 128 + p % 64 := by rw [e1]; rfl
        rw [g0, g1, g2, g3] at hs; omega
  have := found_dec (encB p ++ r) hb (by rw [List.length_append]; omega) n ⟨n1, n4⟩ ⟨by omega, by rw [hv]; exact en⟩
  rw [hv] at this
  exact ⟨this.1, by rw [this.2]; exact en.symm⟩
theorem encAll_bytes : ∀ (ps b : List Int), encAll ps = some b → byteOK b ∧ ∀ p ∈ ps, need p ≠ 0
  | [], b, h => by simp only [encAll, Option.some.injEq] at h; subst h; exact ⟨byteOK.nil, by simp⟩
  | p :: ps, b, h => by
    unfold encAll at h
    split at h
    · cases h
    · rename_i hp
      cases he : encAll ps with
      | none => rw [he] at h; cases h
      | some b' =>
        rw [he] at h
        simp only [Option.map_some, Option.some.injEq] at h
        subst h
        obtain ⟨h1, h2⟩ := encAll_bytes ps b' he
        exact ⟨(encB_need hp).2.app h1, fun x hx => by rcases List.mem_cons.1 hx with rfl | hx; exact hp; exact h2 x hx⟩
theorem dec_enc : ∀ (ps pre b acc : List Int) (f : Nat), encAll ps = some b → b.length ≤ f → decP (ptsF (pre ++ b) f pre.length) acc = (acc ++ ps, 0, 0)
  | [], pre, b, acc, f, h, hf => by
    simp only [encAll, Option.some.injEq] at h; subst h
    cases f <;> simp [ptsF, decP]
  | p :: ps, pre, b, acc, f, h, hf => by
    have h0 := h
    unfold encAll at h
    split at h
    · cases h
    · rename_i hp
      cases he : encAll ps with
      | none => rw [he] at h; cases h
      | some b' =>
        rw [he] at h
        simp only [Option.map_some, Option.some.injEq] at h
        subst h
        obtain ⟨hb', _⟩ := encAll_bytes ps b' he
        obtain ⟨hd1, hd2⟩ := dec_encB hp b' hb'
        obtain ⟨hl, _⟩ := encB_need hp
        have hn0 : (encB p).length ≠ 0 := by omega
        rw [List.length_append] at hf
        obtain ⟨f, rfl⟩ : ∃ f', f = f' + 1 := ⟨f - 1, by omega⟩
        obtain ⟨p0, p1, p2⟩ := need_ok hp
        unfold ptsF
        rw [if_pos (by rw [List.length_append, List.length_append]; omega), List.drop_left, if_neg (by rw [hd2]; exact hp), hd1, hd2]
        unfold decP
        rw [if_neg (by omega)]
        have e1 : pre ++ (encB p ++ b') = (pre ++ encB p) ++ b' := by rw [List.append_assoc]
        have e2 : pre.length + (need p).toNat = (pre ++ encB p).length := by rw [List.length_append]; omega
        rw [e1, e2, dec_enc ps (pre ++ encB p) b' (acc ++ [p]) f he (by omega)]
        simp
theorem decW_enc {ps b : List Int} (h : encAll ps = some b) : decW b = (ps, 0, 0) := by
  have := dec_enc ps [] b [] b.length h (Nat.le_refl _)
  simpa [decW] using this
theorem enc_at {xs : List Int} (hb : byteOK xs) {i : Nat} {qs : List Int} (h : At xs i qs) : encAll qs = some (xs.drop i) := by
  induction h with
  | done => simp [encAll]
  | @more i qs hi h0 k ih =>
    have hby := hb.drop i
    have hd := dec1_spec (xs.drop i) hby (by rw [List.length_drop]; omega)
    have ho := dec1_ok (xs.drop i) hby (by rw [List.length_drop]; omega)
    have hneed := ho.2.2.2.2.2.2 h0
    rw [encAll, if_neg hneed, ih]
    simp only [Option.map_some, Option.some.injEq]
    have key : encB (dec1 (xs.drop i)).1 ++ (xs.drop i).drop (dec1 (xs.drop i)).2.toNat = xs.drop i := by
      have hl : 0 < (xs.drop i).length := by rw [List.length_drop]; omega
      generalize xs.drop i = ys at *
      have d0 : ys = ys.getD 0 0 :: ys.drop 1 := by have := drop_cons ys 0 hl; simpa using this
      have b1 := hby.get 1
      have b2 := hby.get 2
      have b3 := hby.get 3
      have b0 := hby.get 0
      have hc := need_cases (dec1 ys).1
      rcases hd with ⟨h2, hd⟩ | ⟨h2, hd⟩ | ⟨h2, hd⟩ | ⟨h2, hd⟩ | ⟨h2, hd⟩
      · rw [h2]
        have : encB (dec1 ys).1 = [ys.getD 0 0] := by unfold encB; rw [if_pos (by omega), hd.2]
        rw [this]; exact d0.symm
      · rw [h2]
        have d1 : ys.drop 1 = ys.getD 1 0 :: ys.drop 2 := drop_cons ys 1 (by omega)
        have : encB (dec1 ys).1 = [ys.getD 0 0, ys.getD 1 0] := by
          unfold encB; rw [if_neg (by omega), if_pos (by omega)]
          simp only [tailB, List.cons.injEq, and_true, Int.pow_zero]; constructor <;> omega
        rw [this]
        show ys.getD 0 0 :: ys.getD 1 0 :: ys.drop 2 = ys
        rw [← d1]; exact d0.symm
      · rw [h2]
        have d1 : ys.drop 1 = ys.getD 1 0 :: ys.drop 2 := drop_cons ys 1 (by omega)
        have d2 : ys.drop 2 = ys.getD 2 0 :: ys.drop 3 := drop_cons ys 2 (by omega)
        have : encB (dec1 ys).1 = [ys.getD 0 0, ys.getD 1 0, ys.getD 2 0] := by
          unfold encB; rw [if_neg (by omega), if_neg (by omega), if_pos (by omega)]
          simp only [tailB, List.cons.injEq, and_true, Int.pow_zero, Int.pow_one]; refine ⟨?_, ?_, ?_⟩ <;> omega
        rw [this]
        show ys.getD 0 0 :: ys.getD 1 0 :: ys.getD 2 0 :: ys.drop 3 = ys
        rw [← d2, ← d1]; exact d0.symm
      · rw [h2]
        have d1 : ys.drop 1 = ys.getD 1 0 :: ys.drop 2 := drop_cons ys 1 (by omega)
        have d2 : ys.drop 2 = ys.getD 2 0 :: ys.drop 3 := drop_cons ys 2 (by omega)
        have d3 : ys.drop 3 = ys.getD 3 0 :: ys.drop 4 := drop_cons ys 3 (by omega)
        have : encB (dec1 ys).1 = [ys.getD 0 0, ys.getD 1 0, ys.getD 2 0, ys.getD 3 0] := by
          unfold encB; rw [if_neg (by omega), if_neg (by omega), if_neg (by omega)]
          simp only [tailB, List.cons.injEq, and_true, Int.pow_zero, Int.pow_one, show (64 : Int) ^ 2 = 4096 from rfl]; refine ⟨?_, ?_, ?_, ?_⟩ <;> omega
        rw [this]
        show ys.getD 0 0 :: ys.getD 1 0 :: ys.getD 2 0 :: ys.getD 3 0 :: ys.drop 4 = ys
        rw [← d3, ← d2, ← d1]; exact d0.symm
      · exact absurd h2 h0
    rw [List.drop_drop] at key
    exact key
theorem enc_decW {xs : List Int} (hb : byteOK xs) (h : (decW xs).2.1 = 0) : encAll (decW xs).1 = some xs := by
  obtain ⟨qs, hq, ha⟩ := at_of xs hb xs.length 0 [] (by omega) (by omega) h
  have hq : (decW xs).1 = qs := hq
  rw [hq, enc_at hb ha]; rfl
end Go.Proofs.YtjdgcgmhbhfpkaaDoorE
/- When a tree is valid: comments, nodes, and the whole. No program stands here. -/
namespace Go.Proofs.YtjdgcgmhbhfpkaaDoorE
set_option linter.unusedVariables false

def endPair : List Int → Bool
  | a :: b :: r => decide (a = 42 ∧ b = 47) || endPair (b :: r)
  | _ => false
theorem endPair_big : ∀ (u l : List Int), (∀ x ∈ u, 128 ≤ x) → endPair (u ++ l) = endPair l
  | [], l, _ => rfl
  | a :: u, l, h => by
    have ih := endPair_big u l fun x hx => h x (by simp [hx])
    have ha := h a (by simp)
    rw [List.cons_append]
    cases hq : u ++ l with
    | nil => rw [hq] at ih; rw [← ih]; rfl
    | cons b r =>
      rw [endPair, ← hq, ih, decide_eq_false (by omega)]; rfl
theorem endPair_head {a : Int} (ha : 128 ≤ a ∨ True) : ∀ (l m : List Int), (∀ b r, l = b :: r → ∃ s, m = b :: s) → (l = [] → m = []) → endPair l = endPair m → endPair (a :: l) = endPair (a :: m)
  | [], m, _, h, _ => by rw [h rfl]
  | b :: r, m, h, _, e => by
    obtain ⟨s, rfl⟩ := h b r rfl
    rw [endPair, endPair, e]
theorem encB_cases (v : Int) (h : need v ≠ 0) : (v < 128 ∧ encB v = [v]) ∨ (128 ≤ v ∧ encB v ≠ [] ∧ ∀ x ∈ encB v, 128 ≤ x) := by
  have hn := need_cases v
  unfold encB
  by_cases h1 : v < 128
  · exact .inl ⟨h1, by rw [if_pos h1]⟩
  · rw [if_neg h1]
    refine .inr ⟨by omega, ?_⟩
    have ht : ∀ k, ∀ x ∈ tailB v k, 128 ≤ x := by
      intro k
      induction k with
      | zero => intro x hx; simp [tailB] at hx
      | succ k ih =>
        intro x hx
        rw [tailB] at hx
        rcases List.mem_cons.1 hx with rfl | hx
        · have := Int.emod_nonneg (v / 64 ^ k) (show (64 : Int) ≠ 0 by decide); omega
        · exact ih x hx
    by_cases h2 : v < 2048
    · rw [if_pos h2]
      refine ⟨by simp, fun x hx => ?_⟩
      rcases List.mem_cons.1 hx with rfl | hx
      · omega
      · exact ht _ x hx
    · rw [if_neg h2]
      by_cases h3 : v < 65536
      · rw [if_pos h3]
        refine ⟨by simp, fun x hx => ?_⟩
        rcases List.mem_cons.1 hx with rfl | hx
        · omega
        · exact ht _ x hx
      · rw [if_neg h3]
        refine ⟨by simp, fun x hx => ?_⟩
        rcases List.mem_cons.1 hx with rfl | hx
        · omega
        · exact ht _ x hx
/-- the two characters stand in the bytes as they do in the points -/
theorem endPair_enc : ∀ (ps bs : List Int), encAll ps = some bs → endPair bs = endPair ps ∧ (∀ b r, bs = b :: r → b < 128 → ∃ s, ps = b :: s) ∧ (∀ p s, ps = p :: s → p < 128 → ∃ r, bs = p :: r) ∧ (ps = [] ↔ bs = [])
  | [], bs, h => by
    simp only [encAll, Option.some.injEq] at h
    subst h
    exact ⟨rfl, (fun b r e => by cases e), (fun p s e => by cases e), by simp⟩
  | p :: ps, bs, h => by
    simp only [encAll] at h
    split at h
    · cases h
    rename_i hn
    obtain ⟨v, hv, rfl⟩ := Option.map_eq_some_iff.1 h
    obtain ⟨i1, i2, i3, i4⟩ := endPair_enc ps v hv
    rcases encB_cases p hn with ⟨hp, he⟩ | ⟨hp, hne, he⟩
    · rw [he, List.cons_append, List.nil_append]
      refine ⟨?_, fun b r e _ => by cases e; exact ⟨_, rfl⟩, fun q s e _ => by cases e; exact ⟨_, rfl⟩, by simp⟩
      cases v with
      | nil => rw [i4.2 rfl]
      | cons b r =>
        cases ps with
        | nil => have := i4.1 rfl; cases this
        | cons q s =>
          rw [endPair, endPair, i1]
          congr 1
          by_cases hb : b < 128
          · obtain ⟨s', e⟩ := i2 b r rfl hb
            cases e; rfl
          · by_cases hq : q < 128
            · obtain ⟨r', e⟩ := i3 q s rfl hq
              cases e; rfl
            · rw [decide_eq_false (by omega), decide_eq_false (by omega)]
    · rw [endPair_big _ _ he, i1]
      refine ⟨?_, fun b r e hb => ?_, fun q s e hq => by cases e; omega, by simp [hne]⟩
      · cases ps with
        | nil => rfl
        | cons q s => rw [endPair, decide_eq_false (by omega)]; rfl
      · cases hb2 : encB p with
        | nil => exact absurd hb2 hne
        | cons x xs =>
          rw [hb2] at e
          have := he x (by rw [hb2]; simp)
          simp only [List.cons_append, List.cons.injEq] at e
          omega
def linesOK (block : Bool) (p : Int) : Bool := !lineE p || (decide (p = 10) && block)
def commentOK (c : CommentP) : Bool := decide ((decW c.text).2.1 = 0) && (decW c.text).1.all (linesOK c.block) && (!c.block || !endPair c.text)
theorem commentOK_pts {c : CommentP} (hb : byteOK c.text) : commentOK c = (decide ((decW c.text).2.1 = 0) && (decW c.text).1.all (linesOK c.block) && (!c.block || !endPair (decW c.text).1)) := by
  unfold commentOK
  by_cases h : (decW c.text).2.1 = 0
  · rw [(endPair_enc _ _ (enc_decW hb h)).1]
  · rw [decide_eq_false h]; rfl
theorem endPair_iff : ∀ ps : List Int, endPair ps = true ↔ ∃ k, k + 1 < ps.length ∧ ps.getD k 0 = 42 ∧ ps.getD (k + 1) 0 = 47
  | [] => by simp [endPair]
  | [a] => by simp [endPair]
  | a :: b :: r => by
    rw [endPair, Bool.or_eq_true, decide_eq_true_eq, endPair_iff (b :: r)]
    constructor
    · rintro (h | ⟨k, h1, h2, h3⟩)
      · exact ⟨0, by simp, h.1, h.2⟩
      · exact ⟨k + 1, by simp only [List.length_cons] at h1 ⊢; omega, h2, h3⟩
    · rintro ⟨k, h1, h2, h3⟩
      cases k with
      | zero => exact .inl ⟨h2, h3⟩
      | succ k => exact .inr ⟨k, by simp only [List.length_cons] at h1 ⊢; omega, h2, h3⟩
def goodC (b : Bool) (ps : List Int) (k : Nat) : Prop := linesOK b (ps.getD k 0) = true ∧ (b = true → 0 < k → ¬ (ps.getD (k - 1) 0 = 42 ∧ ps.getD k 0 = 47))
instance (b : Bool) (ps : List Int) (k : Nat) : Decidable (goodC b ps k) := by unfold goodC; exact inferInstance
theorem all_getD {p : Int → Bool} {ps : List Int} : ps.all p = true ↔ ∀ k, k < ps.length → p (ps.getD k 0) = true := by
  rw [List.all_eq_true]
  constructor
  · intro h k hk
    rw [List.getD_eq_getElem?_getD, List.getElem?_eq_getElem hk]
    exact h _ (List.getElem_mem hk)
  · intro h x hx
    obtain ⟨k, hk, rfl⟩ := List.getElem_of_mem hx
    have := h k hk
    rw [List.getD_eq_getElem?_getD, List.getElem?_eq_getElem hk] at this
    exact this
theorem scanC (b : Bool) (ps : List Int) : (ps.all (linesOK b) && (!b || !endPair ps)) = decide (∀ k, k < ps.length → goodC b ps k) := by
  rw [Bool.eq_iff_iff, Bool.and_eq_true, decide_eq_true_eq, all_getD]
  constructor
  · rintro ⟨h1, h2⟩ k hk
    refine ⟨h1 k hk, fun hb hp q => ?_⟩
    subst hb
    have h2 : endPair ps = false := by simpa using h2
    have := (endPair_iff ps).2 ⟨k - 1, by omega, q.1, by rw [show k - 1 + 1 = k by omega]; exact q.2⟩
    rw [h2] at this; cases this
  · intro h
    refine ⟨fun k hk => (h k hk).1, ?_⟩
    cases b with
    | false => rfl
    | true =>
      cases he : endPair ps with
      | false => rfl
      | true =>
        obtain ⟨k, h1, h2, h3⟩ := (endPair_iff ps).1 he
        exact absurd ⟨h2, h3⟩ ((h (k + 1) h1).2 rfl (by omega))
def ptsOK (block : Bool) (its : List (Int × Int)) : Bool := its.all fun x => decide (0 ≤ x.2) && linesOK block x.2
theorem decP_all (block : Bool) : ∀ (its : List (Int × Int)) (acc : List Int), acc.all (linesOK block) = true → ptsOK block its = (decide ((decP its acc).2.1 = 0) && (decP its acc).1.all (linesOK block))
  | [], acc, h => by simp [ptsOK, decP, h]
  | (i, r) :: its, acc, h => by
    unfold ptsOK decP
    rw [List.all_cons]
    by_cases hr : r < 0
    · rw [if_pos hr, decide_eq_false (show ¬ (0 : Int) ≤ r by omega)]; simp
    · rw [if_neg hr, decide_eq_true (show (0 : Int) ≤ r by omega), Bool.true_and]
      by_cases hl : linesOK block r = true
      · have ih := decP_all block its (acc ++ [r]) (by simp [h, hl])
        unfold ptsOK at ih
        rw [hl, Bool.true_and, ih]
      · have hl : linesOK block r = false := by simpa using hl
        rw [hl, Bool.false_and]
        have key : ∀ (its : List (Int × Int)) (acc : List Int), acc.all (linesOK block) = false → (decide ((decP its acc).2.1 = 0) && (decP its acc).1.all (linesOK block)) = false := by
          intro its
          induction its with
          | nil => intro acc ha; simp [decP, ha]
          | cons x its ih =>
            intro acc ha
            obtain ⟨i, r⟩ := x
            unfold decP
            by_cases hr : r < 0
            · rw [if_pos hr]; simp
            · rw [if_neg hr]; exact ih _ (by rw [List.all_append, ha]; rfl)
        exact (key its (acc ++ [r]) (by rw [List.all_append]; simp [hl])).symm
theorem commentOK_its (c : CommentP) : commentOK c = (ptsOK c.block (ptsF c.text c.text.length 0) && (!c.block || !endPair c.text)) := by
  rw [decP_all c.block _ [] rfl]; rfl
def nodeOK (n : NodeP) : Prop :=
  (0 ≤ n.kind ∧ n.kind ≤ 6) ∧ n.lead.all commentOK = true ∧ n.tail.all commentOK = true ∧ goodU n.key = true ∧ goodU n.units = true ∧ (n.member = false → n.key.length = 0) ∧ (n.kind = 3 → numb n.text = true) ∧ (n.kind ≠ 3 → n.text.length = 0) ∧ (n.kind ≠ 4 → n.units.length = 0) ∧ (n.kind < 5 → n.count = 0 ∧ n.tail.length = 0) ∧ 0 ≤ n.count
instance (n : NodeP) : Decidable (nodeOK n) := by unfold nodeOK; exact inferInstance
def sizeN (n : NodeP) : Nat := sizeC n.lead + sizeC n.tail + n.key.length + n.text.length + n.units.length
def comsN (n : NodeP) : Nat := n.lead.length + n.tail.length
def sizTr (t : TreeP) : Nat := sizeC t.tail + (t.nodes.map sizeN).sum
def comTr (t : TreeP) : Nat := t.tail.length + (t.nodes.map comsN).sum
def ValidT (t : TreeP) : Prop :=
  (1 ≤ t.nodes.length ∧ t.nodes.length ≤ 4000) ∧ t.tail.all commentOK = true ∧ (∀ n ∈ t.nodes, nodeOK n) ∧ sizTr t ≤ 100000 ∧ comTr t ≤ 4000 ∧ endT t.nodes 200 0 false = some t.nodes.length
instance (t : TreeP) : Decidable (ValidT t) := by unfold ValidT; exact inferInstance
def validT (t : TreeP) : Bool := decide (ValidT t)
end Go.Proofs.YtjdgcgmhbhfpkaaDoorE
