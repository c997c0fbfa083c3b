/- Bytes handed to a function of Go's library. -/
import Derived.Test.YtfhpgfbakimmhaaRenderQ1
import Derived.Test.YtfhpgfbakimmhaaNest
import Derived.Test.YtfhpgfbakimmhaaTPts
import Derived.Test.YtfhpgfbakimmhaaTPiece
import Derived.Test.YtfhpgfbakimmhaaPLay
import Derived.Test.YtfhpgfbakimmhaaTRow
import Derived.Test.YtfhpgfbakimmhaaPStart
import Derived.Laws.Externs
namespace Go.Proofs.YtfhpgfbakimmhaaE
open Go Go.RowKit
set_option linter.unusedVariables false
set_option linter.unusedSimpArgs false
set_option maxRecDepth 100000
set_option maxHeartbeats 2000000

theorem str_size (xs : List Int) : (strOfNums xs).size = xs.length := by simp [strOfNums, ByteArray.size]
theorem str_bang {xs : List Int} (hb : byteOK xs) {i : Nat} (hi : i < xs.length) : ((strOfNums xs)[i]!.toNat : Int) = xs.getD i 0 := by
  have h : i < (strOfNums xs).size := by rw [str_size]; exact hi
  rw [getElem!_pos _ i h]
  exact str_get hb h
theorem load_bytes {P : Program} {w : World} {b : Nat} : ∀ (xs : List Int) (off : Nat) (acc : List Int), (∀ j, j < xs.length → w.cell? ⟨b, off + j, none⟩ = (xs.map (Value.int .u8))[j]?) → (Extern.Bytes.loadBytes ⟨b, off, none⟩ xs.length (strOfNums acc)).run P w = .ok (strOfNums (acc ++ xs)) w
  | [], off, acc, h => by simp [Extern.Bytes.loadBytes]
  | x :: xs, off, acc, h => by
    have h0 := h 0 (by simp)
    simp only [Nat.add_zero, List.map_cons, List.getElem?_cons_zero] at h0
    have hr := load_bytes (P := P) (w := w) (b := b) xs (off + 1) (acc ++ [x]) (fun j hj => by
      have := h (j + 1) (by simp only [List.length_cons]; omega)
      simp only [List.map_cons, List.getElem?_cons_succ] at this
      rw [← this]; congr 2; omega)
    rw [List.append_assoc] at hr
    simp only [List.length_cons, Extern.Bytes.loadBytes, load, Sem.run_bind, Sem.run, h0, Result.andThen_ok]
    have e1 : (⟨b, off, none⟩ : Addr).add 1 = ⟨b, off + 1, none⟩ := add_plain b off 1
    have e2 : (strOfNums acc).push x.toNat.toUInt8 = strOfNums (acc ++ [x]) := by
      apply ByteArray.ext; simp [strOfNums]
    rw [e1, e2]
    exact hr
theorem bytes_of {P : Program} {w : World} {A : Option Addr} {n c : Nat} {xs : List Int} (h : Rd w (.slice A n c) 1 n (xs.map (.int .u8))) : (Extern.Bytes.bytesOf (.slice A n c)).run P w = .ok (strOfNums xs) w := by
  obtain ⟨hl, A', c', hv, hcap, hc⟩ := h
  cases hv
  obtain rfl : n = xs.length := by simpa using hl.symm
  have hnil : strOfNums ([] : List Int) = ByteArray.empty := rfl
  cases A with
  | none =>
    have : xs = [] := by
      rcases hc with h | ⟨b, off, h, _⟩
      · exact List.length_eq_zero_iff.1 h
      · cases h
    subst this
    rfl
  | some a =>
    rcases hc with h | ⟨b, off, ha, h⟩
    · have : xs = [] := List.length_eq_zero_iff.1 h
      subst this
      rfl
    · cases ha
      have := load_bytes (P := P) xs off [] (fun j hj => h j (by simpa using hj))
      rw [List.nil_append] at this
      exact this
end Go.Proofs.YtfhpgfbakimmhaaE
/- bytes.IndexByte. -/
namespace Go.Proofs.YtfhpgfbakimmhaaE
open Go Go.RowKit
set_option linter.unusedVariables false
set_option linter.unusedSimpArgs false
set_option maxRecDepth 100000
set_option maxHeartbeats 2000000

def idxB (xs : List Int) (c : Int) : Int := match (List.range xs.length).find? (fun i => decide (xs.getD i 0 = c)) with | some i => i | none => -1
theorem idxB_iff (xs : List Int) (c : Int) : (0 ≤ idxB xs c ↔ c ∈ xs) ∧ -1 ≤ idxB xs c ∧ idxB xs c ≤ xs.length := by
  unfold idxB
  cases hf : (List.range xs.length).find? (fun i => decide (xs.getD i 0 = c)) with
  | some i =>
    rw [List.find?_range_eq_some] at hf
    obtain ⟨h1, h2, h3⟩ := hf
    rw [List.mem_range] at h2
    rw [decide_eq_true_eq] at h1
    refine ⟨⟨fun _ => ?_, fun _ => by simp only []; omega⟩, by simp only []; omega, by simp only []; omega⟩
    rw [List.getD_eq_getElem?_getD, List.getElem?_eq_getElem h2] at h1
    have h1 : xs[i] = c := h1
    exact h1 ▸ List.getElem_mem h2
  | none =>
    rw [List.find?_range_eq_none] at hf
    refine ⟨⟨fun h => absurd h (by decide), fun hm => ?_⟩, by decide, by simp only []; omega⟩
    obtain ⟨i, hi, he⟩ := List.getElem_of_mem hm
    have := hf i hi
    rw [List.getD_eq_getElem?_getD, List.getElem?_eq_getElem hi] at this
    simp [he] at this
theorem find_congr {p q : Nat → Bool} : ∀ (l : List Nat), (∀ i ∈ l, p i = q i) → l.find? p = l.find? q
  | [], _ => rfl
  | a :: l, h => by rw [List.find?_cons, List.find?_cons, h a (by simp), find_congr l (fun i hi => h i (by simp [hi]))]
theorem idx_str {xs : List Int} (hx : byteOK xs) {c : Int} (h0 : 0 ≤ c) (h1 : c < 256) : ((List.range (strOfNums xs).size).find? fun i => (strOfNums xs)[i]! == c.toNat.toUInt8) = (List.range xs.length).find? (fun i => decide (xs.getD i 0 = c)) := by
  rw [str_size]
  refine find_congr _ fun i hi => ?_
  rw [List.mem_range] at hi
  have e := str_bang hx hi
  have ec : ((c.toNat.toUInt8).toNat : Int) = c := by show ((UInt8.ofNat c.toNat).toNat : Int) = c; rw [UInt8.toNat_ofNat']; omega
  rw [Bool.eq_iff_iff, beq_iff_eq, decide_eq_true_eq]
  constructor
  · intro h; rw [← e, h]; exact ec
  · intro h; exact UInt8.toNat_inj.1 (by omega)
theorem ok_IndexByte : callOK Try.prog 117 = true := by kernel_rfl
theorem bytes_IndexByte {xs : List Int} (hx : byteOK xs) {c : Int} (h0 : 0 ≤ c) (h1 : c < 256) {A : Option Addr} {n cc : Nat} {W : World} (rx : Rd W (.slice A n cc) 1 n (xs.map (.int .u8))) :
    GivesV Try.prog 117 [.slice A n cc, .int .u8 c] W (.int .i64 (idxB xs c)) := by
  have H := St.enter W
  refine calls_of_vcV (args := [.slice A n cc, .int .u8 c]) Try.func117 rfl (by kernel_rfl) (Nat.le_of_ble_eq_true rfl) ?_
  have hrun : (callFunc 135 #[.slice A n cc, .int .u8 c]).run Try.prog W = .ok (.value (.int .i64 (idxB xs c))) W := by
    rw [run_callFunc_extern (e := Extern.BytealgIndexByte.indexByte) Try.func135 (by kernel_rfl) (by kernel_rfl) (by kernel_rfl) (by kernel_rfl)]
    have hc : Extern.BytealgIndexByte.indexByte #[.slice A n cc, .int .u8 c] = (do
      let b ← Extern.Bytes.bytesOf (.slice A n cc)
      let c' ← Extern.Bytes.asByte (.int .u8 c)
      match (List.range b.size).find? fun i => b[i]! == c' with
      | some i => pure (goInt i)
      | none => pure (goInt (-1))) := rfl
    have hf := idx_str hx h0 h1
    simp only [hc, Sem.run_bind, Result.andThen_ok, bytes_of rx, Extern.Bytes.asByte, Sem.run_pure]
    rw [hf]
    unfold idxB
    cases (List.range xs.length).find? (fun i => decide (xs.getD i 0 = c)) <;> rfl
  refine CallS.ext hrun ?_
  exact Exists.intro _ (And.intro rfl (And.intro rfl H.none))
end Go.Proofs.YtfhpgfbakimmhaaE
/- What the reference's functions do that read UTF-8, and that they read what the program's read. -/
namespace Go.Proofs.YtfhpgfbakimmhaaE
open Go Go.RowKit Go.Proofs
set_option linter.unusedVariables false
set_option linter.unusedSimpArgs false
set_option maxRecDepth 100000

def cont (xs : List Int) : Nat → Nat → Int → Int
  | 0, _, v => v
  | k + 1, i, v => if xs.getD i 0 / 64 ≠ 2 then -1 else cont xs k (i + 1) (v * 64 + xs.getD i 0 % 64)
def head1 (c : Int) (n : Nat) : Int := if n = 2 ∧ c / 32 = 6 then c % 32 else if n = 3 ∧ c / 16 = 14 then c % 16 else if n = 4 ∧ c / 8 = 30 then c % 8 else -1
def l1v (xs : List Int) (n : Nat) : Int :=
  if n > xs.length then -1 else if n = 1 ∧ xs.getD 0 0 < 128 then xs.getD 0 0 else if head1 (xs.getD 0 0) n < 0 then -1 else cont xs (n - 1) 1 (head1 (xs.getD 0 0) n)
theorem cont_bd (xs : List Int) (hb : byteOK xs) : ∀ (k i : Nat) (v m : Int), 0 ≤ v → v < m → -1 ≤ cont xs k i v ∧ cont xs k i v < m * 64 ^ k
  | 0, i, v, m, h0, h1 => by simp [cont]; omega
  | k + 1, i, v, m, h0, h1 => by
    have := hb.get i
    unfold cont
    have hp : (0 : Int) < 64 ^ k := Int.pow_pos (by decide)
    have hm : 0 < m * 64 ^ (k + 1) := Int.mul_pos (by omega) (Int.pow_pos (by decide))
    split
    · omega
    · have h := cont_bd xs hb k (i + 1) (v * 64 + xs.getD i 0 % 64) (m * 64) (by omega) (by omega)
      rw [Int.pow_succ, Int.mul_comm (64 ^ k), ← Int.mul_assoc]; exact h
theorem getD_drop (xs : List Int) (i j : Nat) : (xs.drop i).getD j 0 = xs.getD (i + j) 0 := by simp [List.getD_eq_getElem?_getD]
theorem ok_l1value : callOK Try.prog 137 = true := by kernel_rfl
theorem spec_l1value {bs : List Int} (hb : byteOK bs) {A : Option Addr} {len c i n : Nat} (hl : len ≤ 4294967296) (hi : i < len) (hn : 1 ≤ n ∧ n ≤ 4) {W : World} (hx : Rd W (.slice A len c) 1 len (bs.map (.int .u8))) : GivesV Try.prog 137 [.slice A len c, .int .i64 i, .int .i64 n] W (.int .i64 (l1v (bs.drop i) n)) := by
  have H := (St.enter W).ro0 rfl hx
  obtain rfl : len = bs.length := by have := hx.len; simpa using this.symm
  obtain ⟨r, hr⟩ : ∃ r, l1v (bs.drop i) n = r := ⟨_, rfl⟩
  rw [hr]
  unfold l1v at hr
  rw [List.length_drop, getD_drop, Nat.add_zero] at hr
  have hbi := hb.get i
  refine calls_of_vcV Try.func137 rfl (by kernel_rfl) (Nat.le_of_ble_eq_true rfl) ?_
  refine ar64 (by omega) (by omega) ?_
  refine ifB (fun h => ?_) (fun h => ?_)
  · rw [if_pos (by omega)] at hr; subst hr
    exact Exists.intro (.int .i64 (-1)) (And.intro rfl (And.intro rfl H.none))
  rw [if_neg (by omega)] at hr
  refine idxN (H.rd 0 rfl) (by omega) fun b off hc => ?_
  refine loadS hc ?_
  refine ar64 (by omega) (by omega) ?_
  refine cutG (fun e w => e 0 = .slice A bs.length c ∧ e 1 = .int .i64 i ∧ e 2 = .int .i64 n ∧ e 7 = .int .i64 (bs.getD i 0) ∧ e 8 = .int .i64 (-1) ∧ e 27 = .bool (decide (n = 1 ∧ bs.getD i 0 < 128)) ∧ St W.heap.size W w [.roB (.slice A bs.length c) bs]) ?_ ?_
  · repeat' first | (refine gY ?_) | (refine gNt ?_) | (refine gNf ?_) | (refine ifT ?_) | (refine ifF ?_) | (refine arN (by omega) ?_) | (refine ar64 (by omega) (by omega) ?_) | (refine ar32 (by omega) (by omega) ?_) | (refine ar8 (by omega) (by omega) ?_) | (refine div64 (by omega) (by omega) (by omega) ?_) | (refine rem0 (by omega) (by omega) ?_) | (refine drawR H fun w H => ?_) | (refine RegV.mk ?_) | (refine JoinV.mk ?_) | (refine gT (fun h => ?_) (fun h => ?_) <;> first | (exfalso; omega) | skip) | (refine gF (fun h => ?_) (fun h => ?_) <;> first | (exfalso; omega) | skip) | (refine ifB (fun h => ?_) (fun h => ?_) <;> first | (exfalso; omega) | skip)
    all_goals refine ⟨rfl, rfl, rfl, rfl, rfl, congrArg Value.bool ?_, H⟩
    all_goals (rw [Bool.eq_iff_iff]; simp only [decide_eq_true_eq, Bool.false_eq_true, true_iff, iff_true, false_iff, iff_false]; omega)
  rintro e w ⟨h0, h1, h2, h7, h8, h27, H⟩
  rw [Env.six h0 h1 h2 h7 h8 h27]
  refine ifB (fun h => ?_) (fun h => ?_)
  · rw [if_pos h] at hr; subst hr
    exact Exists.intro (.int .i64 (bs.getD i 0)) (And.intro rfl (And.intro rfl H.none))
  rw [if_neg h] at hr
  refine joinV (fun e w => e 0 = .slice A bs.length c ∧ e 1 = .int .i64 i ∧ e 2 = .int .i64 n ∧ e 7 = .int .i64 (bs.getD i 0) ∧ e 8 = .int .i64 (if n = 2 ∧ bs.getD i 0 / 32 = 6 then bs.getD i 0 % 32 else -1) ∧ St W.heap.size W w [.roB (.slice A bs.length c) bs]) rfl ?_ ?_
  · repeat' first | (refine gY ?_) | (refine gNt ?_) | (refine gNf ?_) | (refine ifT ?_) | (refine ifF ?_) | (refine arN (by omega) ?_) | (refine ar64 (by omega) (by omega) ?_) | (refine ar32 (by omega) (by omega) ?_) | (refine ar8 (by omega) (by omega) ?_) | (refine div64 (by omega) (by omega) (by omega) ?_) | (refine rem0 (by omega) (by omega) ?_) | (refine drawR H fun w H => ?_) | (refine RegV.mk ?_) | (refine JoinV.mk ?_) | (refine gT (fun h => ?_) (fun h => ?_) <;> first | (exfalso; omega) | skip) | (refine gF (fun h => ?_) (fun h => ?_) <;> first | (exfalso; omega) | skip) | (refine ifB (fun h => ?_) (fun h => ?_) <;> first | (exfalso; omega) | skip)
    all_goals refine ⟨rfl, rfl, rfl, rfl, vI ?_, H⟩
    all_goals ((repeat' split) <;> omega)
  rintro e w ⟨h0, h1, h2, h7, h8, H⟩
  rw [Env.five h0 h1 h2 h7 h8]
  refine joinV (fun e w => e 0 = .slice A bs.length c ∧ e 1 = .int .i64 i ∧ e 2 = .int .i64 n ∧ e 7 = .int .i64 (bs.getD i 0) ∧ e 8 = .int .i64 (if n = 2 ∧ bs.getD i 0 / 32 = 6 then bs.getD i 0 % 32 else if n = 3 ∧ bs.getD i 0 / 16 = 14 then bs.getD i 0 % 16 else -1) ∧ St W.heap.size W w [.roB (.slice A bs.length c) bs]) rfl ?_ ?_
  · repeat' first | (refine gY ?_) | (refine gNt ?_) | (refine gNf ?_) | (refine ifT ?_) | (refine ifF ?_) | (refine arN (by omega) ?_) | (refine ar64 (by omega) (by omega) ?_) | (refine ar32 (by omega) (by omega) ?_) | (refine ar8 (by omega) (by omega) ?_) | (refine div64 (by omega) (by omega) (by omega) ?_) | (refine rem0 (by omega) (by omega) ?_) | (refine drawR H fun w H => ?_) | (refine RegV.mk ?_) | (refine JoinV.mk ?_) | (refine gT (fun h => ?_) (fun h => ?_) <;> first | (exfalso; omega) | skip) | (refine gF (fun h => ?_) (fun h => ?_) <;> first | (exfalso; omega) | skip) | (refine ifB (fun h => ?_) (fun h => ?_) <;> first | (exfalso; omega) | skip)
    all_goals refine ⟨rfl, rfl, rfl, rfl, vI ?_, H⟩
    all_goals ((repeat' split) <;> omega)
  rintro e w ⟨h0, h1, h2, h7, h8, H⟩
  rw [Env.five h0 h1 h2 h7 h8]
  refine joinV (fun e w => e 0 = .slice A bs.length c ∧ e 1 = .int .i64 i ∧ e 2 = .int .i64 n ∧ e 7 = .int .i64 (bs.getD i 0) ∧ e 8 = .int .i64 (head1 (bs.getD i 0) n) ∧ St W.heap.size W w [.roB (.slice A bs.length c) bs]) rfl ?_ ?_
  · repeat' first | (refine gY ?_) | (refine gNt ?_) | (refine gNf ?_) | (refine ifT ?_) | (refine ifF ?_) | (refine arN (by omega) ?_) | (refine ar64 (by omega) (by omega) ?_) | (refine ar32 (by omega) (by omega) ?_) | (refine ar8 (by omega) (by omega) ?_) | (refine div64 (by omega) (by omega) (by omega) ?_) | (refine rem0 (by omega) (by omega) ?_) | (refine drawR H fun w H => ?_) | (refine RegV.mk ?_) | (refine JoinV.mk ?_) | (refine gT (fun h => ?_) (fun h => ?_) <;> first | (exfalso; omega) | skip) | (refine gF (fun h => ?_) (fun h => ?_) <;> first | (exfalso; omega) | skip) | (refine ifB (fun h => ?_) (fun h => ?_) <;> first | (exfalso; omega) | skip)
    all_goals refine ⟨rfl, rfl, rfl, rfl, vI ?_, H⟩
    all_goals (unfold head1; (repeat' split) <;> omega)
  rintro e w ⟨h0, h1, h2, h7, h8, H⟩
  rw [Env.five h0 h1 h2 h7 h8]
  have hh : -1 ≤ head1 (bs.getD i 0) n ∧ head1 (bs.getD i 0) n < 32 := by unfold head1; (repeat' split) <;> omega
  generalize head1 (bs.getD i 0) n = v0 at *
  refine ifB (fun h => ?_) (fun h => ?_)
  · rw [if_pos h] at hr; subst hr
    exact Exists.intro (.int .i64 (-1)) (And.intro rfl (And.intro rfl H.none))
  rw [if_neg h] at hr
  refine loopV (by kernel_rfl) (fun m e w => e 0 = .slice A bs.length c ∧ e 1 = .int .i64 i ∧ e 2 = .int .i64 n ∧ ∃ (j : Nat) (v : Int), e 9 = .int .i64 j ∧ e 8 = .int .i64 v ∧ j + m = n ∧ 1 ≤ j ∧ 0 ≤ v ∧ v < 32 * 64 ^ (j - 1) ∧ cont (bs.drop i) (n - j) j v = r ∧ St W.heap.size W w [.roB (.slice A bs.length c) bs]) (n - 1)
    ⟨rfl, rfl, rfl, 1, v0, rfl, rfl, by omega, by omega, by omega, by simpa using hh.2, hr, H⟩ ?_
  rintro m e w ⟨h0, h1, h2, j, v, h9, h8, hj, hj1, hv0, hv1, hr, H⟩
  rw [Env.five h0 h1 h2 h9 h8]
  have hv2 : v < 32 * 64 ^ 3 := Int.lt_of_lt_of_le hv1 (Int.mul_le_mul_of_nonneg_left (by exact_mod_cast Nat.pow_le_pow_right (by decide) (by omega : j - 1 ≤ 3)) (by decide))
  have hbj := hb.get (i + j)
  refine ifB (fun h => ?_) (fun h => ?_)
  case refine_2 =>
    have e1 : n - j = 0 := by omega
    rw [e1] at hr
    simp only [cont] at hr
    subst hr
    exact Exists.intro (.int .i64 v) (And.intro rfl (And.intro rfl H.none))
  obtain ⟨k, hk⟩ : ∃ k, n - j = k + 1 := ⟨n - j - 1, by omega⟩
  rw [hk] at hr
  unfold cont at hr
  rw [getD_drop] at hr
  have e2 : (i : Int) + j = ((i + j : Nat) : Int) := by omega
  refine JoinV.mk ?_
  refine ar64 (by omega) (by omega) ?_
  rw [e2]
  refine idxN (H.rd 0 rfl) (by omega) fun b off hc => ?_
  refine loadS hc ?_
  refine ar64 (by omega) (by omega) ?_
  refine div64 (by omega) (by omega) (by omega) ?_
  refine ifB (fun h => ?_) (fun h => ?_)
  · rw [if_pos h] at hr; subst hr
    exact Exists.intro (.int .i64 (-1)) (And.intro rfl (And.intro rfl H.none))
  rw [if_neg h] at hr
  refine ar64 (by omega) (by omega) ?_
  refine rem0 (by omega) (by omega) ?_
  refine ar64 (by omega) (by omega) ?_
  refine arN (by omega) ?_
  have hp : (64 : Int) ^ (j + 1 - 1) = 64 ^ (j - 1) * 64 := by
    obtain ⟨j', rfl⟩ : ∃ j', j = j' + 1 := ⟨j - 1, by omega⟩
    simp [Int.pow_succ]
  refine Exists.intro (m - 1) (And.intro (by omega) (And.intro rfl (And.intro rfl (And.intro rfl ⟨j + 1, v * 64 + bs.getD (i + j) 0 % 64, rfl, rfl, by omega, by omega, by omega, ?_, ?_, H⟩))))
  · rw [hp]; omega
  · have e3 : n - (j + 1) = k := by omega
    rw [e3]; exact hr
/-- what l1value answers, in plain numbers -/
theorem l1v_spec (xs : List Int) (hb : byteOK xs) (n : Nat) (hn : 1 ≤ n ∧ n ≤ 4) :
    (n ≤ xs.length ∧ ((n = 1 ∧ xs.getD 0 0 < 128 ∧ l1v xs n = xs.getD 0 0) ∨
      (n = 2 ∧ 192 ≤ xs.getD 0 0 ∧ xs.getD 0 0 < 224 ∧ 128 ≤ xs.getD 1 0 ∧ xs.getD 1 0 < 192 ∧ l1v xs n = (xs.getD 0 0 - 192) * 64 + (xs.getD 1 0 - 128)) ∨
      (n = 3 ∧ 224 ≤ xs.getD 0 0 ∧ xs.getD 0 0 < 240 ∧ 128 ≤ xs.getD 1 0 ∧ xs.getD 1 0 < 192 ∧ 128 ≤ xs.getD 2 0 ∧ xs.getD 2 0 < 192 ∧ l1v xs n = ((xs.getD 0 0 - 224) * 64 + (xs.getD 1 0 - 128)) * 64 + (xs.getD 2 0 - 128)) ∨
      (n = 4 ∧ 240 ≤ xs.getD 0 0 ∧ xs.getD 0 0 < 248 ∧ 128 ≤ xs.getD 1 0 ∧ xs.getD 1 0 < 192 ∧ 128 ≤ xs.getD 2 0 ∧ xs.getD 2 0 < 192 ∧ 128 ≤ xs.getD 3 0 ∧ xs.getD 3 0 < 192 ∧ l1v xs n = (((xs.getD 0 0 - 240) * 64 + (xs.getD 1 0 - 128)) * 64 + (xs.getD 2 0 - 128)) * 64 + (xs.getD 3 0 - 128)))) ∨
    (l1v xs n = -1 ∧ (n > xs.length ∨ (¬ (n = 1 ∧ xs.getD 0 0 < 128) ∧ ¬ (n = 2 ∧ 192 ≤ xs.getD 0 0 ∧ xs.getD 0 0 < 224 ∧ 128 ≤ xs.getD 1 0 ∧ xs.getD 1 0 < 192) ∧
      ¬ (n = 3 ∧ 224 ≤ xs.getD 0 0 ∧ xs.getD 0 0 < 240 ∧ 128 ≤ xs.getD 1 0 ∧ xs.getD 1 0 < 192 ∧ 128 ≤ xs.getD 2 0 ∧ xs.getD 2 0 < 192) ∧
      ¬ (n = 4 ∧ 240 ≤ xs.getD 0 0 ∧ xs.getD 0 0 < 248 ∧ 128 ≤ xs.getD 1 0 ∧ xs.getD 1 0 < 192 ∧ 128 ≤ xs.getD 2 0 ∧ xs.getD 2 0 < 192 ∧ 128 ≤ xs.getD 3 0 ∧ xs.getD 3 0 < 192)))) := by
  have b0 := hb.get 0
  have b1 := hb.get 1
  have b2 := hb.get 2
  have b3 := hb.get 3
  obtain ⟨v, hv⟩ : ∃ v, l1v xs n = v := ⟨_, rfl⟩
  rw [hv]
  have hn' : n = 1 ∨ n = 2 ∨ n = 3 ∨ n = 4 := by omega
  unfold l1v head1 at hv
  generalize xs.getD 0 0 = c at *
  rcases hn' with rfl | rfl | rfl | rfl
  all_goals
    simp only [cont, Nat.reduceEqDiff, Nat.reduceSub, false_and, true_and, if_false, Nat.reduceAdd] at hv
    (repeat' split at hv) <;> omega
theorem dec1_spec (xs : List Int) (hb : byteOK xs) (hne : 0 < xs.length) :
    ((dec1 xs).2 = 1 ∧ xs.getD 0 0 < 128 ∧ (dec1 xs).1 = xs.getD 0 0) ∨
    ((dec1 xs).2 = 2 ∧ 2 ≤ xs.length ∧ 194 ≤ xs.getD 0 0 ∧ xs.getD 0 0 < 224 ∧ 128 ≤ xs.getD 1 0 ∧ xs.getD 1 0 < 192 ∧ (dec1 xs).1 = (xs.getD 0 0 - 192) * 64 + (xs.getD 1 0 - 128)) ∨
    ((dec1 xs).2 = 3 ∧ 3 ≤ xs.length ∧ 224 ≤ xs.getD 0 0 ∧ xs.getD 0 0 < 240 ∧ 128 ≤ xs.getD 1 0 ∧ xs.getD 1 0 < 192 ∧ 128 ≤ xs.getD 2 0 ∧ xs.getD 2 0 < 192 ∧ (dec1 xs).1 = ((xs.getD 0 0 - 224) * 64 + (xs.getD 1 0 - 128)) * 64 + (xs.getD 2 0 - 128) ∧ 2048 ≤ (dec1 xs).1 ∧ need (dec1 xs).1 ≠ 0) ∨
    ((dec1 xs).2 = 4 ∧ 4 ≤ xs.length ∧ 240 ≤ xs.getD 0 0 ∧ xs.getD 0 0 < 245 ∧ 128 ≤ xs.getD 1 0 ∧ xs.getD 1 0 < 192 ∧ 128 ≤ xs.getD 2 0 ∧ xs.getD 2 0 < 192 ∧ 128 ≤ xs.getD 3 0 ∧ xs.getD 3 0 < 192 ∧ (dec1 xs).1 = (((xs.getD 0 0 - 240) * 64 + (xs.getD 1 0 - 128)) * 64 + (xs.getD 2 0 - 128)) * 64 + (xs.getD 3 0 - 128) ∧ 65536 ≤ (dec1 xs).1 ∧ need (dec1 xs).1 ≠ 0) ∨
    ((dec1 xs).2 = 0 ∧ (dec1 xs).1 = 0 ∧ ¬ xs.getD 0 0 < 128 ∧ ¬ (2 ≤ xs.length ∧ 194 ≤ xs.getD 0 0 ∧ xs.getD 0 0 < 224 ∧ 128 ≤ xs.getD 1 0 ∧ xs.getD 1 0 < 192) ∧
      (3 ≤ xs.length ∧ 224 ≤ xs.getD 0 0 ∧ xs.getD 0 0 < 240 ∧ 128 ≤ xs.getD 1 0 ∧ xs.getD 1 0 < 192 ∧ 128 ≤ xs.getD 2 0 ∧ xs.getD 2 0 < 192 → ((xs.getD 0 0 - 224) * 64 + (xs.getD 1 0 - 128)) * 64 + (xs.getD 2 0 - 128) < 2048 ∨ need (((xs.getD 0 0 - 224) * 64 + (xs.getD 1 0 - 128)) * 64 + (xs.getD 2 0 - 128)) = 0) ∧
      (4 ≤ xs.length ∧ 240 ≤ xs.getD 0 0 ∧ xs.getD 0 0 < 245 ∧ 128 ≤ xs.getD 1 0 ∧ xs.getD 1 0 < 192 ∧ 128 ≤ xs.getD 2 0 ∧ xs.getD 2 0 < 192 ∧ 128 ≤ xs.getD 3 0 ∧ xs.getD 3 0 < 192 → (((xs.getD 0 0 - 240) * 64 + (xs.getD 1 0 - 128)) * 64 + (xs.getD 2 0 - 128)) * 64 + (xs.getD 3 0 - 128) < 65536 ∨ need ((((xs.getD 0 0 - 240) * 64 + (xs.getD 1 0 - 128)) * 64 + (xs.getD 2 0 - 128)) * 64 + (xs.getD 3 0 - 128)) = 0)) := by
  have b0 := hb.get 0
  have b1 := hb.get 1
  have b2 := hb.get 2
  have b3 := hb.get 3
  have n3 := need_cases (((xs.getD 0 0 - 224) * 64 + (xs.getD 1 0 - 128)) * 64 + (xs.getD 2 0 - 128))
  have n4 := need_cases ((((xs.getD 0 0 - 240) * 64 + (xs.getD 1 0 - 128)) * 64 + (xs.getD 2 0 - 128)) * 64 + (xs.getD 3 0 - 128))
  obtain ⟨r, hr⟩ : ∃ r, dec1 xs = r := ⟨_, rfl⟩
  rw [hr]
  obtain ⟨p, m⟩ := r
  unfold dec1 at hr
  have k0 : ∀ s, reads xs (Int.toNat 0) s = s := fun s => rfl
  have k1 : ∀ s, reads xs (Int.toNat 1) s = more xs s := fun s => rfl
  have k2 : ∀ s, reads xs (Int.toNat 2) s = more xs (more xs s) := fun s => rfl
  have k3 : ∀ s, reads xs (Int.toNat 3) s = more xs (more xs (more xs s)) := fun s => rfl
  by_cases c1 : xs.getD 0 0 < 128
  · have e : formN (xs.getD 0 0) = (0, xs.getD 0 0, 0) := by unfold formN; rw [if_pos c1]
    have nn := need_cases (xs.getD 0 0)
    rw [e] at hr
    simp only [k0] at hr
    rw [if_neg (by omega), if_neg (by simp only [Bool.true_eq_false, false_or]; omega)] at hr
    cases hr
    exact .inl ⟨rfl, c1, rfl⟩
  by_cases c2 : 194 ≤ xs.getD 0 0 ∧ xs.getD 0 0 < 224
  · have e : formN (xs.getD 0 0) = (1, xs.getD 0 0 % 32, 128) := by unfold formN; rw [if_neg c1, if_pos c2]
    have nn := need_cases (xs.getD 0 0 % 32 * 64 + xs.getD 1 0 % 64)
    rw [e] at hr
    simp only [k1, more, Bool.true_and, decide_eq_false_iff_not] at hr
    split at hr
    · cases hr; (refine .inr (.inr (.inr (.inr ⟨rfl, rfl, c1, ?_, ?_, ?_⟩))) <;> omega)
    · split at hr
      · cases hr; (refine .inr (.inr (.inr (.inr ⟨rfl, rfl, c1, ?_, ?_, ?_⟩))) <;> omega)
      · cases hr; refine .inr (.inl ⟨rfl, ?_⟩); simp only; omega
  by_cases c3 : 224 ≤ xs.getD 0 0 ∧ xs.getD 0 0 < 240
  · have e : formN (xs.getD 0 0) = (2, xs.getD 0 0 % 16, 2048) := by unfold formN; rw [if_neg c1, if_neg c2, if_pos c3]
    have nn := need_cases ((xs.getD 0 0 % 16 * 64 + xs.getD 1 0 % 64) * 64 + xs.getD 2 0 % 64)
    rw [e] at hr
    simp only [k2, more, Bool.true_and, Bool.and_eq_false_iff, decide_eq_false_iff_not, Nat.reduceAdd] at hr
    split at hr
    · cases hr; (refine .inr (.inr (.inr (.inr ⟨rfl, rfl, c1, ?_, ?_, ?_⟩))) <;> omega)
    · split at hr
      · cases hr; (refine .inr (.inr (.inr (.inr ⟨rfl, rfl, c1, ?_, ?_, ?_⟩))) <;> omega)
      · cases hr; refine .inr (.inr (.inl ⟨rfl, ?_⟩)); simp only; omega
  by_cases c4 : 240 ≤ xs.getD 0 0 ∧ xs.getD 0 0 < 245
  · have e : formN (xs.getD 0 0) = (3, xs.getD 0 0 % 8, 65536) := by unfold formN; rw [if_neg c1, if_neg c2, if_neg c3, if_pos c4]
    have nn := need_cases (((xs.getD 0 0 % 8 * 64 + xs.getD 1 0 % 64) * 64 + xs.getD 2 0 % 64) * 64 + xs.getD 3 0 % 64)
    rw [e] at hr
    simp only [k3, more, Bool.true_and, Bool.and_eq_false_iff, decide_eq_false_iff_not, Nat.reduceAdd] at hr
    split at hr
    · cases hr; (refine .inr (.inr (.inr (.inr ⟨rfl, rfl, c1, ?_, ?_, ?_⟩))) <;> omega)
    · split at hr
      · cases hr; (refine .inr (.inr (.inr (.inr ⟨rfl, rfl, c1, ?_, ?_, ?_⟩))) <;> omega)
      · cases hr; refine .inr (.inr (.inr (.inl ⟨rfl, ?_⟩))); simp only; omega
  · have e : formN (xs.getD 0 0) = (-1, 0, 0) := by unfold formN; rw [if_neg c1, if_neg c2, if_neg c3, if_neg c4]
    rw [e] at hr
    simp only at hr
    rw [if_pos (by omega)] at hr
    cases hr
    (refine .inr (.inr (.inr (.inr ⟨rfl, rfl, c1, ?_, ?_, ?_⟩))) <;> omega)
end Go.Proofs.YtfhpgfbakimmhaaE
/- The reference's DecodeText and TextWidth answer what the program's answer. -/
namespace Go.Proofs.YtfhpgfbakimmhaaE
open Go Go.RowKit Go.Proofs
set_option linter.unusedVariables false
set_option linter.unusedSimpArgs false
set_option maxRecDepth 100000

theorem found_dec (xs : List Int) (hb : byteOK xs) (hne : 0 < xs.length) (n : Nat) (hn : 1 ≤ n ∧ n ≤ 4) (h : 0 ≤ l1v xs n ∧ need (l1v xs n) = n) : (dec1 xs).1 = l1v xs n ∧ (dec1 xs).2 = n := by
  have hs := l1v_spec xs hb n hn
  have hd := dec1_spec xs hb hne
  have hc := need_cases (l1v xs n)
  obtain ⟨h0, hnd⟩ := h
  rcases hs with ⟨hlen, ⟨rfl, g1, gv⟩ | ⟨rfl, g1, g2, g3, g4, gv⟩ | ⟨rfl, g1, g2, g3, g4, g5, g6, gv⟩ | ⟨rfl, g1, g2, g3, g4, g5, g6, g7, g8, gv⟩⟩ | ⟨gv, _⟩
  · rw [gv] at hnd h0 hc ⊢
    clear hc
    rcases hd with ⟨a, b, c⟩ | ⟨a, b, b1, b2, b3, b4, c⟩ | ⟨a, b, b1, b2, b3, b4, b5, b6, c, c1, c2⟩ | ⟨a, b, b1, b2, b3, b4, b5, b6, b7, b8, c, c1, c2⟩ | ⟨a, b, c, d, e, f⟩
    · exact ⟨c, a⟩
    all_goals omega
  · have hv : 128 ≤ l1v xs 2 := by omega
    rcases hd with ⟨a, b, c⟩ | ⟨a, b, b1, b2, b3, b4, c⟩ | ⟨a, b, b1, b2, b3, b4, b5, b6, c, c1, c2⟩ | ⟨a, b, b1, b2, b3, b4, b5, b6, b7, b8, c, c1, c2⟩ | ⟨a, b, c, d, e, f⟩
    · omega
    · exact ⟨c.trans gv.symm, a⟩
    · omega
    · omega
    · exact (d ⟨hlen, by omega, g2, g3, g4⟩).elim
  · have hv : 2048 ≤ l1v xs 3 := by omega
    rcases hd with ⟨a, b, c⟩ | ⟨a, b, b1, b2, b3, b4, c⟩ | ⟨a, b, b1, b2, b3, b4, b5, b6, c, c1, c2⟩ | ⟨a, b, b1, b2, b3, b4, b5, b6, b7, b8, c, c1, c2⟩ | ⟨a, b, c, d, e, f⟩
    · omega
    · omega
    · exact ⟨c.trans gv.symm, a⟩
    · omega
    · have e := e ⟨hlen, g1, g2, g3, g4, g5, g6⟩
      rw [← gv] at e
      omega
  · have hv : 65536 ≤ l1v xs 4 ∧ l1v xs 4 ≤ 1114111 := by omega
    rcases hd with ⟨a, b, c⟩ | ⟨a, b, b1, b2, b3, b4, c⟩ | ⟨a, b, b1, b2, b3, b4, b5, b6, c, c1, c2⟩ | ⟨a, b, b1, b2, b3, b4, b5, b6, b7, b8, c, c1, c2⟩ | ⟨a, b, c, d, e, f⟩
    · omega
    · omega
    · omega
    · exact ⟨c.trans gv.symm, a⟩
    · have f := f ⟨hlen, g1, by omega, g3, g4, g5, g6, g7, g8⟩
      rw [← gv] at f
      omega
  · omega
theorem none_dec (xs : List Int) (hb : byteOK xs) (hne : 0 < xs.length) (h : ∀ n : Nat, 1 ≤ n → n ≤ 4 → ¬ (0 ≤ l1v xs n ∧ need (l1v xs n) = n)) : (dec1 xs).2 = 0 := by
  have hd := dec1_spec xs hb hne
  have b0 := hb.get 0
  have h1 := need_cases (dec1 xs).1
  have b1 := hb.get 1
  have b2 := hb.get 2
  have b3 := hb.get 3
  rcases hd with ⟨a, b, c⟩ | ⟨a, b, b1, b2, b3, b4, c⟩ | ⟨a, b, b1, b2, b3, b4, b5, b6, c, c1, c2⟩ | ⟨a, b, b1, b2, b3, b4, b5, b6, b7, b8, c, c1, c2⟩ | ⟨a, _⟩
  · have hs := l1v_spec xs hb 1 (by omega)
    have e : l1v xs 1 = (dec1 xs).1 := by rcases hs with ⟨hlen, hs⟩ | ⟨gv, hs⟩ <;> omega
    exact (h 1 (by omega) (by omega) (by rw [e]; omega)).elim
  · have hs := l1v_spec xs hb 2 (by omega)
    have e : l1v xs 2 = (dec1 xs).1 := by rcases hs with ⟨hlen, hs⟩ | ⟨gv, hs⟩ <;> omega
    exact (h 2 (by omega) (by omega) (by rw [e]; omega)).elim
  · have hs := l1v_spec xs hb 3 (by omega)
    have e : l1v xs 3 = (dec1 xs).1 := by rcases hs with ⟨hlen, hs⟩ | ⟨gv, hs⟩ <;> omega
    exact (h 3 (by omega) (by omega) (by rw [e]; omega)).elim
  · have hs := l1v_spec xs hb 4 (by omega)
    have e : l1v xs 4 = (dec1 xs).1 := by rcases hs with ⟨hlen, hs⟩ | ⟨gv, hs⟩ <;> omega
    exact (h 4 (by omega) (by omega) (by rw [e]; omega)).elim
  · exact a
theorem spec_need (v : Int) (w : World) : GivesV Try.prog 138 [.int .i64 v] w (.int .i64 (need v)) := (spec_l1need v w).mono fun e w' ⟨he, hb⟩ => ⟨_, he, rfl, St.ofBelow hb⟩
theorem ok_spec_DecodeText : callOK Try.prog 133 = true := by kernel_rfl
theorem spec_DecodeText {bs : List Int} (hb : byteOK bs) {A : Option Addr} {n c : Nat} (hl : n ≤ 4294967296) {W : World} (hx : Rd W (.slice A n c) 1 n (bs.map (.int .u8))) :
    Calls Try.prog 133 #[.slice A n c] W fun e w => ∃ x, e = .returned (.tuple #[x, .int .i64 (decP (ptsF bs bs.length 0) []).2.1, .int .i64 (decP (ptsF bs bs.length 0) []).2.2]) ∧ OwnI w W.heap.size x (decP (ptsF bs bs.length 0) []).1 ∧ Below W.heap.size W w := by
  have H := ((St.enter W).ro0 rfl hx).rowNil (e := 3) (sz := 1)
  obtain rfl : n = bs.length := by have := hx.len; simpa using this.symm
  obtain ⟨r, hr⟩ : ∃ r, decP (ptsF bs bs.length 0) [] = r := ⟨_, rfl⟩
  rw [hr]
  refine calls_of_vcV (args := [.slice A bs.length c]) Try.func133 rfl (by kernel_rfl) (Nat.le_of_ble_eq_true rfl) ?_
  refine loopV (by kernel_rfl) (fun m e w => e 0 = .slice A bs.length c ∧ ∃ (i : Nat) (v : Value) (acc : List Int) (f : Nat), e 6 = .int .i64 i ∧ e 5 = v ∧ i + m = bs.length ∧ m ≤ f ∧ acc.length ≤ i ∧ decP (ptsF bs f i) acc = r ∧ St W.heap.size W w [.rowI v acc, .roB (.slice A bs.length c) bs]) bs.length
    ⟨rfl, 0, _, [], bs.length, rfl, rfl, by omega, Nat.le_refl _, by simp, hr, H⟩ ?_
  rintro m e w ⟨h0, i, v, acc, f, h6, h5, him, hf, hal, hr, H⟩
  rw [Env.three h0 h6 h5]
  refine ifB (fun h => ?_) (fun h => ?_)
  case refine_2 =>
    have e1 : ptsF bs f i = [] := by cases f with
      | zero => rfl
      | succ f => unfold ptsF; rw [if_neg (by omega)]
    rw [e1] at hr
    simp only [decP] at hr
    subst hr
    exact Exists.intro v (And.intro rfl (And.intro (H.own 0 rfl) H.below))
  have hil : i < bs.length := by omega
  obtain ⟨f, rfl⟩ : ∃ f', f = f' + 1 := ⟨f - 1, by omega⟩
  have hbd := hb.drop i
  have hne : 0 < (bs.drop i).length := by rw [List.length_drop]; omega
  have hd := dec1_ok (bs.drop i) hbd hne
  have hdl : (bs.drop i).length = bs.length - i := List.length_drop
  have hfd := found_dec (bs.drop i) hbd hne
  have hnd := none_dec (bs.drop i) hbd hne
  unfold ptsF at hr
  rw [if_pos hil] at hr
  generalize hdd : dec1 (bs.drop i) = d at *
  refine loopW (by kernel_rfl) (fun m e w => e 0 = .slice A bs.length c ∧ e 6 = .int .i64 i ∧ e 5 = v ∧ e 7 = .int .i64 0 ∧ ∃ n : Nat, e 8 = .int .i64 n ∧ n + m = 5 ∧ 1 ≤ n ∧ (∀ j : Nat, 1 ≤ j → j < n → ¬ (0 ≤ l1v (bs.drop i) j ∧ need (l1v (bs.drop i) j) = j)) ∧ St W.heap.size W w [.rowI v acc, .roB (.slice A bs.length c) bs])
    (fun id e w => id = 2 ∧ e 0 = .slice A bs.length c ∧ e 6 = .int .i64 i ∧ e 7 = .int .i64 d.2 ∧ ∃ v' acc', e 5 = v' ∧ acc' = (if d.2 = 0 then acc else acc ++ [d.1]) ∧ St W.heap.size W w [.rowI v' acc', .roB (.slice A bs.length c) bs]) 4
    ⟨rfl, rfl, rfl, rfl, 1, rfl, by omega, by omega, fun j h1 h2 => by omega, H⟩ ?_ ?_
  · rintro m e w ⟨h0, h6, h5, h7, n, h8, hn, hn1, hno, H⟩
    rw [Env.five h0 h6 h5 h7 h8]
    refine ifB (fun h => ?_) (fun h => ?_)
    case refine_2 =>
      have hz := hnd (fun j h1 h2 => hno j h1 (by omega))
      exact ⟨rfl, rfl, rfl, by rw [hz]; rfl, v, acc, rfl, by rw [if_pos hz], H⟩
    refine JoinV.mk ?_
    refine callV ok_l1value (spec_l1value (i := i) (n := n) hb (by omega) hil (by omega) (H.rd 1 rfl)) H fun w H => ?_
    refine cutG (fun e w => e 0 = .slice A bs.length c ∧ e 6 = .int .i64 i ∧ e 5 = v ∧ e 7 = .int .i64 0 ∧ e 8 = .int .i64 n ∧ e 9 = .int .i64 (l1v (bs.drop i) n) ∧ e 29 = .bool (decide (0 ≤ l1v (bs.drop i) n ∧ need (l1v (bs.drop i) n) = n)) ∧ St W.heap.size W w [.rowI v acc, .roB (.slice A bs.length c) bs]) ?_ ?_
    · repeat' first | (refine gY ?_) | (refine gNt ?_) | (refine gNf ?_) | (refine ifT ?_) | (refine ifF ?_) | (refine arN (by omega) ?_) | (refine ar64 (by omega) (by omega) ?_) | (refine ar32 (by omega) (by omega) ?_) | (refine ar8 (by omega) (by omega) ?_) | (refine div64 (by omega) (by omega) (by omega) ?_) | (refine rem0 (by omega) (by omega) ?_) | (refine drawR H fun w H => ?_) | (refine RegV.mk ?_) | (refine JoinV.mk ?_) | (refine callV ok_l1need (spec_need _ _) H fun w H => ?_) | (refine gT (fun h => ?_) (fun h => ?_) <;> first | (exfalso; omega) | skip) | (refine gF (fun h => ?_) (fun h => ?_) <;> first | (exfalso; omega) | skip) | (refine ifB (fun h => ?_) (fun h => ?_) <;> first | (exfalso; omega) | skip)
      all_goals refine ⟨rfl, rfl, rfl, rfl, rfl, rfl, congrArg Value.bool ?_, H⟩
      all_goals (rw [Bool.eq_iff_iff]; simp only [decide_eq_true_eq, Bool.false_eq_true, true_iff, iff_true, false_iff, iff_false]; omega)
    rintro e w ⟨h0, h6, h5, h7, h8, h9, h29, H⟩
    rw [Env.six h0 h6 h5 h7 h8 h9, Env.one h29]
    refine ifB (fun hq => ?_) (fun hq => ?_)
    · obtain ⟨e1, e2⟩ := hfd n (by omega) hq
      have hn0 := need_cases (l1v (bs.drop i) n)
      refine litI1 H fun v1 w H => ?_
      refine appSI H 1 rfl (H.rd 0 rfl) (by simp; omega) fun v2 w H => ?_
      refine ⟨rfl, rfl, rfl, by rw [e2]; rfl, v2, acc ++ [l1v (bs.drop i) n], rfl, by rw [if_neg (by omega), e1], H.sub [1, 2] (by decide)⟩
    · repeat' first | (refine gY ?_) | (refine gNt ?_) | (refine gNf ?_) | (refine ifT ?_) | (refine ifF ?_) | (refine arN (by omega) ?_) | (refine ar64 (by omega) (by omega) ?_) | (refine ar32 (by omega) (by omega) ?_) | (refine ar8 (by omega) (by omega) ?_) | (refine div64 (by omega) (by omega) (by omega) ?_) | (refine rem0 (by omega) (by omega) ?_) | (refine drawR H fun w H => ?_) | (refine RegV.mk ?_) | (refine JoinV.mk ?_) | (refine gT (fun h => ?_) (fun h => ?_) <;> first | (exfalso; omega) | skip) | (refine gF (fun h => ?_) (fun h => ?_) <;> first | (exfalso; omega) | skip) | (refine ifB (fun h => ?_) (fun h => ?_) <;> first | (exfalso; omega) | skip)
      refine Exists.intro (m - 1) (And.intro (by omega) (And.intro rfl (And.intro rfl (And.intro rfl (And.intro rfl ⟨n + 1, rfl, by omega, by omega, fun j h1 h2 => ?_, H⟩)))))
      by_cases hj : j = n
      · rw [hj]; exact hq
      · exact hno j h1 (by omega)
  · rintro id e w ⟨rfl, h0, h6, h7, v', acc', h5, ha, H⟩
    rw [Env.four h0 h6 h7 h5]
    refine ifB (fun hz => ?_) (fun hz => ?_)
    · rw [if_pos hz] at hr
      simp only [decP] at hr
      rw [if_pos (by decide)] at hr
      subst hr
      exact Exists.intro (.slice none 0 0) (And.intro rfl (And.intro (World.ownsRow_nil _ _ _ _) H.below))
    · rw [if_neg hz] at hr ha
      subst ha
      simp only [decP] at hr
      rw [if_neg (by omega)] at hr
      refine ar64 (by omega) (by omega) ?_
      have e2 : (i : Int) + d.2 = ((i + d.2.toNat : Nat) : Int) := by omega
      refine Exists.intro (m - d.2.toNat) (And.intro (by omega) (And.intro rfl ⟨i + d.2.toNat, v', acc ++ [d.1], f, vI e2, rfl, by omega, by omega, by rw [List.length_append, List.length_singleton]; omega, hr, H⟩))
theorem decP_len : ∀ (its : List (Int × Int)) (acc : List Int), (decP its acc).1.length ≤ acc.length + its.length
  | [], acc => by simp [decP]
  | (i, r) :: its, acc => by
    unfold decP
    by_cases hr : r < 0
    · rw [if_pos hr]; simp
    · rw [if_neg hr]
      have := decP_len its (acc ++ [r])
      simp only [List.length_append, List.length_cons, List.length_nil] at this ⊢; omega
theorem decP_cnt : ∀ (its : List (Int × Int)) (acc : List Int), cntP its acc.length = if (decP its acc).2.1 ≠ 0 then -1 else ((decP its acc).1.length : Int)
  | [], acc => by simp [cntP, decP]
  | (i, r) :: its, acc => by
    unfold cntP decP
    by_cases hr : r < 0
    · rw [if_pos hr, if_pos hr]; simp
    · rw [if_neg hr, if_neg hr]
      have := decP_cnt its (acc ++ [r])
      rw [List.length_append, List.length_singleton] at this
      rw [← this]; rfl
theorem ok_spec_TextWidth : callOK Try.prog 114 = true := by kernel_rfl
theorem spec_TextWidth {bs : List Int} (hb : byteOK bs) {A : Option Addr} {n c : Nat} (hl : n ≤ 4294967296) {W : World} (hx : Rd W (.slice A n c) 1 n (bs.map (.int .u8))) : GivesV Try.prog 114 [.slice A n c] W (.int .i64 (cntP (ptsF bs bs.length 0) 0)) := by
  have H := (St.enter W).ro0 rfl hx
  have hcnt := decP_cnt (ptsF bs bs.length 0) []
  obtain ⟨r, hr⟩ : ∃ r, decP (ptsF bs bs.length 0) [] = r := ⟨_, rfl⟩
  rw [hr] at hcnt
  have hcnt : cntP (ptsF bs bs.length 0) 0 = if r.2.1 ≠ 0 then -1 else (r.1.length : Int) := hcnt
  rw [hcnt]
  refine calls_of_vcV Try.func114 rfl (by kernel_rfl) (Nat.le_of_ble_eq_true rfl) ?_
  have hc := spec_DecodeText hb hl hx
  rw [hr] at hc
  refine callRow3 ok_spec_DecodeText hc H fun A2 c2 w H => ?_
  refine ifB (fun h => ?_) (fun h => ?_)
  · exact Exists.intro (.int .i64 (-1)) (And.intro rfl (And.intro (by rw [if_pos h]) H.none))
  · exact Exists.intro (.int .i64 r.1.length) (And.intro rfl (And.intro (by rw [if_neg h]) H.none))
/-! as the law's text wants them -/
def decW (xs : List Int) : List Int × Int × Int := decP (ptsF xs xs.length 0) []
theorem decW_len (xs : List Int) (hb : byteOK xs) : (decW xs).1.length ≤ xs.length := by
  have h1 := decP_len (ptsF xs xs.length 0) []
  have h2 := ptsF_len xs hb xs.length 0
  unfold decW; simp only [List.length_nil] at h1; omega
end Go.Proofs.YtfhpgfbakimmhaaE
/- The reference's documents: what a piece must be, where each element's document begins, how deep nests are. -/
namespace Go.Proofs.YtfhpgfbakimmhaaE
open Go Go.RowKit
set_option linter.unusedVariables false
set_option linter.unusedSimpArgs false
set_option maxRecDepth 100000
set_option maxHeartbeats 2000000

theorem ok_l2arity : callOK Try.prog 115 = true := by kernel_rfl
theorem spec_l2arity (k : Int) (W : World) : GivesV Try.prog 115 [.int .i64 k] W (.int .i64 (arK k)) := by
  have H := St.enter W
  refine calls_of_vcV (args := [.int .i64 k]) Try.func115 rfl (by kernel_rfl) (Nat.le_of_ble_eq_true rfl) ?_
  refine RegV.mk ?_
  refine gF (fun c1 => ?_) (fun c1 => ?_)
  · refine ifB (fun c2 => ?_) (fun c2 => ?_)
    · exact Exists.intro _ (And.intro rfl (And.intro (congrArg (Value.int .i64) (by unfold arK; (repeat' split) <;> omega)) H.none))
    · refine RegV.mk ?_
      refine gF (fun c4 => ?_) (fun c4 => ?_)
      · refine ifB (fun c5 => ?_) (fun c5 => ?_)
        · exact Exists.intro _ (And.intro rfl (And.intro (congrArg (Value.int .i64) (by unfold arK; (repeat' split) <;> omega)) H.none))
        · exact Exists.intro _ (And.intro rfl (And.intro (congrArg (Value.int .i64) (by unfold arK; (repeat' split) <;> omega)) H.none))
      · refine ifT ?_
        exact Exists.intro _ (And.intro rfl (And.intro (congrArg (Value.int .i64) (by unfold arK; (repeat' split) <;> omega)) H.none))
  · refine ifT ?_
    exact Exists.intro _ (And.intro rfl (And.intro (congrArg (Value.int .i64) (by unfold arK; (repeat' split) <;> omega)) H.none))
theorem ok_l2pieceOK : callOK Try.prog 85 = true := by kernel_rfl
theorem spec_l2pieceOK {f : PieceG} {W : World} (h : f.Rd W) (hl : f.text.length ≤ 4294967296) (hb : byteOK f.text) : GivesV Try.prog 85 [.agg f.cells.toArray] W (.bool (okPiece f.p)) := by
  have H := St.enter W
  obtain ⟨A0, c0, e0⟩ := PieceG.shape h
  obtain ⟨textV, kind, text, n⟩ := f
  dsimp only at *
  subst e0
  have hk : RdB W (.slice A0 text.length c0) text := h
  have no : ∀ {w : World}, St W.heap.size W w [] → ¬ OkPiece ⟨kind, text, n⟩ → ∃ v, Ending.returned (.bool false) = .returned v ∧ v = .bool (okPiece (PieceG.p ⟨.slice A0 text.length c0, kind, text, n⟩)) ∧ St W.heap.size W w [] := fun H h => ⟨_, rfl, by rw [show PieceG.p ⟨.slice A0 text.length c0, kind, text, n⟩ = ⟨kind, text, n⟩ from rfl, okPiece_no h], H⟩
  show GivesV Try.prog 85 [.agg #[.int .i64 kind, .slice A0 text.length c0, .int .i64 n]] W _
  refine calls_of_vcV (args := [.agg #[.int .i64 kind, .slice A0 text.length c0, .int .i64 n]]) Try.func85 rfl (by kernel_rfl) (Nat.le_of_ble_eq_true rfl) ?_
  refine newR (o := .cells #[.int .i64 kind, .slice A0 text.length c0, .int .i64 n] _) H fun g0 w H => ?_
  have Q : PieceG.p ⟨.slice A0 text.length c0, kind, text, n⟩ = ⟨kind, text, n⟩ := rfl
  refine RegV.mk ?_
  refine loadO H 0 rfl rfl ?_
  refine gF (fun c2 => ?_) (fun c2 => ?_)
  · refine loadO H 0 rfl rfl ?_
    refine ifB (fun c4 => ?_) (fun c4 => ?_)
    · exact no H.none (fun q => by have := q.kind; simp only at this; omega)
    · refine joinV (fun e w => e 1 = .pointer (some ⟨g0, 0, none⟩) ∧ (kind = 1 → 10 ∉ text ∧ 0 ≤ tw text) ∧ (kind ≠ 1 → text.length = 0) ∧ St W.heap.size W w [.obj g0 (.cells #[.int .i64 kind, .slice A0 text.length c0, .int .i64 n] 96)]) rfl ?_ ?_
      · refine loadO H 0 rfl rfl ?_
        refine ifB (fun c5 => ?_) (fun c5 => ?_)
        · refine loopV (by kernel_rfl) (fun m e w => e 1 = .pointer (some ⟨g0, 0, none⟩) ∧ ∃ j : Nat, e 3 = .int .i64 j ∧ j + m = text.length ∧ (∀ q, q < j → text.getD q 0 ≠ 10) ∧ St W.heap.size W w [.obj g0 (.cells #[.int .i64 kind, .slice A0 text.length c0, .int .i64 n] 96)]) text.length
            ⟨rfl, 0, rfl, by omega, by omega, H⟩ ?_
          rintro m e w ⟨h1, j, h3, hj, hq, H⟩
          rw [Env.two h1 h3]
          refine loadO H 0 rfl rfl ?_
          refine ifB (fun c6 => ?_) (fun c6 => ?_)
          · refine JoinV.mk ?_
            refine loadO H 0 rfl rfl ?_
            refine idxP rfl (hk.ext H.below) (by omega) fun b off hc => ?_
            refine loadS hc ?_
            refine ifB (fun c7 => ?_) (fun c7 => ?_)
            · exact no H.none (fun q => (q.text c5).1 (by
                have hj2 : j < text.length := by omega
                rw [List.getD_eq_getElem?_getD, List.getElem?_eq_getElem hj2] at c7
                have c7 : text[j] = 10 := c7
                exact c7 ▸ List.getElem_mem hj2))
            · refine arN (by omega) ?_
              exact Exists.intro (m - 1) (And.intro (by omega) ⟨rfl, j + 1, rfl, by omega, (fun q hq2 => by by_cases e : q = j; exact e ▸ c7; exact hq q (by omega)), H⟩)
          · have hm : (10 : Int) ∉ text := fun hm => by
              obtain ⟨q, hq1, hq2⟩ := List.getElem_of_mem hm
              exact hq q (by omega) (by rw [List.getD_eq_getElem?_getD, List.getElem?_eq_getElem hq1, hq2]; rfl)
            refine loadO H 0 rfl rfl ?_
            refine callV ok_spec_TextWidth (spec_TextWidth hb hl (hk.ext H.below)) H fun w H => ?_
            refine ifB (fun c8 => ?_) (fun c8 => ?_)
            · exact no H.none (fun q => by have := (q.text c5).2; unfold tw at this; simp only at this; omega)
            · exact ⟨rfl, fun _ => ⟨hm, by unfold tw; omega⟩, fun c => absurd c5 c, H⟩
        · refine loadO H 0 rfl rfl ?_
          refine ifB (fun c8 => ?_) (fun c8 => ?_)
          · exact no H.none (fun q => by have := q.empty c5; simp only at this; omega)
          · exact ⟨rfl, fun c => absurd c c5, fun _ => by omega, H⟩
      rintro e w ⟨h1, ht, he, H⟩
      rw [Env.one h1]
      have ok : (kind = 7 → 0 ≤ n) → (kind ≠ 7 → n = 0) → okPiece ⟨kind, text, n⟩ = true := fun a b => okPiece_iff.2 ⟨⟨show (0 : Int) ≤ kind by omega, show kind ≤ 9 by omega⟩, ht, he, a, b⟩
      refine loadO H 0 rfl rfl ?_
      refine ifB (fun c1 => ?_) (fun c1 => ?_)
      · refine loadO H 0 rfl rfl ?_
        exact Exists.intro _ (And.intro rfl (And.intro (congrArg Value.bool (show decide (n ≥ 0) = okPiece ⟨kind, text, n⟩ by
          by_cases hn : n ≥ 0
          · rw [ok (fun _ => by omega) (fun c => absurd c1 c), decide_eq_true hn]
          · rw [okPiece_no (fun q => hn (q.nest c1)), decide_eq_false hn])) H.none))
      · refine loadO H 0 rfl rfl ?_
        exact Exists.intro _ (And.intro rfl (And.intro (congrArg Value.bool (show decide (n = 0) = okPiece ⟨kind, text, n⟩ by
          by_cases hn : n = 0
          · rw [ok (fun c => absurd c c1) (fun _ => hn), decide_eq_true hn]
          · rw [okPiece_no (fun q => hn (q.zero c1)), decide_eq_false hn])) H.none))
  · refine ifT ?_
    exact no H.none (fun q => by have := q.kind; simp only at this; omega)
end Go.Proofs.YtfhpgfbakimmhaaE
/- The reference's l2starts. -/
namespace Go.Proofs.YtfhpgfbakimmhaaE
open Go Go.RowKit
set_option linter.unusedVariables false
set_option linter.unusedSimpArgs false
set_option maxRecDepth 100000
set_option maxHeartbeats 2000000

theorem St.takeI {B : Nat} {W0 w : World} {L : List It} {A : Option Addr} {c m : Nat} {b : List Int} (hm : m ≤ b.length) (H : St B W0 w (.row (.slice A m c) 3 1 m ((b.map (Value.int .i64)).take (m * 1)) :: L)) : St B W0 w (.rowI (.slice A (b.take m).length c) (b.take m) :: L) := by
  have e : (b.take m).length = m := by rw [List.length_take]; omega
  rw [Nat.mul_one, ← List.map_take] at H
  unfold It.rowI; rw [e]; exact H
theorem pieces_take {fs : List PieceG} {j : Nat} {f : PieceG} (h : fs[j]? = some f) : (fs.map PieceG.p)[j]? = some f.p := by rw [List.getElem?_map, h]; rfl
theorem ok_l2starts : callOK Try.prog 86 = true := by kernel_rfl
theorem spec_l2starts {fs : List PieceG} {A : Option Addr} {n c : Nat} {W : World} (hx : RdPiece W (.slice A n c) n fs) (hl : n ≤ 4294967296) :
    Calls Try.prog 86 #[.slice A n c] W fun e w => ∃ A' c' xs, e = .returned (.slice A' xs.length c') ∧ StartsOk (fs.map PieceG.p) xs ∧ St W.heap.size W w [.rowI (.slice A' xs.length c') xs] := by
  have H := ((St.enter W).rowNil (e := 3) (sz := 1)).rowNil (e := 3) (sz := 1)
  obtain rfl := hx.len
  obtain ⟨ps, hps⟩ : ∃ ps, fs.map PieceG.p = ps := ⟨_, rfl⟩
  have hpl : ps.length = fs.length := by rw [← hps, List.length_map]
  refine calls_of_vcV (args := [.slice A fs.length c]) Try.func86 rfl (by kernel_rfl) (Nat.le_of_ble_eq_true rfl) ?_
  refine loopW (by kernel_rfl) (fun m e w => e 0 = .slice A fs.length c ∧ ∃ (j g : Nat) (st : List Ent) (A3 A4 : Option Addr) (c3 c4 : Nat), e 3 = .slice A3 (startsL ps j).length c3 ∧ e 4 = .slice A4 (opn st).length c4 ∧ e 5 = .int .i64 j ∧ j + m = fs.length ∧ run0 (ps.take j) = some (g, st) ∧ st.length ≤ j ∧ St W.heap.size W w [.rowI (.slice A3 (startsL ps j).length c3) (startsL ps j), .rowI (.slice A4 (opn st).length c4) (opn st)])
    (fun id e w => id = 0 ∧ ∃ (xs os : List Int) (A3 A4 : Option Addr) (c3 c4 : Nat), e 3 = .slice A3 xs.length c3 ∧ e 4 = .slice A4 os.length c4 ∧ os.length ≤ 4294967296 ∧ (os.length = 1 → StartsOk ps xs) ∧ (os.length ≠ 1 → StartsOk ps []) ∧ St W.heap.size W w [.rowI (.slice A3 xs.length c3) xs]) fs.length
    ⟨rfl, 0, 0, [], none, none, 0, 0, rfl, rfl, rfl, by omega, rfl, Nat.le_refl _, H⟩ ?_ ?_
  · rintro m e w ⟨h0, j, g, st, A3, A4, c3, c4, h3, h4, h5, hj, hrun, hst, H⟩
    rw [Env.four h0 h3 h4 h5]
    have hol := opn_len st
    have hsl := startsL_len ps j
    refine ifB (fun c1 => ?_) (fun c1 => ?_)
    · obtain ⟨f, hf⟩ : ∃ f, fs[j]? = some f := ⟨_, List.getElem?_eq_getElem (by omega)⟩
      have hp := pieces_take hf
      rw [hps] at hp
      have hsn := run_snoc hp
      rw [hrun] at hsn
      simp only at hsn
      have h2 := arK_le f.p.kind
      refine JoinV.mk ?_
      refine idxC (cells := PieceG.cells) PieceG.cells_len (hx.ext H.below).row hf (by omega) fun b off hc => ?_
      refine loadS (v := .int .i64 f.kind) (hc 0 _ rfl) ?_
      refine callV ok_l2arity (spec_l2arity f.kind _) H fun w H => ?_
      refine ifB (fun c2 => ?_) (fun c2 => ?_)
      · have hn : run0 ps = none := run_none (i := j + 1) (by rw [hsn]; exact step_none (by show st.length < arK f.kind; omega))
        have hb := starts_break (j := j) hn (by omega)
        exact ⟨rfl, startsL ps j, opn st, A3, A4, c3, c4, rfl, rfl, by omega, fun _ => hb.1, fun _ => hb.2, H.sel (fun q => by simp only [cntL_append, cntL, List.cons_append, List.nil_append, List.set_cons_zero, List.set_cons_succ, List.flatMap_append, List.flatMap_cons, List.flatMap_nil, It.rowF, It.rowB, It.rowI, It.roB, It.roI]; omega)⟩
      · obtain ⟨g', e', r, hs1, hs2, hs3⟩ := step_some (p := f.p) (i := j) (g := g) (st := st) (by show arK f.kind ≤ st.length; omega)
        rw [hs1] at hsn
        have hs2 : opn (e' :: r) = (opn st).take (st.length - arK f.kind) ++ [(e'.s : Int)] := hs2
        have hsm : startM ps j = e'.s := by unfold startM; rw [hsn]
        have hss : startsL ps (j + 1) = startsL ps j ++ [(e'.s : Int)] := by rw [startsL_snoc, hsm]
        have hor := opn_len (e' :: r)
        have hlr : (opn (e' :: r)).length = (opn st).length - arK f.kind + 1 := by rw [hs2, List.length_append, List.length_take, hol]; simp only [List.length_cons, List.length_nil]; omega
        refine joinV (fun e w => e 0 = .slice A fs.length c ∧ e 3 = .slice A3 (startsL ps j).length c3 ∧ e 4 = .slice A4 (opn st).length c4 ∧ e 5 = .int .i64 j ∧ e 6 = .int .i64 (arK f.kind) ∧ e 7 = .int .i64 e'.s ∧ St W.heap.size W w [.rowI (.slice A3 (startsL ps j).length c3) (startsL ps j), .rowI (.slice A4 (opn st).length c4) (opn st)]) rfl ?_ ?_
        · refine ifB (fun c0 => ?_) (fun c0 => ?_)
          · refine ar64 (by omega) (by omega) ?_
            refine idxI (H.rd 1 rfl) (by omega) (by omega) fun b off hc => ?_
            refine loadS hc ?_
            refine ⟨rfl, rfl, rfl, rfl, rfl, congrArg (Value.int .i64) ?_, H⟩
            rw [hs3, if_neg (by show ¬ arK f.kind = 0; omega)]
            show (opn st).getD (((opn st).length : Int) - (arK f.kind : Int)).toNat 0 = _
            congr 1; show _ = st.length - arK f.kind; omega
          · refine ⟨rfl, rfl, rfl, rfl, rfl, congrArg (Value.int .i64) ?_, H⟩
            rw [hs3, if_pos (by show arK f.kind = 0; omega)]
        · rintro e w ⟨h0, h3, h4, h5, h6, h7, H⟩
          rw [Env.six h0 h3 h4 h5 h6 h7]
          refine ar64 (by omega) (by omega) ?_
          refine cutRow (h := st.length - arK f.kind) H 1 rfl rfl (by show (((opn st).length : Int) - (arK f.kind : Int)) = _; omega) (by omega) fun H => ?_
          have H1 : St W.heap.size W w (.row (.slice A4 (st.length - arK f.kind) c4) 3 1 (st.length - arK f.kind) (((opn st).map (Value.int .i64)).take ((st.length - arK f.kind) * 1)) :: [.rowI (.slice A3 (startsL ps j).length c3) (startsL ps j)]) := H.sw2
          have H := H1.takeI (by omega)
          have htl : ((opn st).take (st.length - arK f.kind)).length = st.length - arK f.kind := by rw [List.length_take]; omega
          rw [htl] at H
          refine litI1 H fun v w H => ?_
          refine appIS (xs := (opn st).take (st.length - arK f.kind)) (ys := [(e'.s : Int)]) H 1 rfl (H.rd 0 rfl) (by simp only [List.length_cons, List.length_nil]; omega) fun A6 c6 w H => ?_
          rw [← hs2] at H ⊢
          have H1 : St W.heap.size W w (.rowI (.slice A6 (opn (e' :: r)).length c6) (opn (e' :: r)) :: [.rowI (.slice A3 (startsL ps j).length c3) (startsL ps j)]) := H.tl
          have H := H1
          refine litI1 H fun v w H => ?_
          refine appIS H 2 rfl (H.rd 0 rfl) (by first | omega | (simp; omega)) fun A1 k1 w H => ?_
          refine arN (by omega) ?_
          rw [← hss] at H ⊢
          have H1 : St W.heap.size W w (.rowI (.slice A6 (opn (e' :: r)).length c6) (opn (e' :: r)) :: [.rowI (.slice A1 (startsL ps (j + 1)).length k1) (startsL ps (j + 1))]) := H.tl
          have H := H1.sw2
          have hrl : r.length + 1 ≤ j + 1 := by have := hlr; simp only [List.length_cons] at hor; omega
          exact Exists.intro (m - 1) (And.intro (by omega) ⟨rfl, j + 1, g', e' :: r, A1, A6, k1, c6, rfl, rfl, rfl, by omega, hsn, hrl, H⟩)
    · have he : run0 ps = some (g, st) := by rw [List.take_of_length_le (by omega)] at hrun; exact hrun
      have hb := starts_end he
      refine ⟨rfl, startsL ps j, opn st, A3, A4, c3, c4, rfl, rfl, by omega, fun h => ?_, fun h => hb.2 (by omega), H.sel (fun q => by simp only [cntL_append, cntL, List.cons_append, List.nil_append, List.set_cons_zero, List.set_cons_succ, List.flatMap_append, List.flatMap_cons, List.flatMap_nil, It.rowF, It.rowB, It.rowI, It.roB, It.roI]; omega)⟩
      rw [show j = ps.length by omega]; exact hb.1 (by omega)
  · rintro id e w ⟨rfl, xs, os, A3, A4, c3, c4, h3, h4, hol, hs1, hs2, H⟩
    rw [Env.two h3 h4]
    refine ifB (fun c0 => ?_) (fun c0 => ?_)
    · have H1 : St W.heap.size W w (.rowI (.slice none ([] : List Int).length 0) [] :: [.rowI (.slice A3 xs.length c3) xs]) := H.rowNil
      exact Exists.intro none (Exists.intro 0 (Exists.intro [] (And.intro rfl (And.intro (by rw [hps]; exact hs2 (by omega)) (H1.sel (fun q => by simp only [cntL_append, cntL, List.cons_append, List.nil_append, List.set_cons_zero, List.set_cons_succ, List.flatMap_append, List.flatMap_cons, List.flatMap_nil, It.rowF, It.rowB, It.rowI, It.roB, It.roI]; omega))))))
    · exact Exists.intro A3 (Exists.intro c3 (Exists.intro xs (And.intro rfl (And.intro (by rw [hps]; exact hs1 (by omega)) H))))
end Go.Proofs.YtfhpgfbakimmhaaE
/- The program's stack of documents, in plain lists. No program stands here. -/
namespace Go.Proofs.YtfhpgfbakimmhaaE
set_option linter.unusedVariables false

def nvals (st : List Ent) : List Int := (st.map fun e => e.d.nestD).reverse
theorem nvals_len (st : List Ent) : (nvals st).length = st.length := by simp [nvals]
def maxL (xs : List Int) : Int := xs.foldl (fun a b => if a < b then b else a) 0
theorem maxL_snoc (xs : List Int) (x : Int) : maxL (xs ++ [x]) = if maxL xs < x then x else maxL xs := by unfold maxL; rw [List.foldl_append]; rfl
theorem nvals_drop0 (st : List Ent) : (nvals st).drop st.length = [] := by rw [← nvals_len st, List.drop_length]
theorem nvals_drop1 (e : Ent) (r : List Ent) : (nvals (e :: r)).drop r.length = [e.d.nestD] := by
  have : (r.map fun e => e.d.nestD).reverse.length = r.length := by simp
  simp only [nvals, List.map_cons, List.reverse_cons]
  rw [List.drop_append_of_le_length (by omega), ← this, List.drop_length]; rfl
theorem nvals_drop2 (e f : Ent) (r : List Ent) : (nvals (e :: f :: r)).drop r.length = [f.d.nestD, e.d.nestD] := by
  have : (r.map fun e => e.d.nestD).reverse.length = r.length := by simp
  simp only [nvals, List.map_cons, List.reverse_cons, List.append_assoc]
  rw [List.drop_append_of_le_length (by omega), ← this, List.drop_length]; rfl
theorem nvals_take (a : List Ent) (r : List Ent) : (nvals (a ++ r)).take r.length = nvals r := by
  simp [nvals]
theorem nvals_cons (e : Ent) (r : List Ent) : nvals (e :: r) = nvals r ++ [e.d.nestD] := by simp [nvals]
end Go.Proofs.YtfhpgfbakimmhaaE
