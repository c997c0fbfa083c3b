/- What the program's scanner does, step by step. -/
import Derived.Test.YtjdgcgmhbhfpkaaDoorPScan
import Derived.Test.YtjdgcgmhbhfpkaaDoorEngG
import Derived.Test.YtjdgcgmhbhfpkaaDoorPrim3
namespace Go.Proofs.YtjdgcgmhbhfpkaaDoorE
open Go Go.RowKit Go.Proofs
set_option linter.unusedVariables false
set_option maxRecDepth 100000

abbrev scO (g : Nat) (v : Value) (i : Int) : It := .obj g (.cells #[v, .int .i64 i] 43)
abbrev txt (v : Value) (n : Nat) (xs : List Int) : It := .ro v 1 n (xs.map (.int .u8))
def headP (qs : List Int) : Int := qs.headD (-1)
def headN (xs : List Int) (i : Nat) : List Int → Int
  | [] => 0
  | _ => (dec1 (xs.drop i)).2
theorem ok_peek : callOK Tryd.prog 17 = true := by kernel_rfl
theorem impl_peek {xs : List Int} (hb : byteOK xs) {A : Option Addr} {n c g i : Nat} {qs : List Int} (hl : n ≤ 4294967296) (ha : At xs i qs) {B : Nat} {W0 w : World} {L : List It} (H : St B W0 w (scO g (.slice A n c) i :: txt (.slice A n c) n xs :: L)) :
    Calls Tryd.prog 17 #[.pointer (some ⟨g, 0, none⟩)] w fun e w' => e = .returned (.tuple #[.int .i32 (headP qs), .int .i64 (headN xs i qs)]) ∧ St B W0 w' (scO g (.slice A n c) i :: txt (.slice A n c) n xs :: L) := by
  have hx := H.rd 1 rfl
  obtain rfl : n = xs.length := by have := hx.len; simpa using this.symm
  refine calls_of_vcV (args := [.pointer (some ⟨g, 0, none⟩)]) Tryd.func17 rfl (by kernel_rfl) (Nat.le_of_ble_eq_true rfl) ?_
  refine drawR H fun w H => ?_
  refine loadO H 0 rfl rfl ?_
  refine loadO H 0 rfl rfl ?_
  cases qs with
  | nil =>
    have hi := ha.nil
    subst hi
    refine ifB (fun h => ?_) (fun h => absurd h (by omega))
    exact And.intro rfl H
  | cons p r =>
    obtain ⟨hi, hp, h0, hk⟩ := ha.cons
    refine ifB (fun h => absurd h (by omega)) (fun h => ?_)
    refine regG [9] [] [3, 7] [0, 1, 2, 3, 4, 5, 6, 7, 8, 9, 10, 11, 12, 13] (by kernel_rfl) ?_
    refine drawR H fun w H => ?_
    refine loadO H 0 rfl rfl ?_
    refine loadO H 0 rfl rfl ?_
    refine dropRd (H.rd 1 rfl) rfl (by omega) fun A' hR => ?_
    refine callV ok_decode (impl_decode (hb.drop i) (by rw [List.length_drop]; omega) (by omega) hR) H fun w H => ?_
    subst hp
    exact And.intro rfl H
theorem headN_bd {xs : List Int} (hb : byteOK xs) {i : Nat} {qs : List Int} (ha : At xs i qs) : 0 ≤ headN xs i qs ∧ i + headN xs i qs ≤ xs.length := by
  have h1 := ha.le hb
  cases qs with
  | nil => simp only [headN]; omega
  | cons p r =>
    obtain ⟨hi, hp, h0, hk⟩ := ha.cons
    have hd := dec1_ok (xs.drop i) (hb.drop i) (by rw [List.length_drop]; omega)
    rw [List.length_drop] at hd
    simp only [headN]; omega
theorem advO {xs : List Int} (hb : byteOK xs) {i g : Nat} {v : Value} {qs : List Int} (ha : At xs i qs) {B : Nat} {W0 w : World} {L : List It} (H : St B W0 w (scO g v (i + headN xs i qs) :: L)) : ∃ i' : Nat, At xs i' (qs.drop 1) ∧ St B W0 w (scO g v i' :: L) := by
  cases qs with
  | nil => exact ⟨i, ha, by simpa [headN] using H⟩
  | cons p r =>
    obtain ⟨hi, hp, h0, hk⟩ := ha.cons
    have hd := dec1_ok (xs.drop i) (hb.drop i) (by rw [List.length_drop]; omega)
    refine ⟨_, hk, ?_⟩
    have e : (i : Int) + headN xs i (p :: r) = ((i + (dec1 (xs.drop i)).2.toNat : Nat) : Int) := by simp only [headN]; omega
    rw [e] at H
    exact H
theorem ok_next : callOK Tryd.prog 38 = true := by kernel_rfl
theorem impl_next {xs : List Int} (hb : byteOK xs) {A : Option Addr} {n c g i : Nat} {qs : List Int} (hl : n ≤ 4294967296) (ha : At xs i qs) {B : Nat} {W0 w : World} {L : List It} (H : St B W0 w (scO g (.slice A n c) i :: txt (.slice A n c) n xs :: L)) :
    Calls Tryd.prog 38 #[.pointer (some ⟨g, 0, none⟩)] w fun e w' => e = .returned (.int .i32 (headP qs)) ∧ ∃ i' : Nat, At xs i' (qs.drop 1) ∧ St B W0 w' (scO g (.slice A n c) i' :: txt (.slice A n c) n xs :: L) := by
  have hln : n = xs.length := by have := (H.rd 1 rfl).len; simpa using this.symm
  refine calls_of_vcV (args := [.pointer (some ⟨g, 0, none⟩)]) Tryd.func38 rfl (by kernel_rfl) (Nat.le_of_ble_eq_true rfl) ?_
  refine callU ok_peek (impl_peek hb hl ha H) fun w H => ?_
  have hbd := headN_bd hb ha
  refine loadO H 0 rfl rfl ?_
  refine ar64 (by omega) (by omega) ?_
  refine storeO H 0 rfl rfl rfl fun w H => ?_
  have H := advO hb ha H
  exact And.intro rfl H
theorem ok_got : callOK Tryd.prog 39 = true := by kernel_rfl
theorem impl_got {xs : List Int} (hb : byteOK xs) (k : Int) {A : Option Addr} {n c g i : Nat} {qs : List Int} (hl : n ≤ 4294967296) (ha : At xs i qs) {B : Nat} {W0 w : World} {L : List It} (H : St B W0 w (scO g (.slice A n c) i :: txt (.slice A n c) n xs :: L)) :
    Calls Tryd.prog 39 #[.pointer (some ⟨g, 0, none⟩), .int .i32 k] w fun e w' => e = .returned (.bool (decide (headP qs = k))) ∧ ∃ i' : Nat, At xs i' (if headP qs = k then qs.drop 1 else qs) ∧ St B W0 w' (scO g (.slice A n c) i' :: txt (.slice A n c) n xs :: L) := by
  have hln : n = xs.length := by have := (H.rd 1 rfl).len; simpa using this.symm
  refine calls_of_vcV (args := [.pointer (some ⟨g, 0, none⟩), .int .i32 k]) Tryd.func39 rfl (by kernel_rfl) (Nat.le_of_ble_eq_true rfl) ?_
  refine callU ok_peek (impl_peek hb hl ha H) fun w H => ?_
  have hbd := headN_bd hb ha
  by_cases hk : headP qs = k
  · simp only [hk, decide_true, if_true]
    refine ifB (fun h => ?_) (fun h => absurd rfl h)
    refine loadO H 0 rfl rfl ?_
    refine ar64 (by omega) (by omega) ?_
    refine storeO H 0 rfl rfl rfl fun w H => ?_
    have H := advO hb ha H
    exact And.intro rfl H
  · simp only [hk, decide_false, if_false]
    refine ifB (fun h => absurd h hk) (fun h => ?_)
    exact And.intro rfl ⟨i, ha, H⟩
theorem ok_unitsOf : callOK Tryd.prog 56 = true := by kernel_rfl
theorem impl_unitsOf (p : Int) (h0 : 0 ≤ p) (h1 : p ≤ 1114111) (W : World) : Calls Tryd.prog 56 #[.int .i64 p] W fun e w => ∃ x, e = .returned x ∧ OwnI w W.heap.size x (unitsOne p) ∧ Below W.heap.size W w := by
  have H := St.enter W
  refine calls_of_vcV (args := [.int .i64 p]) Tryd.func56 rfl (by kernel_rfl) (Nat.le_of_ble_eq_true rfl) ?_
  unfold unitsOne
  refine ifB (fun h => ?_) (fun h => ?_)
  · rw [if_pos h]
    refine litI1 H fun v w H => ?_
    exact Exists.intro v (And.intro rfl (And.intro (H.own 0 rfl) H.below))
  · rw [if_neg h]
    refine ar64 (by omega) (by omega) ?_
    refine shrR (d := 1024) rfl (by decide) ?_
    refine ar64 (by omega) (by omega) ?_
    refine and1023S (by omega) (by omega) ?_
    refine ar64 (by omega) (by omega) ?_
    refine litI2 H fun v w H => ?_
    exact Exists.intro v (And.intro rfl (And.intro (H.own 0 rfl) H.below))
theorem headP_hex (qs : List Int) (n : Nat) (v : Int) : readHex (n + 1) qs v = if hexv (headP qs) < 0 then none else readHex n (qs.drop 1) (v * 16 + hexv (headP qs)) := by
  cases qs with
  | nil =>
    have : hexv (-1) = -1 := by decide
    simp [readHex, headP, this]
  | cons q r => rfl
theorem ok_hex : callOK Tryd.prog 66 = true := by kernel_rfl
theorem impl_hex {xs : List Int} (hb : byteOK xs) (m : Nat) (hm : m ≤ 4) {A : Option Addr} {n c g i : Nat} {qs : List Int} (hl : n ≤ 4294967296) (ha : At xs i qs) {B : Nat} {W0 w : World} {L : List It} (H : St B W0 w (scO g (.slice A n c) i :: txt (.slice A n c) n xs :: L)) :
    Calls Tryd.prog 66 #[.pointer (some ⟨g, 0, none⟩), .int .i64 m] w fun e w' => ∃ (v : Int) (b : Bool) (i' : Nat) (r : List Int), e = .returned (.tuple #[.int .i64 v, .bool b]) ∧ readHex m qs 0 = (if b then some (v, r) else none) ∧ At xs i' r ∧ St B W0 w' (scO g (.slice A n c) i' :: txt (.slice A n c) n xs :: L) := by
  refine calls_of_vcV (args := [.pointer (some ⟨g, 0, none⟩), .int .i64 m]) Tryd.func66 rfl (by kernel_rfl) (Nat.le_of_ble_eq_true rfl) ?_
  refine loopV (by kernel_rfl) (fun k e w => e 0 = .pointer (some ⟨g, 0, none⟩) ∧ e 8 = .int .i64 m ∧ ∃ (j : Nat) (v : Int) (i' : Nat) (r : List Int), e 9 = .int .i64 j ∧ e 6 = .int .i64 v ∧ j + k = m ∧ 0 ≤ v ∧ v < 16 ^ j ∧ readHex m qs 0 = readHex k r v ∧ At xs i' r ∧ St B W0 w (scO g (.slice A n c) i' :: txt (.slice A n c) n xs :: L)) m
    ⟨rfl, rfl, 0, 0, i, qs, rfl, rfl, by omega, by omega, by decide, rfl, ha, H⟩ ?_
  rintro k e w ⟨h0, h8, j, v, i', r, h9, h6, hj, hv0, hv1, hrd, ha, H⟩
  rw [Env.four h0 h8 h9 h6]
  refine ifB (fun h => ?_) (fun h => ?_)
  case refine_2 =>
    obtain rfl : k = 0 := by omega
    exact Exists.intro v (Exists.intro true (Exists.intro i' (Exists.intro r (And.intro rfl (And.intro hrd (And.intro ha H))))))
  obtain ⟨k', rfl⟩ : ∃ k', k = k' + 1 := ⟨k - 1, by omega⟩
  rw [headP_hex] at hrd
  refine joinV (fun e w => e 0 = .pointer (some ⟨g, 0, none⟩) ∧ e 8 = .int .i64 m ∧ e 9 = .int .i64 j ∧ ∃ (v : Int) (i' : Nat) (r : List Int), e 6 = .int .i64 v ∧ 0 ≤ v ∧ v < 16 ^ (j + 1) ∧ readHex m qs 0 = readHex k' r v ∧ At xs i' r ∧ St B W0 w (scO g (.slice A n c) i' :: txt (.slice A n c) n xs :: L)) rfl ?_ ?_
  case refine_2 =>
    rintro e w ⟨h0, h8, h9, v, i', r, h6, hv0, hv1, hrd, ha, H⟩
    rw [Env.four h0 h8 h9 h6]
    refine arN (by omega) ?_
    exact Exists.intro k' (And.intro (by omega) (And.intro rfl ⟨rfl, j + 1, v, i', r, rfl, rfl, by omega, hv0, hv1, hrd, ha, H⟩))
  refine CallS.mk ok_next ((impl_next hb hl ha H).mono ?_)
  rintro _ w ⟨rfl, i2, ha2, H⟩
  refine callV ok_hexDigit (impl_hexDigit (headP r) w) H fun w H => ?_
  have hge := hexv_ge (headP r)
  refine ifB (fun hz => ?_) (fun hz => ?_)
  · rw [if_pos hz] at hrd
    exact Exists.intro 0 (Exists.intro false (Exists.intro i2 (Exists.intro (r.drop 1) (And.intro rfl (And.intro hrd (And.intro ha2 H))))))
  · rw [if_neg hz] at hrd
    have hp1 : (16 : Int) ^ (j + 1) = 16 ^ j * 16 := Int.pow_succ _ _
    have hp2 : (16 : Int) ^ j ≤ 65536 := by
      have : j ≤ 4 := by omega
      have key : ∀ k : Fin 5, (16 : Int) ^ k.val ≤ 65536 := by decide
      exact key ⟨j, by omega⟩
    refine ar64 (by omega) (by omega) ?_
    refine ar64 (by omega) (by omega) ?_
    exact ⟨rfl, rfl, rfl, _, i2, r.drop 1, rfl, by omega, by rw [hp1]; omega, hrd, ha2, H⟩
end Go.Proofs.YtjdgcgmhbhfpkaaDoorE
