/- What the reference's functions do that read UTF-8, and that they read what the program's read. -/
import Derived.Test.YtjdgcgmhbhfpkaaDoorTPts
namespace Go.Proofs.YtjdgcgmhbhfpkaaDoorE
open Go Go.RowKit Go.Proofs
set_option linter.unusedVariables false
set_option linter.unusedSimpArgs false
set_option maxRecDepth 100000

def cont (xs : List Int) : Nat → Nat → Int → Int
  | 0, _, v => v
  | k + 1, i, v => if xs.getD i 0 / 64 ≠ 2 then -1 else cont xs k (i + 1) (v * 64 + xs.getD i 0 % 64)
def head1 (c : Int) (n : Nat) : Int := if n = 2 ∧ c / 32 = 6 then c % 32 else if n = 3 ∧ c / 16 = 14 then c % 16 else if n = 4 ∧ c / 8 = 30 then c % 8 else -1
def l1v (xs : List Int) (n : Nat) : Int :=
  if n > xs.length then -1 else if n = 1 ∧ xs.getD 0 0 < 128 then xs.getD 0 0 else if head1 (xs.getD 0 0) n < 0 then -1 else cont xs (n - 1) 1 (head1 (xs.getD 0 0) n)
theorem cont_bd (xs : List Int) (hb : byteOK xs) : ∀ (k i : Nat) (v m : Int), 0 ≤ v → v < m → -1 ≤ cont xs k i v ∧ cont xs k i v < m * 64 ^ k
  | 0, i, v, m, h0, h1 => by simp [cont]; omega
  | k + 1, i, v, m, h0, h1 => by
    have := hb.get i
    unfold cont
    have hp : (0 : Int) < 64 ^ k := Int.pow_pos (by decide)
    have hm : 0 < m * 64 ^ (k + 1) := Int.mul_pos (by omega) (Int.pow_pos (by decide))
    split
    · omega
    · have h := cont_bd xs hb k (i + 1) (v * 64 + xs.getD i 0 % 64) (m * 64) (by omega) (by omega)
      rw [Int.pow_succ, Int.mul_comm (64 ^ k), ← Int.mul_assoc]; exact h
theorem getD_drop (xs : List Int) (i j : Nat) : (xs.drop i).getD j 0 = xs.getD (i + j) 0 := by simp [List.getD_eq_getElem?_getD]
theorem ok_l1value : callOK Tryd.prog 21 = true := by kernel_rfl
theorem spec_l1value {bs : List Int} (hb : byteOK bs) {A : Option Addr} {len c i n : Nat} (hl : len ≤ 4294967296) (hi : i < len) (hn : 1 ≤ n ∧ n ≤ 4) {W : World} (hx : Rd W (.slice A len c) 1 len (bs.map (.int .u8))) : GivesV Tryd.prog 21 [.slice A len c, .int .i64 i, .int .i64 n] W (.int .i64 (l1v (bs.drop i) n)) := by
  have H := (St.enter W).ro0 rfl hx
  obtain rfl : len = bs.length := by have := hx.len; simpa using this.symm
  obtain ⟨r, hr⟩ : ∃ r, l1v (bs.drop i) n = r := ⟨_, rfl⟩
  rw [hr]
  unfold l1v at hr
  rw [List.length_drop, getD_drop, Nat.add_zero] at hr
  have hbi := hb.get i
  refine calls_of_vcV Tryd.func21 rfl (by kernel_rfl) (Nat.le_of_ble_eq_true rfl) ?_
  refine ar64 (by omega) (by omega) ?_
  refine ifB (fun h => ?_) (fun h => ?_)
  · rw [if_pos (by omega)] at hr; subst hr
    exact Exists.intro (.int .i64 (-1)) (And.intro rfl (And.intro rfl H.none))
  rw [if_neg (by omega)] at hr
  refine idxN (H.rd 0 rfl) (by omega) fun b off hc => ?_
  refine loadS hc ?_
  refine ar64 (by omega) (by omega) ?_
  refine cutG (fun e w => e 0 = .slice A bs.length c ∧ e 1 = .int .i64 i ∧ e 2 = .int .i64 n ∧ e 7 = .int .i64 (bs.getD i 0) ∧ e 8 = .int .i64 (-1) ∧ e 27 = .bool (decide (n = 1 ∧ bs.getD i 0 < 128)) ∧ St W.heap.size W w [.roB (.slice A bs.length c) bs]) ?_ ?_
  · repeat' first | (refine gY ?_) | (refine gNt ?_) | (refine gNf ?_) | (refine ifT ?_) | (refine ifF ?_) | (refine arN (by omega) ?_) | (refine ar64 (by omega) (by omega) ?_) | (refine ar32 (by omega) (by omega) ?_) | (refine ar8 (by omega) (by omega) ?_) | (refine div64 (by omega) (by omega) (by omega) ?_) | (refine rem0 (by omega) (by omega) ?_) | (refine drawR H fun w H => ?_) | (refine RegV.mk ?_) | (refine JoinV.mk ?_) | (refine gT (fun h => ?_) (fun h => ?_) <;> first | (exfalso; omega) | skip) | (refine gF (fun h => ?_) (fun h => ?_) <;> first | (exfalso; omega) | skip) | (refine ifB (fun h => ?_) (fun h => ?_) <;> first | (exfalso; omega) | skip)
    all_goals refine ⟨rfl, rfl, rfl, rfl, rfl, congrArg Value.bool ?_, H⟩
    all_goals (rw [Bool.eq_iff_iff]; simp only [decide_eq_true_eq, Bool.false_eq_true, true_iff, iff_true, false_iff, iff_false]; omega)
  rintro e w ⟨h0, h1, h2, h7, h8, h27, H⟩
  rw [Env.six h0 h1 h2 h7 h8 h27]
  refine ifB (fun h => ?_) (fun h => ?_)
  · rw [if_pos h] at hr; subst hr
    exact Exists.intro (.int .i64 (bs.getD i 0)) (And.intro rfl (And.intro rfl H.none))
  rw [if_neg h] at hr
  refine joinV (fun e w => e 0 = .slice A bs.length c ∧ e 1 = .int .i64 i ∧ e 2 = .int .i64 n ∧ e 7 = .int .i64 (bs.getD i 0) ∧ e 8 = .int .i64 (if n = 2 ∧ bs.getD i 0 / 32 = 6 then bs.getD i 0 % 32 else -1) ∧ St W.heap.size W w [.roB (.slice A bs.length c) bs]) rfl ?_ ?_
  · repeat' first | (refine gY ?_) | (refine gNt ?_) | (refine gNf ?_) | (refine ifT ?_) | (refine ifF ?_) | (refine arN (by omega) ?_) | (refine ar64 (by omega) (by omega) ?_) | (refine ar32 (by omega) (by omega) ?_) | (refine ar8 (by omega) (by omega) ?_) | (refine div64 (by omega) (by omega) (by omega) ?_) | (refine rem0 (by omega) (by omega) ?_) | (refine drawR H fun w H => ?_) | (refine RegV.mk ?_) | (refine JoinV.mk ?_) | (refine gT (fun h => ?_) (fun h => ?_) <;> first | (exfalso; omega) | skip) | (refine gF (fun h => ?_) (fun h => ?_) <;> first | (exfalso; omega) | skip) | (refine ifB (fun h => ?_) (fun h => ?_) <;> first | (exfalso; omega) | skip)
    all_goals refine ⟨rfl, rfl, rfl, rfl, vI ?_, H⟩
    all_goals ((repeat' split) <;> omega)
  rintro e w ⟨h0, h1, h2, h7, h8, H⟩
  rw [Env.five h0 h1 h2 h7 h8]
  refine joinV (fun e w => e 0 = .slice A bs.length c ∧ e 1 = .int .i64 i ∧ e 2 = .int .i64 n ∧ e 7 = .int .i64 (bs.getD i 0) ∧ e 8 = .int .i64 (if n = 2 ∧ bs.getD i 0 / 32 = 6 then bs.getD i 0 % 32 else if n = 3 ∧ bs.getD i 0 / 16 = 14 then bs.getD i 0 % 16 else -1) ∧ St W.heap.size W w [.roB (.slice A bs.length c) bs]) rfl ?_ ?_
  · repeat' first | (refine gY ?_) | (refine gNt ?_) | (refine gNf ?_) | (refine ifT ?_) | (refine ifF ?_) | (refine arN (by omega) ?_) | (refine ar64 (by omega) (by omega) ?_) | (refine ar32 (by omega) (by omega) ?_) | (refine ar8 (by omega) (by omega) ?_) | (refine div64 (by omega) (by omega) (by omega) ?_) | (refine rem0 (by omega) (by omega) ?_) | (refine drawR H fun w H => ?_) | (refine RegV.mk ?_) | (refine JoinV.mk ?_) | (refine gT (fun h => ?_) (fun h => ?_) <;> first | (exfalso; omega) | skip) | (refine gF (fun h => ?_) (fun h => ?_) <;> first | (exfalso; omega) | skip) | (refine ifB (fun h => ?_) (fun h => ?_) <;> first | (exfalso; omega) | skip)
    all_goals refine ⟨rfl, rfl, rfl, rfl, vI ?_, H⟩
    all_goals ((repeat' split) <;> omega)
  rintro e w ⟨h0, h1, h2, h7, h8, H⟩
  rw [Env.five h0 h1 h2 h7 h8]
  refine joinV (fun e w => e 0 = .slice A bs.length c ∧ e 1 = .int .i64 i ∧ e 2 = .int .i64 n ∧ e 7 = .int .i64 (bs.getD i 0) ∧ e 8 = .int .i64 (head1 (bs.getD i 0) n) ∧ St W.heap.size W w [.roB (.slice A bs.length c) bs]) rfl ?_ ?_
  · repeat' first | (refine gY ?_) | (refine gNt ?_) | (refine gNf ?_) | (refine ifT ?_) | (refine ifF ?_) | (refine arN (by omega) ?_) | (refine ar64 (by omega) (by omega) ?_) | (refine ar32 (by omega) (by omega) ?_) | (refine ar8 (by omega) (by omega) ?_) | (refine div64 (by omega) (by omega) (by omega) ?_) | (refine rem0 (by omega) (by omega) ?_) | (refine drawR H fun w H => ?_) | (refine RegV.mk ?_) | (refine JoinV.mk ?_) | (refine gT (fun h => ?_) (fun h => ?_) <;> first | (exfalso; omega) | skip) | (refine gF (fun h => ?_) (fun h => ?_) <;> first | (exfalso; omega) | skip) | (refine ifB (fun h => ?_) (fun h => ?_) <;> first | (exfalso; omega) | skip)
    all_goals refine ⟨rfl, rfl, rfl, rfl, vI ?_, H⟩
    all_goals (unfold head1; (repeat' split) <;> omega)
  rintro e w ⟨h0, h1, h2, h7, h8, H⟩
  rw [Env.five h0 h1 h2 h7 h8]
  have hh : -1 ≤ head1 (bs.getD i 0) n ∧ head1 (bs.getD i 0) n < 32 := by unfold head1; (repeat' split) <;> omega
  generalize head1 (bs.getD i 0) n = v0 at *
  refine ifB (fun h => ?_) (fun h => ?_)
  · rw [if_pos h] at hr; subst hr
    exact Exists.intro (.int .i64 (-1)) (And.intro rfl (And.intro rfl H.none))
  rw [if_neg h] at hr
  refine loopV (by kernel_rfl) (fun m e w => e 0 = .slice A bs.length c ∧ e 1 = .int .i64 i ∧ e 2 = .int .i64 n ∧ ∃ (j : Nat) (v : Int), e 9 = .int .i64 j ∧ e 8 = .int .i64 v ∧ j + m = n ∧ 1 ≤ j ∧ 0 ≤ v ∧ v < 32 * 64 ^ (j - 1) ∧ cont (bs.drop i) (n - j) j v = r ∧ St W.heap.size W w [.roB (.slice A bs.length c) bs]) (n - 1)
    ⟨rfl, rfl, rfl, 1, v0, rfl, rfl, by omega, by omega, by omega, by simpa using hh.2, hr, H⟩ ?_
  rintro m e w ⟨h0, h1, h2, j, v, h9, h8, hj, hj1, hv0, hv1, hr, H⟩
  rw [Env.five h0 h1 h2 h9 h8]
  have hv2 : v < 32 * 64 ^ 3 := Int.lt_of_lt_of_le hv1 (Int.mul_le_mul_of_nonneg_left (by exact_mod_cast Nat.pow_le_pow_right (by decide) (by omega : j - 1 ≤ 3)) (by decide))
  have hbj := hb.get (i + j)
  refine ifB (fun h => ?_) (fun h => ?_)
  case refine_2 =>
    have e1 : n - j = 0 := by omega
    rw [e1] at hr
    simp only [cont] at hr
    subst hr
    exact Exists.intro (.int .i64 v) (And.intro rfl (And.intro rfl H.none))
  obtain ⟨k, hk⟩ : ∃ k, n - j = k + 1 := ⟨n - j - 1, by omega⟩
  rw [hk] at hr
  unfold cont at hr
  rw [getD_drop] at hr
  have e2 : (i : Int) + j = ((i + j : Nat) : Int) := by omega
  refine JoinV.mk ?_
  refine ar64 (by omega) (by omega) ?_
  rw [e2]
  refine idxN (H.rd 0 rfl) (by omega) fun b off hc => ?_
  refine loadS hc ?_
  refine ar64 (by omega) (by omega) ?_
  refine div64 (by omega) (by omega) (by omega) ?_
  refine ifB (fun h => ?_) (fun h => ?_)
  · rw [if_pos h] at hr; subst hr
    exact Exists.intro (.int .i64 (-1)) (And.intro rfl (And.intro rfl H.none))
  rw [if_neg h] at hr
  refine ar64 (by omega) (by omega) ?_
  refine rem0 (by omega) (by omega) ?_
  refine ar64 (by omega) (by omega) ?_
  refine arN (by omega) ?_
  have hp : (64 : Int) ^ (j + 1 - 1) = 64 ^ (j - 1) * 64 := by
    obtain ⟨j', rfl⟩ : ∃ j', j = j' + 1 := ⟨j - 1, by omega⟩
    simp [Int.pow_succ]
  refine Exists.intro (m - 1) (And.intro (by omega) (And.intro rfl (And.intro rfl (And.intro rfl ⟨j + 1, v * 64 + bs.getD (i + j) 0 % 64, rfl, rfl, by omega, by omega, by omega, ?_, ?_, H⟩))))
  · rw [hp]; omega
  · have e3 : n - (j + 1) = k := by omega
    rw [e3]; exact hr
/-- what l1value answers, in plain numbers -/
theorem l1v_spec (xs : List Int) (hb : byteOK xs) (n : Nat) (hn : 1 ≤ n ∧ n ≤ 4) :
    (n ≤ xs.length ∧ ((n = 1 ∧ xs.getD 0 0 < 128 ∧ l1v xs n = xs.getD 0 0) ∨
      (n = 2 ∧ 192 ≤ xs.getD 0 0 ∧ xs.getD 0 0 < 224 ∧ 128 ≤ xs.getD 1 0 ∧ xs.getD 1 0 < 192 ∧ l1v xs n = (xs.getD 0 0 - 192) * 64 + (xs.getD 1 0 - 128)) ∨
      (n = 3 ∧ 224 ≤ xs.getD 0 0 ∧ xs.getD 0 0 < 240 ∧ 128 ≤ xs.getD 1 0 ∧ xs.getD 1 0 < 192 ∧ 128 ≤ xs.getD 2 0 ∧ xs.getD 2 0 < 192 ∧ l1v xs n = ((xs.getD 0 0 - 224) * 64 + (xs.getD 1 0 - 128)) * 64 + (xs.getD 2 0 - 128)) ∨
      (n = 4 ∧ 240 ≤ xs.getD 0 0 ∧ xs.getD 0 0 < 248 ∧ 128 ≤ xs.getD 1 0 ∧ xs.getD 1 0 < 192 ∧ 128 ≤ xs.getD 2 0 ∧ xs.getD 2 0 < 192 ∧ 128 ≤ xs.getD 3 0 ∧ xs.getD 3 0 < 192 ∧ l1v xs n = (((xs.getD 0 0 - 240) * 64 + (xs.getD 1 0 - 128)) * 64 + (xs.getD 2 0 - 128)) * 64 + (xs.getD 3 0 - 128)))) ∨
    (l1v xs n = -1 ∧ (n > xs.length ∨ (¬ (n = 1 ∧ xs.getD 0 0 < 128) ∧ ¬ (n = 2 ∧ 192 ≤ xs.getD 0 0 ∧ xs.getD 0 0 < 224 ∧ 128 ≤ xs.getD 1 0 ∧ xs.getD 1 0 < 192) ∧
      ¬ (n = 3 ∧ 224 ≤ xs.getD 0 0 ∧ xs.getD 0 0 < 240 ∧ 128 ≤ xs.getD 1 0 ∧ xs.getD 1 0 < 192 ∧ 128 ≤ xs.getD 2 0 ∧ xs.getD 2 0 < 192) ∧
      ¬ (n = 4 ∧ 240 ≤ xs.getD 0 0 ∧ xs.getD 0 0 < 248 ∧ 128 ≤ xs.getD 1 0 ∧ xs.getD 1 0 < 192 ∧ 128 ≤ xs.getD 2 0 ∧ xs.getD 2 0 < 192 ∧ 128 ≤ xs.getD 3 0 ∧ xs.getD 3 0 < 192)))) := by
  have b0 := hb.get 0
  have b1 := hb.get 1
  have b2 := hb.get 2
  have b3 := hb.get 3
  obtain ⟨v, hv⟩ : ∃ v, l1v xs n = v := ⟨_, rfl⟩
  rw [hv]
  have hn' : n = 1 ∨ n = 2 ∨ n = 3 ∨ n = 4 := by omega
  unfold l1v head1 at hv
  generalize xs.getD 0 0 = c at *
  rcases hn' with rfl | rfl | rfl | rfl
  all_goals
    simp only [cont, Nat.reduceEqDiff, Nat.reduceSub, false_and, true_and, if_false, Nat.reduceAdd] at hv
    (repeat' split at hv) <;> omega
theorem dec1_spec (xs : List Int) (hb : byteOK xs) (hne : 0 < xs.length) :
    ((dec1 xs).2 = 1 ∧ xs.getD 0 0 < 128 ∧ (dec1 xs).1 = xs.getD 0 0) ∨
    ((dec1 xs).2 = 2 ∧ 2 ≤ xs.length ∧ 194 ≤ xs.getD 0 0 ∧ xs.getD 0 0 < 224 ∧ 128 ≤ xs.getD 1 0 ∧ xs.getD 1 0 < 192 ∧ (dec1 xs).1 = (xs.getD 0 0 - 192) * 64 + (xs.getD 1 0 - 128)) ∨
    ((dec1 xs).2 = 3 ∧ 3 ≤ xs.length ∧ 224 ≤ xs.getD 0 0 ∧ xs.getD 0 0 < 240 ∧ 128 ≤ xs.getD 1 0 ∧ xs.getD 1 0 < 192 ∧ 128 ≤ xs.getD 2 0 ∧ xs.getD 2 0 < 192 ∧ (dec1 xs).1 = ((xs.getD 0 0 - 224) * 64 + (xs.getD 1 0 - 128)) * 64 + (xs.getD 2 0 - 128) ∧ 2048 ≤ (dec1 xs).1 ∧ need (dec1 xs).1 ≠ 0) ∨
    ((dec1 xs).2 = 4 ∧ 4 ≤ xs.length ∧ 240 ≤ xs.getD 0 0 ∧ xs.getD 0 0 < 245 ∧ 128 ≤ xs.getD 1 0 ∧ xs.getD 1 0 < 192 ∧ 128 ≤ xs.getD 2 0 ∧ xs.getD 2 0 < 192 ∧ 128 ≤ xs.getD 3 0 ∧ xs.getD 3 0 < 192 ∧ (dec1 xs).1 = (((xs.getD 0 0 - 240) * 64 + (xs.getD 1 0 - 128)) * 64 + (xs.getD 2 0 - 128)) * 64 + (xs.getD 3 0 - 128) ∧ 65536 ≤ (dec1 xs).1 ∧ need (dec1 xs).1 ≠ 0) ∨
    ((dec1 xs).2 = 0 ∧ (dec1 xs).1 = 0 ∧ ¬ xs.getD 0 0 < 128 ∧ ¬ (2 ≤ xs.length ∧ 194 ≤ xs.getD 0 0 ∧ xs.getD 0 0 < 224 ∧ 128 ≤ xs.getD 1 0 ∧ xs.getD 1 0 < 192) ∧
      (3 ≤ xs.length ∧ 224 ≤ xs.getD 0 0 ∧ xs.getD 0 0 < 240 ∧ 128 ≤ xs.getD 1 0 ∧ xs.getD 1 0 < 192 ∧ 128 ≤ xs.getD 2 0 ∧ xs.getD 2 0 < 192 → ((xs.getD 0 0 - 224) * 64 + (xs.getD 1 0 - 128)) * 64 + (xs.getD 2 0 - 128) < 2048 ∨ need (((xs.getD 0 0 - 224) * 64 + (xs.getD 1 0 - 128)) * 64 + (xs.getD 2 0 - 128)) = 0) ∧
      (4 ≤ xs.length ∧ 240 ≤ xs.getD 0 0 ∧ xs.getD 0 0 < 245 ∧ 128 ≤ xs.getD 1 0 ∧ xs.getD 1 0 < 192 ∧ 128 ≤ xs.getD 2 0 ∧ xs.getD 2 0 < 192 ∧ 128 ≤ xs.getD 3 0 ∧ xs.getD 3 0 < 192 → (((xs.getD 0 0 - 240) * 64 + (xs.getD 1 0 - 128)) * 64 + (xs.getD 2 0 - 128)) * 64 + (xs.getD 3 0 - 128) < 65536 ∨ need ((((xs.getD 0 0 - 240) * 64 + (xs.getD 1 0 - 128)) * 64 + (xs.getD 2 0 - 128)) * 64 + (xs.getD 3 0 - 128)) = 0)) := by
  have b0 := hb.get 0
  have b1 := hb.get 1
  have b2 := hb.get 2
  have b3 := hb.get 3
  have n3 := need_cases (((xs.getD 0 0 - 224) * 64 + (xs.getD 1 0 - 128)) * 64 + (xs.getD 2 0 - 128))
  have n4 := need_cases ((((xs.getD 0 0 - 240) * 64 + (xs.getD 1 0 - 128)) * 64 + (xs.getD 2 0 - 128)) * 64 + (xs.getD 3 0 - 128))
  obtain ⟨r, hr⟩ : ∃ r, dec1 xs = r := ⟨_, rfl⟩
  rw [hr]
  obtain ⟨p, m⟩ := r
  unfold dec1 at hr
  have k0 : ∀ s, reads xs (Int.toNat 0) s = s := fun s => rfl
  have k1 : ∀ s, reads xs (Int.toNat 1) s = more xs s := fun s => rfl
  have k2 : ∀ s, reads xs (Int.toNat 2) s = more xs (more xs s) := fun s => rfl
  have k3 : ∀ s, reads xs (Int.toNat 3) s = more xs (more xs (more xs s)) := fun s => rfl
  by_cases c1 : xs.getD 0 0 < 128
  · have e : formN (xs.getD 0 0) = (0, xs.getD 0 0, 0) := by unfold formN; rw [if_pos c1]
    have nn := need_cases (xs.getD 0 0)
    rw [e] at hr
    simp only [k0] at hr
    rw [if_neg (by omega), if_neg (by simp only [Bool.true_eq_false, false_or]; omega)] at hr
    cases hr
    exact .inl ⟨rfl, c1, rfl⟩
  by_cases c2 : 194 ≤ xs.getD 0 0 ∧ xs.getD 0 0 < 224
  · have e : formN (xs.getD 0 0) = (1, xs.getD 0 0 % 32, 128) := by unfold formN; rw [if_neg c1, if_pos c2]
    have nn := need_cases (xs.getD 0 0 % 32 * 64 + xs.getD 1 0 % 64)
    rw [e] at hr
    simp only [k1, more, Bool.true_and, decide_eq_false_iff_not] at hr
    split at hr
    · cases hr; (refine .inr (.inr (.inr (.inr ⟨rfl, rfl, c1, ?_, ?_, ?_⟩))) <;> omega)
    · split at hr
      · cases hr; (refine .inr (.inr (.inr (.inr ⟨rfl, rfl, c1, ?_, ?_, ?_⟩))) <;> omega)
      · cases hr; refine .inr (.inl ⟨rfl, ?_⟩); simp only; omega
  by_cases c3 : 224 ≤ xs.getD 0 0 ∧ xs.getD 0 0 < 240
  · have e : formN (xs.getD 0 0) = (2, xs.getD 0 0 % 16, 2048) := by unfold formN; rw [if_neg c1, if_neg c2, if_pos c3]
    have nn := need_cases ((xs.getD 0 0 % 16 * 64 + xs.getD 1 0 % 64) * 64 + xs.getD 2 0 % 64)
    rw [e] at hr
    simp only [k2, more, Bool.true_and, Bool.and_eq_false_iff, decide_eq_false_iff_not, Nat.reduceAdd] at hr
    split at hr
    · cases hr; (refine .inr (.inr (.inr (.inr ⟨rfl, rfl, c1, ?_, ?_, ?_⟩))) <;> omega)
    · split at hr
      · cases hr; (refine .inr (.inr (.inr (.inr ⟨rfl, rfl, c1, ?_, ?_, ?_⟩))) <;> omega)
      · cases hr; refine .inr (.inr (.inl ⟨rfl, ?_⟩)); simp only; omega
  by_cases c4 : 240 ≤ xs.getD 0 0 ∧ xs.getD 0 0 < 245
  · have e : formN (xs.getD 0 0) = (3, xs.getD 0 0 % 8, 65536) := by unfold formN; rw [if_neg c1, if_neg c2, if_neg c3, if_pos c4]
    have nn := need_cases (((xs.getD 0 0 % 8 * 64 + xs.getD 1 0 % 64) * 64 + xs.getD 2 0 % 64) * 64 + xs.getD 3 0 % 64)
    rw [e] at hr
    simp only [k3, more, Bool.true_and, Bool.and_eq_false_iff, decide_eq_false_iff_not, Nat.reduceAdd] at hr
    split at hr
    · cases hr; (refine .inr (.inr (.inr (.inr ⟨rfl, rfl, c1, ?_, ?_, ?_⟩))) <;> omega)
    · split at hr
      · cases hr; (refine .inr (.inr (.inr (.inr ⟨rfl, rfl, c1, ?_, ?_, ?_⟩))) <;> omega)
      · cases hr; refine .inr (.inr (.inr (.inl ⟨rfl, ?_⟩))); simp only; omega
  · have e : formN (xs.getD 0 0) = (-1, 0, 0) := by unfold formN; rw [if_neg c1, if_neg c2, if_neg c3, if_neg c4]
    rw [e] at hr
    simp only at hr
    rw [if_pos (by omega)] at hr
    cases hr
    (refine .inr (.inr (.inr (.inr ⟨rfl, rfl, c1, ?_, ?_, ?_⟩))) <;> omega)
end Go.Proofs.YtjdgcgmhbhfpkaaDoorE
