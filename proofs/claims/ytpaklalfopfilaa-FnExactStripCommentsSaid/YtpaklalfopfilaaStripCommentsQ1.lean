/- What the reference's functions do that read UTF-8, and that they read what the program's read. -/
import Derived.Test.YtpaklalfopfilaaTPts
import Derived.Test.YtpaklalfopfilaaStr
import Derived.Test.YtpaklalfopfilaaPNum
import Derived.Test.YtpaklalfopfilaaPrim2
import Derived.Test.YtpaklalfopfilaaPTree
namespace Go.Proofs.YtpaklalfopfilaaE
open Go Go.RowKit Go.Proofs
set_option linter.unusedVariables false
set_option linter.unusedSimpArgs false
set_option maxRecDepth 100000

def cont (xs : List Int) : Nat → Nat → Int → Int
  | 0, _, v => v
  | k + 1, i, v => if xs.getD i 0 / 64 ≠ 2 then -1 else cont xs k (i + 1) (v * 64 + xs.getD i 0 % 64)
def head1 (c : Int) (n : Nat) : Int := if n = 2 ∧ c / 32 = 6 then c % 32 else if n = 3 ∧ c / 16 = 14 then c % 16 else if n = 4 ∧ c / 8 = 30 then c % 8 else -1
def l1v (xs : List Int) (n : Nat) : Int :=
  if n > xs.length then -1 else if n = 1 ∧ xs.getD 0 0 < 128 then xs.getD 0 0 else if head1 (xs.getD 0 0) n < 0 then -1 else cont xs (n - 1) 1 (head1 (xs.getD 0 0) n)
theorem cont_bd (xs : List Int) (hb : byteOK xs) : ∀ (k i : Nat) (v m : Int), 0 ≤ v → v < m → -1 ≤ cont xs k i v ∧ cont xs k i v < m * 64 ^ k
  | 0, i, v, m, h0, h1 => by simp [cont]; omega
  | k + 1, i, v, m, h0, h1 => by
    have := hb.get i
    unfold cont
    have hp : (0 : Int) < 64 ^ k := Int.pow_pos (by decide)
    have hm : 0 < m * 64 ^ (k + 1) := Int.mul_pos (by omega) (Int.pow_pos (by decide))
    split
    · omega
    · have h := cont_bd xs hb k (i + 1) (v * 64 + xs.getD i 0 % 64) (m * 64) (by omega) (by omega)
      rw [Int.pow_succ, Int.mul_comm (64 ^ k), ← Int.mul_assoc]; exact h
theorem getD_drop (xs : List Int) (i j : Nat) : (xs.drop i).getD j 0 = xs.getD (i + j) 0 := by simp [List.getD_eq_getElem?_getD]
theorem ok_l1value : callOK Try.prog 128 = true := by kernel_rfl
theorem spec_l1value {bs : List Int} (hb : byteOK bs) {A : Option Addr} {len c i n : Nat} (hl : len ≤ 4294967296) (hi : i < len) (hn : 1 ≤ n ∧ n ≤ 4) {W : World} (hx : Rd W (.slice A len c) 1 len (bs.map (.int .u8))) : GivesV Try.prog 128 [.slice A len c, .int .i64 i, .int .i64 n] W (.int .i64 (l1v (bs.drop i) n)) := by
  have H := (St.enter W).ro0 rfl hx
  obtain rfl : len = bs.length := by have := hx.len; simpa using this.symm
  obtain ⟨r, hr⟩ : ∃ r, l1v (bs.drop i) n = r := ⟨_, rfl⟩
  rw [hr]
  unfold l1v at hr
  rw [List.length_drop, getD_drop, Nat.add_zero] at hr
  have hbi := hb.get i
  refine calls_of_vcV Try.func128 rfl (by kernel_rfl) (Nat.le_of_ble_eq_true rfl) ?_
  refine ar64 (by omega) (by omega) ?_
  refine ifB (fun h => ?_) (fun h => ?_)
  · rw [if_pos (by omega)] at hr; subst hr
    exact Exists.intro (.int .i64 (-1)) (And.intro rfl (And.intro rfl H.none))
  rw [if_neg (by omega)] at hr
  refine idxN (H.rd 0 rfl) (by omega) fun b off hc => ?_
  refine loadS hc ?_
  refine ar64 (by omega) (by omega) ?_
  refine cutG (fun e w => e 0 = .slice A bs.length c ∧ e 1 = .int .i64 i ∧ e 2 = .int .i64 n ∧ e 7 = .int .i64 (bs.getD i 0) ∧ e 8 = .int .i64 (-1) ∧ e 27 = .bool (decide (n = 1 ∧ bs.getD i 0 < 128)) ∧ St W.heap.size W w [.roB (.slice A bs.length c) bs]) ?_ ?_
  · repeat' first | (refine gY ?_) | (refine gNt ?_) | (refine gNf ?_) | (refine ifT ?_) | (refine ifF ?_) | (refine arN (by omega) ?_) | (refine ar64 (by omega) (by omega) ?_) | (refine ar32 (by omega) (by omega) ?_) | (refine ar8 (by omega) (by omega) ?_) | (refine div64 (by omega) (by omega) (by omega) ?_) | (refine rem0 (by omega) (by omega) ?_) | (refine drawR H fun w H => ?_) | (refine RegV.mk ?_) | (refine JoinV.mk ?_) | (refine gT (fun h => ?_) (fun h => ?_) <;> first | (exfalso; omega) | skip) | (refine gF (fun h => ?_) (fun h => ?_) <;> first | (exfalso; omega) | skip) | (refine ifB (fun h => ?_) (fun h => ?_) <;> first | (exfalso; omega) | skip)
    all_goals refine ⟨rfl, rfl, rfl, rfl, rfl, congrArg Value.bool ?_, H⟩
    all_goals (rw [Bool.eq_iff_iff]; simp only [decide_eq_true_eq, Bool.false_eq_true, true_iff, iff_true, false_iff, iff_false]; omega)
  rintro e w ⟨h0, h1, h2, h7, h8, h27, H⟩
  rw [Env.six h0 h1 h2 h7 h8 h27]
  refine ifB (fun h => ?_) (fun h => ?_)
  · rw [if_pos h] at hr; subst hr
    exact Exists.intro (.int .i64 (bs.getD i 0)) (And.intro rfl (And.intro rfl H.none))
  rw [if_neg h] at hr
  refine joinV (fun e w => e 0 = .slice A bs.length c ∧ e 1 = .int .i64 i ∧ e 2 = .int .i64 n ∧ e 7 = .int .i64 (bs.getD i 0) ∧ e 8 = .int .i64 (if n = 2 ∧ bs.getD i 0 / 32 = 6 then bs.getD i 0 % 32 else -1) ∧ St W.heap.size W w [.roB (.slice A bs.length c) bs]) rfl ?_ ?_
  · repeat' first | (refine gY ?_) | (refine gNt ?_) | (refine gNf ?_) | (refine ifT ?_) | (refine ifF ?_) | (refine arN (by omega) ?_) | (refine ar64 (by omega) (by omega) ?_) | (refine ar32 (by omega) (by omega) ?_) | (refine ar8 (by omega) (by omega) ?_) | (refine div64 (by omega) (by omega) (by omega) ?_) | (refine rem0 (by omega) (by omega) ?_) | (refine drawR H fun w H => ?_) | (refine RegV.mk ?_) | (refine JoinV.mk ?_) | (refine gT (fun h => ?_) (fun h => ?_) <;> first | (exfalso; omega) | skip) | (refine gF (fun h => ?_) (fun h => ?_) <;> first | (exfalso; omega) | skip) | (refine ifB (fun h => ?_) (fun h => ?_) <;> first | (exfalso; omega) | skip)
    all_goals refine ⟨rfl, rfl, rfl, rfl, vI ?_, H⟩
    all_goals ((repeat' split) <;> omega)
  rintro e w ⟨h0, h1, h2, h7, h8, H⟩
  rw [Env.five h0 h1 h2 h7 h8]
  refine joinV (fun e w => e 0 = .slice A bs.length c ∧ e 1 = .int .i64 i ∧ e 2 = .int .i64 n ∧ e 7 = .int .i64 (bs.getD i 0) ∧ e 8 = .int .i64 (if n = 2 ∧ bs.getD i 0 / 32 = 6 then bs.getD i 0 % 32 else if n = 3 ∧ bs.getD i 0 / 16 = 14 then bs.getD i 0 % 16 else -1) ∧ St W.heap.size W w [.roB (.slice A bs.length c) bs]) rfl ?_ ?_
  · repeat' first | (refine gY ?_) | (refine gNt ?_) | (refine gNf ?_) | (refine ifT ?_) | (refine ifF ?_) | (refine arN (by omega) ?_) | (refine ar64 (by omega) (by omega) ?_) | (refine ar32 (by omega) (by omega) ?_) | (refine ar8 (by omega) (by omega) ?_) | (refine div64 (by omega) (by omega) (by omega) ?_) | (refine rem0 (by omega) (by omega) ?_) | (refine drawR H fun w H => ?_) | (refine RegV.mk ?_) | (refine JoinV.mk ?_) | (refine gT (fun h => ?_) (fun h => ?_) <;> first | (exfalso; omega) | skip) | (refine gF (fun h => ?_) (fun h => ?_) <;> first | (exfalso; omega) | skip) | (refine ifB (fun h => ?_) (fun h => ?_) <;> first | (exfalso; omega) | skip)
    all_goals refine ⟨rfl, rfl, rfl, rfl, vI ?_, H⟩
    all_goals ((repeat' split) <;> omega)
  rintro e w ⟨h0, h1, h2, h7, h8, H⟩
  rw [Env.five h0 h1 h2 h7 h8]
  refine joinV (fun e w => e 0 = .slice A bs.length c ∧ e 1 = .int .i64 i ∧ e 2 = .int .i64 n ∧ e 7 = .int .i64 (bs.getD i 0) ∧ e 8 = .int .i64 (head1 (bs.getD i 0) n) ∧ St W.heap.size W w [.roB (.slice A bs.length c) bs]) rfl ?_ ?_
  · repeat' first | (refine gY ?_) | (refine gNt ?_) | (refine gNf ?_) | (refine ifT ?_) | (refine ifF ?_) | (refine arN (by omega) ?_) | (refine ar64 (by omega) (by omega) ?_) | (refine ar32 (by omega) (by omega) ?_) | (refine ar8 (by omega) (by omega) ?_) | (refine div64 (by omega) (by omega) (by omega) ?_) | (refine rem0 (by omega) (by omega) ?_) | (refine drawR H fun w H => ?_) | (refine RegV.mk ?_) | (refine JoinV.mk ?_) | (refine gT (fun h => ?_) (fun h => ?_) <;> first | (exfalso; omega) | skip) | (refine gF (fun h => ?_) (fun h => ?_) <;> first | (exfalso; omega) | skip) | (refine ifB (fun h => ?_) (fun h => ?_) <;> first | (exfalso; omega) | skip)
    all_goals refine ⟨rfl, rfl, rfl, rfl, vI ?_, H⟩
    all_goals (unfold head1; (repeat' split) <;> omega)
  rintro e w ⟨h0, h1, h2, h7, h8, H⟩
  rw [Env.five h0 h1 h2 h7 h8]
  have hh : -1 ≤ head1 (bs.getD i 0) n ∧ head1 (bs.getD i 0) n < 32 := by unfold head1; (repeat' split) <;> omega
  generalize head1 (bs.getD i 0) n = v0 at *
  refine ifB (fun h => ?_) (fun h => ?_)
  · rw [if_pos h] at hr; subst hr
    exact Exists.intro (.int .i64 (-1)) (And.intro rfl (And.intro rfl H.none))
  rw [if_neg h] at hr
  refine loopV (by kernel_rfl) (fun m e w => e 0 = .slice A bs.length c ∧ e 1 = .int .i64 i ∧ e 2 = .int .i64 n ∧ ∃ (j : Nat) (v : Int), e 9 = .int .i64 j ∧ e 8 = .int .i64 v ∧ j + m = n ∧ 1 ≤ j ∧ 0 ≤ v ∧ v < 32 * 64 ^ (j - 1) ∧ cont (bs.drop i) (n - j) j v = r ∧ St W.heap.size W w [.roB (.slice A bs.length c) bs]) (n - 1)
    ⟨rfl, rfl, rfl, 1, v0, rfl, rfl, by omega, by omega, by omega, by simpa using hh.2, hr, H⟩ ?_
  rintro m e w ⟨h0, h1, h2, j, v, h9, h8, hj, hj1, hv0, hv1, hr, H⟩
  rw [Env.five h0 h1 h2 h9 h8]
  have hv2 : v < 32 * 64 ^ 3 := Int.lt_of_lt_of_le hv1 (Int.mul_le_mul_of_nonneg_left (by exact_mod_cast Nat.pow_le_pow_right (by decide) (by omega : j - 1 ≤ 3)) (by decide))
  have hbj := hb.get (i + j)
  refine ifB (fun h => ?_) (fun h => ?_)
  case refine_2 =>
    have e1 : n - j = 0 := by omega
    rw [e1] at hr
    simp only [cont] at hr
    subst hr
    exact Exists.intro (.int .i64 v) (And.intro rfl (And.intro rfl H.none))
  obtain ⟨k, hk⟩ : ∃ k, n - j = k + 1 := ⟨n - j - 1, by omega⟩
  rw [hk] at hr
  unfold cont at hr
  rw [getD_drop] at hr
  have e2 : (i : Int) + j = ((i + j : Nat) : Int) := by omega
  refine JoinV.mk ?_
  refine ar64 (by omega) (by omega) ?_
  rw [e2]
  refine idxN (H.rd 0 rfl) (by omega) fun b off hc => ?_
  refine loadS hc ?_
  refine ar64 (by omega) (by omega) ?_
  refine div64 (by omega) (by omega) (by omega) ?_
  refine ifB (fun h => ?_) (fun h => ?_)
  · rw [if_pos h] at hr; subst hr
    exact Exists.intro (.int .i64 (-1)) (And.intro rfl (And.intro rfl H.none))
  rw [if_neg h] at hr
  refine ar64 (by omega) (by omega) ?_
  refine rem0 (by omega) (by omega) ?_
  refine ar64 (by omega) (by omega) ?_
  refine arN (by omega) ?_
  have hp : (64 : Int) ^ (j + 1 - 1) = 64 ^ (j - 1) * 64 := by
    obtain ⟨j', rfl⟩ : ∃ j', j = j' + 1 := ⟨j - 1, by omega⟩
    simp [Int.pow_succ]
  refine Exists.intro (m - 1) (And.intro (by omega) (And.intro rfl (And.intro rfl (And.intro rfl ⟨j + 1, v * 64 + bs.getD (i + j) 0 % 64, rfl, rfl, by omega, by omega, by omega, ?_, ?_, H⟩))))
  · rw [hp]; omega
  · have e3 : n - (j + 1) = k := by omega
    rw [e3]; exact hr
/-- what l1value answers, in plain numbers -/
theorem l1v_spec (xs : List Int) (hb : byteOK xs) (n : Nat) (hn : 1 ≤ n ∧ n ≤ 4) :
    (n ≤ xs.length ∧ ((n = 1 ∧ xs.getD 0 0 < 128 ∧ l1v xs n = xs.getD 0 0) ∨
      (n = 2 ∧ 192 ≤ xs.getD 0 0 ∧ xs.getD 0 0 < 224 ∧ 128 ≤ xs.getD 1 0 ∧ xs.getD 1 0 < 192 ∧ l1v xs n = (xs.getD 0 0 - 192) * 64 + (xs.getD 1 0 - 128)) ∨
      (n = 3 ∧ 224 ≤ xs.getD 0 0 ∧ xs.getD 0 0 < 240 ∧ 128 ≤ xs.getD 1 0 ∧ xs.getD 1 0 < 192 ∧ 128 ≤ xs.getD 2 0 ∧ xs.getD 2 0 < 192 ∧ l1v xs n = ((xs.getD 0 0 - 224) * 64 + (xs.getD 1 0 - 128)) * 64 + (xs.getD 2 0 - 128)) ∨
      (n = 4 ∧ 240 ≤ xs.getD 0 0 ∧ xs.getD 0 0 < 248 ∧ 128 ≤ xs.getD 1 0 ∧ xs.getD 1 0 < 192 ∧ 128 ≤ xs.getD 2 0 ∧ xs.getD 2 0 < 192 ∧ 128 ≤ xs.getD 3 0 ∧ xs.getD 3 0 < 192 ∧ l1v xs n = (((xs.getD 0 0 - 240) * 64 + (xs.getD 1 0 - 128)) * 64 + (xs.getD 2 0 - 128)) * 64 + (xs.getD 3 0 - 128)))) ∨
    (l1v xs n = -1 ∧ (n > xs.length ∨ (¬ (n = 1 ∧ xs.getD 0 0 < 128) ∧ ¬ (n = 2 ∧ 192 ≤ xs.getD 0 0 ∧ xs.getD 0 0 < 224 ∧ 128 ≤ xs.getD 1 0 ∧ xs.getD 1 0 < 192) ∧
      ¬ (n = 3 ∧ 224 ≤ xs.getD 0 0 ∧ xs.getD 0 0 < 240 ∧ 128 ≤ xs.getD 1 0 ∧ xs.getD 1 0 < 192 ∧ 128 ≤ xs.getD 2 0 ∧ xs.getD 2 0 < 192) ∧
      ¬ (n = 4 ∧ 240 ≤ xs.getD 0 0 ∧ xs.getD 0 0 < 248 ∧ 128 ≤ xs.getD 1 0 ∧ xs.getD 1 0 < 192 ∧ 128 ≤ xs.getD 2 0 ∧ xs.getD 2 0 < 192 ∧ 128 ≤ xs.getD 3 0 ∧ xs.getD 3 0 < 192)))) := by
  have b0 := hb.get 0
  have b1 := hb.get 1
  have b2 := hb.get 2
  have b3 := hb.get 3
  obtain ⟨v, hv⟩ : ∃ v, l1v xs n = v := ⟨_, rfl⟩
  rw [hv]
  have hn' : n = 1 ∨ n = 2 ∨ n = 3 ∨ n = 4 := by omega
  unfold l1v head1 at hv
  generalize xs.getD 0 0 = c at *
  rcases hn' with rfl | rfl | rfl | rfl
  all_goals
    simp only [cont, Nat.reduceEqDiff, Nat.reduceSub, false_and, true_and, if_false, Nat.reduceAdd] at hv
    (repeat' split at hv) <;> omega
theorem dec1_spec (xs : List Int) (hb : byteOK xs) (hne : 0 < xs.length) :
    ((dec1 xs).2 = 1 ∧ xs.getD 0 0 < 128 ∧ (dec1 xs).1 = xs.getD 0 0) ∨
    ((dec1 xs).2 = 2 ∧ 2 ≤ xs.length ∧ 194 ≤ xs.getD 0 0 ∧ xs.getD 0 0 < 224 ∧ 128 ≤ xs.getD 1 0 ∧ xs.getD 1 0 < 192 ∧ (dec1 xs).1 = (xs.getD 0 0 - 192) * 64 + (xs.getD 1 0 - 128)) ∨
    ((dec1 xs).2 = 3 ∧ 3 ≤ xs.length ∧ 224 ≤ xs.getD 0 0 ∧ xs.getD 0 0 < 240 ∧ 128 ≤ xs.getD 1 0 ∧ xs.getD 1 0 < 192 ∧ 128 ≤ xs.getD 2 0 ∧ xs.getD 2 0 < 192 ∧ (dec1 xs).1 = ((xs.getD 0 0 - 224) * 64 + (xs.getD 1 0 - 128)) * 64 + (xs.getD 2 0 - 128) ∧ 2048 ≤ (dec1 xs).1 ∧ need (dec1 xs).1 ≠ 0) ∨
    ((dec1 xs).2 = 4 ∧ 4 ≤ xs.length ∧ 240 ≤ xs.getD 0 0 ∧ xs.getD 0 0 < 245 ∧ 128 ≤ xs.getD 1 0 ∧ xs.getD 1 0 < 192 ∧ 128 ≤ xs.getD 2 0 ∧ xs.getD 2 0 < 192 ∧ 128 ≤ xs.getD 3 0 ∧ xs.getD 3 0 < 192 ∧ (dec1 xs).1 = (((xs.getD 0 0 - 240) * 64 + (xs.getD 1 0 - 128)) * 64 + (xs.getD 2 0 - 128)) * 64 + (xs.getD 3 0 - 128) ∧ 65536 ≤ (dec1 xs).1 ∧ need (dec1 xs).1 ≠ 0) ∨
    ((dec1 xs).2 = 0 ∧ (dec1 xs).1 = 0 ∧ ¬ xs.getD 0 0 < 128 ∧ ¬ (2 ≤ xs.length ∧ 194 ≤ xs.getD 0 0 ∧ xs.getD 0 0 < 224 ∧ 128 ≤ xs.getD 1 0 ∧ xs.getD 1 0 < 192) ∧
      (3 ≤ xs.length ∧ 224 ≤ xs.getD 0 0 ∧ xs.getD 0 0 < 240 ∧ 128 ≤ xs.getD 1 0 ∧ xs.getD 1 0 < 192 ∧ 128 ≤ xs.getD 2 0 ∧ xs.getD 2 0 < 192 → ((xs.getD 0 0 - 224) * 64 + (xs.getD 1 0 - 128)) * 64 + (xs.getD 2 0 - 128) < 2048 ∨ need (((xs.getD 0 0 - 224) * 64 + (xs.getD 1 0 - 128)) * 64 + (xs.getD 2 0 - 128)) = 0) ∧
      (4 ≤ xs.length ∧ 240 ≤ xs.getD 0 0 ∧ xs.getD 0 0 < 245 ∧ 128 ≤ xs.getD 1 0 ∧ xs.getD 1 0 < 192 ∧ 128 ≤ xs.getD 2 0 ∧ xs.getD 2 0 < 192 ∧ 128 ≤ xs.getD 3 0 ∧ xs.getD 3 0 < 192 → (((xs.getD 0 0 - 240) * 64 + (xs.getD 1 0 - 128)) * 64 + (xs.getD 2 0 - 128)) * 64 + (xs.getD 3 0 - 128) < 65536 ∨ need ((((xs.getD 0 0 - 240) * 64 + (xs.getD 1 0 - 128)) * 64 + (xs.getD 2 0 - 128)) * 64 + (xs.getD 3 0 - 128)) = 0)) := by
  have b0 := hb.get 0
  have b1 := hb.get 1
  have b2 := hb.get 2
  have b3 := hb.get 3
  have n3 := need_cases (((xs.getD 0 0 - 224) * 64 + (xs.getD 1 0 - 128)) * 64 + (xs.getD 2 0 - 128))
  have n4 := need_cases ((((xs.getD 0 0 - 240) * 64 + (xs.getD 1 0 - 128)) * 64 + (xs.getD 2 0 - 128)) * 64 + (xs.getD 3 0 - 128))
  obtain ⟨r, hr⟩ : ∃ r, dec1 xs = r := ⟨_, rfl⟩
  rw [hr]
  obtain ⟨p, m⟩ := r
  unfold dec1 at hr
  have k0 : ∀ s, reads xs (Int.toNat 0) s = s := fun s => rfl
  have k1 : ∀ s, reads xs (Int.toNat 1) s = more xs s := fun s => rfl
  have k2 : ∀ s, reads xs (Int.toNat 2) s = more xs (more xs s) := fun s => rfl
  have k3 : ∀ s, reads xs (Int.toNat 3) s = more xs (more xs (more xs s)) := fun s => rfl
  by_cases c1 : xs.getD 0 0 < 128
  · have e : formN (xs.getD 0 0) = (0, xs.getD 0 0, 0) := by unfold formN; rw [if_pos c1]
    have nn := need_cases (xs.getD 0 0)
    rw [e] at hr
    simp only [k0] at hr
    rw [if_neg (by omega), if_neg (by simp only [Bool.true_eq_false, false_or]; omega)] at hr
    cases hr
    exact .inl ⟨rfl, c1, rfl⟩
  by_cases c2 : 194 ≤ xs.getD 0 0 ∧ xs.getD 0 0 < 224
  · have e : formN (xs.getD 0 0) = (1, xs.getD 0 0 % 32, 128) := by unfold formN; rw [if_neg c1, if_pos c2]
    have nn := need_cases (xs.getD 0 0 % 32 * 64 + xs.getD 1 0 % 64)
    rw [e] at hr
    simp only [k1, more, Bool.true_and, decide_eq_false_iff_not] at hr
    split at hr
    · cases hr; (refine .inr (.inr (.inr (.inr ⟨rfl, rfl, c1, ?_, ?_, ?_⟩))) <;> omega)
    · split at hr
      · cases hr; (refine .inr (.inr (.inr (.inr ⟨rfl, rfl, c1, ?_, ?_, ?_⟩))) <;> omega)
      · cases hr; refine .inr (.inl ⟨rfl, ?_⟩); simp only; omega
  by_cases c3 : 224 ≤ xs.getD 0 0 ∧ xs.getD 0 0 < 240
  · have e : formN (xs.getD 0 0) = (2, xs.getD 0 0 % 16, 2048) := by unfold formN; rw [if_neg c1, if_neg c2, if_pos c3]
    have nn := need_cases ((xs.getD 0 0 % 16 * 64 + xs.getD 1 0 % 64) * 64 + xs.getD 2 0 % 64)
    rw [e] at hr
    simp only [k2, more, Bool.true_and, Bool.and_eq_false_iff, decide_eq_false_iff_not, Nat.reduceAdd] at hr
    split at hr
    · cases hr; (refine .inr (.inr (.inr (.inr ⟨rfl, rfl, c1, ?_, ?_, ?_⟩))) <;> omega)
    · split at hr
      · cases hr; (refine .inr (.inr (.inr (.inr ⟨rfl, rfl, c1, ?_, ?_, ?_⟩))) <;> omega)
      · cases hr; refine .inr (.inr (.inl ⟨rfl, ?_⟩)); simp only; omega
  by_cases c4 : 240 ≤ xs.getD 0 0 ∧ xs.getD 0 0 < 245
  · have e : formN (xs.getD 0 0) = (3, xs.getD 0 0 % 8, 65536) := by unfold formN; rw [if_neg c1, if_neg c2, if_neg c3, if_pos c4]
    have nn := need_cases (((xs.getD 0 0 % 8 * 64 + xs.getD 1 0 % 64) * 64 + xs.getD 2 0 % 64) * 64 + xs.getD 3 0 % 64)
    rw [e] at hr
    simp only [k3, more, Bool.true_and, Bool.and_eq_false_iff, decide_eq_false_iff_not, Nat.reduceAdd] at hr
    split at hr
    · cases hr; (refine .inr (.inr (.inr (.inr ⟨rfl, rfl, c1, ?_, ?_, ?_⟩))) <;> omega)
    · split at hr
      · cases hr; (refine .inr (.inr (.inr (.inr ⟨rfl, rfl, c1, ?_, ?_, ?_⟩))) <;> omega)
      · cases hr; refine .inr (.inr (.inr (.inl ⟨rfl, ?_⟩))); simp only; omega
  · have e : formN (xs.getD 0 0) = (-1, 0, 0) := by unfold formN; rw [if_neg c1, if_neg c2, if_neg c3, if_neg c4]
    rw [e] at hr
    simp only at hr
    rw [if_pos (by omega)] at hr
    cases hr
    (refine .inr (.inr (.inr (.inr ⟨rfl, rfl, c1, ?_, ?_, ?_⟩))) <;> omega)
end Go.Proofs.YtpaklalfopfilaaE
/- The reference's DecodeText and TextWidth answer what the program's answer. -/
namespace Go.Proofs.YtpaklalfopfilaaE
open Go Go.RowKit Go.Proofs
set_option linter.unusedVariables false
set_option linter.unusedSimpArgs false
set_option maxRecDepth 100000

theorem found_dec (xs : List Int) (hb : byteOK xs) (hne : 0 < xs.length) (n : Nat) (hn : 1 ≤ n ∧ n ≤ 4) (h : 0 ≤ l1v xs n ∧ need (l1v xs n) = n) : (dec1 xs).1 = l1v xs n ∧ (dec1 xs).2 = n := by
  have hs := l1v_spec xs hb n hn
  have hd := dec1_spec xs hb hne
  have hc := need_cases (l1v xs n)
  obtain ⟨h0, hnd⟩ := h
  rcases hs with ⟨hlen, ⟨rfl, g1, gv⟩ | ⟨rfl, g1, g2, g3, g4, gv⟩ | ⟨rfl, g1, g2, g3, g4, g5, g6, gv⟩ | ⟨rfl, g1, g2, g3, g4, g5, g6, g7, g8, gv⟩⟩ | ⟨gv, _⟩
  · rw [gv] at hnd h0 hc ⊢
    clear hc
    rcases hd with ⟨a, b, c⟩ | ⟨a, b, b1, b2, b3, b4, c⟩ | ⟨a, b, b1, b2, b3, b4, b5, b6, c, c1, c2⟩ | ⟨a, b, b1, b2, b3, b4, b5, b6, b7, b8, c, c1, c2⟩ | ⟨a, b, c, d, e, f⟩
    · exact ⟨c, a⟩
    all_goals omega
  · have hv : 128 ≤ l1v xs 2 := by omega
    rcases hd with ⟨a, b, c⟩ | ⟨a, b, b1, b2, b3, b4, c⟩ | ⟨a, b, b1, b2, b3, b4, b5, b6, c, c1, c2⟩ | ⟨a, b, b1, b2, b3, b4, b5, b6, b7, b8, c, c1, c2⟩ | ⟨a, b, c, d, e, f⟩
    · omega
    · exact ⟨c.trans gv.symm, a⟩
    · omega
    · omega
    · exact (d ⟨hlen, by omega, g2, g3, g4⟩).elim
  · have hv : 2048 ≤ l1v xs 3 := by omega
    rcases hd with ⟨a, b, c⟩ | ⟨a, b, b1, b2, b3, b4, c⟩ | ⟨a, b, b1, b2, b3, b4, b5, b6, c, c1, c2⟩ | ⟨a, b, b1, b2, b3, b4, b5, b6, b7, b8, c, c1, c2⟩ | ⟨a, b, c, d, e, f⟩
    · omega
    · omega
    · exact ⟨c.trans gv.symm, a⟩
    · omega
    · have e := e ⟨hlen, g1, g2, g3, g4, g5, g6⟩
      rw [← gv] at e
      omega
  · have hv : 65536 ≤ l1v xs 4 ∧ l1v xs 4 ≤ 1114111 := by omega
    rcases hd with ⟨a, b, c⟩ | ⟨a, b, b1, b2, b3, b4, c⟩ | ⟨a, b, b1, b2, b3, b4, b5, b6, c, c1, c2⟩ | ⟨a, b, b1, b2, b3, b4, b5, b6, b7, b8, c, c1, c2⟩ | ⟨a, b, c, d, e, f⟩
    · omega
    · omega
    · omega
    · exact ⟨c.trans gv.symm, a⟩
    · have f := f ⟨hlen, g1, by omega, g3, g4, g5, g6, g7, g8⟩
      rw [← gv] at f
      omega
  · omega
theorem none_dec (xs : List Int) (hb : byteOK xs) (hne : 0 < xs.length) (h : ∀ n : Nat, 1 ≤ n → n ≤ 4 → ¬ (0 ≤ l1v xs n ∧ need (l1v xs n) = n)) : (dec1 xs).2 = 0 := by
  have hd := dec1_spec xs hb hne
  have b0 := hb.get 0
  have h1 := need_cases (dec1 xs).1
  have b1 := hb.get 1
  have b2 := hb.get 2
  have b3 := hb.get 3
  rcases hd with ⟨a, b, c⟩ | ⟨a, b, b1, b2, b3, b4, c⟩ | ⟨a, b, b1, b2, b3, b4, b5, b6, c, c1, c2⟩ | ⟨a, b, b1, b2, b3, b4, b5, b6, b7, b8, c, c1, c2⟩ | ⟨a, _⟩
  · have hs := l1v_spec xs hb 1 (by omega)
    have e : l1v xs 1 = (dec1 xs).1 := by rcases hs with ⟨hlen, hs⟩ | ⟨gv, hs⟩ <;> omega
    exact (h 1 (by omega) (by omega) (by rw [e]; omega)).elim
  · have hs := l1v_spec xs hb 2 (by omega)
    have e : l1v xs 2 = (dec1 xs).1 := by rcases hs with ⟨hlen, hs⟩ | ⟨gv, hs⟩ <;> omega
    exact (h 2 (by omega) (by omega) (by rw [e]; omega)).elim
  · have hs := l1v_spec xs hb 3 (by omega)
    have e : l1v xs 3 = (dec1 xs).1 := by rcases hs with ⟨hlen, hs⟩ | ⟨gv, hs⟩ <;> omega
    exact (h 3 (by omega) (by omega) (by rw [e]; omega)).elim
  · have hs := l1v_spec xs hb 4 (by omega)
    have e : l1v xs 4 = (dec1 xs).1 := by rcases hs with ⟨hlen, hs⟩ | ⟨gv, hs⟩ <;> omega
    exact (h 4 (by omega) (by omega) (by rw [e]; omega)).elim
  · exact a
theorem spec_need (v : Int) (w : World) : GivesV Try.prog 129 [.int .i64 v] w (.int .i64 (need v)) := (spec_l1need v w).mono fun e w' ⟨he, hb⟩ => ⟨_, he, rfl, St.ofBelow hb⟩
theorem ok_spec_DecodeText : callOK Try.prog 97 = true := by kernel_rfl
theorem spec_DecodeText {bs : List Int} (hb : byteOK bs) {A : Option Addr} {n c : Nat} (hl : n ≤ 4294967296) {W : World} (hx : Rd W (.slice A n c) 1 n (bs.map (.int .u8))) :
    Calls Try.prog 97 #[.slice A n c] W fun e w => ∃ x, e = .returned (.tuple #[x, .int .i64 (decP (ptsF bs bs.length 0) []).2.1, .int .i64 (decP (ptsF bs bs.length 0) []).2.2]) ∧ OwnI w W.heap.size x (decP (ptsF bs bs.length 0) []).1 ∧ Below W.heap.size W w := by
  have H := ((St.enter W).ro0 rfl hx).rowNil (e := 3) (sz := 1)
  obtain rfl : n = bs.length := by have := hx.len; simpa using this.symm
  obtain ⟨r, hr⟩ : ∃ r, decP (ptsF bs bs.length 0) [] = r := ⟨_, rfl⟩
  rw [hr]
  refine calls_of_vcV (args := [.slice A bs.length c]) Try.func97 rfl (by kernel_rfl) (Nat.le_of_ble_eq_true rfl) ?_
  refine loopV (by kernel_rfl) (fun m e w => e 0 = .slice A bs.length c ∧ ∃ (i : Nat) (v : Value) (acc : List Int) (f : Nat), e 6 = .int .i64 i ∧ e 5 = v ∧ i + m = bs.length ∧ m ≤ f ∧ acc.length ≤ i ∧ decP (ptsF bs f i) acc = r ∧ St W.heap.size W w [.rowI v acc, .roB (.slice A bs.length c) bs]) bs.length
    ⟨rfl, 0, _, [], bs.length, rfl, rfl, by omega, Nat.le_refl _, by simp, hr, H⟩ ?_
  rintro m e w ⟨h0, i, v, acc, f, h6, h5, him, hf, hal, hr, H⟩
  rw [Env.three h0 h6 h5]
  refine ifB (fun h => ?_) (fun h => ?_)
  case refine_2 =>
    have e1 : ptsF bs f i = [] := by cases f with
      | zero => rfl
      | succ f => unfold ptsF; rw [if_neg (by omega)]
    rw [e1] at hr
    simp only [decP] at hr
    subst hr
    exact Exists.intro v (And.intro rfl (And.intro (H.own 0 rfl) H.below))
  have hil : i < bs.length := by omega
  obtain ⟨f, rfl⟩ : ∃ f', f = f' + 1 := ⟨f - 1, by omega⟩
  have hbd := hb.drop i
  have hne : 0 < (bs.drop i).length := by rw [List.length_drop]; omega
  have hd := dec1_ok (bs.drop i) hbd hne
  have hdl : (bs.drop i).length = bs.length - i := List.length_drop
  have hfd := found_dec (bs.drop i) hbd hne
  have hnd := none_dec (bs.drop i) hbd hne
  unfold ptsF at hr
  rw [if_pos hil] at hr
  generalize hdd : dec1 (bs.drop i) = d at *
  refine loopW (by kernel_rfl) (fun m e w => e 0 = .slice A bs.length c ∧ e 6 = .int .i64 i ∧ e 5 = v ∧ e 7 = .int .i64 0 ∧ ∃ n : Nat, e 8 = .int .i64 n ∧ n + m = 5 ∧ 1 ≤ n ∧ (∀ j : Nat, 1 ≤ j → j < n → ¬ (0 ≤ l1v (bs.drop i) j ∧ need (l1v (bs.drop i) j) = j)) ∧ St W.heap.size W w [.rowI v acc, .roB (.slice A bs.length c) bs])
    (fun id e w => id = 2 ∧ e 0 = .slice A bs.length c ∧ e 6 = .int .i64 i ∧ e 7 = .int .i64 d.2 ∧ ∃ v' acc', e 5 = v' ∧ acc' = (if d.2 = 0 then acc else acc ++ [d.1]) ∧ St W.heap.size W w [.rowI v' acc', .roB (.slice A bs.length c) bs]) 4
    ⟨rfl, rfl, rfl, rfl, 1, rfl, by omega, by omega, fun j h1 h2 => by omega, H⟩ ?_ ?_
  · rintro m e w ⟨h0, h6, h5, h7, n, h8, hn, hn1, hno, H⟩
    rw [Env.five h0 h6 h5 h7 h8]
    refine ifB (fun h => ?_) (fun h => ?_)
    case refine_2 =>
      have hz := hnd (fun j h1 h2 => hno j h1 (by omega))
      exact ⟨rfl, rfl, rfl, by rw [hz]; rfl, v, acc, rfl, by rw [if_pos hz], H⟩
    refine JoinV.mk ?_
    refine callV ok_l1value (spec_l1value (i := i) (n := n) hb (by omega) hil (by omega) (H.rd 1 rfl)) H fun w H => ?_
    refine cutG (fun e w => e 0 = .slice A bs.length c ∧ e 6 = .int .i64 i ∧ e 5 = v ∧ e 7 = .int .i64 0 ∧ e 8 = .int .i64 n ∧ e 9 = .int .i64 (l1v (bs.drop i) n) ∧ e 29 = .bool (decide (0 ≤ l1v (bs.drop i) n ∧ need (l1v (bs.drop i) n) = n)) ∧ St W.heap.size W w [.rowI v acc, .roB (.slice A bs.length c) bs]) ?_ ?_
    · repeat' first | (refine gY ?_) | (refine gNt ?_) | (refine gNf ?_) | (refine ifT ?_) | (refine ifF ?_) | (refine arN (by omega) ?_) | (refine ar64 (by omega) (by omega) ?_) | (refine ar32 (by omega) (by omega) ?_) | (refine ar8 (by omega) (by omega) ?_) | (refine div64 (by omega) (by omega) (by omega) ?_) | (refine rem0 (by omega) (by omega) ?_) | (refine drawR H fun w H => ?_) | (refine RegV.mk ?_) | (refine JoinV.mk ?_) | (refine callV ok_l1need (spec_need _ _) H fun w H => ?_) | (refine gT (fun h => ?_) (fun h => ?_) <;> first | (exfalso; omega) | skip) | (refine gF (fun h => ?_) (fun h => ?_) <;> first | (exfalso; omega) | skip) | (refine ifB (fun h => ?_) (fun h => ?_) <;> first | (exfalso; omega) | skip)
      all_goals refine ⟨rfl, rfl, rfl, rfl, rfl, rfl, congrArg Value.bool ?_, H⟩
      all_goals (rw [Bool.eq_iff_iff]; simp only [decide_eq_true_eq, Bool.false_eq_true, true_iff, iff_true, false_iff, iff_false]; omega)
    rintro e w ⟨h0, h6, h5, h7, h8, h9, h29, H⟩
    rw [Env.six h0 h6 h5 h7 h8 h9, Env.one h29]
    refine ifB (fun hq => ?_) (fun hq => ?_)
    · obtain ⟨e1, e2⟩ := hfd n (by omega) hq
      have hn0 := need_cases (l1v (bs.drop i) n)
      refine litI1 H fun v1 w H => ?_
      refine appSI H 1 rfl (H.rd 0 rfl) (by simp; omega) fun v2 w H => ?_
      refine ⟨rfl, rfl, rfl, by rw [e2]; rfl, v2, acc ++ [l1v (bs.drop i) n], rfl, by rw [if_neg (by omega), e1], H.sub [1, 2] (by decide)⟩
    · repeat' first | (refine gY ?_) | (refine gNt ?_) | (refine gNf ?_) | (refine ifT ?_) | (refine ifF ?_) | (refine arN (by omega) ?_) | (refine ar64 (by omega) (by omega) ?_) | (refine ar32 (by omega) (by omega) ?_) | (refine ar8 (by omega) (by omega) ?_) | (refine div64 (by omega) (by omega) (by omega) ?_) | (refine rem0 (by omega) (by omega) ?_) | (refine drawR H fun w H => ?_) | (refine RegV.mk ?_) | (refine JoinV.mk ?_) | (refine gT (fun h => ?_) (fun h => ?_) <;> first | (exfalso; omega) | skip) | (refine gF (fun h => ?_) (fun h => ?_) <;> first | (exfalso; omega) | skip) | (refine ifB (fun h => ?_) (fun h => ?_) <;> first | (exfalso; omega) | skip)
      refine Exists.intro (m - 1) (And.intro (by omega) (And.intro rfl (And.intro rfl (And.intro rfl (And.intro rfl ⟨n + 1, rfl, by omega, by omega, fun j h1 h2 => ?_, H⟩)))))
      by_cases hj : j = n
      · rw [hj]; exact hq
      · exact hno j h1 (by omega)
  · rintro id e w ⟨rfl, h0, h6, h7, v', acc', h5, ha, H⟩
    rw [Env.four h0 h6 h7 h5]
    refine ifB (fun hz => ?_) (fun hz => ?_)
    · rw [if_pos hz] at hr
      simp only [decP] at hr
      rw [if_pos (by decide)] at hr
      subst hr
      exact Exists.intro (.slice none 0 0) (And.intro rfl (And.intro (World.ownsRow_nil _ _ _ _) H.below))
    · rw [if_neg hz] at hr ha
      subst ha
      simp only [decP] at hr
      rw [if_neg (by omega)] at hr
      refine ar64 (by omega) (by omega) ?_
      have e2 : (i : Int) + d.2 = ((i + d.2.toNat : Nat) : Int) := by omega
      refine Exists.intro (m - d.2.toNat) (And.intro (by omega) (And.intro rfl ⟨i + d.2.toNat, v', acc ++ [d.1], f, vI e2, rfl, by omega, by omega, by rw [List.length_append, List.length_singleton]; omega, hr, H⟩))
theorem decP_len : ∀ (its : List (Int × Int)) (acc : List Int), (decP its acc).1.length ≤ acc.length + its.length
  | [], acc => by simp [decP]
  | (i, r) :: its, acc => by
    unfold decP
    by_cases hr : r < 0
    · rw [if_pos hr]; simp
    · rw [if_neg hr]
      have := decP_len its (acc ++ [r])
      simp only [List.length_append, List.length_cons, List.length_nil] at this ⊢; omega
theorem decP_cnt : ∀ (its : List (Int × Int)) (acc : List Int), cntP its acc.length = if (decP its acc).2.1 ≠ 0 then -1 else ((decP its acc).1.length : Int)
  | [], acc => by simp [cntP, decP]
  | (i, r) :: its, acc => by
    unfold cntP decP
    by_cases hr : r < 0
    · rw [if_pos hr, if_pos hr]; simp
    · rw [if_neg hr, if_neg hr]
      have := decP_cnt its (acc ++ [r])
      rw [List.length_append, List.length_singleton] at this
      rw [← this]; rfl
theorem ok_spec_TextWidth : callOK Try.prog 53 = true := by kernel_rfl
theorem spec_TextWidth {bs : List Int} (hb : byteOK bs) {A : Option Addr} {n c : Nat} (hl : n ≤ 4294967296) {W : World} (hx : Rd W (.slice A n c) 1 n (bs.map (.int .u8))) : GivesV Try.prog 53 [.slice A n c] W (.int .i64 (cntP (ptsF bs bs.length 0) 0)) := by
  have H := (St.enter W).ro0 rfl hx
  have hcnt := decP_cnt (ptsF bs bs.length 0) []
  obtain ⟨r, hr⟩ : ∃ r, decP (ptsF bs bs.length 0) [] = r := ⟨_, rfl⟩
  rw [hr] at hcnt
  have hcnt : cntP (ptsF bs bs.length 0) 0 = if r.2.1 ≠ 0 then -1 else (r.1.length : Int) := hcnt
  rw [hcnt]
  refine calls_of_vcV Try.func53 rfl (by kernel_rfl) (Nat.le_of_ble_eq_true rfl) ?_
  have hc := spec_DecodeText hb hl hx
  rw [hr] at hc
  refine callRow3 ok_spec_DecodeText hc H fun A2 c2 w H => ?_
  refine ifB (fun h => ?_) (fun h => ?_)
  · exact Exists.intro (.int .i64 (-1)) (And.intro rfl (And.intro (by rw [if_pos h]) H.none))
  · exact Exists.intro (.int .i64 r.1.length) (And.intro rfl (And.intro (by rw [if_neg h]) H.none))
/-! as the law's text wants them -/
def decW (xs : List Int) : List Int × Int × Int := decP (ptsF xs xs.length 0) []
theorem decW_len (xs : List Int) (hb : byteOK xs) : (decW xs).1.length ≤ xs.length := by
  have h1 := decP_len (ptsF xs xs.length 0) []
  have h2 := ptsF_len xs hb xs.length 0
  unfold decW; simp only [List.length_nil] at h1; omega
end Go.Proofs.YtpaklalfopfilaaE
/- What the reference's and the program's functions do that read numbers. -/
namespace Go.Proofs.YtpaklalfopfilaaE
open Go Go.RowKit Go.Proofs
set_option linter.unusedVariables false
set_option maxRecDepth 100000

theorem ok_l4digit : callOK Try.prog 141 = true := by kernel_rfl
theorem spec_l4digit (c : Int) (w : World) : Calls Try.prog 141 #[.int .i64 c] w fun e w' => ∃ v, e = .returned v ∧ v = .bool (digit c) ∧ Below w.heap.size w w' := by
  refine calls_of_vcR (args := [.int .i64 c]) Try.func141 rfl (by kernel_rfl) (Nat.le_of_ble_eq_true rfl) ?_
  repeat' first | refine gY ?_ | refine gNt ?_ | refine gNf ?_ | refine ifT ?_ | refine ifF ?_ | refine gT (fun _ => ?_) (fun _ => ?_) | refine gF (fun _ => ?_) (fun _ => ?_) | refine ifB (fun _ => ?_) (fun _ => ?_)
  all_goals
    refine Exists.intro _ (And.intro rfl (And.intro (congrArg Value.bool ?_) (Below.refl _ _)))
    unfold digit
    symm
    first
      | (rw [decide_eq_true_eq]; omega)
      | (rw [decide_eq_false_iff_not]; omega)
      | (rw [decide_eq_decide]; omega)
theorem ok_l4hex : callOK Try.prog 140 = true := by kernel_rfl
theorem spec_l4hex (c : Int) (w : World) : Calls Try.prog 140 #[.int .i64 c] w fun e w' => ∃ v, e = .returned v ∧ v = .int .i64 (hexv c) ∧ Below w.heap.size w w' := by
  refine calls_of_vcR (args := [.int .i64 c]) Try.func140 rfl (by kernel_rfl) (Nat.le_of_ble_eq_true rfl) ?_
  refine callR ok_l4digit (spec_l4digit c w) ?_
  rintro _ w1 ⟨rfl, hB⟩
  refine eB (p := 48 ≤ c ∧ c ≤ 57) rfl (fun h => ?_) (fun h => ?_)
  · refine Exists.intro _ (And.intro rfl (And.intro (vI ?_) hB))
    rw [w64k _ (by omega) (by omega)]; unfold hexv; rw [if_pos h]
  repeat' first | refine gY ?_ | refine gNt ?_ | refine gNf ?_ | refine ifT ?_ | refine ifF ?_ | refine gT (fun _ => ?_) (fun _ => ?_) | refine gF (fun _ => ?_) (fun _ => ?_) | refine ifB (fun _ => ?_) (fun _ => ?_)
  all_goals
    refine Exists.intro _ (And.intro rfl (And.intro (vI ?_) hB))
    unfold hexv
    rw [if_neg h]
    first
      | (rw [w64k (c - _) (by omega) (by omega), w64k _ (by omega) (by omega)]; (repeat' split) <;> omega)
      | ((repeat' split) <;> omega)
theorem ok_l4allDigits : callOK Try.prog 132 = true := by kernel_rfl
theorem spec_l4allDigits (xs : List Int) (hb : byteOK xs) (hl : xs.length ≤ 4294967296) (w : World) : Calls Try.prog 132 #[.string (strOfNums xs)] w fun e w' => ∃ v, e = .returned v ∧ v = .bool (allDig xs) ∧ Below w.heap.size w w' := by
  refine calls_of_vcR (args := [.string (strOfNums xs)]) Try.func132 rfl (by kernel_rfl) (Nat.le_of_ble_eq_true rfl) ?_
  refine loopR (by kernel_rfl) (fun n e w' => e 0 = .string (strOfNums xs) ∧ ∃ j : Nat, e 3 = .int .i64 j ∧ j + n = xs.length ∧ allDig xs = allDig (xs.drop j) ∧ Below w.heap.size w w') xs.length
    ⟨rfl, 0, rfl, by omega, by simp, Below.refl _ _⟩ ?_
  rintro n e w1 ⟨h0, j, h3, hj, hg, hB⟩
  rw [Env.two h0 h3]
  refine ifB (p := (j : Int) < (strOfNums xs).size) (fun h => ?_) (fun h => ?_)
  · rw [strOfNums_size] at h
    have hjl : j < xs.length := by omega
    have hd : xs.drop j = xs.getD j 0 :: xs.drop (j + 1) := drop_cons xs j hjl
    have hbj := hb.get j
    refine strS hb (by omega) h ?_
    refine callR ok_l4digit (spec_l4digit (IntKind.i64.wrap (xs.getD j 0)) w1) ?_
    rintro _ w2 ⟨rfl, hB2⟩
    have ew : IntKind.i64.wrap (xs.getD j 0) = xs.getD j 0 := w64k _ (by omega) (by omega)
    refine eB (p := ¬ digit (xs.getD j 0) = true) (by rw [ew]; cases digit (xs.getD j 0) <;> rfl) (fun h1 => ?_) (fun h1 => ?_)
    · refine Exists.intro _ (And.intro rfl (And.intro (congrArg Value.bool ?_) (below_trans hB hB2)))
      have h1 : digit (xs.getD j 0) = false := by simpa using h1
      rw [hg, hd, allDig_cons, h1]; rfl
    · have h1 : digit (xs.getD j 0) = true := by simpa using h1
      refine Exists.intro (n - 1) (And.intro (by omega) (And.intro rfl ⟨j + 1, vI ?_, by omega, ?_, below_trans hB hB2⟩))
      · rw [w64k _ (by omega) (by omega)]; omega
      · rw [hg, hd, allDig_cons, h1]; rfl
  · rw [strOfNums_size] at h
    refine Exists.intro _ (And.intro rfl (And.intro (congrArg Value.bool ?_) hB))
    rw [hg, List.drop_of_length_le (by omega)]; rfl
theorem ok_l4allHex : callOK Try.prog 130 = true := by kernel_rfl
theorem hexs_cons (c : Int) (xs : List Int) : hexs (c :: xs) = (decide (0 ≤ hexv c) && hexs xs) := by simp [hexs]
theorem spec_l4allHex (xs : List Int) (hb : byteOK xs) (hl : xs.length ≤ 4294967296) (hpos : 0 < xs.length) (w : World) : Calls Try.prog 130 #[.string (strOfNums xs)] w fun e w' => ∃ v, e = .returned v ∧ v = .bool (hexs xs) ∧ Below w.heap.size w w' := by
  refine calls_of_vcR (args := [.string (strOfNums xs)]) Try.func130 rfl (by kernel_rfl) (Nat.le_of_ble_eq_true rfl) ?_
  refine loopR (by kernel_rfl) (fun n e w' => e 0 = .string (strOfNums xs) ∧ ∃ j : Nat, e 3 = .int .i64 j ∧ j + n = xs.length ∧ hexs xs = hexs (xs.drop j) ∧ Below w.heap.size w w') xs.length
    ⟨rfl, 0, rfl, by omega, by simp, Below.refl _ _⟩ ?_
  rintro n e w1 ⟨h0, j, h3, hj, hg, hB⟩
  rw [Env.two h0 h3]
  refine ifB (p := (j : Int) < (strOfNums xs).size) (fun h => ?_) (fun h => ?_)
  · rw [strOfNums_size] at h
    have hjl : j < xs.length := by omega
    have hd : xs.drop j = xs.getD j 0 :: xs.drop (j + 1) := drop_cons xs j hjl
    have hbj := hb.get j
    refine strS hb (by omega) h ?_
    refine callR ok_l4hex (spec_l4hex (IntKind.i64.wrap (xs.getD j 0)) w1) ?_
    rintro _ w2 ⟨rfl, hB2⟩
    have ew : IntKind.i64.wrap (xs.getD j 0) = xs.getD j 0 := w64k _ (by omega) (by omega)
    refine ifB (p := hexv (IntKind.i64.wrap (xs.getD j 0)) < 0) (fun h1 => ?_) (fun h1 => ?_)
    · refine Exists.intro _ (And.intro rfl (And.intro (congrArg Value.bool ?_) (below_trans hB hB2)))
      rw [ew] at h1
      rw [hg, hd, hexs_cons, decide_eq_false (by omega)]; rfl
    · rw [ew] at h1
      refine Exists.intro (n - 1) (And.intro (by omega) (And.intro rfl ⟨j + 1, vI ?_, by omega, ?_, below_trans hB hB2⟩))
      · rw [w64k _ (by omega) (by omega)]; omega
      · rw [hg, hd, hexs_cons, decide_eq_true (by omega)]; rfl
  · rw [strOfNums_size] at h
    refine Exists.intro _ (And.intro rfl (And.intro (congrArg Value.bool ?_) hB))
    rw [hg, List.drop_of_length_le (by omega), strOfNums_size]
    exact decide_eq_true (by omega)
theorem bne_dec (a b : Int) : (a != b) = decide (a ≠ b) := by by_cases h : a = b <;> simp [h]
def PtOK (p : Int → Bool) (xs : List Int) (j : Nat) (pt : Int) : Prop :=
  (pt = -1 ∧ ∀ i, i < j → p (xs.getD i 0) = false) ∨ (∃ k : Nat, pt = k ∧ k < j ∧ (∀ i, i < k → p (xs.getD i 0) = false) ∧ p (xs.getD k 0) = true)
theorem ok_l4mantissa : callOK Try.prog 131 = true := by kernel_rfl
theorem spec_l4mantissa (xs : List Int) (hb : byteOK xs) (hl : xs.length ≤ 4294967296) (w : World) : Calls Try.prog 131 #[.string (strOfNums xs)] w fun e w' => ∃ v, e = .returned v ∧ v = .bool (mant xs) ∧ Below w.heap.size w w' := by
  refine calls_of_vcR (args := [.string (strOfNums xs)]) Try.func131 rfl (by kernel_rfl) (Nat.le_of_ble_eq_true rfl) ?_
  refine loopJ (by kernel_rfl) (fun n e w' => e 0 = .string (strOfNums xs) ∧ ∃ (j : Nat) (pt : Int), e 4 = .int .i64 j ∧ e 3 = .int .i64 pt ∧ j + n = xs.length ∧ PtOK isDot xs j pt ∧ Below w.heap.size w w')
    (fun id e w' => id = 0 ∧ e 0 = .string (strOfNums xs) ∧ ∃ pt : Int, e 3 = .int .i64 pt ∧ PtOK isDot xs xs.length pt ∧ Below w.heap.size w w') xs.length
    ⟨rfl, 0, -1, rfl, rfl, by omega, .inl ⟨rfl, fun i hi => by omega⟩, Below.refl _ _⟩ ?_ ?_
  · rintro n e w1 ⟨h0, j, pt, h4, h3, hj, hp, hB⟩
    rw [Env.three h0 h4 h3]
    refine ifB (p := (j : Int) < (strOfNums xs).size) (fun h => ?_) (fun h => ?_)
    case refine_2 =>
      rw [strOfNums_size] at h
      have : j = xs.length := by omega
      subst this
      exact ⟨rfl, rfl, pt, rfl, hp, hB⟩
    rw [strOfNums_size] at h
    have hjl : j < xs.length := by omega
    have hbj := hb.get j
    refine strS hb (by omega) h ?_
    have hw1 : IntKind.i64.wrap ((j : Int) + 1) = ((j + 1 : Nat) : Int) := by rw [w64k _ (by omega) (by omega)]; omega
    refine gT (p := xs.getD (j : Int).toNat 0 = 46) (fun h1 => ?_) (fun h1 => ?_)
    · have h1 : isDot (xs.getD j 0) = true := by unfold isDot; exact decide_eq_true h1
      refine ifB (p := pt < 0) (fun h2 => ?_) (fun h2 => ?_)
      · refine Exists.intro (n - 1) (And.intro (by omega) (And.intro rfl ⟨j + 1, j, vI hw1, rfl, by omega, ?_, hB⟩))
        rcases hp with ⟨_, hp⟩ | ⟨k, hk, _⟩
        · exact .inr ⟨j, rfl, by omega, hp, h1⟩
        · omega
      · refine Exists.intro (n - 1) (And.intro (by omega) (And.intro rfl ⟨j + 1, pt, vI hw1, rfl, by omega, ?_, hB⟩))
        rcases hp with ⟨hp, _⟩ | ⟨k, hk, hkj, hp⟩
        · omega
        · exact .inr ⟨k, hk, by omega, hp⟩
    · have h1 : isDot (xs.getD j 0) = false := by unfold isDot; exact decide_eq_false h1
      refine ifF ?_
      refine Exists.intro (n - 1) (And.intro (by omega) (And.intro rfl ⟨j + 1, pt, vI hw1, rfl, by omega, ?_, hB⟩))
      rcases hp with ⟨hp, hq⟩ | ⟨k, hk, hkj, hp⟩
      · refine .inl ⟨hp, fun i hi => ?_⟩
        by_cases hij : i = j
        · rw [hij]; exact h1
        · exact hq i (by omega)
      · exact .inr ⟨k, hk, by omega, hp⟩
  · rintro id e w1 ⟨rfl, h0, pt, h3, hp, hB⟩
    rw [Env.two h0 h3]
    rcases hp with ⟨rfl, hp⟩ | ⟨k, rfl, hk, hp, hq⟩
    · have hc := cut_no isDot xs hp
      have hm : mant xs = (allDig xs && allDig [] && (if xs = [] then false && decide (([] : List Int) ≠ []) else decide (xs = [48]) || decide (xs.getD 0 0 ≠ 48))) := by unfold mant; rw [hc]; rfl
      have hwb := hb
      have hwl := hl
      have hpb := byteOK.nil
      have hpl : ([] : List Int).length ≤ 4294967296 := by simp
      refine ifB (p := (-1 : Int) ≥ 0) (fun h => absurd h (by omega)) (fun _ => ?_)
      refine callR ok_l4allDigits (spec_l4allDigits xs hwb hwl w1) ?_
      rintro _ w2 ⟨rfl, hB2⟩
      refine eF (p := ¬ allDig xs = true) (by cases allDig xs <;> rfl) (fun h1 => ?_) (fun h1 => ?_)
      · have h1 : allDig xs = true := by simpa using h1
        refine callR ok_l4allDigits (spec_l4allDigits ([] : List Int) hpb hpl w2) ?_
        rintro _ w3 ⟨rfl, hB3⟩
        have hB' := below_trans hB (below_trans hB2 hB3)
        refine eB (p := ¬ allDig ([] : List Int) = true) (by cases allDig ([] : List Int) <;> rfl) (fun h2 => ?_) (fun h2 => ?_)
        · have h2 : allDig ([] : List Int) = false := by simpa using h2
          refine Exists.intro _ (And.intro rfl (And.intro (congrArg Value.bool ?_) hB'))
          rw [hm, h2]; simp
        · have h2 : allDig ([] : List Int) = true := by simpa using h2
          rw [h1, h2, Bool.true_and, Bool.true_and] at hm
          refine eB (str_eq [] hwb byteOK.nil rfl) (fun h3 => ?_) (fun h3 => ?_)
          · rw [if_pos h3] at hm
            refine gT (p := (-1 : Int) ≥ 0) (fun h4 => absurd h4 (by omega)) (fun h4 => ?_)
            refine Exists.intro _ (And.intro rfl (And.intro (congrArg Value.bool ?_) hB'))
            rw [hm, Bool.false_and]
          · rw [if_neg h3] at hm
            refine eF (str_eq [48] hwb (fun x hx => by simp at hx; omega) rfl) (fun h4 => ?_) (fun h4 => ?_)
            · refine strS hwb (by omega) (by have := List.length_pos_iff.2 h3; omega) ?_
              refine Exists.intro _ (And.intro rfl (And.intro (congrArg Value.bool ?_) hB'))
              rw [hm, decide_eq_false h4, Bool.false_or]
              exact bne_dec _ _
            · refine Exists.intro _ (And.intro rfl (And.intro (congrArg Value.bool ?_) hB'))
              rw [hm, decide_eq_true h4, Bool.true_or]
      · have h1 : allDig xs = false := by simpa using h1
        refine ifT ?_
        refine Exists.intro _ (And.intro rfl (And.intro (congrArg Value.bool ?_) (below_trans hB hB2)))
        rw [hm, h1]; simp
    · have hc := cut_at isDot xs k hk hp hq
      have hm : mant xs = (allDig (xs.take k) && allDig (xs.drop (k + 1)) && (if xs.take k = [] then true && decide (xs.drop (k + 1) ≠ []) else decide (xs.take k = [48]) || decide ((xs.take k).getD 0 0 ≠ 48))) := by unfold mant; rw [hc]; rfl
      have hwb := hb.take k
      have hwl : (xs.take k).length ≤ 4294967296 := by rw [List.length_take]; omega
      have hpb := hb.drop (k + 1)
      have hpl : (xs.drop (k + 1)).length ≤ 4294967296 := by rw [List.length_drop]; omega
      have hk1 : IntKind.i64.wrap ((k : Int) + 1) = ((k + 1 : Nat) : Int) := by rw [w64k _ (by omega) (by omega)]; omega
      refine ifB (p := (k : Int) ≥ 0) (fun _ => ?_) (fun h => absurd h (by omega))
      refine cutS 0 k rfl rfl (by omega) (fun _ => by rw [strOfNums_size]; omega) ?_
      refine letV (b := .string (strOfNums (xs.take k))) (by rw [str_cut, List.drop_zero]) ?_
      refine cutS (k + 1) xs.length hk1 (congrArg Nat.cast (strOfNums_size xs)) (by omega) (fun h => by cases h) ?_
      refine letV (b := .string (strOfNums (xs.drop (k + 1)))) (by rw [str_cut, List.take_length]) ?_
      refine callR ok_l4allDigits (spec_l4allDigits (xs.take k) hwb hwl w1) ?_
      rintro _ w2 ⟨rfl, hB2⟩
      refine eF (p := ¬ allDig (xs.take k) = true) (by cases allDig (xs.take k) <;> rfl) (fun h1 => ?_) (fun h1 => ?_)
      · have h1 : allDig (xs.take k) = true := by simpa using h1
        refine callR ok_l4allDigits (spec_l4allDigits (xs.drop (k + 1)) hpb hpl w2) ?_
        rintro _ w3 ⟨rfl, hB3⟩
        have hB' := below_trans hB (below_trans hB2 hB3)
        refine eB (p := ¬ allDig (xs.drop (k + 1)) = true) (by cases allDig (xs.drop (k + 1)) <;> rfl) (fun h2 => ?_) (fun h2 => ?_)
        · have h2 : allDig (xs.drop (k + 1)) = false := by simpa using h2
          refine Exists.intro _ (And.intro rfl (And.intro (congrArg Value.bool ?_) hB'))
          rw [hm, h2]; simp
        · have h2 : allDig (xs.drop (k + 1)) = true := by simpa using h2
          rw [h1, h2, Bool.true_and, Bool.true_and] at hm
          refine eB (str_eq [] hwb byteOK.nil rfl) (fun h3 => ?_) (fun h3 => ?_)
          · rw [if_pos h3] at hm
            refine gT (p := (k : Int) ≥ 0) (fun h4 => ?_) (fun h4 => absurd h4 (by omega))
            refine Exists.intro _ (And.intro rfl (And.intro (congrArg Value.bool ?_) hB'))
            rw [hm, Bool.true_and]
            exact str_ne [] hpb byteOK.nil rfl
          · rw [if_neg h3] at hm
            refine eF (str_eq [48] hwb (fun x hx => by simp at hx; omega) rfl) (fun h4 => ?_) (fun h4 => ?_)
            · refine strS hwb (by omega) (by have := List.length_pos_iff.2 h3; omega) ?_
              refine Exists.intro _ (And.intro rfl (And.intro (congrArg Value.bool ?_) hB'))
              rw [hm, decide_eq_false h4, Bool.false_or]
              exact bne_dec _ _
            · refine Exists.intro _ (And.intro rfl (And.intro (congrArg Value.bool ?_) hB'))
              rw [hm, decide_eq_true h4, Bool.true_or]
      · have h1 : allDig (xs.take k) = false := by simpa using h1
        refine ifT ?_
        refine Exists.intro _ (And.intro rfl (And.intro (congrArg Value.bool ?_) (below_trans hB hB2)))
        rw [hm, h1]; simp
end Go.Proofs.YtpaklalfopfilaaE
/- What the program's functions do that read numbers. -/
namespace Go.Proofs.YtpaklalfopfilaaE
open Go Go.RowKit Go.Proofs
set_option linter.unusedVariables false
set_option maxRecDepth 100000

def sortN (c : Int) : Int := if (97 ≤ c ∧ c ≤ 122) ∨ (65 ≤ c ∧ c ≤ 90) ∨ c = 95 ∨ c = 36 then 1 else if 48 ≤ c ∧ c ≤ 57 then 2 else if c = 46 ∨ c = 43 ∨ c = 45 then 3 else 0
theorem ok_sortOf : callOK Try.prog 136 = true := by kernel_rfl
theorem impl_sortOf (c : Int) (w : World) : GivesV Try.prog 136 [.int .i32 c] w (.int .i64 (sortN c)) := by
  have H := St.enter w
  refine calls_of_vcV Try.func136 rfl (by kernel_rfl) (Nat.le_of_ble_eq_true rfl) ?_
  repeat' first | (refine gY ?_) | (refine gNt ?_) | (refine gNf ?_) | (refine ifT ?_) | (refine ifF ?_) | (refine arN (by omega) ?_) | (refine ar64 (by omega) (by omega) ?_) | (refine ar32 (by omega) (by omega) ?_) | (refine ar8 (by omega) (by omega) ?_) | (refine div64 (by omega) (by omega) (by omega) ?_) | (refine rem0 (by omega) (by omega) ?_) | (refine drawR H fun w H => ?_) | (refine RegV.mk ?_) | (refine JoinV.mk ?_) | (refine gT (fun h => ?_) (fun h => ?_) <;> first | (exfalso; omega) | skip) | (refine gF (fun h => ?_) (fun h => ?_) <;> first | (exfalso; omega) | skip) | (refine ifB (fun h => ?_) (fun h => ?_) <;> first | (exfalso; omega) | skip)
  all_goals
    refine Exists.intro _ (And.intro rfl (And.intro (vI ?_) H))
    unfold sortN
    (repeat' split) <;> first | rfl | omega
theorem ok_hexDigit : callOK Try.prog 116 = true := by kernel_rfl
theorem impl_hexDigit (c : Int) (w : World) : GivesV Try.prog 116 [.int .i32 c] w (.int .i64 (hexv c)) := by
  have H := St.enter w
  refine calls_of_vcV Try.func116 rfl (by kernel_rfl) (Nat.le_of_ble_eq_true rfl) ?_
  repeat' first | (refine gY ?_) | (refine gNt ?_) | (refine gNf ?_) | (refine ifT ?_) | (refine ifF ?_) | (refine arN (by omega) ?_) | (refine ar64 (by omega) (by omega) ?_) | (refine ar32 (by omega) (by omega) ?_) | (refine ar8 (by omega) (by omega) ?_) | (refine div64 (by omega) (by omega) (by omega) ?_) | (refine rem0 (by omega) (by omega) ?_) | (refine drawR H fun w H => ?_) | (refine RegV.mk ?_) | (refine JoinV.mk ?_) | (refine gT (fun h => ?_) (fun h => ?_) <;> first | (exfalso; omega) | skip) | (refine gF (fun h => ?_) (fun h => ?_) <;> first | (exfalso; omega) | skip) | (refine ifB (fun h => ?_) (fun h => ?_) <;> first | (exfalso; omega) | skip)
  all_goals
    refine Exists.intro _ (And.intro rfl (And.intro (vI ?_) H))
    unfold hexv
    (repeat' split) <;> omega
theorem sortN_digit (c : Int) : decide (sortN c = 2) = digit c := by
  unfold sortN digit
  rw [decide_eq_decide]
  (repeat' split) <;> omega
theorem dig_cons (c : Int) (r : List Int) : dig (c :: r) = if digit c then c :: dig r else [] := by unfold dig; rw [List.takeWhile_cons]
theorem dig_le (xs : List Int) : (dig xs).length ≤ xs.length := (List.takeWhile_prefix _).length_le
theorem ok_digits : callOK Try.prog 117 = true := by kernel_rfl
theorem impl_digits {xs : List Int} (hb : byteOK xs) {A : Option Addr} {n c : Nat} (hl : n ≤ 4294967296) {w : World} (hx : Rd w (.slice A n c) 1 n (xs.map (.int .u8))) : GivesV Try.prog 117 [.slice A n c] w (.int .i64 (dig xs).length) := by
  have H := (St.enter w).ro0 rfl hx
  obtain rfl : n = xs.length := by have := hx.len; simpa using this.symm
  refine calls_of_vcV Try.func117 rfl (by kernel_rfl) (Nat.le_of_ble_eq_true rfl) ?_
  refine loopV (by kernel_rfl) (fun n e w' => e 0 = .slice A xs.length c ∧ ∃ j : Nat, e 3 = .int .i64 j ∧ j + n = xs.length ∧ (dig xs).length = j + (dig (xs.drop j)).length ∧ St w.heap.size w w' [.roB (.slice A xs.length c) xs]) xs.length
    ⟨rfl, 0, rfl, by omega, by simp, H⟩ ?_
  rintro n e w ⟨h0, j, h3, hj, hd, H⟩
  rw [Env.two h0 h3]
  have hbj := hb.get j
  have hd1 : j < xs.length → xs.drop j = xs.getD j 0 :: xs.drop (j + 1) := drop_cons xs j
  have hs := sortN_digit (xs.getD j 0)
  repeat' first | (refine gY ?_) | (refine gNt ?_) | (refine gNf ?_) | (refine ifT ?_) | (refine ifF ?_) | (refine arN (by omega) ?_) | (refine ar64 (by omega) (by omega) ?_) | (refine ar32 (by omega) (by omega) ?_) | (refine ar8 (by omega) (by omega) ?_) | (refine div64 (by omega) (by omega) (by omega) ?_) | (refine rem0 (by omega) (by omega) ?_) | (refine drawR H fun w H => ?_) | (refine RegV.mk ?_) | (refine JoinV.mk ?_) | (refine idxN (i := 0) (H.rd 0 rfl) (by omega) fun b off hc => ?_) | (refine idxN (i := 1) (H.rd 0 rfl) (by omega) fun b off hc => ?_) | (refine idxN (i := 2) (H.rd 0 rfl) (by omega) fun b off hc => ?_) | (refine idxN (i := 3) (H.rd 0 rfl) (by omega) fun b off hc => ?_) | (refine idxN (H.rd 0 rfl) (by omega) fun b off hc => ?_) | (refine idxI (H.rd 0 rfl) (by omega) (by omega) fun b off hc => ?_) | (refine loadS hc ?_) | (refine callV ok_sortOf (impl_sortOf _ _) H fun w H => ?_) | (refine Exists.intro (n - 1) (And.intro (by omega) (And.intro rfl ⟨j + 1, rfl, by omega, ?_, H⟩))) | (refine Exists.intro _ (And.intro rfl (And.intro (vI ?_) H.none))) | (refine gT (fun h => ?_) (fun h => ?_) <;> first | (exfalso; omega) | skip) | (refine gF (fun h => ?_) (fun h => ?_) <;> first | (exfalso; omega) | skip) | (refine ifB (fun h => ?_) (fun h => ?_) <;> first | (exfalso; omega) | skip)
  · rw [hd, hd1 (by omega), dig_cons, ← hs, if_pos (by simpa using h)]; simp; omega
  · rw [hd, hd1 (by omega), dig_cons, ← hs, if_neg (by simpa using h)]; simp
  · rw [hd, List.drop_of_length_le (by omega)]; simp [dig]
theorem allDig_iff (xs : List Int) : allDig xs = decide ((dig xs).length = xs.length) := by
  induction xs with
  | nil => rfl
  | cons c r ih =>
    rw [allDig_cons, dig_cons, ih]
    cases digit c <;> simp
def tailR (ys : List Int) : Bool := match ys with | [] => true | c :: r => if isE c then expo r else false
theorem decI_def (xs : List Int) : decI xs = if (dig xs).length > 1 ∧ xs.getD 0 0 = 48 then false else
    let r := xs.drop (dig xs).length
    if r.length > 0 ∧ r.getD 0 0 = 46 then (if (dig xs).length + (dig (r.drop 1)).length = 0 then false else tailR (r.drop (1 + (dig (r.drop 1)).length)))
    else if (dig xs).length = 0 then false else tailR r := by
  unfold decI
  split
  · rfl
  · cases h : xs.drop (dig xs).length with
    | nil => simp [tailR]
    | cons c r =>
      by_cases hc : c = 46
      · subst hc
        simp only [List.length_cons, List.getD_cons_zero, List.drop_succ_cons, List.drop_zero, Nat.add_comm 1]
        simp only [if_true, tailI, tailR, gt_iff_lt, Nat.zero_lt_succ, and_self]
        rfl
      · simp [hc, tailI, tailR]
theorem byteOK_inf : byteOK wordInf := fun x hx => by simp [wordInf] at hx; omega
theorem byteOK_nan : byteOK wordNaN := fun x hx => by simp [wordNaN] at hx; omega
theorem unsign_drop (ys : List Int) : unsign ys = if 0 < ys.length ∧ (ys.getD 0 0 = 43 ∨ ys.getD 0 0 = 45) then ys.drop 1 else ys := by
  cases ys with
  | nil => simp [unsign]
  | cons c r => simp [unsign]
theorem unsign_len (ys : List Int) : (unsign ys).length ≤ ys.length := by
  rw [unsign_drop]; split <;> simp
theorem unsign_byte {ys : List Int} (h : byteOK ys) : byteOK (unsign ys) := by
  rw [unsign_drop]; split
  · exact h.drop 1
  · exact h
theorem ok_IsNumber : callOK Try.prog 74 = true := by kernel_rfl
theorem impl_IsNumber {xs : List Int} (hb : byteOK xs) {A : Option Addr} {n c : Nat} (hl : n ≤ 4294967296) {W : World} (hx : Rd W (.slice A n c) 1 n (xs.map (.int .u8))) : GivesV Try.prog 74 [.slice A n c] W (.bool (numI xs)) := by
  have H := (St.enter W).ro0 rfl hx
  obtain rfl : n = xs.length := by have := hx.len; simpa using this.symm
  refine calls_of_vcV Try.func74 rfl (by kernel_rfl) (Nat.le_of_ble_eq_true rfl) ?_
  refine joinV (fun e w => ∃ A n c, e 0 = .slice A n c ∧ St W.heap.size W w [.ro (.slice A n c) 1 n ((unsign xs).map (.int .u8))]) rfl ?_ ?_
  · have e := unsign_drop xs
    repeat' first | (refine gY ?_) | (refine gNt ?_) | (refine gNf ?_) | (refine ifT ?_) | (refine ifF ?_) | (refine arN (by omega) ?_) | (refine ar64 (by omega) (by omega) ?_) | (refine ar32 (by omega) (by omega) ?_) | (refine ar8 (by omega) (by omega) ?_) | (refine div64 (by omega) (by omega) (by omega) ?_) | (refine rem0 (by omega) (by omega) ?_) | (refine drawR H fun w H => ?_) | (refine RegV.mk ?_) | (refine JoinV.mk ?_) | (refine idxN (i := 0) (H.rd 0 rfl) (by omega) fun b off hc => ?_) | (refine idxN (i := 1) (H.rd 0 rfl) (by omega) fun b off hc => ?_) | (refine idxN (i := 2) (H.rd 0 rfl) (by omega) fun b off hc => ?_) | (refine idxN (i := 3) (H.rd 0 rfl) (by omega) fun b off hc => ?_) | (refine idxN (H.rd 0 rfl) (by omega) fun b off hc => ?_) | (refine idxI (H.rd 0 rfl) (by omega) (by omega) fun b off hc => ?_) | (refine loadS hc ?_) | (refine dropR (l := 1) H 0 rfl rfl (by omega) fun A' H => ?_) | (refine gT (fun h => ?_) (fun h => ?_) <;> first | (exfalso; omega) | skip) | (refine gF (fun h => ?_) (fun h => ?_) <;> first | (exfalso; omega) | skip) | (refine ifB (fun h => ?_) (fun h => ?_) <;> first | (exfalso; omega) | skip)
    all_goals first
      | (rw [if_pos ⟨by omega, by omega⟩] at e; rw [e]; exact ⟨_, _, _, rfl, H.sub [0] (by decide)⟩)
      | (rw [if_neg (by omega)] at e; rw [e]; exact ⟨_, _, _, rfl, H⟩)
  rintro e w ⟨A, n, c, h0, H⟩
  rw [Env.one h0]
  have hlu := unsign_len xs
  have hbu : byteOK (unsign xs) := unsign_byte hb
  unfold numI
  generalize unsign xs = ys at *
  obtain rfl : n = ys.length := by have := (H.rd 0 rfl).len; simpa using this.symm
  have hsz := strOfNums_size ys
  refine joinV (fun e w => e 0 = .slice A ys.length c ∧ ¬ (ys = wordInf ∨ ys = wordNaN) ∧ isHexNum ys = false ∧ St W.heap.size W w [.roB (.slice A ys.length c) ys]) rfl ?_ ?_
  · refine convB (H.rd 0 rfl) ?_
    refine joinV (fun e w => e 0 = .slice A ys.length c ∧ e 3 = .string (strOfNums ys) ∧ e 27 = .bool (decide (ys = wordInf ∨ ys = wordNaN)) ∧ St W.heap.size W w [.roB (.slice A ys.length c) ys]) rfl ?_ ?_
    · repeat' first | (refine gY ?_) | (refine gNt ?_) | (refine gNf ?_) | (refine ifT ?_) | (refine ifF ?_) | (refine arN (by omega) ?_) | (refine ar64 (by omega) (by omega) ?_) | (refine ar32 (by omega) (by omega) ?_) | (refine ar8 (by omega) (by omega) ?_) | (refine div64 (by omega) (by omega) (by omega) ?_) | (refine rem0 (by omega) (by omega) ?_) | (refine drawR H fun w H => ?_) | (refine RegV.mk ?_) | (refine JoinV.mk ?_) | (refine strE (ys := wordInf) hbu byteOK_inf rfl ?_) | (refine strE (ys := wordNaN) hbu byteOK_nan rfl ?_) | (refine gT (fun h => ?_) (fun h => ?_) <;> first | (exfalso; omega) | skip) | (refine gF (fun h => ?_) (fun h => ?_) <;> first | (exfalso; omega) | skip) | (refine ifB (fun h => ?_) (fun h => ?_) <;> first | (exfalso; omega) | skip)
      all_goals exact ⟨rfl, rfl, congrArg Value.bool (by simp [*]), H⟩
    rintro e w ⟨h0, h3, h27, H⟩
    rw [Env.three h0 h3 h27]
    refine ifB (fun h => ?_) (fun hw => ?_)
    · exact Exists.intro _ (And.intro rfl (And.intro (congrArg Value.bool (by rw [if_pos h])) H.none))
    rw [if_neg hw]
    have hxd : isHexNum ys = decide (ys.length > 2 ∧ ys.getD 0 0 = 48 ∧ (ys.getD 1 0 = 120 ∨ ys.getD 1 0 = 88)) := rfl
    refine cutG (fun e w => e 0 = .slice A ys.length c ∧ e 32 = .bool (isHexNum ys) ∧ St W.heap.size W w [.roB (.slice A ys.length c) ys]) ?_ ?_
    · repeat' first | (refine gY ?_) | (refine gNt ?_) | (refine gNf ?_) | (refine ifT ?_) | (refine ifF ?_) | (refine arN (by omega) ?_) | (refine ar64 (by omega) (by omega) ?_) | (refine ar32 (by omega) (by omega) ?_) | (refine ar8 (by omega) (by omega) ?_) | (refine div64 (by omega) (by omega) (by omega) ?_) | (refine rem0 (by omega) (by omega) ?_) | (refine drawR H fun w H => ?_) | (refine RegV.mk ?_) | (refine JoinV.mk ?_) | (refine strN (i := 0) hbu (by omega) ?_) | (refine strN (i := 1) hbu (by omega) ?_) | (refine gT (fun h => ?_) (fun h => ?_) <;> first | (exfalso; omega) | skip) | (refine gF (fun h => ?_) (fun h => ?_) <;> first | (exfalso; omega) | skip) | (refine ifB (fun h => ?_) (fun h => ?_) <;> first | (exfalso; omega) | skip)
      all_goals refine ⟨rfl, congrArg Value.bool ?_, H⟩
      all_goals (rw [hxd]; (rw [Bool.eq_iff_iff]; simp only [decide_eq_true_eq, Bool.false_eq_true, true_iff, iff_true, false_iff, iff_false]; omega))
    rintro e w ⟨h0, h32, H⟩
    rw [Env.two h0 h32]
    refine ifO (fun hh => ?_) (fun hh => ⟨rfl, hw, hh, H⟩)
    rw [hh] at hxd
    have hxd := of_decide_eq_true hxd.symm
    refine dropR (l := 2) H 0 rfl rfl (by omega) fun A' H => ?_
    refine loopV (by kernel_rfl) (fun m e w => e 52 = .slice A' (ys.length - 2) (c - 2) ∧ e 53 = .int .i64 (ys.length - 2 : Nat) ∧ ∃ j : Nat, e 54 = .int .i64 j ∧ j + m = ys.length - 2 ∧ hexs (ys.drop 2) = hexs (ys.drop (2 + j)) ∧ St W.heap.size W w [.ro (.slice A' (ys.length - 2) (c - 2)) 1 (ys.length - 2) ((ys.drop 2).map (.int .u8))]) (ys.length - 2)
      ⟨rfl, rfl, 0, rfl, by omega, rfl, H.sub [0] (by decide)⟩ ?_
    rintro m e w ⟨h52, h53, j, h54, hj, hq, H⟩
    rw [Env.three h52 h53 h54]
    have hbj := (hbu.drop 2).get j
    have hd : j < ys.length - 2 → hexs (ys.drop (2 + j)) = (decide (0 ≤ hexv ((ys.drop 2).getD j 0)) && hexs (ys.drop (2 + (j + 1)))) := fun h => by
      rw [drop_cons ys (2 + j) (by omega)]
      simp [hexs, List.getD_eq_getElem?_getD, Nat.add_assoc]
    repeat' first | (refine gY ?_) | (refine gNt ?_) | (refine gNf ?_) | (refine ifT ?_) | (refine ifF ?_) | (refine arN (by omega) ?_) | (refine ar64 (by omega) (by omega) ?_) | (refine ar32 (by omega) (by omega) ?_) | (refine ar8 (by omega) (by omega) ?_) | (refine div64 (by omega) (by omega) (by omega) ?_) | (refine rem0 (by omega) (by omega) ?_) | (refine drawR H fun w H => ?_) | (refine RegV.mk ?_) | (refine JoinV.mk ?_) | (refine idxN (i := 0) (H.rd 0 rfl) (by omega) fun b off hc => ?_) | (refine idxN (i := 1) (H.rd 0 rfl) (by omega) fun b off hc => ?_) | (refine idxN (i := 2) (H.rd 0 rfl) (by omega) fun b off hc => ?_) | (refine idxN (i := 3) (H.rd 0 rfl) (by omega) fun b off hc => ?_) | (refine idxN (H.rd 0 rfl) (by omega) fun b off hc => ?_) | (refine idxI (H.rd 0 rfl) (by omega) (by omega) fun b off hc => ?_) | (refine loadS hc ?_) | (refine callV ok_hexDigit (impl_hexDigit _ _) H fun w H => ?_) | (refine Exists.intro (m - 1) (And.intro (by omega) (And.intro rfl ⟨rfl, j + 1, rfl, by omega, ?_, H⟩))) | (refine Exists.intro _ (And.intro rfl (And.intro (congrArg Value.bool ?_) H.none))) | (refine gT (fun h => ?_) (fun h => ?_) <;> first | (exfalso; omega) | skip) | (refine gF (fun h => ?_) (fun h => ?_) <;> first | (exfalso; omega) | skip) | (refine ifB (fun h => ?_) (fun h => ?_) <;> first | (exfalso; omega) | skip)
    · rw [if_pos hh, hq, hd (by omega), decide_eq_false (by omega), Bool.false_and]
    · rw [hq, hd (by omega), decide_eq_true (by omega), Bool.true_and]
    · rw [if_pos hh, hq, List.drop_of_length_le (by omega)]; rfl
  rintro e w ⟨h0, hw, hx, H⟩
  rw [Env.one h0, if_neg hw, if_neg (by rw [hx]; simp)]
  have hds := dig_le ys
  have hdd := decI_def ys
  refine callV ok_digits (impl_digits hbu (by omega) (H.rd 0 rfl)) H fun w H => ?_
  generalize dig ys = ds at *
  refine cutG (fun e w => e 0 = .slice A ys.length c ∧ e 6 = .int .i64 ds.length ∧ e 72 = .bool (decide (ds.length > 1 ∧ ys.getD 0 0 = 48)) ∧ St W.heap.size W w [.roB (.slice A ys.length c) ys]) ?_ ?_
  · repeat' first | (refine gY ?_) | (refine gNt ?_) | (refine gNf ?_) | (refine ifT ?_) | (refine ifF ?_) | (refine arN (by omega) ?_) | (refine ar64 (by omega) (by omega) ?_) | (refine ar32 (by omega) (by omega) ?_) | (refine ar8 (by omega) (by omega) ?_) | (refine div64 (by omega) (by omega) (by omega) ?_) | (refine rem0 (by omega) (by omega) ?_) | (refine drawR H fun w H => ?_) | (refine RegV.mk ?_) | (refine JoinV.mk ?_) | (refine idxN (i := 0) (H.rd 0 rfl) (by omega) fun b off hc => ?_) | (refine idxN (i := 1) (H.rd 0 rfl) (by omega) fun b off hc => ?_) | (refine idxN (i := 2) (H.rd 0 rfl) (by omega) fun b off hc => ?_) | (refine idxN (i := 3) (H.rd 0 rfl) (by omega) fun b off hc => ?_) | (refine idxN (H.rd 0 rfl) (by omega) fun b off hc => ?_) | (refine idxI (H.rd 0 rfl) (by omega) (by omega) fun b off hc => ?_) | (refine loadS hc ?_) | (refine gT (fun h => ?_) (fun h => ?_) <;> first | (exfalso; omega) | skip) | (refine gF (fun h => ?_) (fun h => ?_) <;> first | (exfalso; omega) | skip) | (refine ifB (fun h => ?_) (fun h => ?_) <;> first | (exfalso; omega) | skip)
    all_goals refine ⟨rfl, rfl, congrArg Value.bool ?_, H⟩
    all_goals (rw [Bool.eq_iff_iff]; simp only [decide_eq_true_eq, Bool.false_eq_true, true_iff, iff_true, false_iff, iff_false]; omega)
  rintro e w ⟨h0, h6, h72, H⟩
  rw [Env.three h0 h6 h72]
  refine ifB (fun h => ?_) (fun hn => ?_)
  · exact Exists.intro _ (And.intro rfl (And.intro (congrArg Value.bool (by rw [hdd, if_pos h])) H.none))
  rw [if_neg hn] at hdd
  refine dropR (l := ds.length) H 0 rfl rfl (by omega) fun A2 H => ?_
  have H : St W.heap.size W w [.ro (.slice A2 (ys.length - ds.length) (c - ds.length)) 1 (ys.length - ds.length) ((ys.drop ds.length).map (.int .u8))] := H.sub [0] (by decide)
  have hb2 := hbu.drop ds.length
  have hl2 : ys.length - ds.length = (ys.drop ds.length).length := List.length_drop.symm
  rw [hl2] at H ⊢
  have hlz : (ys.drop ds.length).length ≤ ys.length := by omega
  clear hl2
  generalize ys.drop ds.length = zs at *
  refine joinV (fun e w => ∃ A ts c, e 0 = .slice A (List.length ts) c ∧ byteOK ts ∧ ts.length ≤ ys.length ∧ decI ys = tailR ts ∧ St W.heap.size W w [.roB (.slice A (List.length ts) c) ts]) rfl ?_ ?_
  · refine cutG (fun e w => e 0 = .slice A2 zs.length (c - ds.length) ∧ e 6 = .int .i64 ds.length ∧ e 84 = .bool (decide (zs.length > 0 ∧ zs.getD 0 0 = 46)) ∧ St W.heap.size W w [.roB (.slice A2 zs.length (c - ds.length)) zs]) ?_ ?_
    · repeat' first | (refine gY ?_) | (refine gNt ?_) | (refine gNf ?_) | (refine ifT ?_) | (refine ifF ?_) | (refine arN (by omega) ?_) | (refine ar64 (by omega) (by omega) ?_) | (refine ar32 (by omega) (by omega) ?_) | (refine ar8 (by omega) (by omega) ?_) | (refine div64 (by omega) (by omega) (by omega) ?_) | (refine rem0 (by omega) (by omega) ?_) | (refine drawR H fun w H => ?_) | (refine RegV.mk ?_) | (refine JoinV.mk ?_) | (refine idxN (i := 0) (H.rd 0 rfl) (by omega) fun b off hc => ?_) | (refine idxN (i := 1) (H.rd 0 rfl) (by omega) fun b off hc => ?_) | (refine idxN (i := 2) (H.rd 0 rfl) (by omega) fun b off hc => ?_) | (refine idxN (i := 3) (H.rd 0 rfl) (by omega) fun b off hc => ?_) | (refine idxN (H.rd 0 rfl) (by omega) fun b off hc => ?_) | (refine idxI (H.rd 0 rfl) (by omega) (by omega) fun b off hc => ?_) | (refine loadS hc ?_) | (refine gT (fun h => ?_) (fun h => ?_) <;> first | (exfalso; omega) | skip) | (refine gF (fun h => ?_) (fun h => ?_) <;> first | (exfalso; omega) | skip) | (refine ifB (fun h => ?_) (fun h => ?_) <;> first | (exfalso; omega) | skip)
      all_goals refine ⟨rfl, rfl, congrArg Value.bool ?_, H⟩
      all_goals (rw [Bool.eq_iff_iff]; simp only [decide_eq_true_eq, Bool.false_eq_true, true_iff, iff_true, false_iff, iff_false]; omega)
    rintro e w ⟨h0, h6, h84, H⟩
    rw [Env.three h0 h6 h84]
    refine ifB (fun h => ?_) (fun h => ?_)
    · rw [if_pos h] at hdd
      have hd2 := dig_le (zs.drop 1)
      have hd2l : (zs.drop 1).length = zs.length - 1 := List.length_drop
      repeat' first | (refine gY ?_) | (refine gNt ?_) | (refine gNf ?_) | (refine ifT ?_) | (refine ifF ?_) | (refine arN (by omega) ?_) | (refine ar64 (by omega) (by omega) ?_) | (refine ar32 (by omega) (by omega) ?_) | (refine ar8 (by omega) (by omega) ?_) | (refine div64 (by omega) (by omega) (by omega) ?_) | (refine rem0 (by omega) (by omega) ?_) | (refine drawR H fun w H => ?_) | (refine RegV.mk ?_) | (refine JoinV.mk ?_) | (refine dropR (l := 1) H 0 rfl rfl (by omega) fun A' H => ?_) | (refine callV ok_digits (impl_digits (hb2.drop 1) (by omega) (H.rd 0 rfl)) H fun w H => ?_) | (refine gT (fun h => ?_) (fun h => ?_) <;> first | (exfalso; omega) | skip) | (refine gF (fun h => ?_) (fun h => ?_) <;> first | (exfalso; omega) | skip) | (refine ifB (fun h => ?_) (fun h => ?_) <;> first | (exfalso; omega) | skip)
      · exact Exists.intro _ (And.intro rfl (And.intro (congrArg Value.bool (by rw [hdd, if_pos (by omega)])) H.none))
      · rw [if_neg (by omega)] at hdd
        refine dropR (l := 1 + (dig (zs.drop 1)).length) H 1 rfl (by rw [Int.natCast_add]; rfl) (by omega) fun A' H => ?_
        have e1 : zs.length - (1 + (dig (zs.drop 1)).length) = (zs.drop (1 + (dig (zs.drop 1)).length)).length := List.length_drop.symm
        rw [e1] at H ⊢
        exact ⟨_, _, _, rfl, hb2.drop _, by omega, hdd, H.sub [0] (by decide)⟩
    · rw [if_neg h] at hdd
      repeat' first | (refine gY ?_) | (refine gNt ?_) | (refine gNf ?_) | (refine ifT ?_) | (refine ifF ?_) | (refine arN (by omega) ?_) | (refine ar64 (by omega) (by omega) ?_) | (refine ar32 (by omega) (by omega) ?_) | (refine ar8 (by omega) (by omega) ?_) | (refine div64 (by omega) (by omega) (by omega) ?_) | (refine rem0 (by omega) (by omega) ?_) | (refine drawR H fun w H => ?_) | (refine RegV.mk ?_) | (refine JoinV.mk ?_) | (refine gT (fun h => ?_) (fun h => ?_) <;> first | (exfalso; omega) | skip) | (refine gF (fun h => ?_) (fun h => ?_) <;> first | (exfalso; omega) | skip) | (refine ifB (fun h => ?_) (fun h => ?_) <;> first | (exfalso; omega) | skip)
      · exact Exists.intro _ (And.intro rfl (And.intro (congrArg Value.bool (by rw [hdd, if_pos (by omega)])) H.none))
      · rw [if_neg (by omega)] at hdd
        exact ⟨_, _, _, rfl, hb2, by omega, hdd, H⟩
  rintro e w ⟨A, ts, c, h0, hb3, hl3, hde, H⟩
  rw [Env.one h0, hde]
  have hxt : tailR ts = if ts.length = 0 then true else if isE (ts.getD 0 0) then expo (ts.drop 1) else false := by cases ts <;> simp [tailR]
  refine ifB (fun h => ?_) (fun h => ?_)
  · exact Exists.intro _ (And.intro rfl (And.intro (congrArg Value.bool (by rw [hxt, if_pos (by omega)])) H.none))
  rw [if_neg (by omega)] at hxt
  refine cutG (fun e w => e 0 = .slice A ts.length c ∧ e 110 = .bool (!(isE (ts.getD 0 0))) ∧ St W.heap.size W w [.roB (.slice A ts.length c) ts]) ?_ ?_
  · repeat' first | (refine gY ?_) | (refine gNt ?_) | (refine gNf ?_) | (refine ifT ?_) | (refine ifF ?_) | (refine arN (by omega) ?_) | (refine ar64 (by omega) (by omega) ?_) | (refine ar32 (by omega) (by omega) ?_) | (refine ar8 (by omega) (by omega) ?_) | (refine div64 (by omega) (by omega) (by omega) ?_) | (refine rem0 (by omega) (by omega) ?_) | (refine drawR H fun w H => ?_) | (refine RegV.mk ?_) | (refine JoinV.mk ?_) | (refine idxN (i := 0) (H.rd 0 rfl) (by omega) fun b off hc => ?_) | (refine idxN (i := 1) (H.rd 0 rfl) (by omega) fun b off hc => ?_) | (refine idxN (i := 2) (H.rd 0 rfl) (by omega) fun b off hc => ?_) | (refine idxN (i := 3) (H.rd 0 rfl) (by omega) fun b off hc => ?_) | (refine idxN (H.rd 0 rfl) (by omega) fun b off hc => ?_) | (refine idxI (H.rd 0 rfl) (by omega) (by omega) fun b off hc => ?_) | (refine loadS hc ?_) | (refine gT (fun h => ?_) (fun h => ?_) <;> first | (exfalso; omega) | skip) | (refine gF (fun h => ?_) (fun h => ?_) <;> first | (exfalso; omega) | skip) | (refine ifB (fun h => ?_) (fun h => ?_) <;> first | (exfalso; omega) | skip)
    all_goals refine ⟨rfl, congrArg Value.bool ?_, H⟩
    all_goals (unfold isE; rw [← decide_not]; (rw [Bool.eq_iff_iff]; simp only [decide_eq_true_eq, Bool.false_eq_true, true_iff, iff_true, false_iff, iff_false]; omega))
  rintro e w ⟨h0, h110, H⟩
  rw [Env.two h0 h110]
  refine ifNot (ifO (fun h => ?_) (fun h => ?_))
  case refine_2 => exact Exists.intro _ (And.intro rfl (And.intro (congrArg Value.bool (by rw [hxt, h]; rfl)) H.none))
  rw [if_pos h] at hxt
  refine dropR (l := 1) H 0 rfl rfl (by omega) fun A1 H => ?_
  have e1 : ts.length - 1 = (ts.drop 1).length := List.length_drop.symm
  rw [e1] at H ⊢
  have H := H.sub [0] (by decide)
  have hb4 := hb3.drop 1
  have hl4 : (ts.drop 1).length ≤ ys.length := by omega
  rw [hxt]
  clear e1
  generalize ts.drop 1 = us at *
  have e2 := unsign_drop us
  refine joinV (fun e w => ∃ A n c, e 0 = .slice A n c ∧ St W.heap.size W w [.ro (.slice A n c) 1 n ((unsign us).map (.int .u8))]) rfl ?_ ?_
  · repeat' first | (refine gY ?_) | (refine gNt ?_) | (refine gNf ?_) | (refine ifT ?_) | (refine ifF ?_) | (refine arN (by omega) ?_) | (refine ar64 (by omega) (by omega) ?_) | (refine ar32 (by omega) (by omega) ?_) | (refine ar8 (by omega) (by omega) ?_) | (refine div64 (by omega) (by omega) (by omega) ?_) | (refine rem0 (by omega) (by omega) ?_) | (refine drawR H fun w H => ?_) | (refine RegV.mk ?_) | (refine JoinV.mk ?_) | (refine idxN (i := 0) (H.rd 0 rfl) (by omega) fun b off hc => ?_) | (refine idxN (i := 1) (H.rd 0 rfl) (by omega) fun b off hc => ?_) | (refine idxN (i := 2) (H.rd 0 rfl) (by omega) fun b off hc => ?_) | (refine idxN (i := 3) (H.rd 0 rfl) (by omega) fun b off hc => ?_) | (refine idxN (H.rd 0 rfl) (by omega) fun b off hc => ?_) | (refine idxI (H.rd 0 rfl) (by omega) (by omega) fun b off hc => ?_) | (refine loadS hc ?_) | (refine dropR (l := 1) H 0 rfl rfl (by omega) fun A' H => ?_) | (refine gT (fun h => ?_) (fun h => ?_) <;> first | (exfalso; omega) | skip) | (refine gF (fun h => ?_) (fun h => ?_) <;> first | (exfalso; omega) | skip) | (refine ifB (fun h => ?_) (fun h => ?_) <;> first | (exfalso; omega) | skip)
    all_goals first
      | (rw [if_pos ⟨by omega, by omega⟩] at e2; rw [e2]; exact ⟨_, _, _, rfl, H.sub [0] (by decide)⟩)
      | (rw [if_neg (by omega)] at e2; rw [e2]; exact ⟨_, _, _, rfl, H⟩)
  rintro e w ⟨A, n, c, h0, H⟩
  rw [Env.one h0]
  have hlu := unsign_len us
  have hbu : byteOK (unsign us) := unsign_byte hb4
  unfold expo
  generalize unsign us = vs at *
  obtain rfl : n = vs.length := by have := (H.rd 0 rfl).len; simpa using this.symm
  repeat' first | (refine gY ?_) | (refine gNt ?_) | (refine gNf ?_) | (refine ifT ?_) | (refine ifF ?_) | (refine arN (by omega) ?_) | (refine ar64 (by omega) (by omega) ?_) | (refine ar32 (by omega) (by omega) ?_) | (refine ar8 (by omega) (by omega) ?_) | (refine div64 (by omega) (by omega) (by omega) ?_) | (refine rem0 (by omega) (by omega) ?_) | (refine drawR H fun w H => ?_) | (refine RegV.mk ?_) | (refine JoinV.mk ?_) | (refine callV ok_digits (impl_digits hbu (by omega) (H.rd 0 rfl)) H fun w H => ?_) | (refine gT (fun h => ?_) (fun h => ?_) <;> first | (exfalso; omega) | skip) | (refine gF (fun h => ?_) (fun h => ?_) <;> first | (exfalso; omega) | skip) | (refine ifB (fun h => ?_) (fun h => ?_) <;> first | (exfalso; omega) | skip)
  all_goals refine Exists.intro _ (And.intro rfl (And.intro (congrArg Value.bool ?_) H.none))
  all_goals rw [show (decide (vs ≠ []) && allDig vs) = decide (vs.length > 0 ∧ (dig vs).length = vs.length) by rw [allDig_iff]; cases vs <;> simp]
  all_goals (rw [Bool.eq_iff_iff]; simp only [decide_eq_true_eq, Bool.false_eq_true, true_iff, iff_true, false_iff, iff_false]; omega)
end Go.Proofs.YtpaklalfopfilaaE
/- What the reference's functions do that read numbers. -/
namespace Go.Proofs.YtpaklalfopfilaaE
open Go Go.RowKit Go.Proofs
set_option linter.unusedVariables false
set_option maxRecDepth 100000

theorem byteOK_emp : byteOK ([] : List Int) := byteOK.nil
theorem ok_l4unsigned : callOK Try.prog 109 = true := by kernel_rfl
theorem spec_l4unsigned {xs : List Int} (hb : byteOK xs) (hl : xs.length ≤ 4294967296) {W : World} : GivesV Try.prog 109 [.string (strOfNums xs)] W (.bool (unsig xs)) := by
  have H := St.enter W
  refine calls_of_vcV Try.func109 rfl (by kernel_rfl) (Nat.le_of_ble_eq_true rfl) ?_
  have hsz := strOfNums_size xs
  unfold unsig
  refine cutG (fun e w => e 0 = .string (strOfNums xs) ∧ e 10 = .bool (decide (xs = wordInf ∨ xs = wordNaN)) ∧ St W.heap.size W w []) ?_ ?_
  · repeat' first | (refine gY ?_) | (refine gNt ?_) | (refine gNf ?_) | (refine ifT ?_) | (refine ifF ?_) | (refine arN (by omega) ?_) | (refine ar64 (by omega) (by omega) ?_) | (refine ar32 (by omega) (by omega) ?_) | (refine ar8 (by omega) (by omega) ?_) | (refine div64 (by omega) (by omega) (by omega) ?_) | (refine rem0 (by omega) (by omega) ?_) | (refine drawR H fun w H => ?_) | (refine RegV.mk ?_) | (refine JoinV.mk ?_) | (refine strE (ys := wordInf) hb byteOK_inf rfl ?_) | (refine strE (ys := wordNaN) hb byteOK_nan rfl ?_) | (refine gT (fun h => ?_) (fun h => ?_) <;> first | (exfalso; omega) | skip) | (refine gF (fun h => ?_) (fun h => ?_) <;> first | (exfalso; omega) | skip) | (refine ifB (fun h => ?_) (fun h => ?_) <;> first | (exfalso; omega) | skip)
    all_goals exact ⟨rfl, congrArg Value.bool (by simp [*]), H⟩
  rintro e w ⟨h0, h10, H⟩
  rw [Env.two h0 h10]
  refine ifB (fun h => ?_) (fun hw => ?_)
  · exact Exists.intro _ (And.intro rfl (And.intro (congrArg Value.bool (by rw [if_pos h])) H))
  rw [if_neg hw]
  have hxd : isHexNum xs = decide (xs.length > 2 ∧ xs.getD 0 0 = 48 ∧ (xs.getD 1 0 = 120 ∨ xs.getD 1 0 = 88)) := rfl
  refine cutG (fun e w => e 0 = .string (strOfNums xs) ∧ e 28 = .bool (isHexNum xs) ∧ St W.heap.size W w []) ?_ ?_
  · repeat' first | (refine gY ?_) | (refine gNt ?_) | (refine gNf ?_) | (refine ifT ?_) | (refine ifF ?_) | (refine arN (by omega) ?_) | (refine ar64 (by omega) (by omega) ?_) | (refine ar32 (by omega) (by omega) ?_) | (refine ar8 (by omega) (by omega) ?_) | (refine div64 (by omega) (by omega) (by omega) ?_) | (refine rem0 (by omega) (by omega) ?_) | (refine drawR H fun w H => ?_) | (refine RegV.mk ?_) | (refine JoinV.mk ?_) | (refine strN (i := 0) hb (by omega) ?_) | (refine strN (i := 1) hb (by omega) ?_) | (refine gT (fun h => ?_) (fun h => ?_) <;> first | (exfalso; omega) | skip) | (refine gF (fun h => ?_) (fun h => ?_) <;> first | (exfalso; omega) | skip) | (refine ifB (fun h => ?_) (fun h => ?_) <;> first | (exfalso; omega) | skip)
    all_goals refine ⟨rfl, congrArg Value.bool ?_, H⟩
    all_goals (rw [hxd]; (rw [Bool.eq_iff_iff]; simp only [decide_eq_true_eq, Bool.false_eq_true, true_iff, iff_true, false_iff, iff_false]; omega))
  rintro e w ⟨h0, h28, H⟩
  rw [Env.two h0 h28]
  refine ifO (fun hh => ?_) (fun hh => ?_)
  · rw [hh] at hxd
    have hxd := of_decide_eq_true hxd.symm
    refine dropStr (l := 2) rfl (by omega) ?_
    refine callV ok_l4allHex (givesV_of (spec_l4allHex (xs.drop 2) (hb.drop 2) (by rw [List.length_drop]; omega) (by rw [List.length_drop]; omega) w)) H fun w H => ?_
    exact Exists.intro _ (And.intro rfl (And.intro (congrArg Value.bool (by rw [if_pos hh])) H))
  rw [if_neg (by rw [hh]; simp)]
  refine loopV (by kernel_rfl) (fun m e w => e 0 = .string (strOfNums xs) ∧ ∃ j : Nat, e 3 = .int .i64 j ∧ j + m = xs.length ∧ (∀ i, i < j → isE (xs.getD i 0) = false) ∧ St W.heap.size W w []) xs.length
    ⟨rfl, 0, rfl, by omega, fun i hi => by omega, H⟩ ?_
  rintro m e w ⟨h0, j, h3, hj, hp, H⟩
  rw [Env.two h0 h3]
  refine ifB (fun h => ?_) (fun h => ?_)
  case refine_2 =>
    refine callV ok_l4mantissa (givesV_of (spec_l4mantissa xs hb hl w)) H fun w H => ?_
    refine Exists.intro _ (And.intro rfl (And.intro (congrArg Value.bool ?_) H))
    unfold decN
    rw [cut_no isE xs (fun i hi => hp i (by omega))]
  have hjl : j < xs.length := by omega
  refine JoinV.mk ?_
  refine cutG (fun e w => e 0 = .string (strOfNums xs) ∧ e 3 = .int .i64 j ∧ e 47 = .bool (isE (xs.getD j 0)) ∧ St W.heap.size W w []) ?_ ?_
  · repeat' first | (refine gY ?_) | (refine gNt ?_) | (refine gNf ?_) | (refine ifT ?_) | (refine ifF ?_) | (refine arN (by omega) ?_) | (refine ar64 (by omega) (by omega) ?_) | (refine ar32 (by omega) (by omega) ?_) | (refine ar8 (by omega) (by omega) ?_) | (refine div64 (by omega) (by omega) (by omega) ?_) | (refine rem0 (by omega) (by omega) ?_) | (refine drawR H fun w H => ?_) | (refine RegV.mk ?_) | (refine JoinV.mk ?_) | (refine strN hb (by omega) ?_) | (refine gT (fun h => ?_) (fun h => ?_) <;> first | (exfalso; omega) | skip) | (refine gF (fun h => ?_) (fun h => ?_) <;> first | (exfalso; omega) | skip) | (refine ifB (fun h => ?_) (fun h => ?_) <;> first | (exfalso; omega) | skip)
    all_goals refine ⟨rfl, rfl, congrArg Value.bool ?_, H⟩
    all_goals (unfold isE; (rw [Bool.eq_iff_iff]; simp only [decide_eq_true_eq, Bool.false_eq_true, true_iff, iff_true, false_iff, iff_false]; omega))
  rintro e w ⟨h0, h3, h47, H⟩
  rw [Env.three h0 h3 h47]
  refine ifO (fun hh => ?_) (fun hh => ?_)
  case refine_2 =>
    repeat' first | (refine gY ?_) | (refine gNt ?_) | (refine gNf ?_) | (refine ifT ?_) | (refine ifF ?_) | (refine arN (by omega) ?_) | (refine ar64 (by omega) (by omega) ?_) | (refine ar32 (by omega) (by omega) ?_) | (refine ar8 (by omega) (by omega) ?_) | (refine div64 (by omega) (by omega) (by omega) ?_) | (refine rem0 (by omega) (by omega) ?_) | (refine drawR H fun w H => ?_) | (refine RegV.mk ?_) | (refine JoinV.mk ?_) | (refine gT (fun h => ?_) (fun h => ?_) <;> first | (exfalso; omega) | skip) | (refine gF (fun h => ?_) (fun h => ?_) <;> first | (exfalso; omega) | skip) | (refine ifB (fun h => ?_) (fun h => ?_) <;> first | (exfalso; omega) | skip)
    refine Exists.intro (m - 1) (And.intro (by omega) (And.intro rfl ⟨j + 1, rfl, by omega, fun i hi => ?_, H⟩))
    by_cases hij : i = j
    · rw [hij]; exact hh
    · exact hp i (by omega)
  have hcut := cut_at isE xs j hjl hp hh
  have hd : decN xs = (mant (xs.take j) && expo (xs.drop (j + 1))) := by unfold decN; rw [hcut]
  rw [hd]
  refine arN (by omega) ?_
  refine dropStr (l := j + 1) rfl (by omega) ?_
  have hb2 := hb.drop (j + 1)
  have hl2 : (xs.drop (j + 1)).length ≤ 4294967296 := by rw [List.length_drop]; omega
  unfold expo
  generalize xs.drop (j + 1) = ys at *
  have hsy := strOfNums_size ys
  have e2 := unsign_drop ys
  refine joinV (fun e w => e 0 = .string (strOfNums xs) ∧ e 3 = .int .i64 j ∧ e 4 = .string (strOfNums (unsign ys)) ∧ St W.heap.size W w []) rfl ?_ ?_
  · refine cutG (fun e w => e 0 = .string (strOfNums xs) ∧ e 3 = .int .i64 j ∧ e 4 = .string (strOfNums ys) ∧ e 63 = .bool (decide (0 < ys.length ∧ (ys.getD 0 0 = 43 ∨ ys.getD 0 0 = 45))) ∧ St W.heap.size W w []) ?_ ?_
    · repeat' first | (refine gY ?_) | (refine gNt ?_) | (refine gNf ?_) | (refine ifT ?_) | (refine ifF ?_) | (refine arN (by omega) ?_) | (refine ar64 (by omega) (by omega) ?_) | (refine ar32 (by omega) (by omega) ?_) | (refine ar8 (by omega) (by omega) ?_) | (refine div64 (by omega) (by omega) (by omega) ?_) | (refine rem0 (by omega) (by omega) ?_) | (refine drawR H fun w H => ?_) | (refine RegV.mk ?_) | (refine JoinV.mk ?_) | (refine strNil hb2 rfl ?_) | (refine gNot ?_) | (refine strN (i := 0) hb2 (by omega) ?_) | (refine gT (fun h => ?_) (fun h => ?_) <;> first | (exfalso; omega) | skip) | (refine gF (fun h => ?_) (fun h => ?_) <;> first | (exfalso; omega) | skip) | (refine ifB (fun h => ?_) (fun h => ?_) <;> first | (exfalso; omega) | skip)
      all_goals refine ⟨rfl, rfl, rfl, congrArg Value.bool ?_, H⟩
      all_goals (rw [Bool.eq_iff_iff]; simp only [decide_eq_true_eq, Bool.false_eq_true, true_iff, iff_true, false_iff, iff_false]; omega)
    rintro e w ⟨h0, h3, h4, h63, H⟩
    rw [Env.four h0 h3 h4 h63]
    refine ifB (fun q => ?_) (fun q => ?_)
    · rw [if_pos q] at e2
      refine dropStr (l := 1) rfl (by omega) ?_
      rw [e2]
      exact ⟨rfl, rfl, rfl, H⟩
    · rw [if_neg q] at e2
      rw [e2]
      exact ⟨rfl, rfl, rfl, H⟩
  rintro e w ⟨h0, h3, h4, H⟩
  rw [Env.three h0 h3 h4]
  have hbu := unsign_byte hb2
  have hlu := unsign_len ys
  generalize unsign ys = us at *
  refine RegV.mk ?_
  refine cutStr (l := 0) (h := j) rfl rfl (by omega) (by omega) ?_
  refine callV ok_l4mantissa (givesV_of (spec_l4mantissa (xs.take j) (hb.take j) (by rw [List.length_take]; omega) w)) H fun w H => ?_
  refine gO (fun q => ?_) (fun q => ?_)
  · refine strNil hbu rfl ?_
    refine gNot (gF (fun q1 => ?_) (fun q1 => ?_))
    · have hne : decide (us ≠ []) = true := by cases us <;> simp at q1 ⊢
      refine callV ok_l4allDigits (givesV_of (spec_l4allDigits us hbu (by omega) w)) H fun w H => ?_
      exact Exists.intro _ (And.intro rfl (And.intro (congrArg Value.bool (by rw [q, Bool.true_and, hne]; rfl)) H))
    · exact Exists.intro _ (And.intro rfl (And.intro (congrArg Value.bool (by rw [List.length_eq_zero_iff.1 q1]; simp)) H))
  · refine gNt ?_
    exact Exists.intro _ (And.intro rfl (And.intro (congrArg Value.bool (by rw [q]; rfl)) H))
theorem ok_spec_IsNumber : callOK Try.prog 67 = true := by kernel_rfl
theorem spec_IsNumber {xs : List Int} (hb : byteOK xs) {A : Option Addr} {n c : Nat} (hl : n ≤ 4294967296) {W : World} (hx : Rd W (.slice A n c) 1 n (xs.map (.int .u8))) : GivesV Try.prog 67 [.slice A n c] W (.bool (numb xs)) := by
  have H := St.enter W
  obtain rfl : n = xs.length := by have := hx.len; simpa using this.symm
  refine calls_of_vcV Try.func67 rfl (by kernel_rfl) (Nat.le_of_ble_eq_true rfl) ?_
  refine convB hx ?_
  unfold numb
  have e2 := unsign_drop xs
  refine joinV (fun e w => e 3 = .string (strOfNums (unsign xs)) ∧ St W.heap.size W w []) rfl ?_ ?_
  · refine cutG (fun e w => e 3 = .string (strOfNums xs) ∧ e 17 = .bool (decide (0 < xs.length ∧ (xs.getD 0 0 = 43 ∨ xs.getD 0 0 = 45))) ∧ St W.heap.size W w []) ?_ ?_
    · repeat' first | (refine gY ?_) | (refine gNt ?_) | (refine gNf ?_) | (refine ifT ?_) | (refine ifF ?_) | (refine arN (by omega) ?_) | (refine ar64 (by omega) (by omega) ?_) | (refine ar32 (by omega) (by omega) ?_) | (refine ar8 (by omega) (by omega) ?_) | (refine div64 (by omega) (by omega) (by omega) ?_) | (refine rem0 (by omega) (by omega) ?_) | (refine drawR H fun w H => ?_) | (refine RegV.mk ?_) | (refine JoinV.mk ?_) | (refine strNil hb rfl ?_) | (refine gNot ?_) | (refine strN (i := 0) hb (by omega) ?_) | (refine gT (fun h => ?_) (fun h => ?_) <;> first | (exfalso; omega) | skip) | (refine gF (fun h => ?_) (fun h => ?_) <;> first | (exfalso; omega) | skip) | (refine ifB (fun h => ?_) (fun h => ?_) <;> first | (exfalso; omega) | skip)
      all_goals refine ⟨rfl, congrArg Value.bool ?_, H⟩
      all_goals (rw [Bool.eq_iff_iff]; simp only [decide_eq_true_eq, Bool.false_eq_true, true_iff, iff_true, false_iff, iff_false]; omega)
    rintro e w ⟨h3, h17, H⟩
    rw [Env.two h3 h17]
    refine ifB (fun q => ?_) (fun q => ?_)
    · rw [if_pos q] at e2
      refine dropStr (l := 1) rfl (by omega) ?_
      rw [e2]
      exact ⟨rfl, H⟩
    · rw [if_neg q] at e2
      rw [e2]
      exact ⟨rfl, H⟩
  rintro e w ⟨h3, H⟩
  rw [Env.one h3]
  refine callV ok_l4unsigned (spec_l4unsigned (unsign_byte hb) (by have := unsign_len xs; omega)) H fun w H => ?_
  exact Exists.intro _ (And.intro rfl (And.intro rfl H))
end Go.Proofs.YtpaklalfopfilaaE
/- A quoted text read from its points: what the program's scanner and the reference both come to, with no program in sight. -/
namespace Go.Proofs.YtpaklalfopfilaaE
open Go Go.RowKit Go.Proofs
set_option linter.unusedVariables false
set_option maxRecDepth 100000

/-- decoded from the offset on, the bytes give these points, to their end -/
inductive At (xs : List Int) : Nat → List Int → Prop
  | done : At xs xs.length []
  | more {i : Nat} {qs : List Int} (h : i < xs.length) (h0 : (dec1 (xs.drop i)).2 ≠ 0) (k : At xs (i + (dec1 (xs.drop i)).2.toNat) qs) : At xs i ((dec1 (xs.drop i)).1 :: qs)
theorem at_of (xs : List Int) (hb : byteOK xs) : ∀ (f i : Nat) (acc : List Int), xs.length - i ≤ f → i ≤ xs.length → (decP (ptsF xs f i) acc).2.1 = 0 → ∃ qs, (decP (ptsF xs f i) acc).1 = acc ++ qs ∧ At xs i qs := by
  intro f
  induction f with
  | zero =>
    intro i acc h1 h2 h
    have : i = xs.length := by omega
    subst this
    exact ⟨[], by simp [ptsF, decP], .done⟩
  | succ f ih =>
    intro i acc h1 h2 h
    unfold ptsF at h ⊢
    by_cases hi : i < xs.length
    · have hd := dec1_ok (xs.drop i) (hb.drop i) (by rw [List.length_drop]; omega)
      rw [List.length_drop] at hd
      rw [if_pos hi] at h ⊢
      by_cases h0 : (dec1 (xs.drop i)).2 = 0
      · rw [if_pos h0] at h; simp [decP] at h
      · rw [if_neg h0] at h ⊢
        unfold decP at h ⊢
        have hn : ¬ (dec1 (xs.drop i)).1 < 0 := by omega
        rw [if_neg hn] at h ⊢
        obtain ⟨qs, hq, ha⟩ := ih (i + (dec1 (xs.drop i)).2.toNat) (acc ++ [(dec1 (xs.drop i)).1]) (by omega) (by omega) h
        exact ⟨_, by rw [hq]; simp, .more hi h0 ha⟩
    · have : i = xs.length := by omega
      subst this
      rw [if_neg (by omega)] at h ⊢
      exact ⟨[], by simp [decP], .done⟩
theorem At.le {xs : List Int} (hb : byteOK xs) {i : Nat} {qs : List Int} (h : At xs i qs) : i ≤ xs.length := by
  cases h with
  | done => exact Nat.le_refl _
  | more h => omega
theorem At.nil {xs : List Int} {i : Nat} (h : At xs i []) : i = xs.length := by
  cases h; rfl
theorem At.cons {xs : List Int} {i : Nat} {p : Int} {qs : List Int} (h : At xs i (p :: qs)) : i < xs.length ∧ p = (dec1 (xs.drop i)).1 ∧ (dec1 (xs.drop i)).2 ≠ 0 ∧ At xs (i + (dec1 (xs.drop i)).2.toNat) qs := by
  cases h with
  | more h h0 k => exact ⟨h, rfl, h0, k⟩
theorem At.bd {xs : List Int} (hb : byteOK xs) {i : Nat} {qs : List Int} (h : At xs i qs) : ∀ p ∈ qs, 0 ≤ p ∧ p ≤ 1114111 := by
  induction h with
  | done => intro p hp; simp at hp
  | @more i qs h h0 k ih =>
    intro p hp
    have hd := dec1_ok (xs.drop i) (hb.drop i) (by rw [List.length_drop]; omega)
    rcases List.mem_cons.1 hp with rfl | hp
    · exact ⟨hd.2.2.2.2.1, hd.2.2.2.2.2.1⟩
    · exact ih p hp
def readHex : Nat → List Int → Int → Option (Int × List Int)
  | 0, qs, v => some (v, qs)
  | _ + 1, [], _ => none
  | n + 1, q :: qs, v => if hexv q < 0 then none else readHex n qs (v * 16 + hexv q)
def shortQ (c : Int) : Option Int := if c = 98 then some 8 else if c = 102 then some 12 else if c = 110 then some 10 else if c = 114 then some 13 else if c = 116 then some 9 else if c = 118 then some 11 else none
/-- what stands behind a backslash: the units it means and the points left -/
def escQ : List Int → Option (List Int × List Int)
  | [] => none
  | c :: r =>
    if c = 10 ∨ c = 8232 ∨ c = 8233 then some ([], r) else
    if c = 13 then some ([], if r.headD (-1) = 10 then r.drop 1 else r) else
    if c = 120 then (readHex 2 r 0).map (fun x => ([x.1], x.2)) else
    if c = 117 then (readHex 4 r 0).map (fun x => ([x.1], x.2)) else
    if c = 48 then (if digit (r.headD (-1)) then none else some ([0], r)) else
    if digit c then none else
    match shortQ c with
    | some u => some ([u], r)
    | none => some (unitsOne c, r)
theorem readHex_len : ∀ (n : Nat) (qs : List Int) (v : Int) (x : Int × List Int), readHex n qs v = some x → x.2.length + n = qs.length
  | 0, qs, v, x, h => by simp only [readHex, Option.some.injEq] at h; subst h; rfl
  | n + 1, [], v, x, h => by simp [readHex] at h
  | n + 1, q :: qs, v, x, h => by
    unfold readHex at h
    split at h
    · cases h
    · have := readHex_len n qs _ x h
      simp only [List.length_cons]; omega
/-- up to the closing quote -/
def strQ (q : Int) : Nat → List Int → List Int → Option (List Int × List Int)
  | 0, _, _ => none
  | _ + 1, [], _ => none
  | f + 1, c :: r, acc =>
    if c = q then some (acc, r) else
    if c = 10 ∨ c = 13 then none else
    if c = 92 then (match escQ r with | none => none | some x => strQ q f x.2 (acc ++ x.1)) else
    strQ q f r (acc ++ unitsOne c)
def quotedQ : List Int → Option (List Int × List Int)
  | [] => none
  | q :: r => if q = 34 ∨ q = 39 then strQ q (r.length + 1) r [] else none
def readR (qs : List Int) : List Int × Int := match quotedQ qs with | some (u, []) => (u, 0) | _ => ([], 3)
def readS (xs : List Int) : List Int × Int := if (decW xs).2.1 ≠ 0 then ([], 3) else readR (decW xs).1
end Go.Proofs.YtpaklalfopfilaaE
/- The text conversions undo one another, with no program in sight. -/
namespace Go.Proofs.YtpaklalfopfilaaE
open Go Go.RowKit Go.Proofs
set_option linter.unusedVariables false
set_option maxRecDepth 100000
set_option maxHeartbeats 1000000

theorem goodU_cons {u : Int} {l : List Int} : goodU (u :: l) = true ↔ (0 ≤ u ∧ u ≤ 65535) ∧ goodU l = true := by simp [goodU]
theorem units_from : ∀ (n : Nat) (l : List Int), l.length ≤ n → goodU l = true → unitsAll (fromAll l) = some l := by
  intro n
  induction n with
  | zero => intro l h _; have : l = [] := List.length_eq_zero_iff.1 (by omega); subst this; rfl
  | succ n ih =>
    intro l h hg
    match l, h, hg with
    | [], _, _ => rfl
    | [u], _, hg =>
      have := (goodU_cons.1 hg).1
      simp only [fromAll, unitsAll]; rw [if_neg (by omega)]; unfold unitsOne; rw [if_pos (by omega)]; rfl
    | u :: v :: r, h, hg =>
      obtain ⟨hu, hg1⟩ := goodU_cons.1 hg
      obtain ⟨hv, hg2⟩ := goodU_cons.1 hg1
      simp only [List.length_cons] at h
      rw [fromAll]
      split
      · rename_i hp
        obtain ⟨⟨p1, p2⟩, p3, p4⟩ := hp
        rw [unitsAll, if_neg (by omega), ih r (by omega) hg2]
        unfold unitsOne
        rw [if_neg (by omega)]
        simp only [Option.map_some, List.cons_append, List.nil_append, Option.some.injEq, List.cons.injEq, and_true]
        constructor <;> omega
      · rw [unitsAll, if_neg (by omega), ih (v :: r) (by simp only [List.length_cons]; omega) hg1]
        unfold unitsOne; rw [if_pos (by omega)]; rfl
theorem need_ok {p : Int} (h : need p ≠ 0) : 0 ≤ p ∧ p ≤ 1114111 ∧ ¬ (55296 ≤ p ∧ p ≤ 57343) := by
  rcases need_cases p with q | q
  · exact absurd q.1 h
  · omega
theorem fromAll_skip {p : Int} (h : ¬ (55296 ≤ p ∧ p ≤ 56319)) (l : List Int) : fromAll (p :: l) = p :: fromAll l := by
  cases l with
  | nil => rfl
  | cons v r => rw [fromAll, if_neg (fun q => h q.1)]
theorem from_units : ∀ q : List Int, (∀ p ∈ q, need p ≠ 0) → ∃ v, unitsAll q = some v ∧ goodU v = true ∧ fromAll v = q
  | [], _ => ⟨[], rfl, rfl, rfl⟩
  | p :: q, h => by
    obtain ⟨v, h1, h2, h3⟩ := from_units q fun x hx => h x (List.mem_cons_of_mem _ hx)
    obtain ⟨p0, p1, p2⟩ := need_ok (h p List.mem_cons_self)
    by_cases hp : p < 65536
    · refine ⟨p :: v, ?_, goodU_cons.2 ⟨by omega, h2⟩, ?_⟩
      · rw [unitsAll, if_neg (by omega), h1]; unfold unitsOne; rw [if_pos hp]; rfl
      · rw [fromAll_skip (by omega), h3]
    · refine ⟨(55296 + (p - 65536) / 1024) :: (56320 + (p - 65536) % 1024) :: v, ?_, goodU_cons.2 ⟨by omega, goodU_cons.2 ⟨by omega, h2⟩⟩, ?_⟩
      · rw [unitsAll, if_neg (by omega), h1]; unfold unitsOne; rw [if_neg hp]; rfl
      · rw [fromAll, if_pos ⟨by omega, by omega, by omega⟩, h3]
        congr 1; omega
theorem encB_need {p : Int} (h : need p ≠ 0) : ((encB p).length : Int) = need p ∧ byteOK (encB p) := by
  obtain ⟨p0, p1, p2⟩ := need_ok h
  rcases need_cases p with q | q
  · omega
  · unfold encB
    rcases q.2 with ⟨e, q⟩ | ⟨e, q⟩ | ⟨e, q⟩ | ⟨e, q⟩
    · rw [if_pos (by omega), e]; exact ⟨rfl, fun x hx => by simp at hx; omega⟩
    · rw [if_neg (by omega), if_pos (by omega), e]; exact ⟨rfl, fun x hx => by simp [tailB] at hx; omega⟩
    · rw [if_neg (by omega), if_neg (by omega), if_pos (by omega), e]; exact ⟨rfl, fun x hx => by simp [tailB] at hx; omega⟩
    · rw [if_neg (by omega), if_neg (by omega), if_neg (by omega), e]; exact ⟨rfl, fun x hx => by simp [tailB] at hx; omega⟩
theorem dec_encB {p : Int} (h : need p ≠ 0) (r : List Int) (hr : byteOK r) : (dec1 (encB p ++ r)).1 = p ∧ (dec1 (encB p ++ r)).2 = need p := by
  obtain ⟨p0, p1, p2⟩ := need_ok h
  obtain ⟨hl, hbe⟩ := encB_need h
  have hb : byteOK (encB p ++ r) := hbe.app hr
  have hn : ∃ n : Nat, need p = n ∧ 1 ≤ n ∧ n ≤ 4 := by
    rcases need_cases p with q | q
    · omega
    · rcases q.2 with ⟨e, q⟩ | ⟨e, q⟩ | ⟨e, q⟩ | ⟨e, q⟩
      · exact ⟨1, e, by omega, by omega⟩
      · exact ⟨2, e, by omega, by omega⟩
      · exact ⟨3, e, by omega, by omega⟩
      · exact ⟨4, e, by omega, by omega⟩
  obtain ⟨n, en, n1, n4⟩ := hn
  have hv : l1v (encB p ++ r) n = p := by
    have hs := l1v_spec (encB p ++ r) hb n ⟨n1, n4⟩
    have hlen : n ≤ (encB p ++ r).length := by rw [List.length_append]; omega
    rcases need_cases p with q | q
    · omega
    · rcases q.2 with ⟨e, q⟩ | ⟨e, q⟩ | ⟨e, q⟩ | ⟨e, q⟩
      · have g0 : (encB p ++ r).getD 0 0 = p := by unfold encB; rw [if_pos q]; rfl
        rw [g0] at hs; omega
      · have e1 : encB p = [192 + p / 64, 128 + p % 64] := by unfold encB; rw [if_neg (by omega), if_pos (by omega)]; simp [tailB]
        have g0 : (encB p ++ r).getD 0 0 = 192 + p / 64 := by rw [e1]; rfl
        have g1 : (encB p ++ r).getD 1 0 = 128 + p % 64 := by rw [e1]; rfl
        rw [g0, g1] at hs; omega
      · have e1 : encB p = [224 + p / 4096, 128 + p / 64 % 64, 128 + p % 64] := by unfold encB; rw [if_neg (by omega), if_neg (by omega), if_pos (by omega)]; simp [tailB]
        have g0 : (encB p ++ r).getD 0 0 = 224 + p / 4096 := by rw [e1]; rfl
        have g1 : (encB p ++ r).getD 1 0 = 128 + p / 64 % 64 := by rw [e1]; rfl
        have g2 : (encB p ++ r).getD 2 0 = 128 + p % 64 := by rw [e1]; rfl
        rw [g0, g1, g2] at hs; omega
      · have e1 : encB p = [240 + p / 262144, 128 + p / 4096 % 64, 128 + p / 64 % 64, 128 + p % 64] := by unfold encB; rw [if_neg (by omega), if_neg (by omega), if_neg (by omega)]; simp [tailB]
        have g0 : (encB p ++ r).getD 0 0 = 240 + p / 262144 := by rw [e1]; rfl
        have g1 : (encB p ++ r).getD 1 0 = 128 + p / 4096 % 64 := by rw [e1]; rfl
        have g2 : (encB p ++ r).getD 2 0 = 128 + p / 64 % 64 := by rw [e1]; rfl
        have g3 : (encB p ++ r).getD 3 0 = 128 + p % 64 := by rw [e1]; rfl
        rw [g0, g1, g2, g3] at hs; omega
  have := found_dec (encB p ++ r) hb (by rw [List.length_append]; omega) n ⟨n1, n4⟩ ⟨by omega, by rw [hv]; exact en⟩
  rw [hv] at this
  exact ⟨this.1, by rw [this.2]; exact en.symm⟩
theorem encAll_bytes : ∀ (ps b : List Int), encAll ps = some b → byteOK b ∧ ∀ p ∈ ps, need p ≠ 0
  | [], b, h => by simp only [encAll, Option.some.injEq] at h; subst h; exact ⟨byteOK.nil, by simp⟩
  | p :: ps, b, h => by
    unfold encAll at h
    split at h
    · cases h
    · rename_i hp
      cases he : encAll ps with
      | none => rw [he] at h; cases h
      | some b' =>
        rw [he] at h
        simp only [Option.map_some, Option.some.injEq] at h
        subst h
        obtain ⟨h1, h2⟩ := encAll_bytes ps b' he
        exact ⟨(encB_need hp).2.app h1, fun x hx => by rcases List.mem_cons.1 hx with rfl | hx; exact hp; exact h2 x hx⟩
theorem dec_enc : ∀ (ps pre b acc : List Int) (f : Nat), encAll ps = some b → b.length ≤ f → decP (ptsF (pre ++ b) f pre.length) acc = (acc ++ ps, 0, 0)
  | [], pre, b, acc, f, h, hf => by
    simp only [encAll, Option.some.injEq] at h; subst h
    cases f <;> simp [ptsF, decP]
  | p :: ps, pre, b, acc, f, h, hf => by
    have h0 := h
    unfold encAll at h
    split at h
    · cases h
    · rename_i hp
      cases he : encAll ps with
      | none => rw [he] at h; cases h
      | some b' =>
        rw [he] at h
        simp only [Option.map_some, Option.some.injEq] at h
        subst h
        obtain ⟨hb', _⟩ := encAll_bytes ps b' he
        obtain ⟨hd1, hd2⟩ := dec_encB hp b' hb'
        obtain ⟨hl, _⟩ := encB_need hp
        have hn0 : (encB p).length ≠ 0 := by omega
        rw [List.length_append] at hf
        obtain ⟨f, rfl⟩ : ∃ f', f = f' + 1 := ⟨f - 1, by omega⟩
        obtain ⟨p0, p1, p2⟩ := need_ok hp
        unfold ptsF
        rw [if_pos (by rw [List.length_append, List.length_append]; omega), List.drop_left, if_neg (by rw [hd2]; exact hp), hd1, hd2]
        unfold decP
        rw [if_neg (by omega)]
        have e1 : pre ++ (encB p ++ b') = (pre ++ encB p) ++ b' := by rw [List.append_assoc]
        have e2 : pre.length + (need p).toNat = (pre ++ encB p).length := by rw [List.length_append]; omega
        rw [e1, e2, dec_enc ps (pre ++ encB p) b' (acc ++ [p]) f he (by omega)]
        simp
theorem decW_enc {ps b : List Int} (h : encAll ps = some b) : decW b = (ps, 0, 0) := by
  have := dec_enc ps [] b [] b.length h (Nat.le_refl _)
  simpa [decW] using this
theorem enc_at {xs : List Int} (hb : byteOK xs) {i : Nat} {qs : List Int} (h : At xs i qs) : encAll qs = some (xs.drop i) := by
  induction h with
  | done => simp [encAll]
  | @more i qs hi h0 k ih =>
    have hby := hb.drop i
    have hd := dec1_spec (xs.drop i) hby (by rw [List.length_drop]; omega)
    have ho := dec1_ok (xs.drop i) hby (by rw [List.length_drop]; omega)
    have hneed := ho.2.2.2.2.2.2 h0
    rw [encAll, if_neg hneed, ih]
    simp only [Option.map_some, Option.some.injEq]
    have key : encB (dec1 (xs.drop i)).1 ++ (xs.drop i).drop (dec1 (xs.drop i)).2.toNat = xs.drop i := by
      have hl : 0 < (xs.drop i).length := by rw [List.length_drop]; omega
      generalize xs.drop i = ys at *
      have d0 : ys = ys.getD 0 0 :: ys.drop 1 := by have := drop_cons ys 0 hl; simpa using this
      have b1 := hby.get 1
      have b2 := hby.get 2
      have b3 := hby.get 3
      have b0 := hby.get 0
      have hc := need_cases (dec1 ys).1
      rcases hd with ⟨h2, hd⟩ | ⟨h2, hd⟩ | ⟨h2, hd⟩ | ⟨h2, hd⟩ | ⟨h2, hd⟩
      · rw [h2]
        have : encB (dec1 ys).1 = [ys.getD 0 0] := by unfold encB; rw [if_pos (by omega), hd.2]
        rw [this]; exact d0.symm
      · rw [h2]
        have d1 : ys.drop 1 = ys.getD 1 0 :: ys.drop 2 := drop_cons ys 1 (by omega)
        have : encB (dec1 ys).1 = [ys.getD 0 0, ys.getD 1 0] := by
          unfold encB; rw [if_neg (by omega), if_pos (by omega)]
          simp only [tailB, List.cons.injEq, and_true, Int.pow_zero]; constructor <;> omega
        rw [this]
        show ys.getD 0 0 :: ys.getD 1 0 :: ys.drop 2 = ys
        rw [← d1]; exact d0.symm
      · rw [h2]
        have d1 : ys.drop 1 = ys.getD 1 0 :: ys.drop 2 := drop_cons ys 1 (by omega)
        have d2 : ys.drop 2 = ys.getD 2 0 :: ys.drop 3 := drop_cons ys 2 (by omega)
        have : encB (dec1 ys).1 = [ys.getD 0 0, ys.getD 1 0, ys.getD 2 0] := by
          unfold encB; rw [if_neg (by omega), if_neg (by omega), if_pos (by omega)]
          simp only [tailB, List.cons.injEq, and_true, Int.pow_zero, Int.pow_one]; refine ⟨?_, ?_, ?_⟩ <;> omega
        rw [this]
        show ys.getD 0 0 :: ys.getD 1 0 :: ys.getD 2 0 :: ys.drop 3 = ys
        rw [← d2, ← d1]; exact d0.symm
      · rw [h2]
        have d1 : ys.drop 1 = ys.getD 1 0 :: ys.drop 2 := drop_cons ys 1 (by omega)
        have d2 : ys.drop 2 = ys.getD 2 0 :: ys.drop 3 := drop_cons ys 2 (by omega)
        have d3 : ys.drop 3 = ys.getD 3 0 :: ys.drop 4 := drop_cons ys 3 (by omega)
        have : encB (dec1 ys).1 = [ys.getD 0 0, ys.getD 1 0, ys.getD 2 0, ys.getD 3 0] := by
          unfold encB; rw [if_neg (by omega), if_neg (by omega), if_neg (by omega)]
          simp only [tailB, List.cons.injEq, and_true, Int.pow_zero, Int.pow_one, show (64 : Int) ^ 2 = 4096 from rfl]; refine ⟨?_, ?_, ?_, ?_⟩ <;> omega
        rw [this]
        show ys.getD 0 0 :: ys.getD 1 0 :: ys.getD 2 0 :: ys.getD 3 0 :: ys.drop 4 = ys
        rw [← d3, ← d2, ← d1]; exact d0.symm
      · exact absurd h2 h0
    rw [List.drop_drop] at key
    exact key
theorem enc_decW {xs : List Int} (hb : byteOK xs) (h : (decW xs).2.1 = 0) : encAll (decW xs).1 = some xs := by
  obtain ⟨qs, hq, ha⟩ := at_of xs hb xs.length 0 [] (by omega) (by omega) h
  have hq : (decW xs).1 = qs := hq
  rw [hq, enc_at hb ha]; rfl
end Go.Proofs.YtpaklalfopfilaaE
/- When a tree is valid: comments, nodes, and the whole. No program stands here. -/
namespace Go.Proofs.YtpaklalfopfilaaE
set_option linter.unusedVariables false

def endPair : List Int → Bool
  | a :: b :: r => decide (a = 42 ∧ b = 47) || endPair (b :: r)
  | _ => false
theorem endPair_big : ∀ (u l : List Int), (∀ x ∈ u, 128 ≤ x) → endPair (u ++ l) = endPair l
  | [], l, _ => rfl
  | a :: u, l, h => by
    have ih := endPair_big u l fun x hx => h x (by simp [hx])
    have ha := h a (by simp)
    rw [List.cons_append]
    cases hq : u ++ l with
    | nil => rw [hq] at ih; rw [← ih]; rfl
    | cons b r =>
      rw [endPair, ← hq, ih, decide_eq_false (by omega)]; rfl
theorem endPair_head {a : Int} (ha : 128 ≤ a ∨ True) : ∀ (l m : List Int), (∀ b r, l = b :: r → ∃ s, m = b :: s) → (l = [] → m = []) → endPair l = endPair m → endPair (a :: l) = endPair (a :: m)
  | [], m, _, h, _ => by rw [h rfl]
  | b :: r, m, h, _, e => by
    obtain ⟨s, rfl⟩ := h b r rfl
    rw [endPair, endPair, e]
theorem encB_cases (v : Int) (h : need v ≠ 0) : (v < 128 ∧ encB v = [v]) ∨ (128 ≤ v ∧ encB v ≠ [] ∧ ∀ x ∈ encB v, 128 ≤ x) := by
  have hn := need_cases v
  unfold encB
  by_cases h1 : v < 128
  · exact .inl ⟨h1, by rw [if_pos h1]⟩
  · rw [if_neg h1]
    refine .inr ⟨by omega, ?_⟩
    have ht : ∀ k, ∀ x ∈ tailB v k, 128 ≤ x := by
      intro k
      induction k with
      | zero => intro x hx; simp [tailB] at hx
      | succ k ih =>
        intro x hx
        rw [tailB] at hx
        rcases List.mem_cons.1 hx with rfl | hx
        · have := Int.emod_nonneg (v / 64 ^ k) (show (64 : Int) ≠ 0 by decide); omega
        · exact ih x hx
    by_cases h2 : v < 2048
    · rw [if_pos h2]
      refine ⟨by simp, fun x hx => ?_⟩
      rcases List.mem_cons.1 hx with rfl | hx
      · omega
      · exact ht _ x hx
    · rw [if_neg h2]
      by_cases h3 : v < 65536
      · rw [if_pos h3]
        refine ⟨by simp, fun x hx => ?_⟩
        rcases List.mem_cons.1 hx with rfl | hx
        · omega
        · exact ht _ x hx
      · rw [if_neg h3]
        refine ⟨by simp, fun x hx => ?_⟩
        rcases List.mem_cons.1 hx with rfl | hx
        · omega
        · exact ht _ x hx
/-- the two characters stand in the bytes as they do in the points -/
theorem endPair_enc : ∀ (ps bs : List Int), encAll ps = some bs → endPair bs = endPair ps ∧ (∀ b r, bs = b :: r → b < 128 → ∃ s, ps = b :: s) ∧ (∀ p s, ps = p :: s → p < 128 → ∃ r, bs = p :: r) ∧ (ps = [] ↔ bs = [])
  | [], bs, h => by
    simp only [encAll, Option.some.injEq] at h
    subst h
    exact ⟨rfl, (fun b r e => by cases e), (fun p s e => by cases e), by simp⟩
  | p :: ps, bs, h => by
    simp only [encAll] at h
    split at h
    · cases h
    rename_i hn
    obtain ⟨v, hv, rfl⟩ := Option.map_eq_some_iff.1 h
    obtain ⟨i1, i2, i3, i4⟩ := endPair_enc ps v hv
    rcases encB_cases p hn with ⟨hp, he⟩ | ⟨hp, hne, he⟩
    · rw [he, List.cons_append, List.nil_append]
      refine ⟨?_, fun b r e _ => by cases e; exact ⟨_, rfl⟩, fun q s e _ => by cases e; exact ⟨_, rfl⟩, by simp⟩
      cases v with
      | nil => rw [i4.2 rfl]
      | cons b r =>
        cases ps with
        | nil => have := i4.1 rfl; cases this
        | cons q s =>
          rw [endPair, endPair, i1]
          congr 1
          by_cases hb : b < 128
          · obtain ⟨s', e⟩ := i2 b r rfl hb
            cases e; rfl
          · by_cases hq : q < 128
            · obtain ⟨r', e⟩ := i3 q s rfl hq
              cases e; rfl
            · rw [decide_eq_false (by omega), decide_eq_false (by omega)]
    · rw [endPair_big _ _ he, i1]
      refine ⟨?_, fun b r e hb => ?_, fun q s e hq => by cases e; omega, by simp [hne]⟩
      · cases ps with
        | nil => rfl
        | cons q s => rw [endPair, decide_eq_false (by omega)]; rfl
      · cases hb2 : encB p with
        | nil => exact absurd hb2 hne
        | cons x xs =>
          rw [hb2] at e
          have := he x (by rw [hb2]; simp)
          simp only [List.cons_append, List.cons.injEq] at e
          omega
def linesOK (block : Bool) (p : Int) : Bool := !lineE p || (decide (p = 10) && block)
def commentOK (c : CommentP) : Bool := decide ((decW c.text).2.1 = 0) && (decW c.text).1.all (linesOK c.block) && (!c.block || !endPair c.text)
theorem commentOK_pts {c : CommentP} (hb : byteOK c.text) : commentOK c = (decide ((decW c.text).2.1 = 0) && (decW c.text).1.all (linesOK c.block) && (!c.block || !endPair (decW c.text).1)) := by
  unfold commentOK
  by_cases h : (decW c.text).2.1 = 0
  · rw [(endPair_enc _ _ (enc_decW hb h)).1]
  · rw [decide_eq_false h]; rfl
theorem endPair_iff : ∀ ps : List Int, endPair ps = true ↔ ∃ k, k + 1 < ps.length ∧ ps.getD k 0 = 42 ∧ ps.getD (k + 1) 0 = 47
  | [] => by simp [endPair]
  | [a] => by simp [endPair]
  | a :: b :: r => by
    rw [endPair, Bool.or_eq_true, decide_eq_true_eq, endPair_iff (b :: r)]
    constructor
    · rintro (h | ⟨k, h1, h2, h3⟩)
      · exact ⟨0, by simp, h.1, h.2⟩
      · exact ⟨k + 1, by simp only [List.length_cons] at h1 ⊢; omega, h2, h3⟩
    · rintro ⟨k, h1, h2, h3⟩
      cases k with
      | zero => exact .inl ⟨h2, h3⟩
      | succ k => exact .inr ⟨k, by simp only [List.length_cons] at h1 ⊢; omega, h2, h3⟩
def goodC (b : Bool) (ps : List Int) (k : Nat) : Prop := linesOK b (ps.getD k 0) = true ∧ (b = true → 0 < k → ¬ (ps.getD (k - 1) 0 = 42 ∧ ps.getD k 0 = 47))
instance (b : Bool) (ps : List Int) (k : Nat) : Decidable (goodC b ps k) := by unfold goodC; exact inferInstance
theorem all_getD {p : Int → Bool} {ps : List Int} : ps.all p = true ↔ ∀ k, k < ps.length → p (ps.getD k 0) = true := by
  rw [List.all_eq_true]
  constructor
  · intro h k hk
    rw [List.getD_eq_getElem?_getD, List.getElem?_eq_getElem hk]
    exact h _ (List.getElem_mem hk)
  · intro h x hx
    obtain ⟨k, hk, rfl⟩ := List.getElem_of_mem hx
    have := h k hk
    rw [List.getD_eq_getElem?_getD, List.getElem?_eq_getElem hk] at this
    exact this
theorem scanC (b : Bool) (ps : List Int) : (ps.all (linesOK b) && (!b || !endPair ps)) = decide (∀ k, k < ps.length → goodC b ps k) := by
  rw [Bool.eq_iff_iff, Bool.and_eq_true, decide_eq_true_eq, all_getD]
  constructor
  · rintro ⟨h1, h2⟩ k hk
    refine ⟨h1 k hk, fun hb hp q => ?_⟩
    subst hb
    have h2 : endPair ps = false := by simpa using h2
    have := (endPair_iff ps).2 ⟨k - 1, by omega, q.1, by rw [show k - 1 + 1 = k by omega]; exact q.2⟩
    rw [h2] at this; cases this
  · intro h
    refine ⟨fun k hk => (h k hk).1, ?_⟩
    cases b with
    | false => rfl
    | true =>
      cases he : endPair ps with
      | false => rfl
      | true =>
        obtain ⟨k, h1, h2, h3⟩ := (endPair_iff ps).1 he
        exact absurd ⟨h2, h3⟩ ((h (k + 1) h1).2 rfl (by omega))
def ptsOK (block : Bool) (its : List (Int × Int)) : Bool := its.all fun x => decide (0 ≤ x.2) && linesOK block x.2
theorem decP_all (block : Bool) : ∀ (its : List (Int × Int)) (acc : List Int), acc.all (linesOK block) = true → ptsOK block its = (decide ((decP its acc).2.1 = 0) && (decP its acc).1.all (linesOK block))
  | [], acc, h => by simp [ptsOK, decP, h]
  | (i, r) :: its, acc, h => by
    unfold ptsOK decP
    rw [List.all_cons]
    by_cases hr : r < 0
    · rw [if_pos hr, decide_eq_false (show ¬ (0 : Int) ≤ r by omega)]; simp
    · rw [if_neg hr, decide_eq_true (show (0 : Int) ≤ r by omega), Bool.true_and]
      by_cases hl : linesOK block r = true
      · have ih := decP_all block its (acc ++ [r]) (by simp [h, hl])
        unfold ptsOK at ih
        rw [hl, Bool.true_and, ih]
      · have hl : linesOK block r = false := by simpa using hl
        rw [hl, Bool.false_and]
        have key : ∀ (its : List (Int × Int)) (acc : List Int), acc.all (linesOK block) = false → (decide ((decP its acc).2.1 = 0) && (decP its acc).1.all (linesOK block)) = false := by
          intro its
          induction its with
          | nil => intro acc ha; simp [decP, ha]
          | cons x its ih =>
            intro acc ha
            obtain ⟨i, r⟩ := x
            unfold decP
            by_cases hr : r < 0
            · rw [if_pos hr]; simp
            · rw [if_neg hr]; exact ih _ (by rw [List.all_append, ha]; rfl)
        exact (key its (acc ++ [r]) (by rw [List.all_append]; simp [hl])).symm
theorem commentOK_its (c : CommentP) : commentOK c = (ptsOK c.block (ptsF c.text c.text.length 0) && (!c.block || !endPair c.text)) := by
  rw [decP_all c.block _ [] rfl]; rfl
def nodeOK (n : NodeP) : Prop :=
  (0 ≤ n.kind ∧ n.kind ≤ 6) ∧ n.lead.all commentOK = true ∧ n.tail.all commentOK = true ∧ goodU n.key = true ∧ goodU n.units = true ∧ (n.member = false → n.key.length = 0) ∧ (n.kind = 3 → numb n.text = true) ∧ (n.kind ≠ 3 → n.text.length = 0) ∧ (n.kind ≠ 4 → n.units.length = 0) ∧ (n.kind < 5 → n.count = 0 ∧ n.tail.length = 0) ∧ 0 ≤ n.count
instance (n : NodeP) : Decidable (nodeOK n) := by unfold nodeOK; exact inferInstance
def sizeN (n : NodeP) : Nat := sizeC n.lead + sizeC n.tail + n.key.length + n.text.length + n.units.length
def comsN (n : NodeP) : Nat := n.lead.length + n.tail.length
def sizTr (t : TreeP) : Nat := sizeC t.tail + (t.nodes.map sizeN).sum
def comTr (t : TreeP) : Nat := t.tail.length + (t.nodes.map comsN).sum
def ValidT (t : TreeP) : Prop :=
  (1 ≤ t.nodes.length ∧ t.nodes.length ≤ 4000) ∧ t.tail.all commentOK = true ∧ (∀ n ∈ t.nodes, nodeOK n) ∧ sizTr t ≤ 100000 ∧ comTr t ≤ 4000 ∧ endT t.nodes 200 0 false = some t.nodes.length
instance (t : TreeP) : Decidable (ValidT t) := by unfold ValidT; exact inferInstance
def validT (t : TreeP) : Bool := decide (ValidT t)
end Go.Proofs.YtpaklalfopfilaaE
