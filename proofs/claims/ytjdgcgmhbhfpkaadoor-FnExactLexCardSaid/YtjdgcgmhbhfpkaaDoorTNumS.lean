/- What the reference's functions do that read numbers. -/
import Derived.Test.YtjdgcgmhbhfpkaaDoorTNum
import Derived.Test.YtjdgcgmhbhfpkaaDoorTNum2
namespace Go.Proofs.YtjdgcgmhbhfpkaaDoorE
open Go Go.RowKit Go.Proofs
set_option linter.unusedVariables false
set_option maxRecDepth 100000
set_option maxHeartbeats 2000000

theorem byteOK_emp : byteOK ([] : List Int) := byteOK.nil
theorem ok_l4unsigned : callOK Tryd.prog 41 = true := by kernel_rfl
theorem spec_l4unsigned {xs : List Int} (hb : byteOK xs) (hl : xs.length ≤ 4294967296) {W : World} : GivesV Tryd.prog 41 [.string (strOfNums xs)] W (.bool (unsig xs)) := by
  have H := St.enter W
  refine calls_of_vcV Tryd.func41 rfl (by kernel_rfl) (Nat.le_of_ble_eq_true rfl) ?_
  have hsz := strOfNums_size xs
  unfold unsig
  refine cutG (fun e w => e 0 = .string (strOfNums xs) ∧ e 10 = .bool (decide (xs = wordInf ∨ xs = wordNaN)) ∧ St W.heap.size W w []) ?_ ?_
  · repeat' first | (refine gY ?_) | (refine gNt ?_) | (refine gNf ?_) | (refine ifT ?_) | (refine ifF ?_) | (refine arN (by omega) ?_) | (refine ar64 (by omega) (by omega) ?_) | (refine ar32 (by omega) (by omega) ?_) | (refine ar8 (by omega) (by omega) ?_) | (refine div64 (by omega) (by omega) (by omega) ?_) | (refine rem0 (by omega) (by omega) ?_) | (refine drawR H fun w H => ?_) | (refine RegV.mk ?_) | (refine JoinV.mk ?_) | (refine strE (ys := wordInf) hb byteOK_inf rfl ?_) | (refine strE (ys := wordNaN) hb byteOK_nan rfl ?_) | (refine gT (fun h => ?_) (fun h => ?_) <;> first | (exfalso; omega) | skip) | (refine gF (fun h => ?_) (fun h => ?_) <;> first | (exfalso; omega) | skip) | (refine ifB (fun h => ?_) (fun h => ?_) <;> first | (exfalso; omega) | skip)
    all_goals exact ⟨rfl, congrArg Value.bool (by simp [*]), H⟩
  rintro e w ⟨h0, h10, H⟩
  rw [Env.two h0 h10]
  refine ifB (fun h => ?_) (fun hw => ?_)
  · exact Exists.intro _ (And.intro rfl (And.intro (congrArg Value.bool (by rw [if_pos h])) H))
  rw [if_neg hw]
  have hxd : isHexNum xs = decide (xs.length > 2 ∧ xs.getD 0 0 = 48 ∧ (xs.getD 1 0 = 120 ∨ xs.getD 1 0 = 88)) := rfl
  refine cutG (fun e w => e 0 = .string (strOfNums xs) ∧ e 28 = .bool (isHexNum xs) ∧ St W.heap.size W w []) ?_ ?_
  · repeat' first | (refine gY ?_) | (refine gNt ?_) | (refine gNf ?_) | (refine ifT ?_) | (refine ifF ?_) | (refine arN (by omega) ?_) | (refine ar64 (by omega) (by omega) ?_) | (refine ar32 (by omega) (by omega) ?_) | (refine ar8 (by omega) (by omega) ?_) | (refine div64 (by omega) (by omega) (by omega) ?_) | (refine rem0 (by omega) (by omega) ?_) | (refine drawR H fun w H => ?_) | (refine RegV.mk ?_) | (refine JoinV.mk ?_) | (refine strN (i := 0) hb (by omega) ?_) | (refine strN (i := 1) hb (by omega) ?_) | (refine gT (fun h => ?_) (fun h => ?_) <;> first | (exfalso; omega) | skip) | (refine gF (fun h => ?_) (fun h => ?_) <;> first | (exfalso; omega) | skip) | (refine ifB (fun h => ?_) (fun h => ?_) <;> first | (exfalso; omega) | skip)
    all_goals refine ⟨rfl, congrArg Value.bool ?_, H⟩
    all_goals (rw [hxd]; (rw [Bool.eq_iff_iff]; simp only [decide_eq_true_eq, Bool.false_eq_true, true_iff, iff_true, false_iff, iff_false]; omega))
  rintro e w ⟨h0, h28, H⟩
  rw [Env.two h0 h28]
  refine ifO (fun hh => ?_) (fun hh => ?_)
  · rw [hh] at hxd
    have hxd := of_decide_eq_true hxd.symm
    refine dropStr (l := 2) rfl (by omega) ?_
    refine callV ok_l4allHex (givesV_of (spec_l4allHex (xs.drop 2) (hb.drop 2) (by rw [List.length_drop]; omega) (by rw [List.length_drop]; omega) w)) H fun w H => ?_
    exact Exists.intro _ (And.intro rfl (And.intro (congrArg Value.bool (by rw [if_pos hh])) H))
  rw [if_neg (by rw [hh]; simp)]
  refine loopV (by kernel_rfl) (fun m e w => e 0 = .string (strOfNums xs) ∧ ∃ j : Nat, e 3 = .int .i64 j ∧ j + m = xs.length ∧ (∀ i, i < j → isE (xs.getD i 0) = false) ∧ St W.heap.size W w []) xs.length
    ⟨rfl, 0, rfl, by omega, fun i hi => by omega, H⟩ ?_
  rintro m e w ⟨h0, j, h3, hj, hp, H⟩
  rw [Env.two h0 h3]
  refine ifB (fun h => ?_) (fun h => ?_)
  case refine_2 =>
    refine callV ok_l4mantissa (givesV_of (spec_l4mantissa xs hb hl w)) H fun w H => ?_
    refine Exists.intro _ (And.intro rfl (And.intro (congrArg Value.bool ?_) H))
    unfold decN
    rw [cut_no isE xs (fun i hi => hp i (by omega))]
  have hjl : j < xs.length := by omega
  refine JoinV.mk ?_
  refine cutG (fun e w => e 0 = .string (strOfNums xs) ∧ e 3 = .int .i64 j ∧ e 47 = .bool (isE (xs.getD j 0)) ∧ St W.heap.size W w []) ?_ ?_
  · repeat' first | (refine gY ?_) | (refine gNt ?_) | (refine gNf ?_) | (refine ifT ?_) | (refine ifF ?_) | (refine arN (by omega) ?_) | (refine ar64 (by omega) (by omega) ?_) | (refine ar32 (by omega) (by omega) ?_) | (refine ar8 (by omega) (by omega) ?_) | (refine div64 (by omega) (by omega) (by omega) ?_) | (refine rem0 (by omega) (by omega) ?_) | (refine drawR H fun w H => ?_) | (refine RegV.mk ?_) | (refine JoinV.mk ?_) | (refine strN hb (by omega) ?_) | (refine gT (fun h => ?_) (fun h => ?_) <;> first | (exfalso; omega) | skip) | (refine gF (fun h => ?_) (fun h => ?_) <;> first | (exfalso; omega) | skip) | (refine ifB (fun h => ?_) (fun h => ?_) <;> first | (exfalso; omega) | skip)
    all_goals refine ⟨rfl, rfl, congrArg Value.bool ?_, H⟩
    all_goals (unfold isE; (rw [Bool.eq_iff_iff]; simp only [decide_eq_true_eq, Bool.false_eq_true, true_iff, iff_true, false_iff, iff_false]; omega))
  rintro e w ⟨h0, h3, h47, H⟩
  rw [Env.three h0 h3 h47]
  refine ifO (fun hh => ?_) (fun hh => ?_)
  case refine_2 =>
    repeat' first | (refine gY ?_) | (refine gNt ?_) | (refine gNf ?_) | (refine ifT ?_) | (refine ifF ?_) | (refine arN (by omega) ?_) | (refine ar64 (by omega) (by omega) ?_) | (refine ar32 (by omega) (by omega) ?_) | (refine ar8 (by omega) (by omega) ?_) | (refine div64 (by omega) (by omega) (by omega) ?_) | (refine rem0 (by omega) (by omega) ?_) | (refine drawR H fun w H => ?_) | (refine RegV.mk ?_) | (refine JoinV.mk ?_) | (refine gT (fun h => ?_) (fun h => ?_) <;> first | (exfalso; omega) | skip) | (refine gF (fun h => ?_) (fun h => ?_) <;> first | (exfalso; omega) | skip) | (refine ifB (fun h => ?_) (fun h => ?_) <;> first | (exfalso; omega) | skip)
    refine Exists.intro (m - 1) (And.intro (by omega) (And.intro rfl ⟨j + 1, rfl, by omega, fun i hi => ?_, H⟩))
    by_cases hij : i = j
    · rw [hij]; exact hh
    · exact hp i (by omega)
  have hcut := cut_at isE xs j hjl hp hh
  have hd : decN xs = (mant (xs.take j) && expo (xs.drop (j + 1))) := by unfold decN; rw [hcut]
  rw [hd]
  refine arN (by omega) ?_
  refine dropStr (l := j + 1) rfl (by omega) ?_
  have hb2 := hb.drop (j + 1)
  have hl2 : (xs.drop (j + 1)).length ≤ 4294967296 := by rw [List.length_drop]; omega
  unfold expo
  generalize xs.drop (j + 1) = ys at *
  have hsy := strOfNums_size ys
  have e2 := unsign_drop ys
  refine joinV (fun e w => e 0 = .string (strOfNums xs) ∧ e 3 = .int .i64 j ∧ e 4 = .string (strOfNums (unsign ys)) ∧ St W.heap.size W w []) rfl ?_ ?_
  · refine cutG (fun e w => e 0 = .string (strOfNums xs) ∧ e 3 = .int .i64 j ∧ e 4 = .string (strOfNums ys) ∧ e 63 = .bool (decide (0 < ys.length ∧ (ys.getD 0 0 = 43 ∨ ys.getD 0 0 = 45))) ∧ St W.heap.size W w []) ?_ ?_
    · repeat' first | (refine gY ?_) | (refine gNt ?_) | (refine gNf ?_) | (refine ifT ?_) | (refine ifF ?_) | (refine arN (by omega) ?_) | (refine ar64 (by omega) (by omega) ?_) | (refine ar32 (by omega) (by omega) ?_) | (refine ar8 (by omega) (by omega) ?_) | (refine div64 (by omega) (by omega) (by omega) ?_) | (refine rem0 (by omega) (by omega) ?_) | (refine drawR H fun w H => ?_) | (refine RegV.mk ?_) | (refine JoinV.mk ?_) | (refine strNil hb2 rfl ?_) | (refine gNot ?_) | (refine strN (i := 0) hb2 (by omega) ?_) | (refine gT (fun h => ?_) (fun h => ?_) <;> first | (exfalso; omega) | skip) | (refine gF (fun h => ?_) (fun h => ?_) <;> first | (exfalso; omega) | skip) | (refine ifB (fun h => ?_) (fun h => ?_) <;> first | (exfalso; omega) | skip)
      all_goals refine ⟨rfl, rfl, rfl, congrArg Value.bool ?_, H⟩
      all_goals (rw [Bool.eq_iff_iff]; simp only [decide_eq_true_eq, Bool.false_eq_true, true_iff, iff_true, false_iff, iff_false]; omega)
    rintro e w ⟨h0, h3, h4, h63, H⟩
    rw [Env.four h0 h3 h4 h63]
    refine ifB (fun q => ?_) (fun q => ?_)
    · rw [if_pos q] at e2
      refine dropStr (l := 1) rfl (by omega) ?_
      rw [e2]
      exact ⟨rfl, rfl, rfl, H⟩
    · rw [if_neg q] at e2
      rw [e2]
      exact ⟨rfl, rfl, rfl, H⟩
  rintro e w ⟨h0, h3, h4, H⟩
  rw [Env.three h0 h3 h4]
  have hbu := unsign_byte hb2
  have hlu := unsign_len ys
  generalize unsign ys = us at *
  refine RegV.mk ?_
  refine cutStr (l := 0) (h := j) rfl rfl (by omega) (by omega) ?_
  refine callV ok_l4mantissa (givesV_of (spec_l4mantissa (xs.take j) (hb.take j) (by rw [List.length_take]; omega) w)) H fun w H => ?_
  refine gO (fun q => ?_) (fun q => ?_)
  · refine strNil hbu rfl ?_
    refine gNot (gF (fun q1 => ?_) (fun q1 => ?_))
    · have hne : decide (us ≠ []) = true := by cases us <;> simp at q1 ⊢
      refine callV ok_l4allDigits (givesV_of (spec_l4allDigits us hbu (by omega) w)) H fun w H => ?_
      exact Exists.intro _ (And.intro rfl (And.intro (congrArg Value.bool (by rw [q, Bool.true_and, hne]; rfl)) H))
    · exact Exists.intro _ (And.intro rfl (And.intro (congrArg Value.bool (by rw [List.length_eq_zero_iff.1 q1]; simp)) H))
  · refine gNt ?_
    exact Exists.intro _ (And.intro rfl (And.intro (congrArg Value.bool (by rw [q]; rfl)) H))
theorem ok_spec_IsNumber : callOK Tryd.prog 27 = true := by kernel_rfl
theorem spec_IsNumber {xs : List Int} (hb : byteOK xs) {A : Option Addr} {n c : Nat} (hl : n ≤ 4294967296) {W : World} (hx : Rd W (.slice A n c) 1 n (xs.map (.int .u8))) : GivesV Tryd.prog 27 [.slice A n c] W (.bool (numb xs)) := by
  have H := St.enter W
  obtain rfl : n = xs.length := by have := hx.len; simpa using this.symm
  refine calls_of_vcV Tryd.func27 rfl (by kernel_rfl) (Nat.le_of_ble_eq_true rfl) ?_
  refine convB hx ?_
  unfold numb
  have e2 := unsign_drop xs
  refine joinV (fun e w => e 3 = .string (strOfNums (unsign xs)) ∧ St W.heap.size W w []) rfl ?_ ?_
  · refine cutG (fun e w => e 3 = .string (strOfNums xs) ∧ e 17 = .bool (decide (0 < xs.length ∧ (xs.getD 0 0 = 43 ∨ xs.getD 0 0 = 45))) ∧ St W.heap.size W w []) ?_ ?_
    · repeat' first | (refine gY ?_) | (refine gNt ?_) | (refine gNf ?_) | (refine ifT ?_) | (refine ifF ?_) | (refine arN (by omega) ?_) | (refine ar64 (by omega) (by omega) ?_) | (refine ar32 (by omega) (by omega) ?_) | (refine ar8 (by omega) (by omega) ?_) | (refine div64 (by omega) (by omega) (by omega) ?_) | (refine rem0 (by omega) (by omega) ?_) | (refine drawR H fun w H => ?_) | (refine RegV.mk ?_) | (refine JoinV.mk ?_) | (refine strNil hb rfl ?_) | (refine gNot ?_) | (refine strN (i := 0) hb (by omega) ?_) | (refine gT (fun h => ?_) (fun h => ?_) <;> first | (exfalso; omega) | skip) | (refine gF (fun h => ?_) (fun h => ?_) <;> first | (exfalso; omega) | skip) | (refine ifB (fun h => ?_) (fun h => ?_) <;> first | (exfalso; omega) | skip)
      all_goals refine ⟨rfl, congrArg Value.bool ?_, H⟩
      all_goals (rw [Bool.eq_iff_iff]; simp only [decide_eq_true_eq, Bool.false_eq_true, true_iff, iff_true, false_iff, iff_false]; omega)
    rintro e w ⟨h3, h17, H⟩
    rw [Env.two h3 h17]
    refine ifB (fun q => ?_) (fun q => ?_)
    · rw [if_pos q] at e2
      refine dropStr (l := 1) rfl (by omega) ?_
      rw [e2]
      exact ⟨rfl, H⟩
    · rw [if_neg q] at e2
      rw [e2]
      exact ⟨rfl, H⟩
  rintro e w ⟨h3, H⟩
  rw [Env.one h3]
  refine callV ok_l4unsigned (spec_l4unsigned (unsign_byte hb) (by have := unsign_len xs; omega)) H fun w H => ?_
  exact Exists.intro _ (And.intro rfl (And.intro rfl H))
end Go.Proofs.YtjdgcgmhbhfpkaaDoorE
