/- What the program's functions do that read numbers. -/
import Derived.Test.YtjdgcgmhbhfpkaaDoorPrim2
import Derived.Test.YtjdgcgmhbhfpkaaDoorPNum
namespace Go.Proofs.YtjdgcgmhbhfpkaaDoorE
open Go Go.RowKit Go.Proofs
set_option linter.unusedVariables false
set_option maxRecDepth 100000
set_option maxHeartbeats 2000000

def sortN (c : Int) : Int := if (97 ≤ c ∧ c ≤ 122) ∨ (65 ≤ c ∧ c ≤ 90) ∨ c = 95 ∨ c = 36 then 1 else if 48 ≤ c ∧ c ≤ 57 then 2 else if c = 46 ∨ c = 43 ∨ c = 45 then 3 else 0
theorem ok_sortOf : callOK Tryd.prog 35 = true := by kernel_rfl
theorem impl_sortOf (c : Int) (w : World) : GivesV Tryd.prog 35 [.int .i32 c] w (.int .i64 (sortN c)) := by
  have H := St.enter w
  refine calls_of_vcV Tryd.func35 rfl (by kernel_rfl) (Nat.le_of_ble_eq_true rfl) ?_
  repeat' first | (refine gY ?_) | (refine gNt ?_) | (refine gNf ?_) | (refine ifT ?_) | (refine ifF ?_) | (refine arN (by omega) ?_) | (refine ar64 (by omega) (by omega) ?_) | (refine ar32 (by omega) (by omega) ?_) | (refine ar8 (by omega) (by omega) ?_) | (refine div64 (by omega) (by omega) (by omega) ?_) | (refine rem0 (by omega) (by omega) ?_) | (refine drawR H fun w H => ?_) | (refine RegV.mk ?_) | (refine JoinV.mk ?_) | (refine gT (fun h => ?_) (fun h => ?_) <;> first | (exfalso; omega) | skip) | (refine gF (fun h => ?_) (fun h => ?_) <;> first | (exfalso; omega) | skip) | (refine ifB (fun h => ?_) (fun h => ?_) <;> first | (exfalso; omega) | skip)
  all_goals
    refine Exists.intro _ (And.intro rfl (And.intro (vI ?_) H))
    unfold sortN
    (repeat' split) <;> first | rfl | omega
theorem ok_hexDigit : callOK Tryd.prog 53 = true := by kernel_rfl
theorem impl_hexDigit (c : Int) (w : World) : GivesV Tryd.prog 53 [.int .i32 c] w (.int .i64 (hexv c)) := by
  have H := St.enter w
  refine calls_of_vcV Tryd.func53 rfl (by kernel_rfl) (Nat.le_of_ble_eq_true rfl) ?_
  repeat' first | (refine gY ?_) | (refine gNt ?_) | (refine gNf ?_) | (refine ifT ?_) | (refine ifF ?_) | (refine arN (by omega) ?_) | (refine ar64 (by omega) (by omega) ?_) | (refine ar32 (by omega) (by omega) ?_) | (refine ar8 (by omega) (by omega) ?_) | (refine div64 (by omega) (by omega) (by omega) ?_) | (refine rem0 (by omega) (by omega) ?_) | (refine drawR H fun w H => ?_) | (refine RegV.mk ?_) | (refine JoinV.mk ?_) | (refine gT (fun h => ?_) (fun h => ?_) <;> first | (exfalso; omega) | skip) | (refine gF (fun h => ?_) (fun h => ?_) <;> first | (exfalso; omega) | skip) | (refine ifB (fun h => ?_) (fun h => ?_) <;> first | (exfalso; omega) | skip)
  all_goals
    refine Exists.intro _ (And.intro rfl (And.intro (vI ?_) H))
    unfold hexv
    (repeat' split) <;> omega
theorem sortN_digit (c : Int) : decide (sortN c = 2) = digit c := by
  unfold sortN digit
  rw [decide_eq_decide]
  (repeat' split) <;> omega
theorem dig_cons (c : Int) (r : List Int) : dig (c :: r) = if digit c then c :: dig r else [] := by unfold dig; rw [List.takeWhile_cons]
theorem dig_le (xs : List Int) : (dig xs).length ≤ xs.length := (List.takeWhile_prefix _).length_le
theorem ok_digits : callOK Tryd.prog 54 = true := by kernel_rfl
theorem impl_digits {xs : List Int} (hb : byteOK xs) {A : Option Addr} {n c : Nat} (hl : n ≤ 4294967296) {w : World} (hx : Rd w (.slice A n c) 1 n (xs.map (.int .u8))) : GivesV Tryd.prog 54 [.slice A n c] w (.int .i64 (dig xs).length) := by
  have H := (St.enter w).ro0 rfl hx
  obtain rfl : n = xs.length := by have := hx.len; simpa using this.symm
  refine calls_of_vcV Tryd.func54 rfl (by kernel_rfl) (Nat.le_of_ble_eq_true rfl) ?_
  refine loopV (by kernel_rfl) (fun n e w' => e 0 = .slice A xs.length c ∧ ∃ j : Nat, e 3 = .int .i64 j ∧ j + n = xs.length ∧ (dig xs).length = j + (dig (xs.drop j)).length ∧ St w.heap.size w w' [.roB (.slice A xs.length c) xs]) xs.length
    ⟨rfl, 0, rfl, by omega, by simp, H⟩ ?_
  rintro n e w ⟨h0, j, h3, hj, hd, H⟩
  rw [Env.two h0 h3]
  have hbj := hb.get j
  have hd1 : j < xs.length → xs.drop j = xs.getD j 0 :: xs.drop (j + 1) := drop_cons xs j
  have hs := sortN_digit (xs.getD j 0)
  repeat' first | (refine gY ?_) | (refine gNt ?_) | (refine gNf ?_) | (refine ifT ?_) | (refine ifF ?_) | (refine arN (by omega) ?_) | (refine ar64 (by omega) (by omega) ?_) | (refine ar32 (by omega) (by omega) ?_) | (refine ar8 (by omega) (by omega) ?_) | (refine div64 (by omega) (by omega) (by omega) ?_) | (refine rem0 (by omega) (by omega) ?_) | (refine drawR H fun w H => ?_) | (refine RegV.mk ?_) | (refine JoinV.mk ?_) | (refine idxN (i := 0) (H.rd 0 rfl) (by omega) fun b off hc => ?_) | (refine idxN (i := 1) (H.rd 0 rfl) (by omega) fun b off hc => ?_) | (refine idxN (i := 2) (H.rd 0 rfl) (by omega) fun b off hc => ?_) | (refine idxN (i := 3) (H.rd 0 rfl) (by omega) fun b off hc => ?_) | (refine idxN (H.rd 0 rfl) (by omega) fun b off hc => ?_) | (refine idxI (H.rd 0 rfl) (by omega) (by omega) fun b off hc => ?_) | (refine loadS hc ?_) | (refine callV ok_sortOf (impl_sortOf _ _) H fun w H => ?_) | (refine Exists.intro (n - 1) (And.intro (by omega) (And.intro rfl ⟨j + 1, rfl, by omega, ?_, H⟩))) | (refine Exists.intro _ (And.intro rfl (And.intro (vI ?_) H.none))) | (refine gT (fun h => ?_) (fun h => ?_) <;> first | (exfalso; omega) | skip) | (refine gF (fun h => ?_) (fun h => ?_) <;> first | (exfalso; omega) | skip) | (refine ifB (fun h => ?_) (fun h => ?_) <;> first | (exfalso; omega) | skip)
  · rw [hd, hd1 (by omega), dig_cons, ← hs, if_pos (by simpa using h)]; simp; omega
  · rw [hd, hd1 (by omega), dig_cons, ← hs, if_neg (by simpa using h)]; simp
  · rw [hd, List.drop_of_length_le (by omega)]; simp [dig]
theorem allDig_iff (xs : List Int) : allDig xs = decide ((dig xs).length = xs.length) := by
  induction xs with
  | nil => rfl
  | cons c r ih =>
    rw [allDig_cons, dig_cons, ih]
    cases digit c <;> simp
def tailR (ys : List Int) : Bool := match ys with | [] => true | c :: r => if isE c then expo r else false
theorem decI_def (xs : List Int) : decI xs = if (dig xs).length > 1 ∧ xs.getD 0 0 = 48 then false else
    let r := xs.drop (dig xs).length
    if r.length > 0 ∧ r.getD 0 0 = 46 then (if (dig xs).length + (dig (r.drop 1)).length = 0 then false else tailR (r.drop (1 + (dig (r.drop 1)).length)))
    else if (dig xs).length = 0 then false else tailR r := by
  unfold decI
  split
  · rfl
  · cases h : xs.drop (dig xs).length with
    | nil => simp [tailR]
    | cons c r =>
      by_cases hc : c = 46
      · subst hc
        simp only [List.length_cons, List.getD_cons_zero, List.drop_succ_cons, List.drop_zero, Nat.add_comm 1]
        simp only [if_true, tailI, tailR, gt_iff_lt, Nat.zero_lt_succ, and_self]
        rfl
      · simp [hc, tailI, tailR]
theorem byteOK_inf : byteOK wordInf := fun x hx => by simp [wordInf] at hx; omega
theorem byteOK_nan : byteOK wordNaN := fun x hx => by simp [wordNaN] at hx; omega
theorem unsign_drop (ys : List Int) : unsign ys = if 0 < ys.length ∧ (ys.getD 0 0 = 43 ∨ ys.getD 0 0 = 45) then ys.drop 1 else ys := by
  cases ys with
  | nil => simp [unsign]
  | cons c r => simp [unsign]
theorem unsign_len (ys : List Int) : (unsign ys).length ≤ ys.length := by
  rw [unsign_drop]; split <;> simp
theorem unsign_byte {ys : List Int} (h : byteOK ys) : byteOK (unsign ys) := by
  rw [unsign_drop]; split
  · exact h.drop 1
  · exact h
theorem ok_IsNumber : callOK Tryd.prog 36 = true := by kernel_rfl
theorem impl_IsNumber {xs : List Int} (hb : byteOK xs) {A : Option Addr} {n c : Nat} (hl : n ≤ 4294967296) {W : World} (hx : Rd W (.slice A n c) 1 n (xs.map (.int .u8))) : GivesV Tryd.prog 36 [.slice A n c] W (.bool (numI xs)) := by
  have H := (St.enter W).ro0 rfl hx
  obtain rfl : n = xs.length := by have := hx.len; simpa using this.symm
  refine calls_of_vcV Tryd.func36 rfl (by kernel_rfl) (Nat.le_of_ble_eq_true rfl) ?_
  refine joinV (fun e w => ∃ A n c, e 0 = .slice A n c ∧ St W.heap.size W w [.ro (.slice A n c) 1 n ((unsign xs).map (.int .u8))]) rfl ?_ ?_
  · have e := unsign_drop xs
    repeat' first | (refine gY ?_) | (refine gNt ?_) | (refine gNf ?_) | (refine ifT ?_) | (refine ifF ?_) | (refine arN (by omega) ?_) | (refine ar64 (by omega) (by omega) ?_) | (refine ar32 (by omega) (by omega) ?_) | (refine ar8 (by omega) (by omega) ?_) | (refine div64 (by omega) (by omega) (by omega) ?_) | (refine rem0 (by omega) (by omega) ?_) | (refine drawR H fun w H => ?_) | (refine RegV.mk ?_) | (refine JoinV.mk ?_) | (refine idxN (i := 0) (H.rd 0 rfl) (by omega) fun b off hc => ?_) | (refine idxN (i := 1) (H.rd 0 rfl) (by omega) fun b off hc => ?_) | (refine idxN (i := 2) (H.rd 0 rfl) (by omega) fun b off hc => ?_) | (refine idxN (i := 3) (H.rd 0 rfl) (by omega) fun b off hc => ?_) | (refine idxN (H.rd 0 rfl) (by omega) fun b off hc => ?_) | (refine idxI (H.rd 0 rfl) (by omega) (by omega) fun b off hc => ?_) | (refine loadS hc ?_) | (refine dropR (l := 1) H 0 rfl rfl (by omega) fun A' H => ?_) | (refine gT (fun h => ?_) (fun h => ?_) <;> first | (exfalso; omega) | skip) | (refine gF (fun h => ?_) (fun h => ?_) <;> first | (exfalso; omega) | skip) | (refine ifB (fun h => ?_) (fun h => ?_) <;> first | (exfalso; omega) | skip)
    all_goals first
      | (rw [if_pos ⟨by omega, by omega⟩] at e; rw [e]; exact ⟨_, _, _, rfl, H.sub [0] (by decide)⟩)
      | (rw [if_neg (by omega)] at e; rw [e]; exact ⟨_, _, _, rfl, H⟩)
  rintro e w ⟨A, n, c, h0, H⟩
  rw [Env.one h0]
  have hlu := unsign_len xs
  have hbu : byteOK (unsign xs) := unsign_byte hb
  unfold numI
  generalize unsign xs = ys at *
  obtain rfl : n = ys.length := by have := (H.rd 0 rfl).len; simpa using this.symm
  have hsz := strOfNums_size ys
  refine joinV (fun e w => e 0 = .slice A ys.length c ∧ ¬ (ys = wordInf ∨ ys = wordNaN) ∧ isHexNum ys = false ∧ St W.heap.size W w [.roB (.slice A ys.length c) ys]) rfl ?_ ?_
  · refine convB (H.rd 0 rfl) ?_
    refine joinV (fun e w => e 0 = .slice A ys.length c ∧ e 3 = .string (strOfNums ys) ∧ e 27 = .bool (decide (ys = wordInf ∨ ys = wordNaN)) ∧ St W.heap.size W w [.roB (.slice A ys.length c) ys]) rfl ?_ ?_
    · repeat' first | (refine gY ?_) | (refine gNt ?_) | (refine gNf ?_) | (refine ifT ?_) | (refine ifF ?_) | (refine arN (by omega) ?_) | (refine ar64 (by omega) (by omega) ?_) | (refine ar32 (by omega) (by omega) ?_) | (refine ar8 (by omega) (by omega) ?_) | (refine div64 (by omega) (by omega) (by omega) ?_) | (refine rem0 (by omega) (by omega) ?_) | (refine drawR H fun w H => ?_) | (refine RegV.mk ?_) | (refine JoinV.mk ?_) | (refine strE (ys := wordInf) hbu byteOK_inf rfl ?_) | (refine strE (ys := wordNaN) hbu byteOK_nan rfl ?_) | (refine gT (fun h => ?_) (fun h => ?_) <;> first | (exfalso; omega) | skip) | (refine gF (fun h => ?_) (fun h => ?_) <;> first | (exfalso; omega) | skip) | (refine ifB (fun h => ?_) (fun h => ?_) <;> first | (exfalso; omega) | skip)
      all_goals exact ⟨rfl, rfl, congrArg Value.bool (by simp [*]), H⟩
    rintro e w ⟨h0, h3, h27, H⟩
    rw [Env.three h0 h3 h27]
    refine ifB (fun h => ?_) (fun hw => ?_)
    · exact Exists.intro _ (And.intro rfl (And.intro (congrArg Value.bool (by rw [if_pos h])) H.none))
    rw [if_neg hw]
    have hxd : isHexNum ys = decide (ys.length > 2 ∧ ys.getD 0 0 = 48 ∧ (ys.getD 1 0 = 120 ∨ ys.getD 1 0 = 88)) := rfl
    refine cutG (fun e w => e 0 = .slice A ys.length c ∧ e 32 = .bool (isHexNum ys) ∧ St W.heap.size W w [.roB (.slice A ys.length c) ys]) ?_ ?_
    · repeat' first | (refine gY ?_) | (refine gNt ?_) | (refine gNf ?_) | (refine ifT ?_) | (refine ifF ?_) | (refine arN (by omega) ?_) | (refine ar64 (by omega) (by omega) ?_) | (refine ar32 (by omega) (by omega) ?_) | (refine ar8 (by omega) (by omega) ?_) | (refine div64 (by omega) (by omega) (by omega) ?_) | (refine rem0 (by omega) (by omega) ?_) | (refine drawR H fun w H => ?_) | (refine RegV.mk ?_) | (refine JoinV.mk ?_) | (refine strN (i := 0) hbu (by omega) ?_) | (refine strN (i := 1) hbu (by omega) ?_) | (refine gT (fun h => ?_) (fun h => ?_) <;> first | (exfalso; omega) | skip) | (refine gF (fun h => ?_) (fun h => ?_) <;> first | (exfalso; omega) | skip) | (refine ifB (fun h => ?_) (fun h => ?_) <;> first | (exfalso; omega) | skip)
      all_goals refine ⟨rfl, congrArg Value.bool ?_, H⟩
      all_goals (rw [hxd]; (rw [Bool.eq_iff_iff]; simp only [decide_eq_true_eq, Bool.false_eq_true, true_iff, iff_true, false_iff, iff_false]; omega))
    rintro e w ⟨h0, h32, H⟩
    rw [Env.two h0 h32]
    refine ifO (fun hh => ?_) (fun hh => ⟨rfl, hw, hh, H⟩)
    rw [hh] at hxd
    have hxd := of_decide_eq_true hxd.symm
    refine dropR (l := 2) H 0 rfl rfl (by omega) fun A' H => ?_
    refine loopV (by kernel_rfl) (fun m e w => e 52 = .slice A' (ys.length - 2) (c - 2) ∧ e 53 = .int .i64 (ys.length - 2 : Nat) ∧ ∃ j : Nat, e 54 = .int .i64 j ∧ j + m = ys.length - 2 ∧ hexs (ys.drop 2) = hexs (ys.drop (2 + j)) ∧ St W.heap.size W w [.ro (.slice A' (ys.length - 2) (c - 2)) 1 (ys.length - 2) ((ys.drop 2).map (.int .u8))]) (ys.length - 2)
      ⟨rfl, rfl, 0, rfl, by omega, rfl, H.sub [0] (by decide)⟩ ?_
    rintro m e w ⟨h52, h53, j, h54, hj, hq, H⟩
    rw [Env.three h52 h53 h54]
    have hbj := (hbu.drop 2).get j
    have hd : j < ys.length - 2 → hexs (ys.drop (2 + j)) = (decide (0 ≤ hexv ((ys.drop 2).getD j 0)) && hexs (ys.drop (2 + (j + 1)))) := fun h => by
      rw [drop_cons ys (2 + j) (by omega)]
      simp [hexs, List.getD_eq_getElem?_getD, Nat.add_assoc]
    repeat' first | (refine gY ?_) | (refine gNt ?_) | (refine gNf ?_) | (refine ifT ?_) | (refine ifF ?_) | (refine arN (by omega) ?_) | (refine ar64 (by omega) (by omega) ?_) | (refine ar32 (by omega) (by omega) ?_) | (refine ar8 (by omega) (by omega) ?_) | (refine div64 (by omega) (by omega) (by omega) ?_) | (refine rem0 (by omega) (by omega) ?_) | (refine drawR H fun w H => ?_) | (refine RegV.mk ?_) | (refine JoinV.mk ?_) | (refine idxN (i := 0) (H.rd 0 rfl) (by omega) fun b off hc => ?_) | (refine idxN (i := 1) (H.rd 0 rfl) (by omega) fun b off hc => ?_) | (refine idxN (i := 2) (H.rd 0 rfl) (by omega) fun b off hc => ?_) | (refine idxN (i := 3) (H.rd 0 rfl) (by omega) fun b off hc => ?_) | (refine idxN (H.rd 0 rfl) (by omega) fun b off hc => ?_) | (refine idxI (H.rd 0 rfl) (by omega) (by omega) fun b off hc => ?_) | (refine loadS hc ?_) | (refine callV ok_hexDigit (impl_hexDigit _ _) H fun w H => ?_) | (refine Exists.intro (m - 1) (And.intro (by omega) (And.intro rfl ⟨rfl, j + 1, rfl, by omega, ?_, H⟩))) | (refine Exists.intro _ (And.intro rfl (And.intro (congrArg Value.bool ?_) H.none))) | (refine gT (fun h => ?_) (fun h => ?_) <;> first | (exfalso; omega) | skip) | (refine gF (fun h => ?_) (fun h => ?_) <;> first | (exfalso; omega) | skip) | (refine ifB (fun h => ?_) (fun h => ?_) <;> first | (exfalso; omega) | skip)
    · rw [if_pos hh, hq, hd (by omega), decide_eq_false (by omega), Bool.false_and]
    · rw [hq, hd (by omega), decide_eq_true (by omega), Bool.true_and]
    · rw [if_pos hh, hq, List.drop_of_length_le (by omega)]; rfl
  rintro e w ⟨h0, hw, hx, H⟩
  rw [Env.one h0, if_neg hw, if_neg (by rw [hx]; simp)]
  have hds := dig_le ys
  have hdd := decI_def ys
  refine callV ok_digits (impl_digits hbu (by omega) (H.rd 0 rfl)) H fun w H => ?_
  generalize dig ys = ds at *
  refine cutG (fun e w => e 0 = .slice A ys.length c ∧ e 6 = .int .i64 ds.length ∧ e 72 = .bool (decide (ds.length > 1 ∧ ys.getD 0 0 = 48)) ∧ St W.heap.size W w [.roB (.slice A ys.length c) ys]) ?_ ?_
  · repeat' first | (refine gY ?_) | (refine gNt ?_) | (refine gNf ?_) | (refine ifT ?_) | (refine ifF ?_) | (refine arN (by omega) ?_) | (refine ar64 (by omega) (by omega) ?_) | (refine ar32 (by omega) (by omega) ?_) | (refine ar8 (by omega) (by omega) ?_) | (refine div64 (by omega) (by omega) (by omega) ?_) | (refine rem0 (by omega) (by omega) ?_) | (refine drawR H fun w H => ?_) | (refine RegV.mk ?_) | (refine JoinV.mk ?_) | (refine idxN (i := 0) (H.rd 0 rfl) (by omega) fun b off hc => ?_) | (refine idxN (i := 1) (H.rd 0 rfl) (by omega) fun b off hc => ?_) | (refine idxN (i := 2) (H.rd 0 rfl) (by omega) fun b off hc => ?_) | (refine idxN (i := 3) (H.rd 0 rfl) (by omega) fun b off hc => ?_) | (refine idxN (H.rd 0 rfl) (by omega) fun b off hc => ?_) | (refine idxI (H.rd 0 rfl) (by omega) (by omega) fun b off hc => ?_) | (refine loadS hc ?_) | (refine gT (fun h => ?_) (fun h => ?_) <;> first | (exfalso; omega) | skip) | (refine gF (fun h => ?_) (fun h => ?_) <;> first | (exfalso; omega) | skip) | (refine ifB (fun h => ?_) (fun h => ?_) <;> first | (exfalso; omega) | skip)
    all_goals refine ⟨rfl, rfl, congrArg Value.bool ?_, H⟩
    all_goals (rw [Bool.eq_iff_iff]; simp only [decide_eq_true_eq, Bool.false_eq_true, true_iff, iff_true, false_iff, iff_false]; omega)
  rintro e w ⟨h0, h6, h72, H⟩
  rw [Env.three h0 h6 h72]
  refine ifB (fun h => ?_) (fun hn => ?_)
  · exact Exists.intro _ (And.intro rfl (And.intro (congrArg Value.bool (by rw [hdd, if_pos h])) H.none))
  rw [if_neg hn] at hdd
  refine dropR (l := ds.length) H 0 rfl rfl (by omega) fun A2 H => ?_
  have H : St W.heap.size W w [.ro (.slice A2 (ys.length - ds.length) (c - ds.length)) 1 (ys.length - ds.length) ((ys.drop ds.length).map (.int .u8))] := H.sub [0] (by decide)
  have hb2 := hbu.drop ds.length
  have hl2 : ys.length - ds.length = (ys.drop ds.length).length := List.length_drop.symm
  rw [hl2] at H ⊢
  have hlz : (ys.drop ds.length).length ≤ ys.length := by omega
  clear hl2
  generalize ys.drop ds.length = zs at *
  refine joinV (fun e w => ∃ A ts c, e 0 = .slice A (List.length ts) c ∧ byteOK ts ∧ ts.length ≤ ys.length ∧ decI ys = tailR ts ∧ St W.heap.size W w [.roB (.slice A (List.length ts) c) ts]) rfl ?_ ?_
  · refine cutG (fun e w => e 0 = .slice A2 zs.length (c - ds.length) ∧ e 6 = .int .i64 ds.length ∧ e 84 = .bool (decide (zs.length > 0 ∧ zs.getD 0 0 = 46)) ∧ St W.heap.size W w [.roB (.slice A2 zs.length (c - ds.length)) zs]) ?_ ?_
    · repeat' first | (refine gY ?_) | (refine gNt ?_) | (refine gNf ?_) | (refine ifT ?_) | (refine ifF ?_) | (refine arN (by omega) ?_) | (refine ar64 (by omega) (by omega) ?_) | (refine ar32 (by omega) (by omega) ?_) | (refine ar8 (by omega) (by omega) ?_) | (refine div64 (by omega) (by omega) (by omega) ?_) | (refine rem0 (by omega) (by omega) ?_) | (refine drawR H fun w H => ?_) | (refine RegV.mk ?_) | (refine JoinV.mk ?_) | (refine idxN (i := 0) (H.rd 0 rfl) (by omega) fun b off hc => ?_) | (refine idxN (i := 1) (H.rd 0 rfl) (by omega) fun b off hc => ?_) | (refine idxN (i := 2) (H.rd 0 rfl) (by omega) fun b off hc => ?_) | (refine idxN (i := 3) (H.rd 0 rfl) (by omega) fun b off hc => ?_) | (refine idxN (H.rd 0 rfl) (by omega) fun b off hc => ?_) | (refine idxI (H.rd 0 rfl) (by omega) (by omega) fun b off hc => ?_) | (refine loadS hc ?_) | (refine gT (fun h => ?_) (fun h => ?_) <;> first | (exfalso; omega) | skip) | (refine gF (fun h => ?_) (fun h => ?_) <;> first | (exfalso; omega) | skip) | (refine ifB (fun h => ?_) (fun h => ?_) <;> first | (exfalso; omega) | skip)
      all_goals refine ⟨rfl, rfl, congrArg Value.bool ?_, H⟩
      all_goals (rw [Bool.eq_iff_iff]; simp only [decide_eq_true_eq, Bool.false_eq_true, true_iff, iff_true, false_iff, iff_false]; omega)
    rintro e w ⟨h0, h6, h84, H⟩
    rw [Env.three h0 h6 h84]
    refine ifB (fun h => ?_) (fun h => ?_)
    · rw [if_pos h] at hdd
      have hd2 := dig_le (zs.drop 1)
      have hd2l : (zs.drop 1).length = zs.length - 1 := List.length_drop
      repeat' first | (refine gY ?_) | (refine gNt ?_) | (refine gNf ?_) | (refine ifT ?_) | (refine ifF ?_) | (refine arN (by omega) ?_) | (refine ar64 (by omega) (by omega) ?_) | (refine ar32 (by omega) (by omega) ?_) | (refine ar8 (by omega) (by omega) ?_) | (refine div64 (by omega) (by omega) (by omega) ?_) | (refine rem0 (by omega) (by omega) ?_) | (refine drawR H fun w H => ?_) | (refine RegV.mk ?_) | (refine JoinV.mk ?_) | (refine dropR (l := 1) H 0 rfl rfl (by omega) fun A' H => ?_) | (refine callV ok_digits (impl_digits (hb2.drop 1) (by omega) (H.rd 0 rfl)) H fun w H => ?_) | (refine gT (fun h => ?_) (fun h => ?_) <;> first | (exfalso; omega) | skip) | (refine gF (fun h => ?_) (fun h => ?_) <;> first | (exfalso; omega) | skip) | (refine ifB (fun h => ?_) (fun h => ?_) <;> first | (exfalso; omega) | skip)
      · exact Exists.intro _ (And.intro rfl (And.intro (congrArg Value.bool (by rw [hdd, if_pos (by omega)])) H.none))
      · rw [if_neg (by omega)] at hdd
        refine dropR (l := 1 + (dig (zs.drop 1)).length) H 1 rfl (by rw [Int.natCast_add]; rfl) (by omega) fun A' H => ?_
        have e1 : zs.length - (1 + (dig (zs.drop 1)).length) = (zs.drop (1 + (dig (zs.drop 1)).length)).length := List.length_drop.symm
        rw [e1] at H ⊢
        exact ⟨_, _, _, rfl, hb2.drop _, by omega, hdd, H.sub [0] (by decide)⟩
    · rw [if_neg h] at hdd
      repeat' first | (refine gY ?_) | (refine gNt ?_) | (refine gNf ?_) | (refine ifT ?_) | (refine ifF ?_) | (refine arN (by omega) ?_) | (refine ar64 (by omega) (by omega) ?_) | (refine ar32 (by omega) (by omega) ?_) | (refine ar8 (by omega) (by omega) ?_) | (refine div64 (by omega) (by omega) (by omega) ?_) | (refine rem0 (by omega) (by omega) ?_) | (refine drawR H fun w H => ?_) | (refine RegV.mk ?_) | (refine JoinV.mk ?_) | (refine gT (fun h => ?_) (fun h => ?_) <;> first | (exfalso; omega) | skip) | (refine gF (fun h => ?_) (fun h => ?_) <;> first | (exfalso; omega) | skip) | (refine ifB (fun h => ?_) (fun h => ?_) <;> first | (exfalso; omega) | skip)
      · exact Exists.intro _ (And.intro rfl (And.intro (congrArg Value.bool (by rw [hdd, if_pos (by omega)])) H.none))
      · rw [if_neg (by omega)] at hdd
        exact ⟨_, _, _, rfl, hb2, by omega, hdd, H⟩
  rintro e w ⟨A, ts, c, h0, hb3, hl3, hde, H⟩
  rw [Env.one h0, hde]
  have hxt : tailR ts = if ts.length = 0 then true else if isE (ts.getD 0 0) then expo (ts.drop 1) else false := by cases ts <;> simp [tailR]
  refine ifB (fun h => ?_) (fun h => ?_)
  · exact Exists.intro _ (And.intro rfl (And.intro (congrArg Value.bool (by rw [hxt, if_pos (by omega)])) H.none))
  rw [if_neg (by omega)] at hxt
  refine cutG (fun e w => e 0 = .slice A ts.length c ∧ e 110 = .bool (!(isE (ts.getD 0 0))) ∧ St W.heap.size W w [.roB (.slice A ts.length c) ts]) ?_ ?_
  · repeat' first | (refine gY ?_) | (refine gNt ?_) | (refine gNf ?_) | (refine ifT ?_) | (refine ifF ?_) | (refine arN (by omega) ?_) | (refine ar64 (by omega) (by omega) ?_) | (refine ar32 (by omega) (by omega) ?_) | (refine ar8 (by omega) (by omega) ?_) | (refine div64 (by omega) (by omega) (by omega) ?_) | (refine rem0 (by omega) (by omega) ?_) | (refine drawR H fun w H => ?_) | (refine RegV.mk ?_) | (refine JoinV.mk ?_) | (refine idxN (i := 0) (H.rd 0 rfl) (by omega) fun b off hc => ?_) | (refine idxN (i := 1) (H.rd 0 rfl) (by omega) fun b off hc => ?_) | (refine idxN (i := 2) (H.rd 0 rfl) (by omega) fun b off hc => ?_) | (refine idxN (i := 3) (H.rd 0 rfl) (by omega) fun b off hc => ?_) | (refine idxN (H.rd 0 rfl) (by omega) fun b off hc => ?_) | (refine idxI (H.rd 0 rfl) (by omega) (by omega) fun b off hc => ?_) | (refine loadS hc ?_) | (refine gT (fun h => ?_) (fun h => ?_) <;> first | (exfalso; omega) | skip) | (refine gF (fun h => ?_) (fun h => ?_) <;> first | (exfalso; omega) | skip) | (refine ifB (fun h => ?_) (fun h => ?_) <;> first | (exfalso; omega) | skip)
    all_goals refine ⟨rfl, congrArg Value.bool ?_, H⟩
    all_goals (unfold isE; rw [← decide_not]; (rw [Bool.eq_iff_iff]; simp only [decide_eq_true_eq, Bool.false_eq_true, true_iff, iff_true, false_iff, iff_false]; omega))
  rintro e w ⟨h0, h110, H⟩
  rw [Env.two h0 h110]
  refine ifNot (ifO (fun h => ?_) (fun h => ?_))
  case refine_2 => exact Exists.intro _ (And.intro rfl (And.intro (congrArg Value.bool (by rw [hxt, h]; rfl)) H.none))
  rw [if_pos h] at hxt
  refine dropR (l := 1) H 0 rfl rfl (by omega) fun A1 H => ?_
  have e1 : ts.length - 1 = (ts.drop 1).length := List.length_drop.symm
  rw [e1] at H ⊢
  have H := H.sub [0] (by decide)
  have hb4 := hb3.drop 1
  have hl4 : (ts.drop 1).length ≤ ys.length := by omega
  rw [hxt]
  clear e1
  generalize ts.drop 1 = us at *
  have e2 := unsign_drop us
  refine joinV (fun e w => ∃ A n c, e 0 = .slice A n c ∧ St W.heap.size W w [.ro (.slice A n c) 1 n ((unsign us).map (.int .u8))]) rfl ?_ ?_
  · repeat' first | (refine gY ?_) | (refine gNt ?_) | (refine gNf ?_) | (refine ifT ?_) | (refine ifF ?_) | (refine arN (by omega) ?_) | (refine ar64 (by omega) (by omega) ?_) | (refine ar32 (by omega) (by omega) ?_) | (refine ar8 (by omega) (by omega) ?_) | (refine div64 (by omega) (by omega) (by omega) ?_) | (refine rem0 (by omega) (by omega) ?_) | (refine drawR H fun w H => ?_) | (refine RegV.mk ?_) | (refine JoinV.mk ?_) | (refine idxN (i := 0) (H.rd 0 rfl) (by omega) fun b off hc => ?_) | (refine idxN (i := 1) (H.rd 0 rfl) (by omega) fun b off hc => ?_) | (refine idxN (i := 2) (H.rd 0 rfl) (by omega) fun b off hc => ?_) | (refine idxN (i := 3) (H.rd 0 rfl) (by omega) fun b off hc => ?_) | (refine idxN (H.rd 0 rfl) (by omega) fun b off hc => ?_) | (refine idxI (H.rd 0 rfl) (by omega) (by omega) fun b off hc => ?_) | (refine loadS hc ?_) | (refine dropR (l := 1) H 0 rfl rfl (by omega) fun A' H => ?_) | (refine gT (fun h => ?_) (fun h => ?_) <;> first | (exfalso; omega) | skip) | (refine gF (fun h => ?_) (fun h => ?_) <;> first | (exfalso; omega) | skip) | (refine ifB (fun h => ?_) (fun h => ?_) <;> first | (exfalso; omega) | skip)
    all_goals first
      | (rw [if_pos ⟨by omega, by omega⟩] at e2; rw [e2]; exact ⟨_, _, _, rfl, H.sub [0] (by decide)⟩)
      | (rw [if_neg (by omega)] at e2; rw [e2]; exact ⟨_, _, _, rfl, H⟩)
  rintro e w ⟨A, n, c, h0, H⟩
  rw [Env.one h0]
  have hlu := unsign_len us
  have hbu : byteOK (unsign us) := unsign_byte hb4
  unfold expo
  generalize unsign us = vs at *
  obtain rfl : n = vs.length := by have := (H.rd 0 rfl).len; simpa using this.symm
  repeat' first | (refine gY ?_) | (refine gNt ?_) | (refine gNf ?_) | (refine ifT ?_) | (refine ifF ?_) | (refine arN (by omega) ?_) | (refine ar64 (by omega) (by omega) ?_) | (refine ar32 (by omega) (by omega) ?_) | (refine ar8 (by omega) (by omega) ?_) | (refine div64 (by omega) (by omega) (by omega) ?_) | (refine rem0 (by omega) (by omega) ?_) | (refine drawR H fun w H => ?_) | (refine RegV.mk ?_) | (refine JoinV.mk ?_) | (refine callV ok_digits (impl_digits hbu (by omega) (H.rd 0 rfl)) H fun w H => ?_) | (refine gT (fun h => ?_) (fun h => ?_) <;> first | (exfalso; omega) | skip) | (refine gF (fun h => ?_) (fun h => ?_) <;> first | (exfalso; omega) | skip) | (refine ifB (fun h => ?_) (fun h => ?_) <;> first | (exfalso; omega) | skip)
  all_goals refine Exists.intro _ (And.intro rfl (And.intro (congrArg Value.bool ?_) H.none))
  all_goals rw [show (decide (vs ≠ []) && allDig vs) = decide (vs.length > 0 ∧ (dig vs).length = vs.length) by rw [allDig_iff]; cases vs <;> simp]
  all_goals (rw [Bool.eq_iff_iff]; simp only [decide_eq_true_eq, Bool.false_eq_true, true_iff, iff_true, false_iff, iff_false]; omega)
end Go.Proofs.YtjdgcgmhbhfpkaaDoorE
