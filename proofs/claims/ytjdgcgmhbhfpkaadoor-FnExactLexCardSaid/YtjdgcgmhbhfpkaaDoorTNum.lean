/- What the reference's and the program's functions do that read numbers. -/
import Derived.Test.YtjdgcgmhbhfpkaaDoorStr
import Derived.Test.YtjdgcgmhbhfpkaaDoorPNum
namespace Go.Proofs.YtjdgcgmhbhfpkaaDoorE
open Go Go.RowKit Go.Proofs
set_option linter.unusedVariables false
set_option maxRecDepth 100000

theorem ok_l4digit : callOK Tryd.prog 25 = true := by kernel_rfl
theorem spec_l4digit (c : Int) (w : World) : Calls Tryd.prog 25 #[.int .i64 c] w fun e w' => ∃ v, e = .returned v ∧ v = .bool (digit c) ∧ Below w.heap.size w w' := by
  refine calls_of_vcR (args := [.int .i64 c]) Tryd.func25 rfl (by kernel_rfl) (Nat.le_of_ble_eq_true rfl) ?_
  repeat' first | refine gY ?_ | refine gNt ?_ | refine gNf ?_ | refine ifT ?_ | refine ifF ?_ | refine gT (fun _ => ?_) (fun _ => ?_) | refine gF (fun _ => ?_) (fun _ => ?_) | refine ifB (fun _ => ?_) (fun _ => ?_)
  all_goals
    refine Exists.intro _ (And.intro rfl (And.intro (congrArg Value.bool ?_) (Below.refl _ _)))
    unfold digit
    symm
    first
      | (rw [decide_eq_true_eq]; omega)
      | (rw [decide_eq_false_iff_not]; omega)
      | (rw [decide_eq_decide]; omega)
theorem ok_l4hex : callOK Tryd.prog 62 = true := by kernel_rfl
theorem spec_l4hex (c : Int) (w : World) : Calls Tryd.prog 62 #[.int .i64 c] w fun e w' => ∃ v, e = .returned v ∧ v = .int .i64 (hexv c) ∧ Below w.heap.size w w' := by
  refine calls_of_vcR (args := [.int .i64 c]) Tryd.func62 rfl (by kernel_rfl) (Nat.le_of_ble_eq_true rfl) ?_
  refine callR ok_l4digit (spec_l4digit c w) ?_
  rintro _ w1 ⟨rfl, hB⟩
  refine eB (p := 48 ≤ c ∧ c ≤ 57) rfl (fun h => ?_) (fun h => ?_)
  · refine Exists.intro _ (And.intro rfl (And.intro (vI ?_) hB))
    rw [w64k _ (by omega) (by omega)]; unfold hexv; rw [if_pos h]
  repeat' first | refine gY ?_ | refine gNt ?_ | refine gNf ?_ | refine ifT ?_ | refine ifF ?_ | refine gT (fun _ => ?_) (fun _ => ?_) | refine gF (fun _ => ?_) (fun _ => ?_) | refine ifB (fun _ => ?_) (fun _ => ?_)
  all_goals
    refine Exists.intro _ (And.intro rfl (And.intro (vI ?_) hB))
    unfold hexv
    rw [if_neg h]
    first
      | (rw [w64k (c - _) (by omega) (by omega), w64k _ (by omega) (by omega)]; (repeat' split) <;> omega)
      | ((repeat' split) <;> omega)
theorem ok_l4allDigits : callOK Tryd.prog 61 = true := by kernel_rfl
theorem spec_l4allDigits (xs : List Int) (hb : byteOK xs) (hl : xs.length ≤ 4294967296) (w : World) : Calls Tryd.prog 61 #[.string (strOfNums xs)] w fun e w' => ∃ v, e = .returned v ∧ v = .bool (allDig xs) ∧ Below w.heap.size w w' := by
  refine calls_of_vcR (args := [.string (strOfNums xs)]) Tryd.func61 rfl (by kernel_rfl) (Nat.le_of_ble_eq_true rfl) ?_
  refine loopR (by kernel_rfl) (fun n e w' => e 0 = .string (strOfNums xs) ∧ ∃ j : Nat, e 3 = .int .i64 j ∧ j + n = xs.length ∧ allDig xs = allDig (xs.drop j) ∧ Below w.heap.size w w') xs.length
    ⟨rfl, 0, rfl, by omega, by simp, Below.refl _ _⟩ ?_
  rintro n e w1 ⟨h0, j, h3, hj, hg, hB⟩
  rw [Env.two h0 h3]
  refine ifB (p := (j : Int) < (strOfNums xs).size) (fun h => ?_) (fun h => ?_)
  · rw [strOfNums_size] at h
    have hjl : j < xs.length := by omega
    have hd : xs.drop j = xs.getD j 0 :: xs.drop (j + 1) := drop_cons xs j hjl
    have hbj := hb.get j
    refine strS hb (by omega) h ?_
    refine callR ok_l4digit (spec_l4digit (IntKind.i64.wrap (xs.getD j 0)) w1) ?_
    rintro _ w2 ⟨rfl, hB2⟩
    have ew : IntKind.i64.wrap (xs.getD j 0) = xs.getD j 0 := w64k _ (by omega) (by omega)
    refine eB (p := ¬ digit (xs.getD j 0) = true) (by rw [ew]; cases digit (xs.getD j 0) <;> rfl) (fun h1 => ?_) (fun h1 => ?_)
    · refine Exists.intro _ (And.intro rfl (And.intro (congrArg Value.bool ?_) (below_trans hB hB2)))
      have h1 : digit (xs.getD j 0) = false := by simpa using h1
      rw [hg, hd, allDig_cons, h1]; rfl
    · have h1 : digit (xs.getD j 0) = true := by simpa using h1
      refine Exists.intro (n - 1) (And.intro (by omega) (And.intro rfl ⟨j + 1, vI ?_, by omega, ?_, below_trans hB hB2⟩))
      · rw [w64k _ (by omega) (by omega)]; omega
      · rw [hg, hd, allDig_cons, h1]; rfl
  · rw [strOfNums_size] at h
    refine Exists.intro _ (And.intro rfl (And.intro (congrArg Value.bool ?_) hB))
    rw [hg, List.drop_of_length_le (by omega)]; rfl
theorem ok_l4allHex : callOK Tryd.prog 59 = true := by kernel_rfl
theorem hexs_cons (c : Int) (xs : List Int) : hexs (c :: xs) = (decide (0 ≤ hexv c) && hexs xs) := by simp [hexs]
theorem spec_l4allHex (xs : List Int) (hb : byteOK xs) (hl : xs.length ≤ 4294967296) (hpos : 0 < xs.length) (w : World) : Calls Tryd.prog 59 #[.string (strOfNums xs)] w fun e w' => ∃ v, e = .returned v ∧ v = .bool (hexs xs) ∧ Below w.heap.size w w' := by
  refine calls_of_vcR (args := [.string (strOfNums xs)]) Tryd.func59 rfl (by kernel_rfl) (Nat.le_of_ble_eq_true rfl) ?_
  refine loopR (by kernel_rfl) (fun n e w' => e 0 = .string (strOfNums xs) ∧ ∃ j : Nat, e 3 = .int .i64 j ∧ j + n = xs.length ∧ hexs xs = hexs (xs.drop j) ∧ Below w.heap.size w w') xs.length
    ⟨rfl, 0, rfl, by omega, by simp, Below.refl _ _⟩ ?_
  rintro n e w1 ⟨h0, j, h3, hj, hg, hB⟩
  rw [Env.two h0 h3]
  refine ifB (p := (j : Int) < (strOfNums xs).size) (fun h => ?_) (fun h => ?_)
  · rw [strOfNums_size] at h
    have hjl : j < xs.length := by omega
    have hd : xs.drop j = xs.getD j 0 :: xs.drop (j + 1) := drop_cons xs j hjl
    have hbj := hb.get j
    refine strS hb (by omega) h ?_
    refine callR ok_l4hex (spec_l4hex (IntKind.i64.wrap (xs.getD j 0)) w1) ?_
    rintro _ w2 ⟨rfl, hB2⟩
    have ew : IntKind.i64.wrap (xs.getD j 0) = xs.getD j 0 := w64k _ (by omega) (by omega)
    refine ifB (p := hexv (IntKind.i64.wrap (xs.getD j 0)) < 0) (fun h1 => ?_) (fun h1 => ?_)
    · refine Exists.intro _ (And.intro rfl (And.intro (congrArg Value.bool ?_) (below_trans hB hB2)))
      rw [ew] at h1
      rw [hg, hd, hexs_cons, decide_eq_false (by omega)]; rfl
    · rw [ew] at h1
      refine Exists.intro (n - 1) (And.intro (by omega) (And.intro rfl ⟨j + 1, vI ?_, by omega, ?_, below_trans hB hB2⟩))
      · rw [w64k _ (by omega) (by omega)]; omega
      · rw [hg, hd, hexs_cons, decide_eq_true (by omega)]; rfl
  · rw [strOfNums_size] at h
    refine Exists.intro _ (And.intro rfl (And.intro (congrArg Value.bool ?_) hB))
    rw [hg, List.drop_of_length_le (by omega), strOfNums_size]
    exact decide_eq_true (by omega)
theorem bne_dec (a b : Int) : (a != b) = decide (a ≠ b) := by by_cases h : a = b <;> simp [h]
def PtOK (p : Int → Bool) (xs : List Int) (j : Nat) (pt : Int) : Prop :=
  (pt = -1 ∧ ∀ i, i < j → p (xs.getD i 0) = false) ∨ (∃ k : Nat, pt = k ∧ k < j ∧ (∀ i, i < k → p (xs.getD i 0) = false) ∧ p (xs.getD k 0) = true)
theorem ok_l4mantissa : callOK Tryd.prog 60 = true := by kernel_rfl
theorem spec_l4mantissa (xs : List Int) (hb : byteOK xs) (hl : xs.length ≤ 4294967296) (w : World) : Calls Tryd.prog 60 #[.string (strOfNums xs)] w fun e w' => ∃ v, e = .returned v ∧ v = .bool (mant xs) ∧ Below w.heap.size w w' := by
  refine calls_of_vcR (args := [.string (strOfNums xs)]) Tryd.func60 rfl (by kernel_rfl) (Nat.le_of_ble_eq_true rfl) ?_
  refine loopJ (by kernel_rfl) (fun n e w' => e 0 = .string (strOfNums xs) ∧ ∃ (j : Nat) (pt : Int), e 4 = .int .i64 j ∧ e 3 = .int .i64 pt ∧ j + n = xs.length ∧ PtOK isDot xs j pt ∧ Below w.heap.size w w')
    (fun id e w' => id = 0 ∧ e 0 = .string (strOfNums xs) ∧ ∃ pt : Int, e 3 = .int .i64 pt ∧ PtOK isDot xs xs.length pt ∧ Below w.heap.size w w') xs.length
    ⟨rfl, 0, -1, rfl, rfl, by omega, .inl ⟨rfl, fun i hi => by omega⟩, Below.refl _ _⟩ ?_ ?_
  · rintro n e w1 ⟨h0, j, pt, h4, h3, hj, hp, hB⟩
    rw [Env.three h0 h4 h3]
    refine ifB (p := (j : Int) < (strOfNums xs).size) (fun h => ?_) (fun h => ?_)
    case refine_2 =>
      rw [strOfNums_size] at h
      have : j = xs.length := by omega
      subst this
      exact ⟨rfl, rfl, pt, rfl, hp, hB⟩
    rw [strOfNums_size] at h
    have hjl : j < xs.length := by omega
    have hbj := hb.get j
    refine strS hb (by omega) h ?_
    have hw1 : IntKind.i64.wrap ((j : Int) + 1) = ((j + 1 : Nat) : Int) := by rw [w64k _ (by omega) (by omega)]; omega
    refine gT (p := xs.getD (j : Int).toNat 0 = 46) (fun h1 => ?_) (fun h1 => ?_)
    · have h1 : isDot (xs.getD j 0) = true := by unfold isDot; exact decide_eq_true h1
      refine ifB (p := pt < 0) (fun h2 => ?_) (fun h2 => ?_)
      · refine Exists.intro (n - 1) (And.intro (by omega) (And.intro rfl ⟨j + 1, j, vI hw1, rfl, by omega, ?_, hB⟩))
        rcases hp with ⟨_, hp⟩ | ⟨k, hk, _⟩
        · exact .inr ⟨j, rfl, by omega, hp, h1⟩
        · omega
      · refine Exists.intro (n - 1) (And.intro (by omega) (And.intro rfl ⟨j + 1, pt, vI hw1, rfl, by omega, ?_, hB⟩))
        rcases hp with ⟨hp, _⟩ | ⟨k, hk, hkj, hp⟩
        · omega
        · exact .inr ⟨k, hk, by omega, hp⟩
    · have h1 : isDot (xs.getD j 0) = false := by unfold isDot; exact decide_eq_false h1
      refine ifF ?_
      refine Exists.intro (n - 1) (And.intro (by omega) (And.intro rfl ⟨j + 1, pt, vI hw1, rfl, by omega, ?_, hB⟩))
      rcases hp with ⟨hp, hq⟩ | ⟨k, hk, hkj, hp⟩
      · refine .inl ⟨hp, fun i hi => ?_⟩
        by_cases hij : i = j
        · rw [hij]; exact h1
        · exact hq i (by omega)
      · exact .inr ⟨k, hk, by omega, hp⟩
  · rintro id e w1 ⟨rfl, h0, pt, h3, hp, hB⟩
    rw [Env.two h0 h3]
    rcases hp with ⟨rfl, hp⟩ | ⟨k, rfl, hk, hp, hq⟩
    · have hc := cut_no isDot xs hp
      have hm : mant xs = (allDig xs && allDig [] && (if xs = [] then false && decide (([] : List Int) ≠ []) else decide (xs = [48]) || decide (xs.getD 0 0 ≠ 48))) := by unfold mant; rw [hc]; rfl
      have hwb := hb
      have hwl := hl
      have hpb := byteOK.nil
      have hpl : ([] : List Int).length ≤ 4294967296 := by simp
      refine ifB (p := (-1 : Int) ≥ 0) (fun h => absurd h (by omega)) (fun _ => ?_)
      refine callR ok_l4allDigits (spec_l4allDigits xs hwb hwl w1) ?_
      rintro _ w2 ⟨rfl, hB2⟩
      refine eF (p := ¬ allDig xs = true) (by cases allDig xs <;> rfl) (fun h1 => ?_) (fun h1 => ?_)
      · have h1 : allDig xs = true := by simpa using h1
        refine callR ok_l4allDigits (spec_l4allDigits ([] : List Int) hpb hpl w2) ?_
        rintro _ w3 ⟨rfl, hB3⟩
        have hB' := below_trans hB (below_trans hB2 hB3)
        refine eB (p := ¬ allDig ([] : List Int) = true) (by cases allDig ([] : List Int) <;> rfl) (fun h2 => ?_) (fun h2 => ?_)
        · have h2 : allDig ([] : List Int) = false := by simpa using h2
          refine Exists.intro _ (And.intro rfl (And.intro (congrArg Value.bool ?_) hB'))
          rw [hm, h2]; simp
        · have h2 : allDig ([] : List Int) = true := by simpa using h2
          rw [h1, h2, Bool.true_and, Bool.true_and] at hm
          refine eB (str_eq [] hwb byteOK.nil rfl) (fun h3 => ?_) (fun h3 => ?_)
          · rw [if_pos h3] at hm
            refine gT (p := (-1 : Int) ≥ 0) (fun h4 => absurd h4 (by omega)) (fun h4 => ?_)
            refine Exists.intro _ (And.intro rfl (And.intro (congrArg Value.bool ?_) hB'))
            rw [hm, Bool.false_and]
          · rw [if_neg h3] at hm
            refine eF (str_eq [48] hwb (fun x hx => by simp at hx; omega) rfl) (fun h4 => ?_) (fun h4 => ?_)
            · refine strS hwb (by omega) (by have := List.length_pos_iff.2 h3; omega) ?_
              refine Exists.intro _ (And.intro rfl (And.intro (congrArg Value.bool ?_) hB'))
              rw [hm, decide_eq_false h4, Bool.false_or]
              exact bne_dec _ _
            · refine Exists.intro _ (And.intro rfl (And.intro (congrArg Value.bool ?_) hB'))
              rw [hm, decide_eq_true h4, Bool.true_or]
      · have h1 : allDig xs = false := by simpa using h1
        refine ifT ?_
        refine Exists.intro _ (And.intro rfl (And.intro (congrArg Value.bool ?_) (below_trans hB hB2)))
        rw [hm, h1]; simp
    · have hc := cut_at isDot xs k hk hp hq
      have hm : mant xs = (allDig (xs.take k) && allDig (xs.drop (k + 1)) && (if xs.take k = [] then true && decide (xs.drop (k + 1) ≠ []) else decide (xs.take k = [48]) || decide ((xs.take k).getD 0 0 ≠ 48))) := by unfold mant; rw [hc]; rfl
      have hwb := hb.take k
      have hwl : (xs.take k).length ≤ 4294967296 := by rw [List.length_take]; omega
      have hpb := hb.drop (k + 1)
      have hpl : (xs.drop (k + 1)).length ≤ 4294967296 := by rw [List.length_drop]; omega
      have hk1 : IntKind.i64.wrap ((k : Int) + 1) = ((k + 1 : Nat) : Int) := by rw [w64k _ (by omega) (by omega)]; omega
      refine ifB (p := (k : Int) ≥ 0) (fun _ => ?_) (fun h => absurd h (by omega))
      refine cutS 0 k rfl rfl (by omega) (fun _ => by rw [strOfNums_size]; omega) ?_
      refine letV (b := .string (strOfNums (xs.take k))) (by rw [str_cut, List.drop_zero]) ?_
      refine cutS (k + 1) xs.length hk1 (congrArg Nat.cast (strOfNums_size xs)) (by omega) (fun h => by cases h) ?_
      refine letV (b := .string (strOfNums (xs.drop (k + 1)))) (by rw [str_cut, List.take_length]) ?_
      refine callR ok_l4allDigits (spec_l4allDigits (xs.take k) hwb hwl w1) ?_
      rintro _ w2 ⟨rfl, hB2⟩
      refine eF (p := ¬ allDig (xs.take k) = true) (by cases allDig (xs.take k) <;> rfl) (fun h1 => ?_) (fun h1 => ?_)
      · have h1 : allDig (xs.take k) = true := by simpa using h1
        refine callR ok_l4allDigits (spec_l4allDigits (xs.drop (k + 1)) hpb hpl w2) ?_
        rintro _ w3 ⟨rfl, hB3⟩
        have hB' := below_trans hB (below_trans hB2 hB3)
        refine eB (p := ¬ allDig (xs.drop (k + 1)) = true) (by cases allDig (xs.drop (k + 1)) <;> rfl) (fun h2 => ?_) (fun h2 => ?_)
        · have h2 : allDig (xs.drop (k + 1)) = false := by simpa using h2
          refine Exists.intro _ (And.intro rfl (And.intro (congrArg Value.bool ?_) hB'))
          rw [hm, h2]; simp
        · have h2 : allDig (xs.drop (k + 1)) = true := by simpa using h2
          rw [h1, h2, Bool.true_and, Bool.true_and] at hm
          refine eB (str_eq [] hwb byteOK.nil rfl) (fun h3 => ?_) (fun h3 => ?_)
          · rw [if_pos h3] at hm
            refine gT (p := (k : Int) ≥ 0) (fun h4 => ?_) (fun h4 => absurd h4 (by omega))
            refine Exists.intro _ (And.intro rfl (And.intro (congrArg Value.bool ?_) hB'))
            rw [hm, Bool.true_and]
            exact str_ne [] hpb byteOK.nil rfl
          · rw [if_neg h3] at hm
            refine eF (str_eq [48] hwb (fun x hx => by simp at hx; omega) rfl) (fun h4 => ?_) (fun h4 => ?_)
            · refine strS hwb (by omega) (by have := List.length_pos_iff.2 h3; omega) ?_
              refine Exists.intro _ (And.intro rfl (And.intro (congrArg Value.bool ?_) hB'))
              rw [hm, decide_eq_false h4, Bool.false_or]
              exact bne_dec _ _
            · refine Exists.intro _ (And.intro rfl (And.intro (congrArg Value.bool ?_) hB'))
              rw [hm, decide_eq_true h4, Bool.true_or]
      · have h1 : allDig (xs.take k) = false := by simpa using h1
        refine ifT ?_
        refine Exists.intro _ (And.intro rfl (And.intro (congrArg Value.bool ?_) (below_trans hB hB2)))
        rw [hm, h1]; simp
end Go.Proofs.YtjdgcgmhbhfpkaaDoorE
