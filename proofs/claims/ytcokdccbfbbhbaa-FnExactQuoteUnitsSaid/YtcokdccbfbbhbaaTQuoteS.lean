/- What the reference's QuoteUnits does. -/
import Derived.Test.YtcokdccbfbbhbaaTQuote
namespace Go.Proofs.YtcokdccbfbbhbaaE
open Go Go.RowKit Go.Proofs
set_option linter.unusedVariables false

theorem ok_l4hex4 : callOK Try.prog 59 = true := by kernel_rfl
theorem spec_hex4 (p : Int) (h0 : 0 ≤ p) (h1 : p ≤ 1114111) (W : World) : Calls Try.prog 59 #[.int .i64 p] W fun e w => ∃ x, e = .returned x ∧ OwnB w W.heap.size x (escU p) ∧ Below W.heap.size W w := by
  have H := St.enter W
  refine calls_of_vcV (args := [.int .i64 p]) Try.func59 rfl (by kernel_rfl) (Nat.le_of_ble_eq_true rfl) ?_
  refine drawR H fun w H => ?_
  repeat' first | (refine gY ?_) | (refine gNt ?_) | (refine gNf ?_) | (refine ifT ?_) | (refine ifF ?_) | (refine arN (by omega) ?_) | (refine ar64 (by omega) (by omega) ?_) | (refine ar32 (by omega) (by omega) ?_) | (refine ar8 (by omega) (by omega) ?_) | (refine div64 (by omega) (by omega) (by omega) ?_) | (refine rem0 (by omega) (by omega) ?_) | (refine drawR H fun w H => ?_) | (refine RegV.mk ?_) | (refine JoinV.mk ?_) | (refine hexS rfl (by omega) (by omega) ?_) | (refine gT (fun h => ?_) (fun h => ?_) <;> first | (exfalso; omega) | skip) | (refine gF (fun h => ?_) (fun h => ?_) <;> first | (exfalso; omega) | skip) | (refine ifB (fun h => ?_) (fun h => ?_) <;> first | (exfalso; omega) | skip)
  refine litB6 H fun v1 w H => ?_
  exact Exists.intro v1 (And.intro rfl (And.intro (H.own 0 rfl) H.below))
def escS (p : Int) : List Int := if p = 8 then [92, 98] else if p = 12 then [92, 102] else if p = 10 then [92, 110] else if p = 13 then [92, 114] else if p = 9 then [92, 116] else if p = 34 then [92, 34] else if p = 92 then [92, 92] else []
theorem escS_ok (p : Int) : byteOK (escS p) := by
  unfold escS
  (repeat' split) <;> first | exact byteOK2 (by omega) (by omega) (by omega) (by omega) | exact byteOK.nil
theorem esc_S (p : Int) : esc p = if (escS p).length = 0 then (if p < 32 ∨ p = 127 ∨ p = 8232 ∨ p = 8233 ∨ (55296 ≤ p ∧ p ≤ 57343) then escU p else encB p) else escS p := by
  unfold escS esc
  (repeat' split) <;> first | rfl | (exfalso; omega) | (rename_i h _; simp_all; done) | (simp_all; done) | (simp_all; omega)
theorem ok_spec_QuoteUnits : callOK Try.prog 36 = true := by kernel_rfl
theorem spec_QuoteUnits {us : List Int} {A : Option Addr} {n c : Nat} (hl : n ≤ 4294967296) {W : World} (hx : Rd W (.slice A n c) 1 n (us.map (.int .i64))) :
    Calls Try.prog 36 #[.slice A n c] W fun e w => ∃ x, e = .returned (.tuple #[x, .int .i64 (quoteR us).2]) ∧ OwnB w W.heap.size x (quoteR us).1 ∧ Below W.heap.size W w := by
  have H := (St.enter W).ro0 rfl hx
  obtain rfl : n = us.length := by have := hx.len; simpa using this.symm
  have hq := spec_FromUnits us A c W hx (by omega)
  have hbd := fromAll_bd us.length us (Nat.le_refl _)
  have hfl := fromR_len us
  obtain ⟨r, hr⟩ : ∃ r, quoteR us = r := ⟨_, rfl⟩
  rw [hr]
  unfold quoteR at hr
  unfold fromR at hq hfl
  refine calls_of_vcV (args := [.slice A us.length c]) Try.func36 rfl (by kernel_rfl) (Nat.le_of_ble_eq_true rfl) ?_
  refine callRow2 ok_spec_FromUnits hq H fun A1 c1 w H => ?_
  cases hg : goodU us with
  | false =>
    rw [hg] at hr H
    subst hr
    refine ifB (fun h => ?_) (fun h => absurd (show (1 : Int) ≠ 0 by decide) h)
    exact Exists.intro (.slice none 0 0) (And.intro rfl (And.intro (World.ownsRow_nil _ _ _ _) H.below))
  | true =>
    rw [if_pos hg] at hr H hfl
    have hbd := hbd hg
    generalize fromAll us = ps at *
    simp only at H hfl
    refine ifB (fun h => absurd (show (0 : Int) = 0 by decide) h) (fun h => ?_)
    refine litB1 H fun v0 w H => ?_
    refine loopV (by kernel_rfl) (fun m e w => e 4 = .slice A1 ps.length c1 ∧ ∃ (j : Nat) (v : Value) (acc : List Int), e 7 = .int .i64 j ∧ e 6 = v ∧ j + m = ps.length ∧ acc.length ≤ 1 + 6 * j ∧ 34 :: ps.flatMap esc = acc ++ (ps.drop j).flatMap esc ∧ St W.heap.size W w [.rowB v acc, .rowI (.slice A1 ps.length c1) ps]) ps.length
      ⟨rfl, 0, _, [34], rfl, rfl, by omega, by simp, by simp, H.sub [0, 1] (by decide)⟩ ?_
    rintro m e w ⟨h4, j, v, acc, h7, h6, hj, hal, hra, H⟩
    rw [Env.three h4 h7 h6]
    refine ifB (fun h => ?_) (fun h => ?_)
    case refine_2 =>
      rw [List.drop_of_length_le (by omega), List.flatMap_nil, List.append_nil] at hra
      refine litB1 H fun v1 w H => ?_
      refine appSB H 1 rfl (H.rd 0 rfl) (by simp; omega) fun v2 w H => ?_
      subst hr
      refine Exists.intro v2 (And.intro rfl (And.intro ?_ H.below))
      have := H.own 1 rfl
      rw [show (34 :: List.flatMap esc ps ++ [34] : List Int) = acc ++ [34] by rw [← hra]]
      exact this
    have hjl : j < ps.length := by omega
    have hpb : 0 ≤ ps.getD j 0 ∧ ps.getD j 0 ≤ 1114111 := hbd _ (by rw [List.getD_eq_getElem?_getD, List.getElem?_eq_getElem hjl]; exact List.getElem_mem hjl)
    have hds : (ps.drop j).flatMap esc = esc (ps.getD j 0) ++ (ps.drop (j + 1)).flatMap esc := by rw [drop_cons ps j hjl, List.flatMap_cons]
    have hel := esc_len (ps.getD j 0)
    refine joinV (fun e w => e 4 = .slice A1 ps.length c1 ∧ e 7 = .int .i64 j ∧ ∃ (v' : Value), e 6 = v' ∧ St W.heap.size W w [.rowB v' (acc ++ esc (ps.getD j 0)), .rowI (.slice A1 ps.length c1) ps]) rfl ?_ ?_
    case refine_2 =>
      rintro e w ⟨h4, h7, v', h6, H⟩
      rw [Env.three h4 h7 h6]
      refine arN (by omega) ?_
      exact Exists.intro (ps.length - (j + 1)) (And.intro (by omega) (And.intro rfl ⟨j + 1, v', acc ++ esc (ps.getD j 0), rfl, rfl, by omega, by rw [List.length_append]; omega, by rw [hra, hds]; simp, H⟩))
    refine idxN (H.rd 1 rfl) (by omega) fun b off hc => ?_
    refine loadS hc ?_
    generalize ps.getD j 0 = p at *
    refine joinV (fun e w => e 4 = .slice A1 ps.length c1 ∧ e 7 = .int .i64 j ∧ e 6 = v ∧ e 8 = .int .i64 p ∧ (∃ s, e 9 = .string s ∧ s = strOfNums (escS p)) ∧ St W.heap.size W w [.rowB v acc, .rowI (.slice A1 ps.length c1) ps]) rfl ?_ ?_
    · refine ifB (fun q1 => ?_) (fun q1 => ?_)
      · exact ⟨rfl, rfl, rfl, rfl, ⟨_, rfl, by unfold escS; rw [if_pos q1]; rfl⟩, H⟩
      refine ifB (fun q2 => ?_) (fun q2 => ?_)
      · exact ⟨rfl, rfl, rfl, rfl, ⟨_, rfl, by unfold escS; rw [if_neg q1, if_pos q2]; rfl⟩, H⟩
      refine ifB (fun q3 => ?_) (fun q3 => ?_)
      · exact ⟨rfl, rfl, rfl, rfl, ⟨_, rfl, by unfold escS; rw [if_neg q1, if_neg q2, if_pos q3]; rfl⟩, H⟩
      refine ifB (fun q4 => ?_) (fun q4 => ?_)
      · exact ⟨rfl, rfl, rfl, rfl, ⟨_, rfl, by unfold escS; rw [if_neg q1, if_neg q2, if_neg q3, if_pos q4]; rfl⟩, H⟩
      refine ifB (fun q5 => ?_) (fun q5 => ?_)
      · exact ⟨rfl, rfl, rfl, rfl, ⟨_, rfl, by unfold escS; rw [if_neg q1, if_neg q2, if_neg q3, if_neg q4, if_pos q5]; rfl⟩, H⟩
      refine ifB (fun q6 => ?_) (fun q6 => ?_)
      · exact ⟨rfl, rfl, rfl, rfl, ⟨_, rfl, by unfold escS; rw [if_neg q1, if_neg q2, if_neg q3, if_neg q4, if_neg q5, if_pos q6]; rfl⟩, H⟩
      refine ifB (fun q7 => ?_) (fun q7 => ?_)
      · exact ⟨rfl, rfl, rfl, rfl, ⟨_, rfl, by unfold escS; rw [if_neg q1, if_neg q2, if_neg q3, if_neg q4, if_neg q5, if_neg q6, if_pos q7]; rfl⟩, H⟩
      · exact ⟨rfl, rfl, rfl, rfl, ⟨_, rfl, by unfold escS; rw [if_neg q1, if_neg q2, if_neg q3, if_neg q4, if_neg q5, if_neg q6, if_neg q7]; rfl⟩, H⟩
    rintro e w ⟨h4, h7, h6, h8, ⟨s, h9, rfl⟩, H⟩
    rw [Env.five h4 h7 h6 h8 h9]
    have hes := esc_S p
    have hok := escS_ok p
    have hsl : (escS p).length ≤ 2 := by unfold escS; (repeat' split) <;> simp
    refine strNil hok rfl ?_
    refine ifNot (ifB (fun hz => ?_) (fun hz => ?_))
    case refine_2 =>
      rw [if_neg hz] at hes
      refine appSS H 0 rfl rfl hok (by omega) fun v2 w H => ?_
      rw [hes]
      exact ⟨rfl, rfl, v2, rfl, H⟩
    rw [if_pos hz] at hes
    have hneed : need p = 0 ↔ (55296 ≤ p ∧ p ≤ 57343) := by rcases need_cases p with ⟨q1, q2⟩ | ⟨q1, q2⟩ <;> omega
    refine cutG (fun e w => e 4 = .slice A1 ps.length c1 ∧ e 7 = .int .i64 j ∧ e 6 = v ∧ e 8 = .int .i64 p ∧ e 66 = .bool (decide (p < 32 ∨ p = 127 ∨ p = 8232 ∨ p = 8233 ∨ (55296 ≤ p ∧ p ≤ 57343))) ∧ St W.heap.size W w [.rowB v acc, .rowI (.slice A1 ps.length c1) ps]) ?_ ?_
    · repeat' first | (refine gY ?_) | (refine gNt ?_) | (refine gNf ?_) | (refine ifT ?_) | (refine ifF ?_) | (refine arN (by omega) ?_) | (refine ar64 (by omega) (by omega) ?_) | (refine ar32 (by omega) (by omega) ?_) | (refine ar8 (by omega) (by omega) ?_) | (refine div64 (by omega) (by omega) (by omega) ?_) | (refine rem0 (by omega) (by omega) ?_) | (refine drawR H fun w H => ?_) | (refine RegV.mk ?_) | (refine JoinV.mk ?_) | (refine callV ok_l1need (spec_need _ _) H fun w H => ?_) | (refine gT (fun h => ?_) (fun h => ?_) <;> first | (exfalso; omega) | skip) | (refine gF (fun h => ?_) (fun h => ?_) <;> first | (exfalso; omega) | skip) | (refine ifB (fun h => ?_) (fun h => ?_) <;> first | (exfalso; omega) | skip)
      all_goals refine ⟨rfl, rfl, rfl, rfl, congrArg Value.bool ?_, H⟩
      all_goals (rw [Bool.eq_iff_iff]; simp only [decide_eq_true_eq, Bool.false_eq_true, true_iff, iff_true, false_iff, iff_false]; omega)
    rintro e w ⟨h4, h7, h6, h8, h66, H⟩
    rw [Env.five h4 h7 h6 h8 h66]
    refine ifB (fun hs => ?_) (fun hs => ?_)
    · rw [if_pos hs] at hes
      refine callRow ok_l4hex4 (spec_hex4 p hpb.1 hpb.2 w) H fun A5 c5 w H => ?_
      refine appSB H 1 rfl (H.rd 0 rfl) (by simp [escU]; omega) fun v2 w H => ?_
      rw [hes]
      exact ⟨rfl, rfl, v2, rfl, H.sub [1, 2] (by decide)⟩
    · rw [if_neg hs] at hes
      have hn : need p ≠ 0 := by omega
      have hl4 := encB_len p
      refine callRow ok_l1encode (spec_l1encode p w hn) H fun A5 c5 w H => ?_
      refine appSB H 1 rfl (H.rd 0 rfl) (by omega) fun v2 w H => ?_
      rw [hes]
      exact ⟨rfl, rfl, v2, rfl, H.sub [1, 2] (by decide)⟩
theorem flat_esc_len : ∀ ps : List Int, (ps.flatMap esc).length ≤ 6 * ps.length
  | [] => by simp
  | p :: r => by
    have h1 := esc_len p
    have h2 := flat_esc_len r
    rw [List.flatMap_cons, List.length_append, List.length_cons]
    omega
theorem quoteR_len (xs : List Int) : (quoteR xs).1.length ≤ 2 + 6 * xs.length := by
  unfold quoteR
  split
  · have h1 := flat_esc_len (fromAll xs)
    have h2 := fromAll_len xs.length xs (Nat.le_refl _)
    simp only [List.length_append, List.length_cons, List.length_nil]
    omega
  · simp
end Go.Proofs.YtcokdccbfbbhbaaE
