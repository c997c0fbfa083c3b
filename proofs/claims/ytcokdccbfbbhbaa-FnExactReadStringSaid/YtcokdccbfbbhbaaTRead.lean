/- What the program's ReadString does. -/
import Derived.Test.YtcokdccbfbbhbaaTScan3
namespace Go.Proofs.YtcokdccbfbbhbaaE
open Go Go.RowKit Go.Proofs
set_option linter.unusedVariables false

theorem ok_impl_ReadString : callOK Try.prog 39 = true := by kernel_rfl
theorem impl_ReadString {xs : List Int} (hb : byteOK xs) {A : Option Addr} {n c : Nat} (hl : n ≤ 4294967296) {W : World} (hx : Rd W (.slice A n c) 1 n (xs.map (.int .u8))) :
    Calls Try.prog 39 #[.slice A n c] W fun e w => ∃ x, e = .returned (.tuple #[x, .int .i64 (readS xs).2]) ∧ OwnI w W.heap.size x (readS xs).1 ∧ Below W.heap.size W w := by
  have H := (St.enter W).ro0 rfl hx
  obtain rfl : n = xs.length := by have := hx.len; simpa using this.symm
  have hcnt := decP_cnt (ptsF xs xs.length 0) []
  have hat := at_of xs hb xs.length 0 [] (by omega) (by omega)
  obtain ⟨r, hr⟩ : ∃ r, readS xs = r := ⟨_, rfl⟩
  rw [hr]
  unfold readS decW at hr
  refine calls_of_vcV (args := [.slice A xs.length c]) Try.func39 rfl (by kernel_rfl) (Nat.le_of_ble_eq_true rfl) ?_
  refine callV ok_TextWidth (impl_TextWidth hb hl hx) H fun w H => ?_
  have hcnt : cntP (ptsF xs xs.length 0) 0 = _ := hcnt
  rw [hcnt]
  generalize decP (ptsF xs xs.length 0) [] = d at *
  refine ifB (fun h => ?_) (fun h => ?_)
  · have hd : d.2.1 ≠ 0 := by
      intro q
      rw [if_neg (by omega)] at h
      omega
    rw [if_pos hd] at hr
    subst hr
    exact Exists.intro (.slice none 0 0) (And.intro rfl (And.intro (World.ownsRow_nil _ _ _ _) H.below))
  have hd : d.2.1 = 0 := by
    refine Classical.byContradiction fun q => ?_
    rw [if_pos q] at h
    omega
  rw [if_neg (by omega)] at hr
  obtain ⟨qs, hq, ha⟩ := hat hd
  rw [hq] at hr
  have hr : readR qs = r := hr
  conv => whnf
  refine ⟨.agg #[.slice A xs.length c, .int .i64 0], w, by kernel_rfl, ?_⟩
  conv => whnf
  refine newR H fun g w H => ?_
  have H : St W.heap.size W w [scO g (.slice A xs.length c) (0 : Nat), txt (.slice A xs.length c) xs.length xs] := H
  refine CallS.mk ok_quoted ((impl_quoted hb hl ha H).mono ?_)
  rintro _ w ⟨x, u, b, i', r', rfl, hqd, ha', H⟩
  have hle := ha'.le hb
  have hend : r' = [] ↔ i' = xs.length := by
    constructor
    · intro q; subst q; exact ha'.nil
    · intro q; subst q
      cases r' with
      | nil => rfl
      | cons k t => have := ha'.cons.1; omega
  refine cutG (fun e w => e 5 = x ∧ e 28 = .bool (decide (b = false ∨ r' ≠ [])) ∧ St W.heap.size W w [.rowI x u]) ?_ ?_
  · cases b with
    | false =>
      repeat' first | (refine gY ?_) | (refine gNt ?_) | (refine gNf ?_) | (refine ifT ?_) | (refine ifF ?_) | (refine arN (by omega) ?_) | (refine ar64 (by omega) (by omega) ?_) | (refine ar32 (by omega) (by omega) ?_) | (refine ar8 (by omega) (by omega) ?_) | (refine div64 (by omega) (by omega) (by omega) ?_) | (refine rem0 (by omega) (by omega) ?_) | (refine drawR H fun w H => ?_) | (refine RegV.mk ?_) | (refine JoinV.mk ?_) | (refine gNot ?_) | (refine loadO H 1 rfl rfl ?_) | (refine gT (fun h => ?_) (fun h => ?_) <;> first | (exfalso; omega) | skip) | (refine gF (fun h => ?_) (fun h => ?_) <;> first | (exfalso; omega) | skip) | (refine ifB (fun h => ?_) (fun h => ?_) <;> first | (exfalso; omega) | skip)
      all_goals exact ⟨rfl, congrArg Value.bool (by simp), H.sub [0] (by decide)⟩
    | true =>
      repeat' first | (refine gY ?_) | (refine gNt ?_) | (refine gNf ?_) | (refine ifT ?_) | (refine ifF ?_) | (refine arN (by omega) ?_) | (refine ar64 (by omega) (by omega) ?_) | (refine ar32 (by omega) (by omega) ?_) | (refine ar8 (by omega) (by omega) ?_) | (refine div64 (by omega) (by omega) (by omega) ?_) | (refine rem0 (by omega) (by omega) ?_) | (refine drawR H fun w H => ?_) | (refine RegV.mk ?_) | (refine JoinV.mk ?_) | (refine gNot ?_) | (refine loadO H 1 rfl rfl ?_) | (refine gT (fun h => ?_) (fun h => ?_) <;> first | (exfalso; omega) | skip) | (refine gF (fun h => ?_) (fun h => ?_) <;> first | (exfalso; omega) | skip) | (refine ifB (fun h => ?_) (fun h => ?_) <;> first | (exfalso; omega) | skip)
      all_goals refine ⟨rfl, congrArg Value.bool ?_, H.sub [0] (by decide)⟩
      all_goals (rw [Bool.eq_iff_iff]; simp only [decide_eq_true_eq, hend, ne_eq, Bool.true_eq_false, false_or]; omega)
  rintro e w ⟨h5, h28, H⟩
  rw [Env.two h5 h28]
  unfold readR at hr
  rw [hqd] at hr
  refine ifB (fun h => ?_) (fun h => ?_)
  · have hr : ([], 3) = r := by
      rw [← hr]
      cases b with
      | false => rfl
      | true =>
        cases r' with
        | nil => simp at h
        | cons k t => rfl
    subst hr
    exact Exists.intro (.slice none 0 0) (And.intro rfl (And.intro (World.ownsRow_nil _ _ _ _) H.below))
  · have hb1 : b = true := by cases b <;> simp_all
    have hr1 : r' = [] := Classical.byContradiction fun q => h (Or.inr q)
    subst hb1 hr1
    have hr : (u, 0) = r := hr
    subst hr
    exact Exists.intro x (And.intro rfl (And.intro (H.own 0 rfl) H.below))
end Go.Proofs.YtcokdccbfbbhbaaE
