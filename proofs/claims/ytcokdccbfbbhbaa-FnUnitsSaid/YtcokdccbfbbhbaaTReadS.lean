/- What the reference's functions do that read a quoted text. -/
import Derived.Test.YtcokdccbfbbhbaaPScan
import Derived.Test.YtcokdccbfbbhbaaPrim3
import Derived.Test.YtcokdccbfbbhbaaTUnits
namespace Go.Proofs.YtcokdccbfbbhbaaE
open Go Go.RowKit Go.Proofs
set_option linter.unusedVariables false

theorem ok_l4lineEnd : callOK Try.prog 79 = true := by kernel_rfl
theorem spec_l4lineEnd (p : Int) (W : World) : GivesV Try.prog 79 [.int .i64 p] W (.bool (decide (p = 10 ∨ p = 13 ∨ p = 8232 ∨ p = 8233))) := by
  have H := St.enter W
  refine calls_of_vcV (args := [.int .i64 p]) Try.func79 rfl (by kernel_rfl) (Nat.le_of_ble_eq_true rfl) ?_
  refine cutG (fun e w => e 2 = .bool (decide (p = 10 ∨ p = 13 ∨ p = 8232 ∨ p = 8233)) ∧ St W.heap.size W w []) ?_ ?_
  · repeat' first | (refine gY ?_) | (refine gNt ?_) | (refine gNf ?_) | (refine ifT ?_) | (refine ifF ?_) | (refine arN (by omega) ?_) | (refine ar64 (by omega) (by omega) ?_) | (refine ar32 (by omega) (by omega) ?_) | (refine ar8 (by omega) (by omega) ?_) | (refine div64 (by omega) (by omega) (by omega) ?_) | (refine rem0 (by omega) (by omega) ?_) | (refine drawR H fun w H => ?_) | (refine RegV.mk ?_) | (refine JoinV.mk ?_) | (refine gT (fun h => ?_) (fun h => ?_) <;> first | (exfalso; omega) | skip) | (refine gF (fun h => ?_) (fun h => ?_) <;> first | (exfalso; omega) | skip) | (refine ifB (fun h => ?_) (fun h => ?_) <;> first | (exfalso; omega) | skip)
    all_goals refine ⟨congrArg Value.bool ?_, H⟩
    all_goals (rw [Bool.eq_iff_iff]; simp only [decide_eq_true_eq, Bool.false_eq_true, true_iff, iff_true, false_iff, iff_false]; omega)
  rintro e w ⟨h2, H⟩
  rw [Env.one h2]
  exact Exists.intro (.bool (decide (p = 10 ∨ p = 13 ∨ p = 8232 ∨ p = 8233))) (And.intro rfl (And.intro rfl H))
theorem ok_spec_ToUnits : callOK Try.prog 18 = true := by kernel_rfl
theorem spec_units1 (p : Int) (h0 : 0 ≤ p) (h1 : p ≤ 1114111) {A : Option Addr} {n c : Nat} {W : World} (hx : Rd W (.slice A n c) 1 n ([p].map (.int .i64))) :
    Calls Try.prog 18 #[.slice A n c] W fun e w => ∃ x, e = .returned (.tuple #[x, .int .i64 0]) ∧ OwnI w W.heap.size x (unitsOne p) ∧ Below W.heap.size W w := by
  have H := ((St.enter W).ro0 rfl hx).rowNil (e := 3) (sz := 1)
  obtain rfl : n = 1 := by have := hx.len; simpa using this.symm
  refine calls_of_vcV (args := [.slice A 1 c]) Try.func18 rfl (by kernel_rfl) (Nat.le_of_ble_eq_true rfl) ?_
  refine loopV (by kernel_rfl) (fun m e w => e 0 = .slice A 1 c ∧ ∃ (j : Nat) (v : Value) (acc : List Int), e 5 = .int .i64 j ∧ e 4 = v ∧ j + m = 1 ∧ acc = (if j = 0 then [] else unitsOne p) ∧ St W.heap.size W w [.rowI v acc, .ro (.slice A 1 c) 1 1 ([p].map (.int .i64))]) 1
    ⟨rfl, 0, _, [], rfl, rfl, rfl, rfl, H⟩ ?_
  rintro m e w ⟨h0', j, v, acc, h5, h4, hj, hacc, H⟩
  rw [Env.three h0' h5 h4]
  refine ifB (fun h => ?_) (fun h => ?_)
  case refine_2 =>
    rw [if_neg (by omega)] at hacc
    subst hacc
    exact Exists.intro v (And.intro rfl (And.intro (H.own 0 rfl) H.below))
  obtain rfl : j = 0 := by omega
  rw [if_pos rfl] at hacc
  subst hacc
  refine joinV (fun e w => e 0 = .slice A 1 c ∧ e 5 = .int .i64 (0 : Nat) ∧ ∃ v' : Value, e 4 = v' ∧ St W.heap.size W w [.rowI v' (unitsOne p), .ro (.slice A 1 c) 1 1 ([p].map (.int .i64))]) rfl ?_ ?_
  case refine_2 =>
    rintro e w ⟨h0', h5, v', h4, H⟩
    rw [Env.three h0' h5 h4]
    refine arN (by omega) ?_
    exact Exists.intro 0 (And.intro (by omega) (And.intro rfl ⟨1, v', unitsOne p, rfl, rfl, rfl, rfl, H⟩))
  refine idxN (H.rd 1 rfl) (by simp) fun b off hc => ?_
  have hc : w.cell? ⟨b, off + ((0 : Nat) : Int).toNat * 1, none⟩ = some (.int .i64 p) := hc
  refine loadS hc ?_
  refine cutG (fun e w => e 0 = .slice A 1 c ∧ e 5 = .int .i64 (0 : Nat) ∧ e 4 = v ∧ e 6 = .int .i64 p ∧ e 22 = .bool false ∧ St W.heap.size W w [.rowI v [], .ro (.slice A 1 c) 1 1 ([p].map (.int .i64))]) ?_ ?_
  · repeat' first | (refine gY ?_) | (refine gNt ?_) | (refine gNf ?_) | (refine ifT ?_) | (refine ifF ?_) | (refine arN (by omega) ?_) | (refine ar64 (by omega) (by omega) ?_) | (refine ar32 (by omega) (by omega) ?_) | (refine ar8 (by omega) (by omega) ?_) | (refine div64 (by omega) (by omega) (by omega) ?_) | (refine rem0 (by omega) (by omega) ?_) | (refine drawR H fun w H => ?_) | (refine RegV.mk ?_) | (refine JoinV.mk ?_) | (refine gT (fun h => ?_) (fun h => ?_) <;> first | (exfalso; omega) | skip) | (refine gF (fun h => ?_) (fun h => ?_) <;> first | (exfalso; omega) | skip) | (refine ifB (fun h => ?_) (fun h => ?_) <;> first | (exfalso; omega) | skip)
    all_goals refine ⟨rfl, rfl, rfl, rfl, congrArg Value.bool ?_, H⟩
    all_goals first | rfl | (simp; omega)
  rintro e w ⟨h0', h5, h4, h6, h22, H⟩
  rw [Env.five h0' h5 h4 h6 h22]
  refine ifF ?_
  unfold unitsOne
  refine ifB (fun h => ?_) (fun h => ?_)
  · rw [if_pos h]
    refine litI1 H fun v1 w H => ?_
    refine appSI H 1 rfl (H.rd 0 rfl) (by simp) fun v2 w H => ?_
    exact ⟨rfl, rfl, v2, rfl, H.sub [1, 2] (by decide)⟩
  · rw [if_neg h]
    refine ar64 (by omega) (by omega) ?_
    refine div64 (by omega) (by omega) (by omega) ?_
    refine ar64 (by omega) (by omega) ?_
    refine litI1 H fun v1 w H => ?_
    refine appSI H 1 rfl (H.rd 0 rfl) (by simp) fun v2 w H => ?_
    refine ar64 (by omega) (by omega) ?_
    refine rem0 (by omega) (by omega) ?_
    refine ar64 (by omega) (by omega) ?_
    refine litI1 H fun v3 w H => ?_
    refine appSI H 2 rfl (H.rd 0 rfl) (by simp) fun v4 w H => ?_
    exact ⟨rfl, rfl, v4, rfl, H.sub [2, 3] (by decide)⟩
end Go.Proofs.YtcokdccbfbbhbaaE
