/- The code of an error. -/
import Derived.Test.YtfhpgfbakimmhaaTErr
namespace Go.Proofs.YtfhpgfbakimmhaaE
open Go Go.RowKit
set_option linter.unusedVariables false
set_option maxRecDepth 100000
set_option maxHeartbeats 2000000

theorem ok_codeOf : callOK Try.prog 66 = true := by kernel_rfl
def ErrV (v : Value) (r : Int) : Prop := (v = .nilIface ∧ r = 0) ∨ (v = .iface 138 (.int .i64 r) ∧ (r = 1 ∨ r = 5 ∨ r = 6))
theorem is_code {v : Value} {r k : Int} {W : World} (h : ErrV v r) (hk : k ≠ 0) : GivesV Try.prog 108 [v, .iface 138 (.int .i64 k)] W (.bool (decide (r = k))) := by
  rcases h with ⟨rfl, rfl⟩ | ⟨rfl, _⟩
  · rw [decide_eq_false (fun e => hk e.symm)]; exact errors_Is_nil
  · exact errors_Is
theorem impl_codeOf {v : Value} {r : Int} {W : World} (h : ErrV v r) : GivesV Try.prog 66 [v] W (.int .i64 r) := by
  have H := St.enter W
  refine calls_of_vcV (args := [v]) Try.func66 rfl (by kernel_rfl) (Nat.le_of_ble_eq_true rfl) ?_
  (refine litR (e := 138) (sz := 1) (n := 3) (cs := [.int .i64 1, .int .i64 5, .int .i64 6]) H rfl (by decide) (by kernel_rfl) fun A1 k1 w H => ?_)
  refine loopV (by kernel_rfl) (fun m e w => e 0 = v ∧ e 5 = .slice A1 3 k1 ∧ e 6 = .int .i64 3 ∧ ∃ j : Nat, e 7 = .int .i64 j ∧ j + m = 3 ∧ (∀ i, i < j → r ≠ [1, 5, 6].getD i 0) ∧ St W.heap.size W w [.row (.slice A1 3 k1) 138 1 3 [.int .i64 1, .int .i64 5, .int .i64 6]]) 3
      ⟨rfl, rfl, rfl, 0, rfl, by omega, fun i hi => by omega, H⟩ ?_
  rintro m e w ⟨h0, h5, h6, j, h7, hj, hne, H⟩
  rw [Env.four h0 h5 h6 h7]
  refine ifB (fun q => ?_) (fun q => ?_)
  case refine_2 =>
    obtain rfl : j = 3 := by omega
    have a1 := hne 0 (by omega)
    have a2 := hne 1 (by omega)
    have a3 := hne 2 (by omega)
    simp at a1 a2 a3
    obtain rfl : r = 0 := by rcases h with ⟨_, h⟩ | ⟨_, h⟩ <;> omega
    exact Exists.intro _ (And.intro rfl (And.intro rfl H.none))
  obtain ⟨k, hk⟩ : ∃ k, k = ([1, 5, 6] : List Int).getD j 0 := ⟨_, rfl⟩
  have hk0 : k ≠ 0 := by
    have : j = 0 ∨ j = 1 ∨ j = 2 := by omega
    rcases this with rfl | rfl | rfl <;> (subst hk; decide)
  have hcv : ([.int .i64 1, .int .i64 5, .int .i64 6] : List Value)[j]? = some (.int .i64 k) := by
    have : j = 0 ∨ j = 1 ∨ j = 2 := by omega
    rcases this with rfl | rfl | rfl <;> (subst hk; rfl)
  refine JoinV.mk ?_
  refine idxRow H 0 rfl (by omega) (by omega) fun b0 hA hc => ?_
  have hlc : w.cell? ⟨b0, 0 + (j : Int).toNat * 1, none⟩ = some (.int .i64 k) := by
    have := hc j (by simp only [List.length_cons, List.length_nil]; omega)
    rw [hcv] at this
    rw [show 0 + (j : Int).toNat * 1 = j by omega]; exact this
  refine loadS (v := .int .i64 k) hlc ?_
  refine callV ok_eIs (is_code h hk0) H fun w H => ?_
  refine ifB (fun c1 => ?_) (fun c1 => ?_)
  · subst c1
    exact Exists.intro _ (And.intro rfl (And.intro rfl H.none))
  · refine arN (by omega) ?_
    refine Exists.intro (m - 1) (And.intro (by omega) ⟨rfl, rfl, rfl, j + 1, rfl, by omega, fun i hi => ?_, H⟩)
    rcases Nat.lt_succ_iff_lt_or_eq.1 hi with q | rfl
    · exact hne i q
    · rw [← hk]; exact c1
end Go.Proofs.YtfhpgfbakimmhaaE
