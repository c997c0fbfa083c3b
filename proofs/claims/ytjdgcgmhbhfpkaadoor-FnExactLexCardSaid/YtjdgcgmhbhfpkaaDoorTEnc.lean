/- What the reference's and the program's functions do that write code points as UTF-8. -/
import Derived.Test.YtjdgcgmhbhfpkaaDoorPrim
import Derived.Test.YtjdgcgmhbhfpkaaDoorPText
namespace Go.Proofs.YtjdgcgmhbhfpkaaDoorE
open Go Go.RowKit Go.Proofs
set_option linter.unusedVariables false
set_option maxRecDepth 100000

theorem ok_l1need : callOK Tryd.prog 22 = true := by kernel_rfl
theorem spec_l1need (v : Int) (w : World) : Calls Tryd.prog 22 #[.int .i64 v] w fun e w' => e = .returned (.int .i64 (need v)) ∧ Below w.heap.size w w' := by
  refine calls_of_vcR (args := [.int .i64 v]) Tryd.func22 rfl (by kernel_rfl) (Nat.le_of_ble_eq_true rfl) ?_
  repeat' first | refine gY ?_ | refine gNt ?_ | refine gNf ?_ | refine ifT ?_ | refine ifF ?_ | refine gT (fun _ => ?_) (fun _ => ?_) | refine gF (fun _ => ?_) (fun _ => ?_) | refine ifB (fun _ => ?_) (fun _ => ?_)
  all_goals
    refine And.intro (retI ?_) (Below.refl _ _)
    unfold need
    (repeat' split) <;> omega
theorem own_nilB (w : World) (B : Nat) : OwnB w B (.slice none 0 0) [] := World.ownsRow_nil _ _ _ _








































































theorem retT2 {v x : Value} {k : IntKind} {a b : Int} (h : a = b) : Ending.returned (.tuple #[x, .int k a]) = Ending.returned (.tuple #[x, .int k b]) := by rw [h]











































theorem ok_ValidRune : callOK Tryd.prog 47 = true := by kernel_rfl
theorem utf8_ValidRune (v : Int) (w : World) : Calls Tryd.prog 47 #[.int .i32 v] w fun e w' => e = .returned (.bool (decide (need v ≠ 0))) ∧ Below w.heap.size w w' := by
  refine calls_of_vcR (args := [.int .i32 v]) Tryd.func47 rfl (by kernel_rfl) (Nat.le_of_ble_eq_true rfl) ?_
  have hn := need_cases v
  repeat' first | refine gY ?_ | refine gNt ?_ | refine gNf ?_ | refine ifT ?_ | refine ifF ?_ | refine gT (fun _ => ?_) (fun _ => ?_) | refine gF (fun _ => ?_) (fun _ => ?_) | refine ifB (fun _ => ?_) (fun _ => ?_)
  all_goals
    refine And.intro (retB ?_) (Below.refl _ _)
    symm
    first
      | (rw [decide_eq_true_eq]; omega)
      | (rw [decide_eq_false_iff_not]; omega)

/-- a value appended to: what it owns may turn, and what is new -/
def Onto (w w' : World) (x x' : Value) : Prop := w.grownBy w' x.ownBlock ∧ ∀ k, x'.ownBlock = some k → x.ownBlock = some k ∨ w.heap.size ≤ k




























































































theorem onto_below {w0 w w' : World} {B n : Nat} {x x' : Value} {e : TypeId} {sz : Nat} {cs : List Value} (HB : Below B w0 w) (hB : B ≤ w.heap.size) (h : w.ownsRow B e sz x n cs) (g : Onto w w' x x') : Below B w0 w' := own_below HB hB h g.1



























































end Go.Proofs.YtjdgcgmhbhfpkaaDoorE
