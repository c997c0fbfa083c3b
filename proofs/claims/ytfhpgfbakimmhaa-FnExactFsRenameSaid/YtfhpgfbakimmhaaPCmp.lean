/- Lists of bytes compared by the first that differs, with no program in sight. -/
import Derived.Test.YtfhpgfbakimmhaaMem
namespace Go.Proofs.YtfhpgfbakimmhaaE
open Go Go.RowKit
set_option linter.unusedVariables false

/-- by the first byte that differs, else by the length -/
def cmpB : List Int → List Int → Int
  | [], [] => 0
  | [], _ :: _ => -1
  | _ :: _, [] => 1
  | x :: xs, y :: ys => if x < y then -1 else if y < x then 1 else cmpB xs ys
theorem cmpB_at : ∀ (i : Nat) (xs ys : List Int), i < xs.length → i < ys.length → (∀ j, j < i → xs.getD j 0 = ys.getD j 0) → xs.getD i 0 ≠ ys.getD i 0 → cmpB xs ys = if xs.getD i 0 < ys.getD i 0 then -1 else 1
  | 0, x :: xs, y :: ys, _, _, _, hne => by
    simp only [List.getD_cons_zero] at hne ⊢
    unfold cmpB
    by_cases h : x < y
    · rw [if_pos h, if_pos h]
    · rw [if_neg h, if_neg h, if_pos (by omega)]
  | i + 1, x :: xs, y :: ys, h1, h2, he, hne => by
    have h0 := he 0 (by omega)
    simp only [List.getD_cons_zero] at h0
    subst h0
    simp only [List.getD_cons_succ] at hne ⊢
    unfold cmpB
    rw [if_neg (by omega), if_neg (by omega)]
    exact cmpB_at i xs ys (by simpa using h1) (by simpa using h2) (fun j hj => by simpa using he (j + 1) (by omega)) hne
theorem cmpB_pre : ∀ (xs ys : List Int), (∀ j, j < min xs.length ys.length → xs.getD j 0 = ys.getD j 0) → cmpB xs ys = if xs.length < ys.length then -1 else if ys.length < xs.length then 1 else 0
  | [], [], _ => rfl
  | [], y :: ys, _ => by simp [cmpB]
  | x :: xs, [], _ => by simp [cmpB]
  | x :: xs, y :: ys, he => by
    have h0 := he 0 (by simp)
    simp only [List.getD_cons_zero] at h0
    subst h0
    unfold cmpB
    rw [if_neg (by omega), if_neg (by omega), cmpB_pre xs ys fun j hj => by simpa using he (j + 1) (by simp only [List.length_cons]; omega)]
    simp only [List.length_cons, Nat.add_lt_add_iff_right]
theorem cmpB_cons (x y : Int) (xs ys : List Int) : cmpB (x :: xs) (y :: ys) = if x < y then -1 else if y < x then 1 else cmpB xs ys := rfl
theorem cmpB_eq : ∀ a b : List Int, cmpB a b = 0 ↔ a = b
  | [], [] => by simp [cmpB]
  | [], y :: ys => by simp [cmpB]
  | x :: xs, [] => by simp [cmpB]
  | x :: xs, y :: ys => by
    rw [cmpB_cons]
    by_cases h : x < y
    · rw [if_pos h]; constructor
      · intro q; omega
      · intro q; simp only [List.cons.injEq] at q; omega
    · rw [if_neg h]
      by_cases h2 : y < x
      · rw [if_pos h2]; constructor
        · intro q; omega
        · intro q; simp only [List.cons.injEq] at q; omega
      · rw [if_neg h2, cmpB_eq xs ys, List.cons.injEq]
        exact ⟨fun q => ⟨by omega, q⟩, fun q => q.2⟩
theorem cmpB_refl (a : List Int) : cmpB a a = 0 := (cmpB_eq a a).2 rfl
theorem cmpB_neg : ∀ a b : List Int, cmpB b a = - cmpB a b
  | [], [] => rfl
  | [], y :: ys => rfl
  | x :: xs, [] => rfl
  | x :: xs, y :: ys => by
    rw [cmpB_cons, cmpB_cons, cmpB_neg xs ys]
    (repeat' split) <;> omega
theorem cmpB_trans : ∀ a b c : List Int, cmpB a b < 0 → cmpB b c < 0 → cmpB a c < 0
  | [], [], c, h, _ => by simp [cmpB] at h
  | [], y :: ys, [], _, h => by simp [cmpB] at h
  | [], y :: ys, z :: zs, _, _ => by simp [cmpB]
  | x :: xs, [], c, h, _ => by simp [cmpB] at h
  | x :: xs, y :: ys, [], _, h => by simp [cmpB] at h
  | x :: xs, y :: ys, z :: zs, h1, h2 => by
    rw [cmpB_cons] at h1 h2 ⊢
    have ih := cmpB_trans xs ys zs
    by_cases a1 : x < y
    · by_cases b1 : y < z
      · rw [if_pos (by omega)]; omega
      · rw [if_neg b1] at h2
        by_cases b2 : z < y
        · rw [if_pos b2] at h2; omega
        · rw [if_pos (by omega)]; omega
    · rw [if_neg a1] at h1
      by_cases a2 : y < x
      · rw [if_pos a2] at h1; omega
      · rw [if_neg a2] at h1
        by_cases b1 : y < z
        · rw [if_pos (by omega)]; omega
        · rw [if_neg b1] at h2
          by_cases b2 : z < y
          · rw [if_pos b2] at h2; omega
          · rw [if_neg b2] at h2
            rw [if_neg (by omega), if_neg (by omega)]
            exact ih h1 h2
end Go.Proofs.YtfhpgfbakimmhaaE
