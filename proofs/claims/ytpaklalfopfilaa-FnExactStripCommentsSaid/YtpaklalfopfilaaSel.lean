/- Items picked out of the heap's list by counting. No condition of the laws stands here. -/
import Derived.Test.YtpaklalfopfilaaNest
namespace Go.Proofs.YtpaklalfopfilaaE
open Go Go.RowKit
set_option linter.unusedVariables false
set_option maxRecDepth 100000

open Classical in
noncomputable def hit1 {α : Type} (b a : α) : Nat := if b = a then 1 else 0
noncomputable def cntL {α : Type} (a : α) : List α → Nat
  | [] => 0
  | b :: l => hit1 b a + cntL a l
theorem cntL_append {α : Type} (a : α) (l m : List α) : cntL a (l ++ m) = cntL a l + cntL a m := by
  induction l with
  | nil => simp [cntL]
  | cons b l ih => rw [List.cons_append, cntL, cntL, ih, Nat.add_assoc]
theorem cntL_pos {α : Type} {a : α} : ∀ {l : List α}, 0 < cntL a l → ∃ r, l.Perm (a :: r) ∧ ∀ b, cntL b l = cntL b (a :: r)
  | [], h => by simp [cntL] at h
  | b :: l, h => by
    by_cases e : b = a
    · subst e; exact ⟨l, List.Perm.refl _, fun _ => rfl⟩
    · rw [cntL, hit1, if_neg e, Nat.zero_add] at h
      obtain ⟨r, hr, hc⟩ := cntL_pos h
      refine ⟨b :: r, (List.Perm.cons b hr).trans (List.Perm.swap _ _ _), fun x => ?_⟩
      rw [cntL, hc x, cntL, cntL, cntL]; omega
theorem sub_of_cnt {α : Type} : ∀ {m l : List α}, (∀ a, cntL a m ≤ cntL a l) → ∃ r, l.Perm (m ++ r)
  | [], l, _ => ⟨l, List.Perm.refl _⟩
  | a :: m, l, h => by
    have h1 : 0 < cntL a l := Nat.lt_of_lt_of_le (by rw [cntL, hit1, if_pos rfl]; omega) (h a)
    obtain ⟨r, hr, hc⟩ := cntL_pos h1
    obtain ⟨q, hq⟩ := sub_of_cnt (m := m) (l := r) fun b => by
      have h2 := h b
      rw [hc b, cntL, cntL] at h2; omega
    exact ⟨q, hr.trans (List.Perm.cons a hq)⟩
theorem St.sel {B : Nat} {W0 w : World} {L M : List It} (H : St B W0 w L) (h : ∀ a, cntL a M ≤ cntL a L) : St B W0 w M := by
  obtain ⟨r, hr⟩ := sub_of_cnt h
  exact (H.perm hr).sublist (List.sublist_append_left _ _)
theorem selTest (a b c : It) (X Y : List It) : ∀ q, cntL q (b :: Y ++ (a :: X)) ≤ cntL q (a :: b :: (X ++ (c :: Y))) := fun q => by simp only [cntL_append, cntL, List.cons_append]; omega
end Go.Proofs.YtpaklalfopfilaaE
