/- The width of a text put together of two. No program stands here. -/
import Derived.Test.YtfhpgfbakimmhaaPDoc2
namespace Go.Proofs.YtfhpgfbakimmhaaE
set_option linter.unusedVariables false

theorem reads_app (a b : List Int) : ∀ (k : Nat) (s : Nat × Bool × Int), s.1 + k ≤ a.length → reads (a ++ b) k s = reads a k s
  | 0, s, _ => rfl
  | k + 1, s, h => by
    have e : more (a ++ b) s = more a s := by
      unfold more
      rw [List.getD_eq_getElem?_getD, List.getD_eq_getElem?_getD, List.getElem?_append_left (by omega)]
    rw [reads, reads, e]
    exact reads_app a b k (more a s) (by simp only [more]; omega)
theorem dec1_app {a b : List Int} (h : (dec1 a).2 ≠ 0) : dec1 (a ++ b) = dec1 a := by
  have hne : 0 < a.length := by
    rcases Nat.eq_zero_or_pos a.length with e | e
    · rw [List.length_eq_zero_iff] at e; subst e; exact absurd rfl h
    · exact e
  have e0 : (a ++ b).getD 0 0 = a.getD 0 0 := by rw [List.getD_eq_getElem?_getD, List.getD_eq_getElem?_getD, List.getElem?_append_left hne]
  unfold dec1 at h ⊢
  rw [e0]
  simp only at h ⊢
  by_cases c : (formN (a.getD 0 0)).1 < 0 ∨ (formN (a.getD 0 0)).1 ≥ a.length
  · rw [if_pos c] at h; exact absurd rfl h
  · rw [if_neg c, if_neg (by rw [List.length_append]; omega), reads_app a b _ _ (by simp only; omega)]
theorem reads_fst (xs : List Int) : ∀ (k : Nat) (s : Nat × Bool × Int), (reads xs k s).1 = s.1 + k
  | 0, _ => rfl
  | k + 1, s => by rw [reads, reads_fst xs k]; simp only [more]; omega
theorem dec1_le {xs : List Int} (h : (dec1 xs).2 ≠ 0) : (dec1 xs).2.toNat ≤ xs.length := by
  unfold dec1 at h ⊢
  simp only at h ⊢
  split at h
  · exact absurd rfl h
  · rename_i c
    rw [if_neg c]
    split at h
    · exact absurd rfl h
    · rename_i c2
      rw [if_neg c2]
      have := reads_fst xs (formN (xs.getD 0 0)).1.toNat (1, true, (formN (xs.getD 0 0)).2.1)
      simp only at this ⊢
      omega
def twL : Nat → List Int → Int → Int
  | 0, _, k => k
  | f + 1, xs, k => if xs.length = 0 then k else if (dec1 xs).2 = 0 then -1 else if (dec1 xs).1 < 0 then -1 else twL f (xs.drop (dec1 xs).2.toNat) (k + 1)
theorem twL_eq (bs : List Int) : ∀ f i k, cntP (ptsF bs f i) k = twL f (bs.drop i) k
  | 0, i, k => rfl
  | f + 1, i, k => by
    rw [ptsF, twL]
    by_cases h : i < bs.length
    · rw [if_pos h, if_neg (show ¬ (bs.drop i).length = 0 by rw [List.length_drop]; omega)]
      by_cases h2 : (dec1 (bs.drop i)).2 = 0
      · rw [if_pos h2, if_pos h2]; rfl
      · rw [if_neg h2, if_neg h2]
        show (if (dec1 (bs.drop i)).1 < 0 then -1 else cntP (ptsF bs f (i + (dec1 (bs.drop i)).2.toNat)) (k + 1)) = _
        split
        · rfl
        · rw [twL_eq bs f, List.drop_drop]
    · rw [if_neg h, if_pos (show (bs.drop i).length = 0 by rw [List.length_drop]; omega)]; rfl
theorem dec1_pos {xs : List Int} (h : (dec1 xs).2 ≠ 0) : 0 < (dec1 xs).2.toNat := by
  unfold dec1 at h ⊢
  simp only at h ⊢
  split at h
  · exact absurd rfl h
  · rename_i c
    rw [if_neg c]
    split at h
    · exact absurd rfl h
    · rename_i c2
      rw [if_neg c2]
      have := h
      simp only at this ⊢
      omega
theorem twL_more : ∀ (f g : Nat) (xs : List Int) (k : Int), xs.length ≤ f → xs.length ≤ g → twL f xs k = twL g xs k
  | 0, 0, xs, k, _, _ => rfl
  | 0, g + 1, xs, k, h, _ => by rw [twL, twL, if_pos (by omega)]
  | f + 1, 0, xs, k, _, h => by rw [twL, twL, if_pos (by omega)]
  | f + 1, g + 1, xs, k, h, h2 => by
    rw [twL, twL]
    by_cases c0 : xs.length = 0
    · rw [if_pos c0, if_pos c0]
    · rw [if_neg c0, if_neg c0]
      by_cases c1 : (dec1 xs).2 = 0
      · rw [if_pos c1, if_pos c1]
      · rw [if_neg c1, if_neg c1]
        have hp := dec1_pos c1
        rw [twL_more f g _ _ (by rw [List.length_drop]; omega) (by rw [List.length_drop]; omega)]
theorem twL_k : ∀ (f : Nat) (xs : List Int) (k : Int), 0 ≤ k → twL f xs k = if twL f xs 0 < 0 then -1 else k + twL f xs 0
  | 0, xs, k, _ => by simp [twL]
  | f + 1, xs, k, hk => by
    rw [twL, twL]
    by_cases c0 : xs.length = 0
    · rw [if_pos c0, if_pos c0]; simp
    · rw [if_neg c0, if_neg c0]
      by_cases c1 : (dec1 xs).2 = 0
      · rw [if_pos c1, if_pos c1]; simp
      · rw [if_neg c1, if_neg c1]
        by_cases c2 : (dec1 xs).1 < 0
        · rw [if_pos c2, if_pos c2]; simp
        · rw [if_neg c2, if_neg c2]
          have h1 := twL_k f (xs.drop (dec1 xs).2.toNat) (k + 1) (by omega)
          have h2 := twL_k f (xs.drop (dec1 xs).2.toNat) (0 + 1) (by omega)
          rw [h1, h2]
          split <;> split <;> omega
theorem twL_app : ∀ (f g : Nat) (a b : List Int) (k : Int), a.length ≤ f → (a ++ b).length ≤ g → 0 ≤ twL f a k → 0 ≤ k → twL g (a ++ b) k = twL g b (twL f a k)
  | 0, g, a, b, k, h, _, _, _ => by
    have : a = [] := List.length_eq_zero_iff.1 (by omega)
    subst this; rfl
  | f + 1, g, a, b, k, h, h2, h3, hk => by
    rw [twL] at h3 ⊢
    by_cases c0 : a.length = 0
    · rw [if_pos c0]
      have : a = [] := List.length_eq_zero_iff.1 c0
      subst this; rfl
    · rw [if_neg c0] at h3 ⊢
      by_cases c1 : (dec1 a).2 = 0
      · rw [if_pos c1] at h3; omega
      · rw [if_neg c1] at h3 ⊢
        by_cases c2 : (dec1 a).1 < 0
        · rw [if_pos c2] at h3; omega
        · rw [if_neg c2] at h3 ⊢
          have hp := dec1_pos c1
          have hd := dec1_app (b := b) c1
          cases g with
          | zero => rw [List.length_append] at h2; omega
          | succ g =>
            rw [List.length_append] at h2
            have hle := dec1_le c1
            rw [show twL (g + 1) (a ++ b) k = twL g ((a ++ b).drop (dec1 a).2.toNat) (k + 1) by
              rw [twL, if_neg (by rw [List.length_append]; omega), hd, if_neg c1, if_neg c2]]
            rw [List.drop_append_of_le_length hle, twL_app f g _ b (k + 1) (by rw [List.length_drop]; omega) (by rw [List.length_append, List.length_drop]; omega) h3 (by omega)]
            exact twL_more _ _ _ _ (by omega) (by omega)
theorem tw_app {a b : List Int} (ha : 0 ≤ tw a) : tw (a ++ b) = if tw b < 0 then -1 else tw a + tw b := by
  unfold tw at ha ⊢
  rw [twL_eq, twL_eq, twL_eq, List.drop_zero, List.drop_zero, List.drop_zero] at *
  rw [twL_app a.length (a ++ b).length a b 0 (Nat.le_refl _) (Nat.le_refl _) ha (Int.le_refl _), twL_k _ _ _ ha, twL_more (a ++ b).length b.length b 0 (by rw [List.length_append]; omega) (Nat.le_refl _)]
theorem tw_nil : tw [] = 0 := rfl
theorem tw_sp : tw [32] = 1 := by decide
theorem tw_ge (xs : List Int) : -1 ≤ tw xs := by
  have key : ∀ f xs k, 0 ≤ k → -1 ≤ twL f xs k := by
    intro f
    induction f with
    | zero => intro xs k h; show -1 ≤ k; omega
    | succ f ih =>
      intro xs k h
      rw [twL]
      (repeat' split)
      · omega
      · omega
      · omega
      · exact ih _ _ (by omega)
  unfold tw; rw [twL_eq]; exact key _ _ _ (Int.le_refl _)
theorem tw_le (xs : List Int) : tw xs ≤ xs.length := by
  have key : ∀ f xs k, 0 ≤ k → twL f xs k ≤ k + (xs.length : Nat) := by
    intro f
    induction f with
    | zero => intro xs k h; show k ≤ _; omega
    | succ f ih =>
      intro xs k h
      rw [twL]
      split
      · omega
      · split
        · omega
        · rename_i c1
          split
          · omega
          · have hp := dec1_pos c1
            have := ih (xs.drop (dec1 xs).2.toNat) (k + 1) (by omega)
            rw [List.length_drop] at this
            omega
  have := key xs.length xs 0 (Int.le_refl _)
  unfold tw; rw [twL_eq, List.drop_zero]; omega
end Go.Proofs.YtfhpgfbakimmhaaE
