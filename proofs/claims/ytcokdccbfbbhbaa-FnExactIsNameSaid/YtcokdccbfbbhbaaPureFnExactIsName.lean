/- The law FnExactIsName: at every list of at most 2^20 numbers the program's IsName and the reference's answer the same, and the argument is left alone. -/
import Derived.Test.YtcokdccbfbbhbaaPFnExactIsNamex2
import Derived.Laws.BitsLemmas
import Derived.Test.YtcokdccbfbbhbaaWSized
namespace Go.Proofs.PrintWords
/-- The word under the name by which the row calls it. -/
abbrev sized_ints := @Go.Proofs.YtcokdccbfbbhbaaW.PrintWords.sized_ints
end Go.Proofs.PrintWords
namespace Go.Proofs.Ytcokdccbfbbhbaa.Pure
open Go.RowKit Go.Proofs.Ytcokdccbfbbhbaa.PFnExactIsName Go.Proofs.YtcokdccbfbbhbaaW.PrintWords Go.Proofs.YtcokdccbfbbhbaaW.PrintLast

theorem w64 {x : Int} (h0 : -9223372036854775808 ≤ x) (h1 : x ≤ 9223372036854775807) : wrap64 x = x := by unfold wrap64; omega
theorem rd_eq (xs : List Int) (j : Nat) (h : j < xs.length) : rd xs (j : Int) = xs[j] := by simp [rd, h]
theorem toIntS_l (xs : List Int) (hx : xs.length ≤ 35184372088832) : ∀ (d j k : Nat) (acc : List Int), j + d = xs.length → acc.length = xs.length → (∀ t, t < j → acc[t]? = xs[t]?) → d < k →
    laws_toIntS.l0 k xs acc (j : Int) = some xs := by
  intro d
  induction d with
  | zero =>
    intro j k acc hj hl ht hk
    obtain ⟨k, rfl⟩ : ∃ m, k = m + 1 := ⟨k - 1, by omega⟩
    simp only [laws_toIntS.l0]
    rw [if_neg (by omega)]
    congr 1
    apply List.ext_getElem?
    intro t
    by_cases h : t < j
    · exact ht t h
    · rw [List.getElem?_eq_none (by omega), List.getElem?_eq_none (by omega)]
  | succ d ih =>
    intro j k acc hj hl ht hk
    obtain ⟨k, rfl⟩ : ∃ m, k = m + 1 := ⟨k - 1, by omega⟩
    simp only [laws_toIntS.l0]
    rw [if_pos (by omega), if_pos (by omega), if_pos (by omega), w64 (by omega) (by omega)]
    have e : ((j : Int) + 1) = ((j + 1 : Nat) : Int) := by omega
    rw [e]
    refine ih (j + 1) k _ (by omega) (by simpa using hl) ?_ (by omega)
    intro t h
    have hj' : j < xs.length := by omega
    rw [rd_eq xs j hj', Int.toNat_natCast]
    by_cases h' : t = j
    · subst h'; rw [List.getElem?_set_self (by omega), List.getElem?_eq_getElem hj']
    · rw [List.getElem?_set_ne (by omega)]; exact ht t (by omega)
theorem toIntS_ok (xs : List Int) (hx : xs.length ≤ 1048576) (k : Nat) (hk : xs.length < k) : laws_toIntS.f k xs = some xs := by
  unfold laws_toIntS.f
  rw [if_pos (by omega), if_pos (by omega), Int.toNat_natCast]
  exact toIntS_l xs (by omega) xs.length 0 k _ (by omega) (by simp) (fun t h => by omega) hk
theorem eqIntS_l (xs : List Int) (hx : xs.length ≤ 35184372088832) : ∀ (d j k : Nat), j + d = xs.length → d < k → laws_eqIntS.l0 k xs xs (j : Int) = some true := by
  intro d
  induction d with
  | zero =>
    intro j k hj hk
    obtain ⟨k, rfl⟩ : ∃ m, k = m + 1 := ⟨k - 1, by omega⟩
    simp only [laws_eqIntS.l0]
    rw [if_neg (by omega)]
  | succ d ih =>
    intro j k hj hk
    obtain ⟨k, rfl⟩ : ∃ m, k = m + 1 := ⟨k - 1, by omega⟩
    simp only [laws_eqIntS.l0]
    rw [if_pos (by omega), if_pos (by omega), if_pos (by omega), if_pos trivial, w64 (by omega) (by omega)]
    exact ih (j + 1) k (by omega) (by omega)
theorem eqIntS_ok (xs : List Int) (hx : xs.length ≤ 35184372088832) (k : Nat) (hk : xs.length < k) : laws_eqIntS.f k xs xs = some true := by
  unfold laws_eqIntS.f
  rw [if_pos rfl]
  exact eqIntS_l xs hx xs.length 0 k (by omega) hk
def letter (u : Int) : Bool := (97 ≤ u && u ≤ 122) || (65 ≤ u && u ≤ 90) || u == 95 || u == 36
def dig (u : Int) : Bool := 48 ≤ u && u ≤ 57
def sortP (u : Int) : Int := if letter u then 1 else if dig u then 2 else if u = 46 ∨ u = 43 ∨ u = 45 then 3 else 0
def nameGo : Bool → List Int → Bool
  | _, [] => true
  | first, u :: us => if letter u || (!first && dig u) then nameGo false us else false
def nameAns (l : List Int) : Bool := nameGo true l && decide (0 < l.length)
theorem drop_cons (xs : List Int) (j : Nat) (h : j < xs.length) : xs.drop j = xs[j] :: xs.drop (j + 1) := List.drop_eq_getElem_cons h
theorem letter_f (u : Int) : spec_l4letter.f u = some (letter u) := by
  unfold spec_l4letter.f letter
  repeat' split
  all_goals (congr 1; rw [Bool.eq_iff_iff]; simp; try omega)
theorem digit_f (u : Int) : spec_l4digit.f u = some (dig u) := by
  unfold spec_l4digit.f dig
  split
  all_goals (congr 1; rw [Bool.eq_iff_iff]; simp; try omega)
theorem letterT (u : Int) : letter u = true ↔ (97 ≤ u ∧ u ≤ 122) ∨ (65 ≤ u ∧ u ≤ 90) ∨ u = 95 ∨ u = 36 := by unfold letter; simp; omega
theorem digT (u : Int) : dig u = true ↔ 48 ≤ u ∧ u ≤ 57 := by unfold dig; simp
theorem sort_j3 (k : Nat) (u : Int) (b : Bool) : impl_sortOf.j3 (k + 1) u b = some (if b then 2 else if u = 46 ∨ u = 43 ∨ u = 45 then 3 else 0) := by
  simp only [impl_sortOf.j3]
  cases b
  · by_cases a : u = 46 <;> by_cases c : u = 43 <;> by_cases d : u = 45 <;> simp [a, c, d]
  · simp
theorem sort_j2 (k : Nat) (u : Int) (b : Bool) : impl_sortOf.j2 (k + 2) u b = some (if b then 1 else if dig u then 2 else if u = 46 ∨ u = 43 ∨ u = 45 then 3 else 0) := by
  simp only [impl_sortOf.j2, sort_j3, dig]
  cases b
  · by_cases a : 48 ≤ u <;> simp [a]
  · simp
theorem sort_j1 (k : Nat) (u : Int) (b : Bool) : impl_sortOf.j1 (k + 3) u b = some (if b || u == 95 || u == 36 then 1 else if dig u then 2 else if u = 46 ∨ u = 43 ∨ u = 45 then 3 else 0) := by
  simp only [impl_sortOf.j1, sort_j2]
  cases b
  · by_cases a : u = 95 <;> simp [a]
  · simp
theorem sort_j0 (k : Nat) (u : Int) (b : Bool) : impl_sortOf.j0 (k + 4) u b = some (if b || (decide (65 ≤ u) && decide (u ≤ 90)) || u == 95 || u == 36 then 1 else if dig u then 2 else if u = 46 ∨ u = 43 ∨ u = 45 then 3 else 0) := by
  simp only [impl_sortOf.j0, sort_j1, sort_j2]
  cases b
  · by_cases a : 65 ≤ u <;> simp [a]
  · simp
theorem sort_f (u : Int) (k : Nat) (hk : 5 ≤ k) : impl_sortOf.f k u = some (sortP u) := by
  obtain ⟨k, rfl⟩ : ∃ m, k = m + 4 := ⟨k - 4, by omega⟩
  unfold sortP impl_sortOf.f letter
  simp only [sort_j0]
  by_cases a : 97 ≤ u <;> simp [a]
theorem specName_l (xs : List Int) (hx : xs.length ≤ 1048576) : ∀ (d j k : Nat), j + d = xs.length → d < k →
    spec_IsName.l0 k xs (j : Int) = some (nameGo (decide (j = 0)) (xs.drop j) && decide (0 < xs.length)) := by
  intro d
  induction d with
  | zero =>
    intro j k hj hk
    obtain ⟨k, rfl⟩ : ∃ m, k = m + 1 := ⟨k - 1, by omega⟩
    simp only [spec_IsName.l0]
    rw [if_neg (by omega), List.drop_of_length_le (by omega)]
    simp only [nameGo, Bool.true_and]
    congr 1
    rw [Bool.eq_iff_iff]; simp
  | succ d ih =>
    intro j k hj hk
    obtain ⟨k, rfl⟩ : ∃ m, k = m + 1 := ⟨k - 1, by omega⟩
    have hj' : j < xs.length := by omega
    have e : ((j : Int) + 1) = ((j + 1 : Nat) : Int) := by omega
    have h := ih (j + 1) k (by omega) (by omega)
    rw [decide_eq_false (by omega : ¬ j + 1 = 0)] at h
    simp only [spec_IsName.l0, rd_eq xs j hj', drop_cons xs j hj', letter_f, digit_f, Option.bind_some, w64 (x := (j : Int) + 1) (by omega) (by omega), nameGo]
    rw [if_pos (by omega), if_pos (by omega), e, h]
    by_cases h0 : j = 0
    · subst h0
      cases letter xs[0] <;> simp
    · rw [if_neg (show ¬ (j : Int) = 0 by omega), decide_eq_false h0]
      cases letter xs[j] <;> cases dig xs[j] <;> simp
theorem implName_l (xs : List Int) (hx : xs.length ≤ 1048576) : ∀ (d j k : Nat), j + d = xs.length → 2 * d + 10 < k →
    impl_IsName.l0 k xs xs (xs.length : Int) (j : Int) = some (nameGo (decide (j = 0)) (xs.drop j) && decide (0 < xs.length)) := by
  intro d
  induction d with
  | zero =>
    intro j k hj hk
    obtain ⟨k, rfl⟩ : ∃ m, k = m + 1 := ⟨k - 1, by omega⟩
    simp only [impl_IsName.l0]
    rw [if_neg (by omega), List.drop_of_length_le (by omega)]
    simp only [nameGo, Bool.true_and]
    congr 1
    rw [Bool.eq_iff_iff]; simp
  | succ d ih =>
    intro j k hj hk
    obtain ⟨k, rfl⟩ : ∃ m, k = m + 2 := ⟨k - 2, by omega⟩
    have hj' : j < xs.length := by omega
    have e : ((j : Int) + 1) = ((j + 1 : Nat) : Int) := by omega
    have h := ih (j + 1) k (by omega) (by omega)
    rw [decide_eq_false (by omega : ¬ j + 1 = 0)] at h
    have hl := letterT xs[j]
    have hd := digT xs[j]
    have hw : 0 ≤ xs[j] → xs[j] ≤ 127 → wrap32 xs[j] = xs[j] := fun a b => by unfold wrap32; omega
    simp only [impl_IsName.l0, impl_IsName.j1, rd_eq xs j hj', drop_cons xs j hj', w64 (x := (j : Int) + 1) (by omega) (by omega), nameGo]
    rw [if_pos (by omega), if_pos (by omega), if_pos (by omega), e, h]
    by_cases h1 : xs[j] < 0
    · have a : letter xs[j] = false := by cases c : letter xs[j] with | false => rfl | true => (rw [c] at hl; simp at hl; omega)
      have b : dig xs[j] = false := by cases c : dig xs[j] with | false => rfl | true => (rw [c] at hd; simp at hd; omega)
      simp [h1, a, b]
    · by_cases h2 : xs[j] > 127
      · have a : letter xs[j] = false := by cases c : letter xs[j] with | false => rfl | true => (rw [c] at hl; simp at hl; omega)
        have b : dig xs[j] = false := by cases c : dig xs[j] with | false => rfl | true => (rw [c] at hd; simp at hd; omega)
        simp [h1, h2, a, b]
      · rw [if_neg h1, decide_eq_false h2, if_neg (by simp), hw (by omega) (by omega), sort_f _ _ (by omega), Option.bind_some]
        unfold sortP
        by_cases h0 : j = 0
        · subst h0
          cases letter xs[0] <;> cases dig xs[0] <;> simp <;> (repeat' split) <;> simp_all
        · rw [if_neg (show ¬ (j : Int) = 0 by omega), decide_eq_false h0]
          cases letter xs[j] <;> cases dig xs[j] <;> simp <;> (repeat' split) <;> simp_all
theorem FnExactIsName : laws_FnExactIsName.Pure := by
  intro l hm hl hwf
  by_cases hbig : (l.length : Int) > 1048576
  · exact ⟨0, by unfold laws_FnExactIsName.f; rw [if_pos hbig]⟩
  have hx : l.length ≤ 1048576 := by omega
  refine ⟨2 * l.length + 30, ?_⟩
  have hs : spec_IsName.f (2 * l.length + 30) l = some (nameAns l) := by
    have h := specName_l l hx l.length 0 (2 * l.length + 30) (by omega) (by omega)
    simpa [spec_IsName.f, nameAns] using h
  have hi : impl_IsName.f (2 * l.length + 30) l = some (nameAns l) := by
    have h := implName_l l hx l.length 0 (2 * l.length + 30) (by omega) (by omega)
    simpa [impl_IsName.f, nameAns] using h
  simp [laws_FnExactIsName.f, toIntS_ok l hx _ (show l.length < 2 * l.length + 30 by omega), hs, hi, eqIntS_ok l (by omega) _ (show l.length < 2 * l.length + 30 by omega)]

end Go.Proofs.Ytcokdccbfbbhbaa.Pure
