/- The law FnExactFromUnits: at every list of at most 2^20 numbers the program's FromUnits and the reference's answer the same, the argument is left alone and the answer owns its memory. -/
import Derived.Test.YtcokdccbfbbhbaaPFnExactFromUnitsx3
import Derived.Laws.BitsLemmas
import Derived.Test.YtcokdccbfbbhbaaWSized
namespace Go.Proofs.PrintWords
/-- The word under the name by which the row calls it. -/
abbrev sized_ints := @Go.Proofs.YtcokdccbfbbhbaaW.PrintWords.sized_ints
end Go.Proofs.PrintWords
namespace Go.Proofs.Ytcokdccbfbbhbaa.Pure
open Go.RowKit Go.Proofs.Ytcokdccbfbbhbaa.PFnExactFromUnits Go.Proofs.YtcokdccbfbbhbaaW.PrintWords Go.Proofs.YtcokdccbfbbhbaaW.PrintLast

theorem w64 {x : Int} (h0 : -9223372036854775808 ≤ x) (h1 : x ≤ 9223372036854775807) : wrap64 x = x := by unfold wrap64; omega
theorem rd_eq (xs : List Int) (j : Nat) (h : j < xs.length) : rd xs (j : Int) = xs[j] := by simp [rd, h]
theorem toIntS_l (xs : List Int) (hx : xs.length ≤ 35184372088832) : ∀ (d j k : Nat) (acc : List Int), j + d = xs.length → acc.length = xs.length → (∀ t, t < j → acc[t]? = xs[t]?) → d < k →
    laws_toIntS.l0 k xs acc (j : Int) = some xs := by
  intro d
  induction d with
  | zero =>
    intro j k acc hj hl ht hk
    obtain ⟨k, rfl⟩ : ∃ m, k = m + 1 := ⟨k - 1, by omega⟩
    simp only [laws_toIntS.l0]
    rw [if_neg (by omega)]
    congr 1
    apply List.ext_getElem?
    intro t
    by_cases h : t < j
    · exact ht t h
    · rw [List.getElem?_eq_none (by omega), List.getElem?_eq_none (by omega)]
  | succ d ih =>
    intro j k acc hj hl ht hk
    obtain ⟨k, rfl⟩ : ∃ m, k = m + 1 := ⟨k - 1, by omega⟩
    simp only [laws_toIntS.l0]
    rw [if_pos (by omega), if_pos (by omega), if_pos (by omega), w64 (by omega) (by omega)]
    have e : ((j : Int) + 1) = ((j + 1 : Nat) : Int) := by omega
    rw [e]
    refine ih (j + 1) k _ (by omega) (by simpa using hl) ?_ (by omega)
    intro t h
    have hj' : j < xs.length := by omega
    rw [rd_eq xs j hj', Int.toNat_natCast]
    by_cases h' : t = j
    · subst h'; rw [List.getElem?_set_self (by omega), List.getElem?_eq_getElem hj']
    · rw [List.getElem?_set_ne (by omega)]; exact ht t (by omega)
theorem toIntS_ok (xs : List Int) (hx : xs.length ≤ 1048576) (k : Nat) (hk : xs.length < k) : laws_toIntS.f k xs = some xs := by
  unfold laws_toIntS.f
  rw [if_pos (by omega), if_pos (by omega), Int.toNat_natCast]
  exact toIntS_l xs (by omega) xs.length 0 k _ (by omega) (by simp) (fun t h => by omega) hk
theorem eqIntS_l (xs : List Int) (hx : xs.length ≤ 35184372088832) : ∀ (d j k : Nat), j + d = xs.length → d < k → laws_eqIntS.l0 k xs xs (j : Int) = some true := by
  intro d
  induction d with
  | zero =>
    intro j k hj hk
    obtain ⟨k, rfl⟩ : ∃ m, k = m + 1 := ⟨k - 1, by omega⟩
    simp only [laws_eqIntS.l0]
    rw [if_neg (by omega)]
  | succ d ih =>
    intro j k hj hk
    obtain ⟨k, rfl⟩ : ∃ m, k = m + 1 := ⟨k - 1, by omega⟩
    simp only [laws_eqIntS.l0]
    rw [if_pos (by omega), if_pos (by omega), if_pos (by omega), if_pos trivial, w64 (by omega) (by omega)]
    exact ih (j + 1) k (by omega) (by omega)
theorem eqIntS_ok (xs : List Int) (hx : xs.length ≤ 35184372088832) (k : Nat) (hk : xs.length < k) : laws_eqIntS.f k xs xs = some true := by
  unfold laws_eqIntS.f
  rw [if_pos rfl]
  exact eqIntS_l xs hx xs.length 0 k (by omega) hk
def cnt (n : Nat) : List Int := (List.range n).map fun t => (Int.ofNat t + 1)
theorem cnt_len (n : Nat) : (cnt n).length = n := by simp [cnt]
theorem cnt_get (n j : Nat) (h : j < n) : (cnt n)[j]? = some ((j : Int) + 1) := by simp [cnt, h]
theorem markIntS_l (n : Nat) (hn : n ≤ 35184372088832) : ∀ (d j k : Nat) (xs : List Int), xs.length = n → j + d = n → (∀ t, t < j → xs[t]? = some ((t : Int) + 1)) → d < k →
    laws_markIntS.l0 k xs ((j : Int) + 1) (j : Int) = some ((n : Int) + 1, cnt n) := by
  intro d
  induction d with
  | zero =>
    intro j k xs hl hj ht hk
    obtain ⟨k, rfl⟩ : ∃ m, k = m + 1 := ⟨k - 1, by omega⟩
    simp only [laws_markIntS.l0]
    rw [if_neg (by omega)]
    have e : xs = cnt n := by
      apply List.ext_getElem?
      intro t
      by_cases h : t < j
      · rw [ht t h, cnt_get n t (by omega)]
      · rw [List.getElem?_eq_none (by omega), List.getElem?_eq_none (by rw [cnt_len]; omega)]
    rw [e]
    have : j = n := by omega
    rw [this]
  | succ d ih =>
    intro j k xs hl hj ht hk
    obtain ⟨k, rfl⟩ : ∃ m, k = m + 1 := ⟨k - 1, by omega⟩
    simp only [laws_markIntS.l0]
    rw [if_pos (by omega), if_pos (by omega), w64 (by omega) (by omega), w64 (by omega) (by omega)]
    refine ih (j + 1) k _ (by simpa using hl) (by omega) ?_ (by omega)
    intro t h
    rw [Int.toNat_natCast]
    by_cases h' : t = j
    · subst h'; rw [List.getElem?_set_self (by omega)]
    · rw [List.getElem?_set_ne (by omega)]; exact ht t (by omega)
theorem heldIntS_l (n : Nat) (hn : n ≤ 35184372088832) : ∀ (d j k : Nat), j + d = n → d < k →
    laws_heldIntS.l0 k (cnt n) ((j : Int) + 1) (j : Int) = some ((n : Int) + 1) := by
  intro d
  induction d with
  | zero =>
    intro j k hj hk
    obtain ⟨k, rfl⟩ : ∃ m, k = m + 1 := ⟨k - 1, by omega⟩
    simp only [laws_heldIntS.l0]
    rw [if_neg (by rw [cnt_len]; omega)]
    have : j = n := by omega
    rw [this]
  | succ d ih =>
    intro j k hj hk
    obtain ⟨k, rfl⟩ : ∃ m, k = m + 1 := ⟨k - 1, by omega⟩
    simp only [laws_heldIntS.l0]
    have e : rd (cnt n) (j : Int) = (j : Int) + 1 := by
      rw [rd_eq _ j (by rw [cnt_len]; omega)]
      exact Option.some.inj ((List.getElem?_eq_getElem _).symm.trans (cnt_get n j (by omega)))
    rw [e, if_pos (by rw [cnt_len]; omega), if_pos (by omega), if_pos rfl, w64 (by omega) (by omega), w64 (by omega) (by omega)]
    exact ih (j + 1) k (by omega) (by omega)
theorem markIntS_ok (xs : List Int) (hx : xs.length ≤ 35184372088832) (k : Nat) (hk : xs.length < k) :
    laws_markIntS.f k xs 1 = some ((xs.length : Int) + 1, cnt xs.length) := by
  unfold laws_markIntS.f
  exact markIntS_l xs.length hx xs.length 0 k xs rfl (by omega) (fun t h => by omega) hk
theorem heldIntS_ok (n : Nat) (hx : n ≤ 35184372088832) (k : Nat) (hk : n < k) :
    laws_heldIntS.f k (cnt n) 1 = some ((n : Int) + 1) := by
  unfold laws_heldIntS.f
  exact heldIntS_l n hx n 0 k (by omega) hk
def fromAll : List Int → List Int
  | [] => []
  | [u] => [u]
  | u :: v :: r => if (55296 ≤ u ∧ u ≤ 56319) ∧ 56320 ≤ v ∧ v ≤ 57343 then (65536 + (u - 55296) * 1024 + v - 56320) :: fromAll r else u :: fromAll (v :: r)
def fromAns (l : List Int) : List Int × Int := if ∀ u ∈ l, 0 ≤ u ∧ u ≤ 65535 then (fromAll l, 0) else ([], 1)
theorem drop_cons (xs : List Int) (j : Nat) (h : j < xs.length) : xs.drop j = xs[j] :: xs.drop (j + 1) := List.drop_eq_getElem_cons h
theorem and1023 (x : Int) (h0 : 0 ≤ x) (h1 : x ≤ 1048575) : Go.bits .and .i64 x 1023 = x % 1024 := by
  exact Go.bits_mask .i64 63 (by decide) (fun n h0 h1 => by have := IntKind.wrap_i64 n; omega) 10 (by decide) x h0 (by omega)
theorem fromAll_len : ∀ (n : Nat) (l : List Int), l.length ≤ n → (fromAll l).length ≤ l.length := by
  intro n
  induction n with
  | zero => intro l h; cases l with
    | nil => simp [fromAll]
    | cons => simp at h
  | succ n ih =>
    intro l h
    match l, h with
    | [], _ => simp [fromAll]
    | [u], _ => simp [fromAll]
    | u :: v :: r, h =>
      simp only [fromAll]
      split
      · have := ih r (by simp at h; omega); simp; omega
      · have := ih (v :: r) (by simp at h ⊢; omega); simp at this ⊢; omega
theorem specChk_l (xs : List Int) (hx : xs.length ≤ 1048576) : ∀ (d j k : Nat), j + d = xs.length → d < k →
    spec_FromUnits.l0 k xs (j : Int) = if ∀ u ∈ xs.drop j, 0 ≤ u ∧ u ≤ 65535 then spec_FromUnits.l1 (k - d - 1) xs [] 0 else some ([], 1) := by
  intro d
  induction d with
  | zero =>
    intro j k hj hk
    obtain ⟨k, rfl⟩ : ∃ m, k = m + 1 := ⟨k - 1, by omega⟩
    simp only [spec_FromUnits.l0]
    rw [if_neg (by omega), List.drop_of_length_le (by omega), if_pos (by simp)]
    rfl
  | succ d ih =>
    intro j k hj hk
    obtain ⟨k, rfl⟩ : ∃ m, k = m + 1 := ⟨k - 1, by omega⟩
    have hj' : j < xs.length := by omega
    simp only [spec_FromUnits.l0, rd_eq xs j hj', drop_cons xs j hj']
    rw [if_pos (by omega), if_pos (by omega)]
    by_cases h1 : xs[j] < 0
    · rw [if_pos h1, if_neg (fun h => by have := h xs[j] List.mem_cons_self; omega)]
    · by_cases h2 : xs[j] > 65535
      · rw [if_neg h1, if_pos h2, if_neg (fun h => by have := h xs[j] List.mem_cons_self; omega)]
      · rw [if_neg h1, if_neg h2, w64 (by omega) (by omega)]
        have e : ((j : Int) + 1) = ((j + 1 : Nat) : Int) := by omega
        rw [e, ih (j + 1) k (by omega) (by omega)]
        have e2 : k + 1 - (d + 1) - 1 = k - d - 1 := by omega
        have e3 : (∀ u ∈ xs[j] :: xs.drop (j + 1), 0 ≤ u ∧ u ≤ 65535) ↔ ∀ u ∈ xs.drop (j + 1), 0 ≤ u ∧ u ≤ 65535 := by
          rw [List.forall_mem_cons]
          exact ⟨fun h => h.2, fun h => ⟨by omega, h⟩⟩
        simp only [e3, e2]
theorem good_l (xs : List Int) (hx : xs.length ≤ 1048576) : ∀ (d j k : Nat), j + d = xs.length → d < k →
    impl_goodUnits.l0 k xs (xs.length : Int) (j : Int) = some (decide (∀ u ∈ xs.drop j, 0 ≤ u ∧ u ≤ 65535)) := by
  intro d
  induction d with
  | zero =>
    intro j k hj hk
    obtain ⟨k, rfl⟩ : ∃ m, k = m + 1 := ⟨k - 1, by omega⟩
    simp only [impl_goodUnits.l0]
    rw [if_neg (by omega), List.drop_of_length_le (by omega)]
    simp
  | succ d ih =>
    intro j k hj hk
    obtain ⟨k, rfl⟩ : ∃ m, k = m + 1 := ⟨k - 1, by omega⟩
    have hj' : j < xs.length := by omega
    simp only [impl_goodUnits.l0, rd_eq xs j hj', drop_cons xs j hj']
    rw [if_pos (by omega), if_pos (by omega), if_pos (by omega)]
    by_cases h1 : xs[j] < 0
    · rw [if_pos h1, decide_eq_false (fun h => by have := h xs[j] List.mem_cons_self; omega)]
    · by_cases h2 : xs[j] > 65535
      · rw [if_neg h1, if_pos h2, decide_eq_false (fun h => by have := h xs[j] List.mem_cons_self; omega)]
      · rw [if_neg h1, if_neg h2, w64 (by omega) (by omega)]
        have e : ((j : Int) + 1) = ((j + 1 : Nat) : Int) := by omega
        rw [e, ih (j + 1) k (by omega) (by omega)]
        have e3 : (∀ u ∈ xs[j] :: xs.drop (j + 1), 0 ≤ u ∧ u ≤ 65535) ↔ ∀ u ∈ xs.drop (j + 1), 0 ≤ u ∧ u ≤ 65535 := by
          rw [List.forall_mem_cons]
          exact ⟨fun h => h.2, fun h => ⟨by omega, h⟩⟩
        simp only [e3]
theorem specFrom_l (xs : List Int) (hx : xs.length ≤ 1048576) (hu : ∀ u ∈ xs, 0 ≤ u ∧ u ≤ 65535) : ∀ (n j k : Nat) (acc : List Int), xs.length - j ≤ n → j ≤ xs.length → acc.length ≤ j → n < k →
    spec_FromUnits.l1 k xs acc (j : Int) = some (acc ++ fromAll (xs.drop j), 0) := by
  intro n
  induction n with
  | zero =>
    intro j k acc hn hj hl hk
    obtain ⟨k, rfl⟩ : ∃ m, k = m + 1 := ⟨k - 1, by omega⟩
    simp only [spec_FromUnits.l1]
    rw [if_neg (by omega), List.drop_of_length_le (by omega)]
    simp [fromAll]
  | succ n ih =>
    intro j k acc hn hj hl hk
    obtain ⟨k, rfl⟩ : ∃ m, k = m + 1 := ⟨k - 1, by omega⟩
    by_cases hend : j = xs.length
    · simp only [spec_FromUnits.l1]
      rw [if_neg (by omega), List.drop_of_length_le (by omega)]
      simp [fromAll]
    have hj' : j < xs.length := by omega
    have b0 := hu xs[j] (List.getElem_mem hj')
    have e : ((j : Int) + 1) = ((j + 1 : Nat) : Int) := by omega
    have e2 : ((j : Int) + 2) = ((j + 2 : Nat) : Int) := by omega
    have one : fromAll (xs.drop j) = xs[j] :: fromAll (xs.drop (j + 1)) → spec_FromUnits.l1 k xs (acc ++ [xs[j]]) ((j + 1 : Nat) : Int) = some (acc ++ fromAll (xs.drop j), 0) := by
      intro h
      rw [ih (j + 1) k _ (by omega) (by omega) (by simp; omega) (by omega), h]
      simp
    have wj : wrap64 ((j : Int) + 1) = ((j + 1 : Nat) : Int) := by rw [w64 (by omega) (by omega), e]
    have wj2 : wrap64 ((j : Int) + 2) = ((j + 2 : Nat) : Int) := by rw [w64 (by omega) (by omega), e2]
    simp only [spec_FromUnits.l1, rd_eq xs j hj', wj, wj2, if_pos (show (j : Int) < (xs.length : Int) by omega), if_pos (show 0 ≤ (j : Int) by omega), if_pos (show acc.length < 17592186044416 by omega)]
    by_cases h1 : j + 1 < xs.length
    · have b1 := hu xs[j + 1] (List.getElem_mem h1)
      simp only [rd_eq xs (j + 1) h1, if_pos (show ((j + 1 : Nat) : Int) < (xs.length : Int) by omega), if_pos (show 0 ≤ ((j + 1 : Nat) : Int) by omega)]
      have hd : xs.drop j = xs[j] :: xs[j + 1] :: xs.drop (j + 2) := by rw [drop_cons xs j hj', drop_cons xs (j + 1) h1]
      by_cases c : (55296 ≤ xs[j] ∧ xs[j] ≤ 56319) ∧ 56320 ≤ xs[j + 1] ∧ xs[j + 1] ≤ 57343
      · rw [if_pos (by omega), if_pos (by omega), if_pos (by omega), if_pos (by omega)]
        rw [ih (j + 2) k _ (by omega) (by omega) (by simp; omega) (by omega), hd]
        simp only [fromAll, if_pos c]
        rw [w64 (x := xs[j] - 55296) (by omega) (by omega), w64 (x := (xs[j] - 55296) * 1024) (by omega) (by omega), w64 (x := 65536 + (xs[j] - 55296) * 1024) (by omega) (by omega), w64 (x := 65536 + (xs[j] - 55296) * 1024 + xs[j + 1]) (by omega) (by omega), w64 (x := 65536 + (xs[j] - 55296) * 1024 + xs[j + 1] - 56320) (by omega) (by omega)]
        simp
      · have h := one (by rw [hd]; simp only [fromAll, if_neg c]; rw [drop_cons xs (j + 1) h1])
        split
        · split
          · split
            · split
              · omega
              · exact h
            · exact h
          · exact h
        · exact h
    · have hd : xs.drop j = [xs[j]] := by rw [drop_cons xs j hj', List.drop_of_length_le (by omega)]
      have h := one (by rw [hd, List.drop_of_length_le (by omega)]; simp [fromAll])
      rw [if_neg (show ¬ ((j + 1 : Nat) : Int) < (xs.length : Int) by omega)]
      split
      · split
        · exact h
        · exact h
      · exact h
theorem implFrom_l (xs : List Int) (hx : xs.length ≤ 1048576) (hu : ∀ u ∈ xs, 0 ≤ u ∧ u ≤ 65535) : ∀ (n j k : Nat) (acc : List Int), xs.length - j ≤ n → j ≤ xs.length → acc.length ≤ j → n < k →
    impl_FromUnits.l0 k xs acc (j : Int) = some (acc ++ fromAll (xs.drop j), 0) := by
  intro n
  induction n with
  | zero =>
    intro j k acc hn hj hl hk
    obtain ⟨k, rfl⟩ : ∃ m, k = m + 1 := ⟨k - 1, by omega⟩
    simp only [impl_FromUnits.l0]
    rw [if_neg (by omega), List.drop_of_length_le (by omega)]
    simp [fromAll]
  | succ n ih =>
    intro j k acc hn hj hl hk
    obtain ⟨k, rfl⟩ : ∃ m, k = m + 1 := ⟨k - 1, by omega⟩
    by_cases hend : j = xs.length
    · simp only [impl_FromUnits.l0]
      rw [if_neg (by omega), List.drop_of_length_le (by omega)]
      simp [fromAll]
    have hj' : j < xs.length := by omega
    have b0 := hu xs[j] (List.getElem_mem hj')
    have e : ((j : Int) + 1) = ((j + 1 : Nat) : Int) := by omega
    have one : fromAll (xs.drop j) = xs[j] :: fromAll (xs.drop (j + 1)) → impl_FromUnits.l0 k xs (acc ++ [xs[j]]) ((j + 1 : Nat) : Int) = some (acc ++ fromAll (xs.drop j), 0) := by
      intro h
      rw [ih (j + 1) k _ (by omega) (by omega) (by simp; omega) (by omega), h]
      simp
    have wj : wrap64 ((j : Int) + 1) = ((j + 1 : Nat) : Int) := by rw [w64 (by omega) (by omega), e]
    simp only [impl_FromUnits.l0, rd_eq xs j hj', wj, if_pos (show (j : Int) < (xs.length : Int) by omega), if_pos (show 0 ≤ (j : Int) by omega), if_pos (show acc.length < 17592186044416 by omega)]
    by_cases h1 : j + 1 < xs.length
    · have b1 := hu xs[j + 1] (List.getElem_mem h1)
      simp only [rd_eq xs (j + 1) h1, if_pos (show ((j + 1 : Nat) : Int) < (xs.length : Int) by omega), if_pos (show 0 ≤ ((j + 1 : Nat) : Int) by omega)]
      have hd : xs.drop j = xs[j] :: xs[j + 1] :: xs.drop (j + 2) := by rw [drop_cons xs j hj', drop_cons xs (j + 1) h1]
      by_cases c : (55296 ≤ xs[j] ∧ xs[j] ≤ 56319) ∧ 56320 ≤ xs[j + 1] ∧ xs[j + 1] ≤ 57343
      · rw [if_pos (by omega), if_pos (by omega)]
        rw [and1023 xs[j] (by omega) (by omega), and1023 xs[j + 1] (by omega) (by omega), w64 (x := xs[j] % 1024 * 1024) (by omega) (by omega), w64 (x := 65536 + xs[j] % 1024 * 1024) (by omega) (by omega), w64 (x := 65536 + xs[j] % 1024 * 1024 + xs[j + 1] % 1024) (by omega) (by omega), w64 (x := ((j + 1 : Nat) : Int) + 1) (by omega) (by omega)]
        have e2 : (((j + 1 : Nat) : Int) + 1) = ((j + 2 : Nat) : Int) := by omega
        rw [e2, ih (j + 2) k _ (by omega) (by omega) (by simp; omega) (by omega), hd]
        simp only [fromAll, if_pos c]
        have e3 : 65536 + xs[j] % 1024 * 1024 + xs[j + 1] % 1024 = 65536 + (xs[j] - 55296) * 1024 + xs[j + 1] - 56320 := by omega
        rw [e3]
        simp
      · have h := one (by rw [hd]; simp only [fromAll, if_neg c]; rw [drop_cons xs (j + 1) h1])
        split
        · split
          · omega
          · exact h
        · exact h
    · have hd : xs.drop j = [xs[j]] := by rw [drop_cons xs j hj', List.drop_of_length_le (by omega)]
      have h := one (by rw [hd, List.drop_of_length_le (by omega)]; simp [fromAll])
      rw [if_neg (show ¬ ((j + 1 : Nat) : Int) < (xs.length : Int) by omega)]
      split
      · exact h
      · exact h
theorem FromUnits_spec (l : List Int) (hx : l.length ≤ 1048576) (_ : ∀ x ∈ l, (Lit.int .i64 x).wf = true) (k : Nat) (hk : 2 * l.length + 20 < k) : spec_FromUnits.f k l = some (fromAns l) := by
  unfold spec_FromUnits.f fromAns
  have A := specChk_l l hx l.length 0 k (by omega) (by omega)
  rw [List.drop_zero] at A
  refine A.trans ?_
  by_cases h : ∀ u ∈ l, 0 ≤ u ∧ u ≤ 65535
  · rw [if_pos h, if_pos h]
    have B := specFrom_l l hx h l.length 0 (k - l.length - 1) [] (by omega) (by omega) (by simp) (by omega)
    simpa using B
  · rw [if_neg h, if_neg h]
theorem FromUnits_impl (l : List Int) (hx : l.length ≤ 1048576) (_ : ∀ x ∈ l, (Lit.int .i64 x).wf = true) (k : Nat) (hk : 2 * l.length + 20 < k) : impl_FromUnits.f k l = some (fromAns l) := by
  unfold impl_FromUnits.f impl_goodUnits.f fromAns
  have A := good_l l hx l.length 0 k (by omega) (by omega)
  rw [List.drop_zero] at A
  have A' : impl_goodUnits.l0 k l (l.length : Int) 0 = some (decide (∀ u ∈ l, 0 ≤ u ∧ u ≤ 65535)) := A
  rw [A', Option.bind_some]
  by_cases h : ∀ u ∈ l, 0 ≤ u ∧ u ≤ 65535
  · rw [decide_eq_true h, if_pos rfl, if_pos h]
    have B := implFrom_l l hx h l.length 0 k [] (by omega) (by omega) (by simp) (by omega)
    simpa using B
  · rw [decide_eq_false h, if_neg h]
    rfl
theorem FromUnits_len (l : List Int) : (fromAns l).1.length ≤ 2 * l.length + 10 := by
  unfold fromAns
  split
  · have := fromAll_len l.length l (Nat.le_refl _); simp; omega
  · simp
theorem FnExactFromUnits : laws_FnExactFromUnits.Pure := by
  intro l hm hl hwf
  by_cases hbig : (l.length : Int) > 1048576
  · exact ⟨0, by unfold laws_FnExactFromUnits.f; rw [if_pos hbig]⟩
  have hx : l.length ≤ 1048576 := by omega
  refine ⟨2 * l.length + 30, ?_⟩
  have hs : ∀ k, 2 * l.length + 20 < k → spec_FromUnits.f k l = some (fromAns l) := fun k hk => FromUnits_spec l hx hwf k (by omega)
  have hi : ∀ k, 2 * l.length + 20 < k → impl_FromUnits.f k l = some (fromAns l) := fun k hk => FromUnits_impl l hx hwf k (by omega)
  have hr : (fromAns l).1.length ≤ 2 * l.length + 10 := FromUnits_len l
  generalize fromAns l = r at hs hi hr
  have ht : ∀ k, l.length < k → laws_toIntS.f k l = some l := fun k hk => toIntS_ok l hx k hk
  simp only [laws_FnExactFromUnits.f, if_neg hbig, ht _ (show l.length < 2 * l.length + 30 by omega), hs _ (show 2 * l.length + 20 < 2 * l.length + 30 by omega), hi _ (show 2 * l.length + 20 < 2 * l.length + 30 by omega), Option.bind_some,
    eqIntS_ok r.1 (by omega) _ (show r.1.length < 2 * l.length + 30 by omega), if_true]
  simp only [bne_self_eq_false, Bool.false_eq_true, if_false, if_true, laws_FnExactFromUnits.j0, ht _ (show l.length < 2 * l.length + 29 by omega), Option.bind_some, eqIntS_ok l (by omega) _ (show l.length < 2 * l.length + 29 by omega),
    markIntS_ok l (by omega) _ (show l.length < 2 * l.length + 29 by omega), if_neg (show ¬ ((l.length : Int) + 1 < 0) by omega), eqIntS_ok r.1 (by omega) _ (show r.1.length < 2 * l.length + 29 by omega)]
  simp only [bne_self_eq_false, Bool.false_eq_true, if_false, if_true, laws_FnExactFromUnits.j1, Option.bind_some, markIntS_ok r.1 (by omega) _ (show r.1.length < 2 * l.length + 28 by omega), heldIntS_ok r.1.length (by omega) _ (show r.1.length < 2 * l.length + 28 by omega),
    if_neg (show ¬ ((r.1.length : Int) + 1 < 0) by omega), ht _ (show l.length < 2 * l.length + 28 by omega), hi _ (show 2 * l.length + 20 < 2 * l.length + 28 by omega), eqIntS_ok r.1 (by omega) _ (show r.1.length < 2 * l.length + 28 by omega)]
  simp only [Bool.false_eq_true, if_false, if_true, laws_FnExactFromUnits.j2, Option.bind_some, heldIntS_ok r.1.length (by omega) _ (show r.1.length < 2 * l.length + 27 by omega), if_neg (show ¬ ((r.1.length : Int) + 1 < 0) by omega)]

end Go.Proofs.Ytcokdccbfbbhbaa.Pure
