/- The law FnExactToUnits: at every list of at most 2^20 numbers the program's ToUnits and the reference's answer the same, the argument is left alone and the answer owns its memory. -/
import Derived.Test.YtcokdccbfbbhbaaPFnExactToUnitsx2
import Derived.Laws.BitsLemmas
import Derived.Test.YtcokdccbfbbhbaaWSized
namespace Go.Proofs.PrintWords
/-- The word under the name by which the row calls it. -/
abbrev sized_ints := @Go.Proofs.YtcokdccbfbbhbaaW.PrintWords.sized_ints
end Go.Proofs.PrintWords
namespace Go.Proofs.Ytcokdccbfbbhbaa.Pure
open Go.RowKit Go.Proofs.Ytcokdccbfbbhbaa.PFnExactToUnits Go.Proofs.YtcokdccbfbbhbaaW.PrintWords Go.Proofs.YtcokdccbfbbhbaaW.PrintLast

theorem w64 {x : Int} (h0 : -9223372036854775808 ≤ x) (h1 : x ≤ 9223372036854775807) : wrap64 x = x := by unfold wrap64; omega
theorem rd_eq (xs : List Int) (j : Nat) (h : j < xs.length) : rd xs (j : Int) = xs[j] := by simp [rd, h]
theorem toIntS_l (xs : List Int) (hx : xs.length ≤ 35184372088832) : ∀ (d j k : Nat) (acc : List Int), j + d = xs.length → acc.length = xs.length → (∀ t, t < j → acc[t]? = xs[t]?) → d < k →
    laws_toIntS.l0 k xs acc (j : Int) = some xs := by
  intro d
  induction d with
  | zero =>
    intro j k acc hj hl ht hk
    obtain ⟨k, rfl⟩ : ∃ m, k = m + 1 := ⟨k - 1, by omega⟩
    simp only [laws_toIntS.l0]
    rw [if_neg (by omega)]
    congr 1
    apply List.ext_getElem?
    intro t
    by_cases h : t < j
    · exact ht t h
    · rw [List.getElem?_eq_none (by omega), List.getElem?_eq_none (by omega)]
  | succ d ih =>
    intro j k acc hj hl ht hk
    obtain ⟨k, rfl⟩ : ∃ m, k = m + 1 := ⟨k - 1, by omega⟩
    simp only [laws_toIntS.l0]
    rw [if_pos (by omega), if_pos (by omega), if_pos (by omega), w64 (by omega) (by omega)]
    have e : ((j : Int) + 1) = ((j + 1 : Nat) : Int) := by omega
    rw [e]
    refine ih (j + 1) k _ (by omega) (by simpa using hl) ?_ (by omega)
    intro t h
    have hj' : j < xs.length := by omega
    rw [rd_eq xs j hj', Int.toNat_natCast]
    by_cases h' : t = j
    · subst h'; rw [List.getElem?_set_self (by omega), List.getElem?_eq_getElem hj']
    · rw [List.getElem?_set_ne (by omega)]; exact ht t (by omega)
theorem toIntS_ok (xs : List Int) (hx : xs.length ≤ 1048576) (k : Nat) (hk : xs.length < k) : laws_toIntS.f k xs = some xs := by
  unfold laws_toIntS.f
  rw [if_pos (by omega), if_pos (by omega), Int.toNat_natCast]
  exact toIntS_l xs (by omega) xs.length 0 k _ (by omega) (by simp) (fun t h => by omega) hk
theorem eqIntS_l (xs : List Int) (hx : xs.length ≤ 35184372088832) : ∀ (d j k : Nat), j + d = xs.length → d < k → laws_eqIntS.l0 k xs xs (j : Int) = some true := by
  intro d
  induction d with
  | zero =>
    intro j k hj hk
    obtain ⟨k, rfl⟩ : ∃ m, k = m + 1 := ⟨k - 1, by omega⟩
    simp only [laws_eqIntS.l0]
    rw [if_neg (by omega)]
  | succ d ih =>
    intro j k hj hk
    obtain ⟨k, rfl⟩ : ∃ m, k = m + 1 := ⟨k - 1, by omega⟩
    simp only [laws_eqIntS.l0]
    rw [if_pos (by omega), if_pos (by omega), if_pos (by omega), if_pos trivial, w64 (by omega) (by omega)]
    exact ih (j + 1) k (by omega) (by omega)
theorem eqIntS_ok (xs : List Int) (hx : xs.length ≤ 35184372088832) (k : Nat) (hk : xs.length < k) : laws_eqIntS.f k xs xs = some true := by
  unfold laws_eqIntS.f
  rw [if_pos rfl]
  exact eqIntS_l xs hx xs.length 0 k (by omega) hk
def cnt (n : Nat) : List Int := (List.range n).map fun t => (Int.ofNat t + 1)
theorem cnt_len (n : Nat) : (cnt n).length = n := by simp [cnt]
theorem cnt_get (n j : Nat) (h : j < n) : (cnt n)[j]? = some ((j : Int) + 1) := by simp [cnt, h]
theorem markIntS_l (n : Nat) (hn : n ≤ 35184372088832) : ∀ (d j k : Nat) (xs : List Int), xs.length = n → j + d = n → (∀ t, t < j → xs[t]? = some ((t : Int) + 1)) → d < k →
    laws_markIntS.l0 k xs ((j : Int) + 1) (j : Int) = some ((n : Int) + 1, cnt n) := by
  intro d
  induction d with
  | zero =>
    intro j k xs hl hj ht hk
    obtain ⟨k, rfl⟩ : ∃ m, k = m + 1 := ⟨k - 1, by omega⟩
    simp only [laws_markIntS.l0]
    rw [if_neg (by omega)]
    have e : xs = cnt n := by
      apply List.ext_getElem?
      intro t
      by_cases h : t < j
      · rw [ht t h, cnt_get n t (by omega)]
      · rw [List.getElem?_eq_none (by omega), List.getElem?_eq_none (by rw [cnt_len]; omega)]
    rw [e]
    have : j = n := by omega
    rw [this]
  | succ d ih =>
    intro j k xs hl hj ht hk
    obtain ⟨k, rfl⟩ : ∃ m, k = m + 1 := ⟨k - 1, by omega⟩
    simp only [laws_markIntS.l0]
    rw [if_pos (by omega), if_pos (by omega), w64 (by omega) (by omega), w64 (by omega) (by omega)]
    refine ih (j + 1) k _ (by simpa using hl) (by omega) ?_ (by omega)
    intro t h
    rw [Int.toNat_natCast]
    by_cases h' : t = j
    · subst h'; rw [List.getElem?_set_self (by omega)]
    · rw [List.getElem?_set_ne (by omega)]; exact ht t (by omega)
theorem heldIntS_l (n : Nat) (hn : n ≤ 35184372088832) : ∀ (d j k : Nat), j + d = n → d < k →
    laws_heldIntS.l0 k (cnt n) ((j : Int) + 1) (j : Int) = some ((n : Int) + 1) := by
  intro d
  induction d with
  | zero =>
    intro j k hj hk
    obtain ⟨k, rfl⟩ : ∃ m, k = m + 1 := ⟨k - 1, by omega⟩
    simp only [laws_heldIntS.l0]
    rw [if_neg (by rw [cnt_len]; omega)]
    have : j = n := by omega
    rw [this]
  | succ d ih =>
    intro j k hj hk
    obtain ⟨k, rfl⟩ : ∃ m, k = m + 1 := ⟨k - 1, by omega⟩
    simp only [laws_heldIntS.l0]
    have e : rd (cnt n) (j : Int) = (j : Int) + 1 := by
      rw [rd_eq _ j (by rw [cnt_len]; omega)]
      exact Option.some.inj ((List.getElem?_eq_getElem _).symm.trans (cnt_get n j (by omega)))
    rw [e, if_pos (by rw [cnt_len]; omega), if_pos (by omega), if_pos rfl, w64 (by omega) (by omega), w64 (by omega) (by omega)]
    exact ih (j + 1) k (by omega) (by omega)
theorem markIntS_ok (xs : List Int) (hx : xs.length ≤ 35184372088832) (k : Nat) (hk : xs.length < k) :
    laws_markIntS.f k xs 1 = some ((xs.length : Int) + 1, cnt xs.length) := by
  unfold laws_markIntS.f
  exact markIntS_l xs.length hx xs.length 0 k xs rfl (by omega) (fun t h => by omega) hk
theorem heldIntS_ok (n : Nat) (hx : n ≤ 35184372088832) (k : Nat) (hk : n < k) :
    laws_heldIntS.f k (cnt n) 1 = some ((n : Int) + 1) := by
  unfold laws_heldIntS.f
  exact heldIntS_l n hx n 0 k (by omega) hk
/-- what both compute -/
def unitsOne (p : Int) : List Int := if p < 65536 then [p] else [55296 + (p - 65536) / 1024, 56320 + (p - 65536) % 1024]
def unitsAll : List Int → Option (List Int)
  | [] => some []
  | p :: ps => if p < 0 ∨ 1114111 < p then none else (unitsAll ps).map (unitsOne p ++ ·)
def unitsAns (acc : List Int) : Option (List Int) → List Int × Int
  | none => ([], 1)
  | some u => (acc ++ u, 0)
theorem unitsAns_step (acc us : List Int) (r : Option (List Int)) : unitsAns acc (r.map (us ++ ·)) = unitsAns (acc ++ us) r := by
  cases r <;> simp [unitsAns]
theorem unitsOne_len (p : Int) : (unitsOne p).length ≤ 2 := by unfold unitsOne; split <;> simp
theorem drop_cons (xs : List Int) (j : Nat) (h : j < xs.length) : xs.drop j = xs[j] :: xs.drop (j + 1) := List.drop_eq_getElem_cons h
theorem and1023 (x : Int) (h0 : 0 ≤ x) (h1 : x ≤ 1048575) : Go.bits .and .i64 x 1023 = x % 1024 := by
  exact Go.bits_mask .i64 63 (by decide) (fun n h0 h1 => by have := IntKind.wrap_i64 n; omega) 10 (by decide) x h0 (by omega)
theorem specTo_l (xs : List Int) (hx : xs.length ≤ 1048576) : ∀ (d j k : Nat) (acc : List Int), j + d = xs.length → acc.length ≤ 2 * j → 2 * d < k →
    spec_ToUnits.l0 k xs acc (j : Int) = some (unitsAns acc (unitsAll (xs.drop j))) := by
  intro d
  induction d with
  | zero =>
    intro j k acc hj hl hk
    obtain ⟨k, rfl⟩ : ∃ m, k = m + 1 := ⟨k - 1, by omega⟩
    simp only [spec_ToUnits.l0]
    rw [if_neg (by omega), List.drop_of_length_le (by omega)]
    simp [unitsAll, unitsAns]
  | succ d ih =>
    intro j k acc hj hl hk
    obtain ⟨k, rfl⟩ : ∃ m, k = m + 2 := ⟨k - 2, by omega⟩
    have hj' : j < xs.length := by omega
    simp only [spec_ToUnits.l0, spec_ToUnits.j1, rd_eq xs j hj', drop_cons xs j hj', unitsAll]
    rw [if_pos (by omega), if_pos (by omega)]
    by_cases h1 : xs[j] < 0
    · simp [h1, unitsAns]
    · by_cases h2 : xs[j] > 1114111
      · simp [h1, h2, unitsAns]
      · rw [if_neg h1, if_neg (by simp [h2]), if_neg (c := xs[j] < 0 ∨ 1114111 < xs[j]) (by omega), w64 (x := (j : Int) + 1) (by omega) (by omega), unitsAns_step]
        have e : ((j : Int) + 1) = ((j + 1 : Nat) : Int) := by omega
        by_cases h3 : xs[j] < 65536
        · rw [if_pos h3, if_pos (by omega), e, ih (j + 1) k _ (by omega) (by simp; omega) (by omega)]
          simp [unitsOne, h3]
        · rw [if_neg h3, if_pos (by omega)]
          simp only [Option.bind_some]
          rw [if_pos (by simp; omega), w64 (x := xs[j] - 65536) (by omega) (by omega), Int.tdiv_eq_ediv_of_nonneg (by omega), Int.tmod_eq_emod_of_nonneg (by omega), w64 (x := (xs[j] - 65536) / 1024) (by omega) (by omega), w64 (x := 55296 + _) (by omega) (by omega), w64 (x := 56320 + _) (by omega) (by omega), e, ih (j + 1) k _ (by omega) (by simp; omega) (by omega)]
          simp [unitsOne, h3]
theorem implTo_l (xs : List Int) (hx : xs.length ≤ 1048576) : ∀ (d j k : Nat) (acc : List Int), j + d = xs.length → acc.length ≤ 2 * j → d < k →
    impl_ToUnits.l0 k acc xs (xs.length : Int) (j : Int) = some (unitsAns acc (unitsAll (xs.drop j))) := by
  intro d
  induction d with
  | zero =>
    intro j k acc hj hl hk
    obtain ⟨k, rfl⟩ : ∃ m, k = m + 1 := ⟨k - 1, by omega⟩
    simp only [impl_ToUnits.l0]
    rw [if_neg (by omega), List.drop_of_length_le (by omega)]
    simp [unitsAll, unitsAns]
  | succ d ih =>
    intro j k acc hj hl hk
    obtain ⟨k, rfl⟩ : ∃ m, k = m + 1 := ⟨k - 1, by omega⟩
    have hj' : j < xs.length := by omega
    simp only [impl_ToUnits.l0, rd_eq xs j hj', drop_cons xs j hj', unitsAll]
    rw [if_pos (by omega), if_pos (by omega), if_pos (by omega)]
    by_cases h1 : xs[j] < 0
    · simp [h1, unitsAns]
    · by_cases h2 : xs[j] > 1114111
      · simp [h1, h2, unitsAns]
      · rw [if_neg h1, if_neg h2, if_neg (c := xs[j] < 0 ∨ 1114111 < xs[j]) (by omega), w64 (x := (j : Int) + 1) (by omega) (by omega), unitsAns_step]
        have e : ((j : Int) + 1) = ((j + 1 : Nat) : Int) := by omega
        have u : impl_unitsOf.f xs[j] = some (unitsOne xs[j]) := by
          unfold impl_unitsOf.f unitsOne
          by_cases h3 : xs[j] < 65536
          · rw [if_pos h3, if_pos h3]
          · rw [if_neg h3, if_neg h3, w64 (x := xs[j] - 65536) (by omega) (by omega), and1023 _ (by omega) (by omega), w64 (x := 55296 + _) (by omega) (by omega), w64 (x := 56320 + _) (by omega) (by omega)]
        have hu := unitsOne_len xs[j]
        rw [u]
        simp only [Option.bind_some]
        rw [if_pos (by omega), e, ih (j + 1) k _ (by omega) (by simp; omega) (by omega)]
theorem unitsAll_len : ∀ (xs u : List Int), unitsAll xs = some u → u.length ≤ 2 * xs.length
  | [], u, h => by simp [unitsAll] at h; simp [h]
  | p :: ps, u, h => by
    simp only [unitsAll] at h
    split at h
    · cases h
    · obtain ⟨v, hv, rfl⟩ := Option.map_eq_some_iff.1 h
      have := unitsAll_len ps v hv
      have := unitsOne_len p
      simp; omega
theorem FnExactToUnits : laws_FnExactToUnits.Pure := by
  intro l hm hl hwf
  by_cases hbig : (l.length : Int) > 1048576
  · exact ⟨0, by unfold laws_FnExactToUnits.f; rw [if_pos hbig]⟩
  have hx : l.length ≤ 1048576 := by omega
  refine ⟨2 * l.length + 10, ?_⟩
  have hs : ∀ k, 2 * l.length < k → spec_ToUnits.f k l = some (unitsAns [] (unitsAll l)) := fun k hk => specTo_l l hx l.length 0 k [] (by omega) (by simp) (by omega)
  have hi : ∀ k, 2 * l.length < k → impl_ToUnits.f k l = some (unitsAns [] (unitsAll l)) := fun k hk => implTo_l l hx l.length 0 k [] (by omega) (by simp) (by omega)
  have hr : (unitsAns [] (unitsAll l)).1.length ≤ 2 * l.length := by
    cases h : unitsAll l with
    | none => simp [unitsAns]
    | some u => simpa [unitsAns] using unitsAll_len l u h
  generalize unitsAns [] (unitsAll l) = r at hs hi hr
  have ht : ∀ k, l.length < k → laws_toIntS.f k l = some l := fun k hk => toIntS_ok l hx k hk
  simp only [laws_FnExactToUnits.f, if_neg hbig, ht _ (show l.length < 2 * l.length + 10 by omega), hs _ (show 2 * l.length < 2 * l.length + 10 by omega), hi _ (show 2 * l.length < 2 * l.length + 10 by omega), Option.bind_some,
    eqIntS_ok r.1 (by omega) _ (show r.1.length < 2 * l.length + 10 by omega), if_true]
  simp only [bne_self_eq_false, Bool.false_eq_true, if_false, if_true, laws_FnExactToUnits.j0, ht _ (show l.length < 2 * l.length + 9 by omega), Option.bind_some, eqIntS_ok l (by omega) _ (show l.length < 2 * l.length + 9 by omega),
    markIntS_ok l (by omega) _ (show l.length < 2 * l.length + 9 by omega), if_neg (show ¬ ((l.length : Int) + 1 < 0) by omega), eqIntS_ok r.1 (by omega) _ (show r.1.length < 2 * l.length + 9 by omega)]
  simp only [bne_self_eq_false, Bool.false_eq_true, if_false, if_true, laws_FnExactToUnits.j1, Option.bind_some, markIntS_ok r.1 (by omega) _ (show r.1.length < 2 * l.length + 8 by omega), heldIntS_ok r.1.length (by omega) _ (show r.1.length < 2 * l.length + 8 by omega),
    if_neg (show ¬ ((r.1.length : Int) + 1 < 0) by omega), ht _ (show l.length < 2 * l.length + 8 by omega), hi _ (show 2 * l.length < 2 * l.length + 8 by omega), eqIntS_ok r.1 (by omega) _ (show r.1.length < 2 * l.length + 8 by omega)]
  simp only [Bool.false_eq_true, if_false, if_true, laws_FnExactToUnits.j2, Option.bind_some, heldIntS_ok r.1.length (by omega) _ (show r.1.length < 2 * l.length + 7 by omega), if_neg (show ¬ ((r.1.length : Int) + 1 < 0) by omega)]

end Go.Proofs.Ytcokdccbfbbhbaa.Pure
