/- Plain functions of texts: code points, their UTF-8, their units. No program stands here. -/
import Derived.Test.YtcokdccbfbbhbaaMem
namespace Go.Proofs.YtcokdccbfbbhbaaE
open Go Go.RowKit
set_option linter.unusedVariables false

def need (v : Int) : Int := if v < 0 ∨ 1114111 < v ∨ (55296 ≤ v ∧ v ≤ 57343) then 0 else if v < 128 then 1 else if v < 2048 then 2 else if v < 65536 then 3 else 4
def tailB (v : Int) : Nat → List Int
  | 0 => []
  | k + 1 => (128 + v / 64 ^ k % 64) :: tailB v k
theorem tailB_len (v : Int) : ∀ j, (tailB v j).length = j
  | 0 => rfl
  | j + 1 => by simp [tailB, tailB_len v j]
def encB (v : Int) : List Int := if v < 128 then [v] else if v < 2048 then (192 + v / 64) :: tailB v 1 else if v < 65536 then (224 + v / 4096) :: tailB v 2 else (240 + v / 262144) :: tailB v 3
def encAll : List Int → Option (List Int)
  | [] => some []
  | p :: ps => if need p = 0 then none else (encAll ps).map (encB p ++ ·)
theorem need_cases (v : Int) : (need v = 0 ∧ (v < 0 ∨ 1114111 < v ∨ (55296 ≤ v ∧ v ≤ 57343))) ∨ (¬ (v < 0 ∨ 1114111 < v ∨ (55296 ≤ v ∧ v ≤ 57343)) ∧ ((need v = 1 ∧ v < 128) ∨ (need v = 2 ∧ 128 ≤ v ∧ v < 2048) ∨ (need v = 3 ∧ 2048 ≤ v ∧ v < 65536) ∨ (need v = 4 ∧ 65536 ≤ v))) := by
  unfold need
  by_cases h : v < 0 ∨ 1114111 < v ∨ (55296 ≤ v ∧ v ≤ 57343)
  · left; rw [if_pos h]; exact ⟨rfl, h⟩
  · right
    rw [if_neg h]
    refine ⟨h, ?_⟩
    by_cases h1 : v < 128
    · left; rw [if_pos h1]; exact ⟨rfl, h1⟩
    · rw [if_neg h1]
      by_cases h2 : v < 2048
      · right; left; rw [if_pos h2]; exact ⟨rfl, by omega, h2⟩
      · rw [if_neg h2]
        by_cases h3 : v < 65536
        · right; right; left; rw [if_pos h3]; exact ⟨rfl, by omega, h3⟩
        · right; right; right; rw [if_neg h3]; exact ⟨rfl, by omega⟩
theorem encB_len (v : Int) : (encB v).length ≤ 4 := by
  unfold encB
  repeat' split
  all_goals simp [tailB]
def encAns (acc : List Int) : Option (List Int) → List Int × Int
  | none => ([], 1)
  | some u => (acc ++ u, 0)
theorem encAns_step (acc us : List Int) (r : Option (List Int)) : encAns acc (r.map (us ++ ·)) = encAns (acc ++ us) r := by
  cases r <;> simp [encAns]
theorem drop_cons (xs : List Int) (j : Nat) (h : j < xs.length) : xs.drop j = xs.getD j 0 :: xs.drop (j + 1) := by rw [List.drop_eq_getElem_cons h]; simp [h]
def encR (xs : List Int) : List Int × Int := encAns [] (encAll xs)
theorem encAll_len : ∀ (xs u : List Int), encAll xs = some u → u.length ≤ 4 * xs.length
  | [], u, h => by simp [encAll] at h; simp [h]
  | p :: ps, u, h => by
    simp only [encAll] at h
    split at h
    · cases h
    · obtain ⟨v, hv, rfl⟩ := Option.map_eq_some_iff.1 h
      have := encAll_len ps v hv
      have := encB_len p
      rw [List.length_append, List.length_cons]; omega
theorem encR_len (xs : List Int) : (encR xs).1.length ≤ 4 * xs.length := by
  unfold encR
  cases h : encAll xs with
  | none => simp [encAns]
  | some u => simpa [encAns] using encAll_len xs u h
end Go.Proofs.YtcokdccbfbbhbaaE
