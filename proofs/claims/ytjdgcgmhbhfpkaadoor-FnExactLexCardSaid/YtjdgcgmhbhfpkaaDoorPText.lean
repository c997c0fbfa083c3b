/- Plain functions of texts: code points, their UTF-8, their units. No program stands here. -/
import Derived.Test.YtjdgcgmhbhfpkaaDoorMem
namespace Go.Proofs.YtjdgcgmhbhfpkaaDoorE
open Go Go.RowKit
set_option linter.unusedVariables false
set_option maxRecDepth 100000

def need (v : Int) : Int := if v < 0 ∨ 1114111 < v ∨ (55296 ≤ v ∧ v ≤ 57343) then 0 else if v < 128 then 1 else if v < 2048 then 2 else if v < 65536 then 3 else 4
def tailB (v : Int) : Nat → List Int
  | 0 => []
  | k + 1 => (128 + v / 64 ^ k % 64) :: tailB v k
theorem tailB_len (v : Int) : ∀ j, (tailB v j).length = j
  | 0 => rfl
  | j + 1 => by simp [tailB, tailB_len v j]
def encB (v : Int) : List Int := if v < 128 then [v] else if v < 2048 then (192 + v / 64) :: tailB v 1 else if v < 65536 then (224 + v / 4096) :: tailB v 2 else (240 + v / 262144) :: tailB v 3
def encAll : List Int → Option (List Int)
  | [] => some []
  | p :: ps => if need p = 0 then none else (encAll ps).map (encB p ++ ·)
theorem need_cases (v : Int) : (need v = 0 ∧ (v < 0 ∨ 1114111 < v ∨ (55296 ≤ v ∧ v ≤ 57343))) ∨ (¬ (v < 0 ∨ 1114111 < v ∨ (55296 ≤ v ∧ v ≤ 57343)) ∧ ((need v = 1 ∧ v < 128) ∨ (need v = 2 ∧ 128 ≤ v ∧ v < 2048) ∨ (need v = 3 ∧ 2048 ≤ v ∧ v < 65536) ∨ (need v = 4 ∧ 65536 ≤ v))) := by
  unfold need
  by_cases h : v < 0 ∨ 1114111 < v ∨ (55296 ≤ v ∧ v ≤ 57343)
  · left; rw [if_pos h]; exact ⟨rfl, h⟩
  · right
    rw [if_neg h]
    refine ⟨h, ?_⟩
    by_cases h1 : v < 128
    · left; rw [if_pos h1]; exact ⟨rfl, h1⟩
    · rw [if_neg h1]
      by_cases h2 : v < 2048
      · right; left; rw [if_pos h2]; exact ⟨rfl, by omega, h2⟩
      · rw [if_neg h2]
        by_cases h3 : v < 65536
        · right; right; left; rw [if_pos h3]; exact ⟨rfl, by omega, h3⟩
        · right; right; right; rw [if_neg h3]; exact ⟨rfl, by omega⟩
theorem encB_len (v : Int) : (encB v).length ≤ 4 := by
  unfold encB
  repeat' split
  all_goals simp [tailB]
def encAns (acc : List Int) : Option (List Int) → List Int × Int
  | none => ([], 1)
  | some u => (acc ++ u, 0)
theorem encAns_step (acc us : List Int) (r : Option (List Int)) : encAns acc (r.map (us ++ ·)) = encAns (acc ++ us) r := by
  cases r <;> simp [encAns]
theorem drop_cons (xs : List Int) (j : Nat) (h : j < xs.length) : xs.drop j = xs.getD j 0 :: xs.drop (j + 1) := by rw [List.drop_eq_getElem_cons h]; simp [h]
def encR (xs : List Int) : List Int × Int := encAns [] (encAll xs)
theorem encAll_len : ∀ (xs u : List Int), encAll xs = some u → u.length ≤ 4 * xs.length
  | [], u, h => by simp [encAll] at h; simp [h]
  | p :: ps, u, h => by
    simp only [encAll] at h
    split at h
    · cases h
    · obtain ⟨v, hv, rfl⟩ := Option.map_eq_some_iff.1 h
      have := encAll_len ps v hv
      have := encB_len p
      rw [List.length_append, List.length_cons]; omega
theorem encR_len (xs : List Int) : (encR xs).1.length ≤ 4 * xs.length := by
  unfold encR
  cases h : encAll xs with
  | none => simp [encAns]
  | some u => simpa [encAns] using encAll_len xs u h

def unitsOne (p : Int) : List Int := if p < 65536 then [p] else [55296 + (p - 65536) / 1024, 56320 + (p - 65536) % 1024]
def unitsAll : List Int → Option (List Int)
  | [] => some []
  | p :: ps => if p < 0 ∨ 1114111 < p then none else (unitsAll ps).map (unitsOne p ++ ·)
def toR (xs : List Int) : List Int × Int := encAns [] (unitsAll xs)
theorem unitsOne_len (p : Int) : (unitsOne p).length ≤ 2 := by unfold unitsOne; split <;> simp
theorem unitsAll_len : ∀ (xs u : List Int), unitsAll xs = some u → u.length ≤ 2 * xs.length
  | [], u, h => by simp [unitsAll] at h; simp [h]
  | p :: ps, u, h => by
    simp only [unitsAll] at h
    split at h
    · cases h
    · obtain ⟨v, hv, rfl⟩ := Option.map_eq_some_iff.1 h
      have := unitsAll_len ps v hv
      have := unitsOne_len p
      rw [List.length_append, List.length_cons]; omega
theorem toR_len (xs : List Int) : (toR xs).1.length ≤ 2 * xs.length := by
  unfold toR
  cases h : unitsAll xs with
  | none => simp [encAns]
  | some u => simpa [encAns] using unitsAll_len xs u h
def isPair (u v : Int) : Prop := (55296 ≤ u ∧ u ≤ 56319) ∧ 56320 ≤ v ∧ v ≤ 57343
instance (u v : Int) : Decidable (isPair u v) := by unfold isPair; exact inferInstance
def fromAll : List Int → List Int
  | [] => []
  | [u] => [u]
  | u :: v :: r => if isPair u v then (65536 + (u - 55296) * 1024 + v - 56320) :: fromAll r else u :: fromAll (v :: r)
def goodU (l : List Int) : Bool := l.all fun u => decide (0 ≤ u ∧ u ≤ 65535)
def fromR (l : List Int) : List Int × Int := if goodU l then (fromAll l, 0) else ([], 1)
theorem fromAll_pair (xs : List Int) (j : Nat) (h : j + 1 < xs.length) (hp : isPair (xs.getD j 0) (xs.getD (j + 1) 0)) :
    fromAll (xs.drop j) = (65536 + (xs.getD j 0 - 55296) * 1024 + xs.getD (j + 1) 0 - 56320) :: fromAll (xs.drop (j + 2)) := by
  rw [drop_cons xs j (by omega), drop_cons xs (j + 1) h, fromAll, if_pos hp]
theorem fromAll_one (xs : List Int) (j : Nat) (h : j < xs.length) (hp : ¬ (j + 1 < xs.length ∧ isPair (xs.getD j 0) (xs.getD (j + 1) 0))) :
    fromAll (xs.drop j) = xs.getD j 0 :: fromAll (xs.drop (j + 1)) := by
  rw [drop_cons xs j h]
  by_cases h1 : j + 1 < xs.length
  · rw [drop_cons xs (j + 1) h1, fromAll, if_neg (fun hq => hp ⟨h1, hq⟩)]
  · rw [List.drop_of_length_le (by omega)]
    simp [fromAll]
theorem fromAll_len : ∀ (n : Nat) (l : List Int), l.length ≤ n → (fromAll l).length ≤ l.length := by
  intro n
  induction n with
  | zero => intro l h; cases l with
    | nil => simp [fromAll]
    | cons => simp at h
  | succ n ih =>
    intro l h
    match l, h with
    | [], _ => simp [fromAll]
    | [u], _ => simp [fromAll]
    | u :: v :: r, h =>
      simp only [fromAll]
      split
      · have := ih r (by simp at h; omega); simp; omega
      · have := ih (v :: r) (by simp at h ⊢; omega); simp at this ⊢; omega
theorem fromR_len (l : List Int) : (fromR l).1.length ≤ l.length := by
  unfold fromR
  split
  · exact fromAll_len _ l (Nat.le_refl _)
  · simp
theorem goodU_drop (xs : List Int) (j : Nat) (h : j < xs.length) (hg : goodU xs = goodU (xs.drop j)) (hx : 0 ≤ xs.getD j 0 ∧ xs.getD j 0 ≤ 65535) : goodU xs = goodU (xs.drop (j + 1)) := by
  rw [hg, drop_cons xs j h]
  simp only [goodU, List.all_cons, decide_eq_true hx, Bool.true_and]
theorem goodU_bad (xs : List Int) (j : Nat) (h : j < xs.length) (hg : goodU xs = goodU (xs.drop j)) (hx : ¬ (0 ≤ xs.getD j 0 ∧ xs.getD j 0 ≤ 65535)) : goodU xs = false := by
  rw [hg, drop_cons xs j h]
  simp only [goodU, List.all_cons, decide_eq_false hx, Bool.false_and]
theorem goodU_at (xs : List Int) (hg : goodU xs = true) (j : Nat) (h : j < xs.length) : 0 ≤ xs.getD j 0 ∧ xs.getD j 0 ≤ 65535 := by
  have := List.all_eq_true.1 hg (xs.getD j 0) (by rw [List.getD_eq_getElem?_getD, List.getElem?_eq_getElem h]; exact List.getElem_mem h)
  exact of_decide_eq_true this
end Go.Proofs.YtjdgcgmhbhfpkaaDoorE
