/- A text cut into tokens, over its code points. No program stands here. -/
import Derived.Test.YtjdgcgmhbhfpkaaDoorTScan3
import Derived.Test.YtjdgcgmhbhfpkaaDoorTNum2
import Derived.Test.YtjdgcgmhbhfpkaaDoorPTree
namespace Go.Proofs.YtjdgcgmhbhfpkaaDoorE
open Go Go.RowKit
set_option linter.unusedVariables false
set_option maxRecDepth 100000

/-- how many bytes the points take -/
def wdt : List Int → Nat
  | [] => 0
  | p :: r => (need p).toNat + wdt r
theorem wdt_app : ∀ a b : List Int, wdt (a ++ b) = wdt a + wdt b
  | [], b => by simp [wdt]
  | p :: a, b => by simp only [List.cons_append, wdt, wdt_app a b]; omega
theorem dec1_need (xs : List Int) (hb : byteOK xs) (hne : 0 < xs.length) (h0 : (dec1 xs).2 ≠ 0) : (dec1 xs).2 = need (dec1 xs).1 := by
  have b0 := hb.get 0
  have hn := need_cases (dec1 xs).1
  rcases dec1_spec xs hb hne with h | h | h | h | h
  · have h1 : 0 ≤ xs.getD 0 0 := b0.1
    omega
  · omega
  · omega
  · omega
  · omega
theorem dec1_ascii (xs : List Int) (hb : byteOK xs) (hne : 0 < xs.length) (h0 : (dec1 xs).2 ≠ 0) (h : (dec1 xs).1 < 128) : (dec1 xs).2 = 1 ∧ (dec1 xs).1 = xs.getD 0 0 := by
  rcases dec1_spec xs hb hne with h | h | h | h | h <;> omega
theorem At.wd {xs : List Int} (hb : byteOK xs) {i : Nat} {qs : List Int} (h : At xs i qs) : i + wdt qs = xs.length := by
  induction h with
  | done => simp [wdt]
  | @more i qs h h0 k ih =>
    have hd := dec1_ok (xs.drop i) (hb.drop i) (by rw [List.length_drop]; omega)
    have := dec1_need (xs.drop i) (hb.drop i) (by rw [List.length_drop]; omega) h0
    simp only [wdt]; omega
theorem At.eq {xs : List Int} (hb : byteOK xs) {i j : Nat} {qs : List Int} (h : At xs i qs) (h' : At xs j qs) : i = j := by
  have := h.wd hb; have := h'.wd hb; omega
/-! ## kinds of points -/
def letQ (c : Int) : Bool := decide (sortN c = 1)
def nameQ (c : Int) : Bool := decide (sortN c = 1 ∨ sortN c = 2)
def rnQ (c : Int) : Bool := decide (sortN c = 1 ∨ sortN c = 2 ∨ sortN c = 3)
def blankQ (c : Int) : Bool := decide (c = 9 ∨ c = 11 ∨ c = 12 ∨ c = 32 ∨ c = 160 ∨ c = 65279 ∨ lineE c = true)
def onesQ : List Int := [123, 125, 91, 93, 58, 44]
def braceQ (c : Int) : Int := if c = 123 then 1 else if c = 125 then 2 else if c = 91 then 3 else if c = 93 then 4 else if c = 58 then 5 else if c = 44 then 6 else 0
def noEnd (c : Int) : Bool := !lineE c
def endQ : List Int → Option (List Int)
  | a :: b :: r => if a = 42 ∧ b = 47 then some r else endQ (b :: r)
  | _ => none
def tokQ : List Int → Option (Int × List Int)
  | [] => none
  | c :: r =>
    if braceQ c ≠ 0 then some (braceQ c, r) else
    if sortN c = 1 then some (7, r.dropWhile nameQ) else
    if sortN c = 2 ∨ sortN c = 3 then (if numb (c :: r.takeWhile rnQ) then some (8, r.dropWhile rnQ) else none) else
    if c = 34 ∨ c = 39 then (match quotedQ (c :: r) with | some x => some (9, x.2) | none => none) else
    if c ≠ 47 then none else
    if headP r = 47 then some (10, (r.drop 1).dropWhile noEnd) else
    if headP r = 42 then (match endQ (r.drop 1) with | some x => some (11, x) | none => none) else none
theorem sortN_cases (c : Int) : (sortN c = 1 ∧ ((97 ≤ c ∧ c ≤ 122) ∨ (65 ≤ c ∧ c ≤ 90) ∨ c = 95 ∨ c = 36)) ∨ (sortN c = 2 ∧ 48 ≤ c ∧ c ≤ 57) ∨ (sortN c = 3 ∧ (c = 46 ∨ c = 43 ∨ c = 45)) ∨ (sortN c = 0 ∧ ¬ ((97 ≤ c ∧ c ≤ 122) ∨ (65 ≤ c ∧ c ≤ 90) ∨ c = 95 ∨ c = 36) ∧ ¬ (48 ≤ c ∧ c ≤ 57) ∧ ¬ (c = 46 ∨ c = 43 ∨ c = 45)) := by
  unfold sortN
  split
  · left; exact ⟨rfl, by assumption⟩
  · split
    · right; left; exact ⟨rfl, by assumption⟩
    · split
      · right; right; left; exact ⟨rfl, by assumption⟩
      · right; right; right; exact ⟨rfl, by assumption, by assumption, by assumption⟩
theorem dropWhile_drop (f : Int → Bool) : ∀ r : List Int, ∃ k, k ≤ r.length ∧ r.dropWhile f = r.drop k ∧ (r.takeWhile f).length = k
  | [] => ⟨0, Nat.le_refl _, rfl, rfl⟩
  | c :: r => by
    rw [List.dropWhile_cons, List.takeWhile_cons]
    by_cases h : f c = true
    · obtain ⟨k, h1, h2, h3⟩ := dropWhile_drop f r
      rw [if_pos h, if_pos h]
      exact ⟨k + 1, by simp only [List.length_cons]; omega, by rw [h2]; rfl, by simp only [List.length_cons, h3]⟩
    · rw [if_neg h, if_neg h]
      exact ⟨0, Nat.zero_le _, rfl, rfl⟩
theorem endQ_drop : ∀ {r x : List Int}, endQ r = some x → ∃ k, 2 ≤ k ∧ k ≤ r.length ∧ x = r.drop k
  | [], x, h => by simp [endQ] at h
  | [_], x, h => by simp [endQ] at h
  | a :: b :: r, x, h => by
    unfold endQ at h
    split at h
    · cases h; exact ⟨2, Nat.le_refl _, by simp, rfl⟩
    · obtain ⟨k, h1, h2, h3⟩ := endQ_drop h
      exact ⟨k + 1, by omega, by simp only [List.length_cons] at h2 ⊢; omega, by rw [h3]; rfl⟩
/-! ## the whole text -/
def lexQ (L : Nat) : Nat → List Int → List Int → List Int × Int × Int
  | 0, _, acc => (acc, 0, 0)
  | _ + 1, [], acc => (acc, 0, 0)
  | f + 1, c :: r, acc =>
    if blankQ c then lexQ L f r acc else
    match tokQ (c :: r) with
    | none => ([], 3, (L : Int) - wdt (c :: r))
    | some (k, r') => lexQ L f r' (acc ++ [k, (L : Int) - wdt (c :: r), (wdt (c :: r) : Int) - wdt r'])
theorem lexQ_nil (L f : Nat) (acc : List Int) : lexQ L f [] acc = (acc, 0, 0) := by cases f <;> rfl
def lexF (xs : List Int) : List Int × Int × Int :=
  if xs.length > 4000 then ([], 4, 4000) else
  if (decW xs).2.1 ≠ 0 then ([], (decW xs).2.1, (decW xs).2.2) else lexQ xs.length ((decW xs).1.length + 1) (decW xs).1 []
end Go.Proofs.YtjdgcgmhbhfpkaaDoorE
