/- Numbers: what the reference's and the program's words say, over lists of bytes; no program in sight. -/
import Derived.Test.YtjdgcgmhbhfpkaaDoorPText
namespace Go.Proofs.YtjdgcgmhbhfpkaaDoorE
set_option linter.unusedVariables false
set_option maxRecDepth 100000
set_option linter.unusedSimpArgs false

def digit (c : Int) : Bool := decide (48 ≤ c ∧ c ≤ 57)
def hexv (c : Int) : Int := if 48 ≤ c ∧ c ≤ 57 then c - 48 else if 97 ≤ c ∧ c ≤ 102 then c - 87 else if 65 ≤ c ∧ c ≤ 70 then c - 55 else -1
theorem hexv_ge (c : Int) : -1 ≤ hexv c ∧ hexv c ≤ 15 := by unfold hexv; (repeat' split) <;> omega
def allDig (xs : List Int) : Bool := xs.all digit
def hexs (xs : List Int) : Bool := xs.all fun c => decide (0 ≤ hexv c)
def isE (c : Int) : Bool := decide (c = 101 ∨ c = 69)
def isDot (c : Int) : Bool := decide (c = 46)
/-- what stands before the first p, and what behind it -/
def cut (p : Int → Bool) : List Int → List Int × Option (List Int)
  | [] => ([], none)
  | c :: r => if p c then ([], some r) else (c :: (cut p r).1, (cut p r).2)
def mant (xs : List Int) : Bool :=
  allDig (cut isDot xs).1 && allDig ((cut isDot xs).2.getD []) &&
    (if (cut isDot xs).1 = [] then (cut isDot xs).2.isSome && decide ((cut isDot xs).2.getD [] ≠ []) else decide ((cut isDot xs).1 = [48]) || decide ((cut isDot xs).1.getD 0 0 ≠ 48))
def unsign : List Int → List Int
  | c :: r => if c = 43 ∨ c = 45 then r else c :: r
  | [] => []
def wordInf : List Int := [73, 110, 102, 105, 110, 105, 116, 121]
def wordNaN : List Int := [78, 97, 78]
def isHexNum (xs : List Int) : Bool := decide (xs.length > 2 ∧ xs.getD 0 0 = 48 ∧ (xs.getD 1 0 = 120 ∨ xs.getD 1 0 = 88))
def expo (xs : List Int) : Bool := decide (unsign xs ≠ []) && allDig (unsign xs)
def decN (xs : List Int) : Bool :=
  match (cut isE xs).2 with
  | none => mant xs
  | some e => mant (cut isE xs).1 && expo e
def unsig (xs : List Int) : Bool := if xs = wordInf ∨ xs = wordNaN then true else if isHexNum xs then hexs (xs.drop 2) else decN xs
def numb (xs : List Int) : Bool := unsig (unsign xs)

theorem cut_none (p : Int → Bool) : ∀ xs : List Int, (∀ x ∈ xs, p x = false) → cut p xs = (xs, none)
  | [], _ => rfl
  | c :: r, h => by
    have h1 := h c (by simp)
    have h2 := cut_none p r fun x hx => h x (by simp [hx])
    simp [cut, h1, h2]
theorem cut_at (p : Int → Bool) : ∀ (xs : List Int) (j : Nat), j < xs.length → (∀ i, i < j → p (xs.getD i 0) = false) → p (xs.getD j 0) = true → cut p xs = (xs.take j, some (xs.drop (j + 1)))
  | [], j, hj, _, _ => by simp at hj
  | c :: r, 0, _, _, h => by simp at h; simp [cut, h]
  | c :: r, j + 1, hj, h, hp => by
    have h0 : p c = false := h 0 (by omega)
    have h1 := cut_at p r j (by simpa using hj) (fun i hi => by have := h (i + 1) (by omega); simpa using this) (by simpa using hp)
    simp [cut, h0, h1]
theorem cut_no (p : Int → Bool) (xs : List Int) (h : ∀ i, i < xs.length → p (xs.getD i 0) = false) : cut p xs = (xs, none) := by
  refine cut_none p xs fun x hx => ?_
  obtain ⟨i, hi, rfl⟩ := List.getElem_of_mem hx
  have := h i hi
  simpa [List.getD_eq_getElem?_getD, hi] using this
/-- as the program counts: the digits at the beginning -/
def dig (xs : List Int) : List Int := xs.takeWhile digit
def tailI (n : Nat) (xs : List Int) : Bool :=
  match xs with
  | [] => true
  | c :: r => if isE c then expo r else false
def decI (xs : List Int) : Bool :=
  if (dig xs).length > 1 ∧ xs.getD 0 0 = 48 then false else
  match xs.drop (dig xs).length with
  | [] => decide ((dig xs).length ≠ 0)
  | c :: r => if c = 46 then (if (dig xs).length + (dig r).length = 0 then false else tailI 0 (r.drop (dig r).length)) else if (dig xs).length = 0 then false else tailI 0 (c :: r)
theorem dig_all (xs : List Int) : allDig (dig xs) = true := by
  unfold allDig dig
  rw [List.all_eq_true]
  intro x hx
  exact List.all_eq_true.1 (List.all_takeWhile (l := xs) (p := digit)) x hx
theorem dig_split (xs : List Int) : dig xs ++ xs.drop (dig xs).length = xs ∧ ∀ c r, xs.drop (dig xs).length = c :: r → digit c = false := by
  induction xs with
  | nil => simp [dig]
  | cons x xs ih =>
    cases h : digit x with
    | true =>
      simp only [dig, List.takeWhile_cons, h, if_true, List.length_cons, List.drop_succ_cons, List.cons_append]
      exact ⟨by rw [show xs.takeWhile digit = dig xs from rfl, ih.1], ih.2⟩
    | false =>
      simp only [dig, List.takeWhile_cons, h, Bool.false_eq_true, if_false, List.length_nil, List.drop_zero, List.nil_append, true_and]
      intro c r e
      cases e; exact h
theorem digit_not {c : Int} (h : digit c = true) : isE c = false ∧ isDot c = false := by
  unfold digit at h; unfold isE isDot
  simp only [decide_eq_true_eq, decide_eq_false_iff_not] at h ⊢
  omega
theorem cut_app (p : Int → Bool) : ∀ (xs ys : List Int), (∀ x ∈ xs, p x = false) → cut p (xs ++ ys) = (xs ++ (cut p ys).1, (cut p ys).2)
  | [], ys, _ => by simp
  | c :: r, ys, h => by
    have h1 := h c (by simp)
    have h2 := cut_app p r ys fun x hx => h x (by simp [hx])
    simp [cut, h1, h2]
theorem all_mem {xs : List Int} (h : allDig xs = true) : ∀ x ∈ xs, digit x = true := fun x hx => List.all_eq_true.1 h x hx
theorem allDig_app (xs ys : List Int) : allDig (xs ++ ys) = (allDig xs && allDig ys) := by simp [allDig]
theorem allDig_cons (c : Int) (xs : List Int) : allDig (c :: xs) = (digit c && allDig xs) := by simp [allDig]
/-- digits, then what is no digit -/
theorem mant_digits (w : List Int) (hw : allDig w = true) : mant w = (decide (w ≠ []) && (decide (w.length ≤ 1) || decide (w.getD 0 0 ≠ 48))) := by
  have h := cut_none isDot w fun x hx => (digit_not (all_mem hw x hx)).2
  unfold mant
  rw [h]
  simp only [hw, Option.getD_none, Bool.true_and, Option.isSome_none, Bool.false_and]
  match w with
  | [] => rfl
  | [x] => simp [allDig]; try (by_cases hx : x = 48 <;> simp [hx])
  | x :: y :: r => simp [allDig]
theorem mant_point (w p : List Int) (hw : allDig w = true) (hp : allDig p = true) : mant (w ++ 46 :: p) = (decide (w ≠ [] ∨ p ≠ []) && (decide (w.length ≤ 1) || decide (w.getD 0 0 ≠ 48))) := by
  have h := cut_app isDot w (46 :: p) fun x hx => (digit_not (all_mem hw x hx)).2
  have h2 : cut isDot (46 :: p) = ([], some p) := by simp [cut, isDot]
  unfold mant
  rw [h, h2]
  simp only [hw, hp, Option.getD_some, Bool.true_and, Option.isSome_some, List.append_nil]
  match w with
  | [] => simp
  | [x] => simp; try (by_cases hx : x = 48 <;> simp [hx])
  | x :: y :: r => simp
theorem mant_bad (w : List Int) (c : Int) (r : List Int) (hw : allDig w = true) (hc : digit c = false) (hd : isDot c = false) : mant (w ++ c :: r) = false := by
  have h := cut_app isDot w (c :: r) fun x hx => (digit_not (all_mem hw x hx)).2
  have h2 : (cut isDot (c :: r)).1 = c :: (cut isDot r).1 := by simp [cut, hd]
  unfold mant
  rw [h]
  simp only [h2, allDig_app, allDig_cons, hc, Bool.false_and, Bool.and_false]
theorem mant_bad2 (w p : List Int) (c : Int) (r : List Int) (hw : allDig w = true) (hp : allDig p = true) (hc : digit c = false) : mant (w ++ 46 :: (p ++ c :: r)) = false := by
  have h := cut_app isDot w (46 :: (p ++ c :: r)) fun x hx => (digit_not (all_mem hw x hx)).2
  have h2 : cut isDot (46 :: (p ++ c :: r)) = ([], some (p ++ c :: r)) := by simp [cut, isDot]
  unfold mant
  rw [h, h2]
  simp only [Option.getD_some, allDig_app, allDig_cons, hc, Bool.false_and, Bool.and_false]
theorem cutE_app (w : List Int) (ys : List Int) (hw : allDig w = true) : cut isE (w ++ ys) = (w ++ (cut isE ys).1, (cut isE ys).2) := cut_app isE w ys fun x hx => (digit_not (all_mem hw x hx)).1
theorem cutE_dot (ys : List Int) : cut isE (46 :: ys) = (46 :: (cut isE ys).1, (cut isE ys).2) := by simp [cut, isE]
theorem decN_bad (w : List Int) (c : Int) (r : List Int) (hw : allDig w = true) (hc : digit c = false) (hd : isDot c = false) (he : isE c = false) : decN (w ++ c :: r) = false := by
  unfold decN
  have h2 : cut isE (c :: r) = (c :: (cut isE r).1, (cut isE r).2) := by simp [cut, he]
  rw [cutE_app w _ hw, h2]
  cases hk : (cut isE r).2 with
  | none => simp only; exact mant_bad w c r hw hc hd
  | some e => simp only [mant_bad w c _ hw hc hd, Bool.false_and]
theorem decN_bad2 (w p : List Int) (c : Int) (r : List Int) (hw : allDig w = true) (hp : allDig p = true) (hc : digit c = false) (he : isE c = false) : decN (w ++ 46 :: (p ++ c :: r)) = false := by
  unfold decN
  have h2 : cut isE (c :: r) = (c :: (cut isE r).1, (cut isE r).2) := by simp [cut, he]
  rw [cutE_app w _ hw, cutE_dot, cutE_app p _ hp, h2]
  cases hk : (cut isE r).2 with
  | none => simp only; exact mant_bad2 w p c r hw hp hc
  | some e => simp only [mant_bad2 w p c _ hw hp hc, Bool.false_and]
theorem decN_e (w : List Int) (c : Int) (r : List Int) (hw : allDig w = true) (he : isE c = true) : decN (w ++ c :: r) = (mant w && expo r) := by
  unfold decN
  rw [cutE_app w _ hw]
  simp [cut, he]
theorem decN_e2 (w p : List Int) (c : Int) (r : List Int) (hw : allDig w = true) (hp : allDig p = true) (he : isE c = true) : decN (w ++ 46 :: (p ++ c :: r)) = (mant (w ++ 46 :: p) && expo r) := by
  unfold decN
  rw [cutE_app w _ hw, cutE_dot, cutE_app p _ hp]
  simp [cut, he]
theorem decN_w (w : List Int) (hw : allDig w = true) : decN w = mant w := by
  have := cutE_app w [] hw
  unfold decN
  simp only [List.append_nil, cut] at this
  rw [this]
theorem decN_p (w p : List Int) (hw : allDig w = true) (hp : allDig p = true) : decN (w ++ 46 :: p) = mant (w ++ 46 :: p) := by
  have h := cutE_app p [] hp
  simp only [List.append_nil, cut] at h
  unfold decN
  rw [cutE_app w _ hw, cutE_dot, h]
theorem dec_eq (xs : List Int) : decI xs = decN xs := by
  have hw := dig_all xs
  obtain ⟨hs, hn⟩ := dig_split xs
  unfold decI
  generalize dig xs = w at *
  have hx0 : w ≠ [] → xs.getD 0 0 = w.getD 0 0 := by
    intro h
    rw [← hs]
    cases w with
    | nil => exact absurd rfl h
    | cons a b => simp
  have hlead : ∀ p : Bool, (if w.length > 1 ∧ xs.getD 0 0 = 48 then false else p) = ((decide (w.length ≤ 1) || decide (w.getD 0 0 ≠ 48)) && p) := by
    intro p
    by_cases h : w.length > 1 ∧ xs.getD 0 0 = 48
    · have h' := h
      rw [hx0 (by intro e; rw [e] at h; simp at h)] at h'
      rw [if_pos h]
      have : (decide (w.length ≤ 1) || decide (w.getD 0 0 ≠ 48)) = false := by simp [h'.1]; simpa using h'.2
      rw [this]; rfl
    · rw [if_neg h]
      have : (decide (w.length ≤ 1) || decide (w.getD 0 0 ≠ 48)) = true := by
        rcases Nat.lt_or_ge 1 w.length with h1 | h1
        · have h2 : ¬ xs.getD 0 0 = 48 := fun e => h ⟨h1, e⟩
          rw [hx0 (by intro e; rw [e] at h1; simp at h1)] at h2
          rw [decide_eq_true h2]; simp
        · simp [h1]
      rw [this]; rfl
  rw [hlead]
  have hlen : ∀ l : List Int, decide (l.length ≠ 0) = decide (l ≠ []) := by intro l; cases l <;> simp
  cases hd : xs.drop w.length with
  | nil =>
    rw [hd, List.append_nil] at hs
    rw [← hs, decN_w w hw, mant_digits w hw, hlen]
    simp only
    rw [Bool.and_comm]
  | cons c r =>
    have hc := hn c r hd
    rw [hd] at hs
    simp only
    by_cases h46 : c = 46
    · subst h46
      rw [if_pos rfl]
      have hp := dig_all r
      obtain ⟨hs2, hn2⟩ := dig_split r
      generalize dig r = p at *
      have h0 : ∀ q : Bool, (if w.length + p.length = 0 then false else q) = (decide (w ≠ [] ∨ p ≠ []) && q) := by
        intro q
        cases w with
        | cons a b => simp
        | nil => cases p <;> simp
      rw [h0]
      cases hq : r.drop p.length with
      | nil =>
        rw [hq, List.append_nil] at hs2
        rw [← hs, ← hs2, decN_p w p hw hp, mant_point w p hw hp]
        simp only [tailI, Bool.and_true]
        rw [Bool.and_comm]
      | cons d q =>
        have hd2 := hn2 d q hq
        rw [hq] at hs2
        rw [← hs, ← hs2]
        simp only [tailI]
        cases he : isE d with
        | true =>
          rw [decN_e2 w p d q hw hp he, mant_point w p hw hp]
          simp only [if_true]
          cases (decide (w.length ≤ 1) || decide (w.getD 0 0 ≠ 48)) <;> cases decide (w ≠ [] ∨ p ≠ []) <;> simp
        | false =>
          rw [decN_bad2 w p d q hw hp hd2 he]
          simp
    · rw [if_neg h46, ← hs]
      have hdot : isDot c = false := by simp [isDot, h46]
      cases he : isE c with
      | true =>
        rw [decN_e w c r hw he, mant_digits w hw]
        have h0 : ∀ q : Bool, (if w.length = 0 then false else q) = (decide (w ≠ []) && q) := by intro q; cases w <;> simp
        rw [h0]
        simp only [tailI, he, if_true]
        cases (decide (w.length ≤ 1) || decide (w.getD 0 0 ≠ 48)) <;> cases decide (w ≠ []) <;> simp
      | false =>
        rw [decN_bad w c r hw hc hdot he]
        simp [tailI, he]
def numI (xs : List Int) : Bool :=
  if unsign xs = wordInf ∨ unsign xs = wordNaN then true else if isHexNum (unsign xs) then hexs ((unsign xs).drop 2) else decI (unsign xs)
theorem num_eq (xs : List Int) : numI xs = numb xs := by unfold numI numb unsig; rw [dec_eq]
end Go.Proofs.YtjdgcgmhbhfpkaaDoorE
