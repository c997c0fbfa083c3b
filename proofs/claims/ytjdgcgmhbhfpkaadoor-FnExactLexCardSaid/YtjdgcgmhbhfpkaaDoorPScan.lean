/- A quoted text read from its points: what the program's scanner and the reference both come to, with no program in sight. -/
import Derived.Test.YtjdgcgmhbhfpkaaDoorTDecT
import Derived.Test.YtjdgcgmhbhfpkaaDoorTNumS
namespace Go.Proofs.YtjdgcgmhbhfpkaaDoorE
open Go Go.RowKit Go.Proofs
set_option linter.unusedVariables false
set_option maxRecDepth 100000

/-- decoded from the offset on, the bytes give these points, to their end -/
inductive At (xs : List Int) : Nat → List Int → Prop
  | done : At xs xs.length []
  | more {i : Nat} {qs : List Int} (h : i < xs.length) (h0 : (dec1 (xs.drop i)).2 ≠ 0) (k : At xs (i + (dec1 (xs.drop i)).2.toNat) qs) : At xs i ((dec1 (xs.drop i)).1 :: qs)
theorem at_of (xs : List Int) (hb : byteOK xs) : ∀ (f i : Nat) (acc : List Int), xs.length - i ≤ f → i ≤ xs.length → (decP (ptsF xs f i) acc).2.1 = 0 → ∃ qs, (decP (ptsF xs f i) acc).1 = acc ++ qs ∧ At xs i qs := by
  intro f
  induction f with
  | zero =>
    intro i acc h1 h2 h
    have : i = xs.length := by omega
    subst this
    exact ⟨[], by simp [ptsF, decP], .done⟩
  | succ f ih =>
    intro i acc h1 h2 h
    unfold ptsF at h ⊢
    by_cases hi : i < xs.length
    · have hd := dec1_ok (xs.drop i) (hb.drop i) (by rw [List.length_drop]; omega)
      rw [List.length_drop] at hd
      rw [if_pos hi] at h ⊢
      by_cases h0 : (dec1 (xs.drop i)).2 = 0
      · rw [if_pos h0] at h; simp [decP] at h
      · rw [if_neg h0] at h ⊢
        unfold decP at h ⊢
        have hn : ¬ (dec1 (xs.drop i)).1 < 0 := by omega
        rw [if_neg hn] at h ⊢
        obtain ⟨qs, hq, ha⟩ := ih (i + (dec1 (xs.drop i)).2.toNat) (acc ++ [(dec1 (xs.drop i)).1]) (by omega) (by omega) h
        exact ⟨_, by rw [hq]; simp, .more hi h0 ha⟩
    · have : i = xs.length := by omega
      subst this
      rw [if_neg (by omega)] at h ⊢
      exact ⟨[], by simp [decP], .done⟩
theorem At.le {xs : List Int} (hb : byteOK xs) {i : Nat} {qs : List Int} (h : At xs i qs) : i ≤ xs.length := by
  cases h with
  | done => exact Nat.le_refl _
  | more h => omega
theorem At.nil {xs : List Int} {i : Nat} (h : At xs i []) : i = xs.length := by
  cases h; rfl
theorem At.cons {xs : List Int} {i : Nat} {p : Int} {qs : List Int} (h : At xs i (p :: qs)) : i < xs.length ∧ p = (dec1 (xs.drop i)).1 ∧ (dec1 (xs.drop i)).2 ≠ 0 ∧ At xs (i + (dec1 (xs.drop i)).2.toNat) qs := by
  cases h with
  | more h h0 k => exact ⟨h, rfl, h0, k⟩
theorem At.bd {xs : List Int} (hb : byteOK xs) {i : Nat} {qs : List Int} (h : At xs i qs) : ∀ p ∈ qs, 0 ≤ p ∧ p ≤ 1114111 := by
  induction h with
  | done => intro p hp; simp at hp
  | @more i qs h h0 k ih =>
    intro p hp
    have hd := dec1_ok (xs.drop i) (hb.drop i) (by rw [List.length_drop]; omega)
    rcases List.mem_cons.1 hp with rfl | hp
    · exact ⟨hd.2.2.2.2.1, hd.2.2.2.2.2.1⟩
    · exact ih p hp
def readHex : Nat → List Int → Int → Option (Int × List Int)
  | 0, qs, v => some (v, qs)
  | _ + 1, [], _ => none
  | n + 1, q :: qs, v => if hexv q < 0 then none else readHex n qs (v * 16 + hexv q)
def shortQ (c : Int) : Option Int := if c = 98 then some 8 else if c = 102 then some 12 else if c = 110 then some 10 else if c = 114 then some 13 else if c = 116 then some 9 else if c = 118 then some 11 else none
/-- what stands behind a backslash: the units it means and the points left -/
def escQ : List Int → Option (List Int × List Int)
  | [] => none
  | c :: r =>
    if c = 10 ∨ c = 8232 ∨ c = 8233 then some ([], r) else
    if c = 13 then some ([], if r.headD (-1) = 10 then r.drop 1 else r) else
    if c = 120 then (readHex 2 r 0).map (fun x => ([x.1], x.2)) else
    if c = 117 then (readHex 4 r 0).map (fun x => ([x.1], x.2)) else
    if c = 48 then (if digit (r.headD (-1)) then none else some ([0], r)) else
    if digit c then none else
    match shortQ c with
    | some u => some ([u], r)
    | none => some (unitsOne c, r)
theorem readHex_len : ∀ (n : Nat) (qs : List Int) (v : Int) (x : Int × List Int), readHex n qs v = some x → x.2.length + n = qs.length
  | 0, qs, v, x, h => by simp only [readHex, Option.some.injEq] at h; subst h; rfl
  | n + 1, [], v, x, h => by simp [readHex] at h
  | n + 1, q :: qs, v, x, h => by
    unfold readHex at h
    split at h
    · cases h
    · have := readHex_len n qs _ x h
      simp only [List.length_cons]; omega
/-- up to the closing quote -/
def strQ (q : Int) : Nat → List Int → List Int → Option (List Int × List Int)
  | 0, _, _ => none
  | _ + 1, [], _ => none
  | f + 1, c :: r, acc =>
    if c = q then some (acc, r) else
    if c = 10 ∨ c = 13 then none else
    if c = 92 then (match escQ r with | none => none | some x => strQ q f x.2 (acc ++ x.1)) else
    strQ q f r (acc ++ unitsOne c)
def quotedQ : List Int → Option (List Int × List Int)
  | [] => none
  | q :: r => if q = 34 ∨ q = 39 then strQ q (r.length + 1) r [] else none
def readR (qs : List Int) : List Int × Int := match quotedQ qs with | some (u, []) => (u, 0) | _ => ([], 3)
def readS (xs : List Int) : List Int × Int := if (decW xs).2.1 ≠ 0 then ([], 3) else readR (decW xs).1
end Go.Proofs.YtjdgcgmhbhfpkaaDoorE
