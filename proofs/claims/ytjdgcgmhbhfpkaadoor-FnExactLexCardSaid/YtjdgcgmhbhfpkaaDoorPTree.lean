/- Trees and comments as plain data, and when they are valid. No program stands here. -/
import Derived.Test.YtjdgcgmhbhfpkaaDoorPText
import Derived.Test.YtjdgcgmhbhfpkaaDoorPNum
namespace Go.Proofs.YtjdgcgmhbhfpkaaDoorE
set_option linter.unusedVariables false

structure CommentP where
  block : Bool
  text : List Int
structure NodeP where
  kind : Int
  lead : List CommentP
  member : Bool
  key : List Int
  text : List Int
  units : List Int
  count : Int
  tail : List CommentP
structure TreeP where
  nodes : List NodeP
  tail : List CommentP
def lineE (p : Int) : Bool := decide (p = 10 ∨ p = 13 ∨ p = 8232 ∨ p = 8233)
/-- f done k times, from i on -/
def itN (f : Nat → Option Nat) : Nat → Nat → Option Nat
  | 0, i => some i
  | k + 1, i => match f i with
    | some j => itN f k j
    | none => none
/-- the place behind the value at i -/
def endT (ns : List NodeP) : Nat → Nat → Bool → Option Nat
  | 0, i, m => match ns[i]? with
    | some n => if n.member = m ∧ n.kind < 5 then some (i + 1) else none
    | none => none
  | d + 1, i, m => match ns[i]? with
    | some n => if n.member = m then itN (fun j => endT ns d j (decide (n.kind = 6))) n.count.toNat (i + 1) else none
    | none => none
theorem itN_up {f : Nat → Option Nat} {L : Nat} (h : ∀ i j, f i = some j → i < j ∧ j ≤ L) : ∀ (k i j : Nat), itN f k i = some j → i + k ≤ j ∧ (0 < k → j ≤ L)
  | 0, i, j, e => by cases e; exact ⟨Nat.le_refl _, fun q => absurd q (Nat.lt_irrefl 0)⟩
  | k + 1, i, j, e => by
    simp only [itN] at e
    cases hf : f i with
    | none => rw [hf] at e; cases e
    | some x =>
      rw [hf] at e
      have a := h i x hf
      have b := itN_up h k x j e
      refine ⟨by omega, fun _ => ?_⟩
      cases k with
      | zero => cases e; exact a.2
      | succ k => exact b.2 (Nat.succ_pos k)
theorem itN_none {f : Nat → Option Nat} {L : Nat} (h : ∀ i j, f i = some j → i < j ∧ j ≤ L) {k i : Nat} (hk : L < i + k) (hp : 0 < k) : itN f k i = none := by
  cases e : itN f k i with
  | none => rfl
  | some j => have := itN_up h k i j e; have := this.2 hp; omega
theorem endT_up (ns : List NodeP) : ∀ (d i : Nat) (m : Bool) (j : Nat), endT ns d i m = some j → i < j ∧ j ≤ ns.length
  | 0, i, m, j, e => by
    simp only [endT] at e
    cases hn : ns[i]? with
    | none => rw [hn] at e; cases e
    | some n =>
      rw [hn] at e
      have hl := (List.getElem?_eq_some_iff.1 hn).1
      simp only at e
      split at e
      · cases e; omega
      · cases e
  | d + 1, i, m, j, e => by
    simp only [endT] at e
    cases hn : ns[i]? with
    | none => rw [hn] at e; cases e
    | some n =>
      rw [hn] at e
      have hl := (List.getElem?_eq_some_iff.1 hn).1
      simp only at e
      split at e
      · have q := itN_up (L := ns.length) (fun a b h => endT_up ns d a _ b h) _ _ _ e
        refine ⟨by omega, ?_⟩
        by_cases hc : n.count.toNat = 0
        · rw [hc] at e; cases e; omega
        · exact q.2 (by omega)
      · cases e
def sizeC (l : List CommentP) : Nat := (l.map fun c => c.text.length).sum
end Go.Proofs.YtjdgcgmhbhfpkaaDoorE
