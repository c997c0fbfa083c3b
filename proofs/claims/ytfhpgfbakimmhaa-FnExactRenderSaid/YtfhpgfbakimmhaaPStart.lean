/- Where each element's document begins, in plain lists. No program stands here. -/
import Derived.Test.YtfhpgfbakimmhaaPLay
namespace Go.Proofs.YtfhpgfbakimmhaaE
set_option linter.unusedVariables false

def opn (st : List Ent) : List Int := (st.map fun e => (e.s : Int)).reverse
def startsL (ps : List PieceP) (n : Nat) : List Int := (List.range n).map fun i => (startM ps i : Int)
def StartsOk (ps : List PieceP) (xs : List Int) : Prop := (∀ g e, run0 ps = some (g, [e]) → xs = startsL ps ps.length) ∧ ((∀ g e, run0 ps ≠ some (g, [e])) → xs.length ≠ ps.length ∨ ps = [])
theorem opn_len (st : List Ent) : (opn st).length = st.length := by simp [opn]
theorem startsL_len (ps : List PieceP) (n : Nat) : (startsL ps n).length = n := by simp [startsL]
theorem startsL_snoc (ps : List PieceP) (n : Nat) : startsL ps (n + 1) = startsL ps n ++ [(startM ps n : Int)] := by simp [startsL, List.range_succ]
theorem startsL_get {ps : List PieceP} {n i : Nat} (h : i < n) : (startsL ps n).getD i 0 = startM ps i := by
  simp [startsL, List.getD_eq_getElem?_getD, h]
theorem step_none {p : PieceP} {i g : Nat} {st : List Ent} (h : st.length < arK p.kind) : stepM p i g st = none := by
  have h2 := arK_le p.kind
  unfold stepM
  rw [if_neg (by omega)]
  by_cases h1 : arK p.kind = 1
  · rw [if_pos h1]
    cases st with
    | nil => rfl
    | cons e r => simp only [List.length_cons] at h; omega
  · rw [if_neg h1]
    match st, h with
    | [], _ => rfl
    | [e], _ => rfl
    | e :: f :: r, h => simp only [List.length_cons] at h; omega
theorem step_some {p : PieceP} {i g : Nat} {st : List Ent} (h : arK p.kind ≤ st.length) : ∃ g' e r, stepM p i g st = some (g', e :: r) ∧ opn (e :: r) = (opn st).take (st.length - arK p.kind) ++ [(e.s : Int)] ∧ (e.s : Int) = if arK p.kind = 0 then (i : Int) else (opn st).getD (st.length - arK p.kind) 0 := by
  have h2 := arK_le p.kind
  unfold stepM
  by_cases h0 : arK p.kind = 0
  · refine ⟨g, ⟨leafD p, i⟩, st, by rw [if_pos h0], ?_, by rw [if_pos h0]⟩
    rw [h0, Nat.sub_zero, ← opn_len st, List.take_length]; simp [opn]
  · rw [if_neg h0]
    by_cases h1 : arK p.kind = 1
    · rw [if_pos h1, h1]
      cases st with
      | nil => simp only [List.length_nil] at h; omega
      | cons e r =>
        have e1 : (opn (e :: r)).take ((e :: r).length - 1) = opn r := by simp [opn]
        have e2 : (opn (e :: r)).getD ((e :: r).length - 1) 0 = e.s := by simp [opn, List.getD_eq_getElem?_getD]
        refine ⟨if p.kind = 7 then g else g + 1, ⟨if p.kind = 7 then .nest e.d p.n else .group e.d g, e.s⟩, r, ?_, ?_, by rw [if_neg (show ¬ (1 : Nat) = 0 by decide), e2]⟩
        · simp only []; split <;> rfl
        · rw [e1]; simp [opn]
    · rw [if_neg h1]
      have h22 : arK p.kind = 2 := by omega
      rw [h22]
      match st, h with
      | [], h => simp only [List.length_nil] at h; omega
      | [e], h => simp only [List.length_cons, List.length_nil] at h; omega
      | r :: l :: q, h =>
        have e1 : (opn (r :: l :: q)).take ((r :: l :: q).length - 2) = opn q := by simp [opn]
        have e2 : (opn (r :: l :: q)).getD ((r :: l :: q).length - 2) 0 = l.s := by simp [opn, List.getD_eq_getElem?_getD]
        refine ⟨g, ⟨if p.kind = 6 then .cat l.d r.d else .alt l.d r.d, l.s⟩, q, rfl, ?_, by rw [if_neg (show ¬ (2 : Nat) = 0 by decide), e2]⟩
        rw [e1]; simp [opn]
theorem starts_nil (ps : List PieceP) : ([] : List Int).length ≠ ps.length ∨ ps = [] := by cases ps with
  | nil => exact .inr rfl
  | cons a b => exact .inl (by simp)
theorem starts_end {ps : List PieceP} {g : Nat} {st : List Ent} (h : run0 ps = some (g, st)) : (st.length = 1 → StartsOk ps (startsL ps ps.length)) ∧ (st.length ≠ 1 → StartsOk ps []) := by
  refine ⟨fun h1 => ⟨fun _ _ _ => rfl, fun q => ?_⟩, fun h1 => ⟨fun g' e q => ?_, fun _ => starts_nil ps⟩⟩
  · match st, h1 with
    | [e], _ => exact absurd h (q g e)
  · rw [h] at q; simp only [Option.some.injEq, Prod.mk.injEq] at q
    rw [q.2] at h1; exact absurd rfl h1
theorem starts_break {ps : List PieceP} {j : Nat} (h : run0 ps = none) (hj : j < ps.length) : StartsOk ps (startsL ps j) ∧ StartsOk ps [] :=
  ⟨⟨fun g e q => (by rw [h] at q; cases q), fun _ => .inl (by rw [startsL_len]; omega)⟩, ⟨fun g e q => (by rw [h] at q; cases q), fun _ => starts_nil ps⟩⟩
end Go.Proofs.YtfhpgfbakimmhaaE
