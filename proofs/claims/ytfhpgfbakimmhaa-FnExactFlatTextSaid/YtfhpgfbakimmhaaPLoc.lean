/- What stands where in a valid document, in plain lists. No program stands here. -/
import Derived.Test.YtfhpgfbakimmhaaPStart
namespace Go.Proofs.YtfhpgfbakimmhaaE
set_option linter.unusedVariables false

theorem leafGood {p : PieceP} (hp : OkPiece p) (ha : arK p.kind = 0) : GoodD (leafD p) ∧ ∀ k, GrD k (leafD p) := by
  have h0 := hp.kind
  unfold leafD
  split
  · exact ⟨trivial, fun _ => trivial⟩
  · split
    · rename_i h; exact ⟨(hp.text h).2, fun _ => trivial⟩
    · have : p.kind ≠ 6 ∧ p.kind ≠ 7 ∧ p.kind ≠ 8 ∧ p.kind ≠ 9 := by
        refine ⟨?_, ?_, ?_, ?_⟩ <;> (intro e; rw [e] at ha; exact absurd ha (by decide))
      exact ⟨⟨by omega, by omega⟩, fun _ => trivial⟩
theorem Loc.good {ps : List PieceP} (hok : ∀ p ∈ ps, OkPiece p) {d : DocT} {to : Nat} (h : Loc ps d to) : GoodD d := by
  induction h with
  | leaf h a => exact (leafGood (hok _ (List.mem_of_getElem? h)) a).1
  | nest h a k ih => exact ⟨(hok _ (List.mem_of_getElem? h)).nest a, ih⟩
  | group h a k ih => exact ih
  | cat h a kr hp kl ihr ihl => exact ⟨ihl, ihr⟩
  | alt h a kr hp kl ihr ihl => exact ⟨ihl, ihr⟩
theorem cntG_mono (ps : List PieceP) (i : Nat) : cntG (ps.take i) ≤ cntG ps := by
  have h : cntG ps = cntG (ps.take i) + cntG (ps.drop i) := by unfold cntG; rw [← List.length_append, ← List.filter_append, List.take_append_drop]
  omega
theorem Loc.gr {ps : List PieceP} (hok : ∀ p ∈ ps, OkPiece p) {d : DocT} {to : Nat} (h : Loc ps d to) : GrD (cntG ps) d := by
  induction h with
  | leaf h a => exact (leafGood (hok _ (List.mem_of_getElem? h)) a).2 _
  | nest h a k ih => exact ih
  | @group to p d h a k ih =>
    refine ⟨?_, ih⟩
    have h1 := cntG_snoc h
    rw [if_pos a] at h1
    have h2 := cntG_mono ps (to + 1)
    omega
  | cat h a kr hp kl ihr ihl => exact ⟨ihl, ihr⟩
  | alt h a kr hp kl ihr ihl => exact ⟨ihl, ihr⟩
def tlS (st : List Ent) : Nat := (st.map fun e => e.d.tl).sum
def szS (st : List Ent) : Nat := (st.map fun e => e.d.size).sum
theorem leaf_tl {p : PieceP} (hp : OkPiece p) : (leafD p).tl = p.text.length + 1 ∧ (leafD p).size = 1 := by
  unfold leafD
  split
  · rename_i h; rw [hp.empty (by omega)]; exact ⟨rfl, rfl⟩
  · split
    · exact ⟨rfl, rfl⟩
    · rename_i h; rw [hp.empty h]; exact ⟨rfl, rfl⟩
theorem step_tl {p : PieceP} {i g g' : Nat} {st st' : List Ent} (hp : OkPiece p) (h : stepM p i g st = some (g', st')) : tlS st' = tlS st + p.text.length + 1 ∧ szS st' = szS st + 1 := by
  unfold stepM at h
  by_cases ha : arK p.kind = 0
  · rw [if_pos ha] at h
    simp only [Option.some.injEq, Prod.mk.injEq] at h
    obtain ⟨rfl, rfl⟩ := h
    have := leaf_tl hp
    simp only [tlS, szS, List.map_cons, List.sum_cons]; omega
  · have hne : p.kind ≠ 1 := fun e => by rw [e] at ha; exact ha (by decide)
    rw [if_neg ha] at h
    rw [hp.empty hne]
    by_cases ha1 : arK p.kind = 1
    · rw [if_pos ha1] at h
      cases st with
      | nil => cases h
      | cons e r =>
        simp only at h
        split at h <;> (simp only [Option.some.injEq, Prod.mk.injEq] at h; obtain ⟨rfl, rfl⟩ := h; simp only [tlS, szS, List.map_cons, List.sum_cons, DocT.tl, DocT.size]; omega)
    · rw [if_neg ha1] at h
      cases st with
      | nil => cases h
      | cons r q0 =>
        cases q0 with
        | nil => cases h
        | cons l q =>
          simp only [Option.some.injEq, Prod.mk.injEq] at h
          obtain ⟨rfl, rfl⟩ := h
          simp only [tlS, szS, List.map_cons, List.sum_cons]
          split <;> (simp only [DocT.tl, DocT.size]; omega)
theorem run_tl : ∀ {ps : List PieceP} {i g g' : Nat} {st st' : List Ent}, (∀ p ∈ ps, OkPiece p) → runM ps i g st = some (g', st') → tlS st' = tlS st + totalD ps + ps.length ∧ szS st' = szS st + ps.length
  | [], i, g, g', st, st', _, h => by
    simp only [runM, Option.some.injEq, Prod.mk.injEq] at h
    obtain ⟨rfl, rfl⟩ := h
    exact ⟨rfl, rfl⟩
  | p :: ps, i, g, g', st, st', hp, h => by
    simp only [runM] at h
    cases hq : stepM p i g st with
    | none => rw [hq] at h; cases h
    | some q =>
      obtain ⟨g1, st1⟩ := q
      rw [hq] at h
      have a := step_tl (hp p (by simp)) hq
      have b := run_tl (fun x hx => hp x (by simp [hx])) h
      have e : totalD (p :: ps) = p.text.length + totalD ps := by simp [totalD]
      rw [e, List.length_cons]; omega
structure ValidOf (ps : List PieceP) (d : DocT) (g : Nat) : Prop where
  len : 1 ≤ ps.length ∧ ps.length ≤ 40000
  ok : ∀ p ∈ ps, OkPiece p
  loc : Loc ps d ps.length
  good : GoodD d
  gr : GrD g d
  tl : d.tl ≤ 140000
  size : d.size ≤ 40000
  nest : d.nestD ≤ 4000
  groups : g = cntG ps
  starts : ∀ xs, StartsOk ps xs → xs = startsL ps ps.length
  total : totalD ps ≤ 100000
theorem validOf {ps : List PieceP} {d : DocT} {g : Nat} (h : validD ps = some (d, g)) : ValidOf ps d g := by
  obtain ⟨hl, hok, ht, hn, s, hr⟩ := validD_inv h
  obtain ⟨h1, h2, h3⟩ := run_loc hr
  have h4 := run_tl hok hr
  simp only [tlS, szS, List.map_cons, List.map_nil, List.sum_cons, List.sum_nil] at h4
  exact ⟨hl, hok, h1, h1.good hok, h3 ▸ h1.gr hok, by omega, by omega, hn, h3, fun xs hx => hx.1 _ _ hr, ht⟩
end Go.Proofs.YtfhpgfbakimmhaaE
