/- Valid documents, in plain lists. No program stands here. -/
import Derived.Test.YtfhpgfbakimmhaaPDoc
import Derived.Test.YtfhpgfbakimmhaaTPts
namespace Go.Proofs.YtfhpgfbakimmhaaE
set_option linter.unusedVariables false

def tw (bs : List Int) : Int := cntP (ptsF bs bs.length 0) 0
structure OkPiece (p : PieceP) : Prop where
  kind : 0 ≤ p.kind ∧ p.kind ≤ 9
  text : p.kind = 1 → 10 ∉ p.text ∧ 0 ≤ tw p.text
  empty : p.kind ≠ 1 → p.text.length = 0
  nest : p.kind = 7 → 0 ≤ p.n
  zero : p.kind ≠ 7 → p.n = 0
def okPiece (p : PieceP) : Bool := decide ((0 ≤ p.kind ∧ p.kind ≤ 9) ∧ (p.kind = 1 → 10 ∉ p.text ∧ 0 ≤ tw p.text) ∧ (p.kind ≠ 1 → p.text.length = 0) ∧ (p.kind = 7 → 0 ≤ p.n) ∧ (p.kind ≠ 7 → p.n = 0))
theorem okPiece_iff {p : PieceP} : okPiece p = true ↔ OkPiece p := by
  unfold okPiece
  rw [decide_eq_true_eq]
  exact ⟨fun ⟨a, b, c, d, e⟩ => ⟨a, b, c, d, e⟩, fun ⟨a, b, c, d, e⟩ => ⟨a, b, c, d, e⟩⟩
theorem okPiece_no {p : PieceP} (h : ¬ OkPiece p) : okPiece p = false := by
  cases e : okPiece p with
  | false => rfl
  | true => exact absurd (okPiece_iff.1 e) h
def totalD (ps : List PieceP) : Nat := (ps.map fun p => p.text.length).sum
theorem total_snoc {ps : List PieceP} {i : Nat} {p : PieceP} (h : ps[i]? = some p) : totalD (ps.take (i + 1)) = totalD (ps.take i) + p.text.length := by
  unfold totalD; rw [List.take_add_one, h, List.map_append, List.sum_append]; simp
theorem total_le (ps : List PieceP) (i : Nat) : totalD (ps.take i) ≤ totalD ps := by
  have e : totalD ps = totalD (ps.take i) + totalD (ps.drop i) := by
    unfold totalD; rw [← List.sum_append, ← List.map_append, List.take_append_drop]
  omega
def doneD : Option (Nat × List Ent) → Option (DocT × Nat)
  | some (g, [e]) => if e.d.nestD ≤ 4000 then some (e.d, g) else none
  | _ => none
def validD (ps : List PieceP) : Option (DocT × Nat) :=
  if (1 ≤ ps.length ∧ ps.length ≤ 40000) ∧ ps.all okPiece = true ∧ totalD ps ≤ 100000 then doneD (run0 ps) else none
def NnD : DocT → Prop
  | .cat l r => NnD l ∧ NnD r
  | .alt l r => NnD l ∧ NnD r
  | .nest d n => 0 ≤ n ∧ NnD d
  | .group d _ => NnD d
  | _ => True
theorem NnD.nonneg : ∀ {d : DocT}, NnD d → 0 ≤ d.nestD
  | .nil, _ => Int.le_refl _
  | .text _, _ => Int.le_refl _
  | .line _, _ => Int.le_refl _
  | .cat l r, h => by have := h.1.nonneg; have := h.2.nonneg; simp only [DocT.nestD]; omega
  | .alt l r, h => by have := h.1.nonneg; have := h.2.nonneg; simp only [DocT.nestD]; omega
  | .nest d n, h => by have := h.2.nonneg; have := h.1; simp only [DocT.nestD]; omega
  | .group d _, h => NnD.nonneg (d := d) h
theorem leaf_nn (p : PieceP) : NnD (leafD p) := by unfold leafD; (repeat' split) <;> trivial
theorem leaf_nest (p : PieceP) : (leafD p).nestD = 0 := by unfold leafD; (repeat' split) <;> rfl
theorem step_nn {p : PieceP} {i g g' : Nat} {st st' : List Ent} (hp : OkPiece p) (h : stepM p i g st = some (g', st')) (hs : ∀ e ∈ st, NnD e.d) : (∀ e ∈ st', NnD e.d) ∧ ∀ e ∈ st, ∃ e' ∈ st', e.d.nestD ≤ e'.d.nestD := by
  unfold stepM at h
  by_cases ha : arK p.kind = 0
  · rw [if_pos ha] at h
    simp only [Option.some.injEq, Prod.mk.injEq] at h
    obtain ⟨rfl, rfl⟩ := h
    exact ⟨fun e he => by rcases List.mem_cons.1 he with rfl | q; exact leaf_nn p; exact hs e q, fun e he => ⟨e, List.mem_cons_of_mem _ he, Int.le_refl _⟩⟩
  · rw [if_neg ha] at h
    by_cases ha1 : arK p.kind = 1
    · rw [if_pos ha1] at h
      cases st with
      | nil => cases h
      | cons e0 r0 =>
        simp only at h
        have h0 := hs e0 (by simp)
        have keep : ∀ (x : Ent), NnD x.d → e0.d.nestD ≤ x.d.nestD → (∀ e ∈ x :: r0, NnD e.d) ∧ ∀ e ∈ e0 :: r0, ∃ e' ∈ x :: r0, e.d.nestD ≤ e'.d.nestD := fun x hx hle =>
          ⟨fun e he => by rcases List.mem_cons.1 he with rfl | q; exact hx; exact hs e (by simp [q]), fun e he => by
            rcases List.mem_cons.1 he with rfl | q
            · exact ⟨x, by simp, hle⟩
            · exact ⟨e, by simp [q], Int.le_refl _⟩⟩
        by_cases h7 : p.kind = 7
        · rw [if_pos h7] at h
          simp only [Option.some.injEq, Prod.mk.injEq] at h
          obtain ⟨rfl, rfl⟩ := h
          exact keep _ ⟨hp.nest h7, h0⟩ (by have := hp.nest h7; simp only [DocT.nestD]; omega)
        · rw [if_neg h7] at h
          simp only [Option.some.injEq, Prod.mk.injEq] at h
          obtain ⟨rfl, rfl⟩ := h
          exact keep _ h0 (Int.le_refl _)
    · rw [if_neg ha1] at h
      cases st with
      | nil => cases h
      | cons r0 q0 =>
        cases q0 with
        | nil => cases h
        | cons l0 q0 =>
          simp only [Option.some.injEq, Prod.mk.injEq] at h
          obtain ⟨rfl, rfl⟩ := h
          have hr := hs r0 (by simp)
          have hl := hs l0 (by simp)
          have key : ∀ (x : DocT), (x = .cat l0.d r0.d ∨ x = .alt l0.d r0.d) → NnD x ∧ r0.d.nestD ≤ x.nestD ∧ l0.d.nestD ≤ x.nestD := fun x hx => by
            rcases hx with rfl | rfl <;> exact ⟨⟨hl, hr⟩, by simp only [DocT.nestD]; omega, by simp only [DocT.nestD]; omega⟩
          have hk := key (if p.kind = 6 then .cat l0.d r0.d else .alt l0.d r0.d) (by split; exact .inl rfl; exact .inr rfl)
          refine ⟨fun e he => ?_, fun e he => ?_⟩
          · rcases List.mem_cons.1 he with rfl | q
            · exact hk.1
            · exact hs e (by simp [q])
          · rcases List.mem_cons.1 he with rfl | q
            · exact ⟨_, List.mem_cons_self, hk.2.1⟩
            · rcases List.mem_cons.1 q with rfl | q
              · exact ⟨_, List.mem_cons_self, hk.2.2⟩
              · exact ⟨e, List.mem_cons_of_mem _ q, Int.le_refl _⟩
theorem run_nn : ∀ {ps : List PieceP} {i g g' : Nat} {st st' : List Ent}, (∀ p ∈ ps, OkPiece p) → runM ps i g st = some (g', st') → (∀ e ∈ st, NnD e.d) → (∀ e ∈ st', NnD e.d) ∧ ∀ e ∈ st, ∃ e' ∈ st', e.d.nestD ≤ e'.d.nestD
  | [], i, g, g', st, st', _, h, hs => by
    simp only [runM, Option.some.injEq, Prod.mk.injEq] at h
    obtain ⟨rfl, rfl⟩ := h
    exact ⟨hs, fun e he => ⟨e, he, Int.le_refl _⟩⟩
  | p :: ps, i, g, g', st, st', hp, h, hs => by
    simp only [runM] at h
    cases hq : stepM p i g st with
    | none => rw [hq] at h; cases h
    | some q =>
      obtain ⟨g1, st1⟩ := q
      rw [hq] at h
      obtain ⟨a, b⟩ := step_nn (hp p (by simp)) hq hs
      obtain ⟨c, d⟩ := run_nn (fun x hx => hp x (by simp [hx])) h a
      refine ⟨c, fun e he => ?_⟩
      obtain ⟨e1, h1, l1⟩ := b e he
      obtain ⟨e2, h2, l2⟩ := d e1 h1
      exact ⟨e2, h2, Int.le_trans l1 l2⟩
/-! ## no document -/
theorem validD_piece {ps : List PieceP} {p : PieceP} (hm : p ∈ ps) (h : ¬ OkPiece p) : validD ps = none := by
  unfold validD
  rw [if_neg]
  rintro ⟨_, q, _⟩
  exact h (okPiece_iff.1 (List.all_eq_true.1 q p hm))
theorem validD_total {ps : List PieceP} (i : Nat) (h : 100000 < totalD (ps.take i)) : validD ps = none := by
  unfold validD
  rw [if_neg]
  rintro ⟨_, _, q⟩
  have := total_le ps i; omega
theorem validD_run {ps : List PieceP} (i : Nat) (h : run0 (ps.take i) = none) : validD ps = none := by
  unfold validD
  rw [run_none h]; split <;> rfl
theorem validD_deep {ps : List PieceP} {i g : Nat} {st : List Ent} {e : Ent} (h : run0 (ps.take i) = some (g, st)) (he : e ∈ st) (hd : 4000 < e.d.nestD) : validD ps = none := by
  unfold validD
  split
  · rename_i q
    have hok : ∀ p ∈ ps, OkPiece p := fun p hp => okPiece_iff.1 (List.all_eq_true.1 q.2.1 p hp)
    cases hr : run0 ps with
    | none => rfl
    | some z =>
      obtain ⟨g1, st1⟩ := z
      have e1 : ps = ps.take i ++ ps.drop i := (List.take_append_drop i ps).symm
      have hr2 := hr
      unfold run0 at hr2 h
      rw [e1, runM_app, h] at hr2
      simp only at hr2
      have h0 : ∀ e ∈ st, NnD e.d := (run_nn (fun p hp => hok p (List.mem_of_mem_take hp)) h (by simp)).1
      obtain ⟨e2, h2, l2⟩ := (run_nn (fun p hp => hok p (List.mem_of_mem_drop hp)) hr2 h0).2 e he
      unfold doneD
      split
      · rename_i g3 e3 heq
        cases heq
        have : e2 = e3 := by simpa using h2
        subst this
        rw [if_neg (by omega)]
      · rfl
  · rfl
theorem validD_size {ps : List PieceP} (h : ¬ (1 ≤ ps.length ∧ ps.length ≤ 40000)) : validD ps = none := by
  unfold validD; rw [if_neg]; exact fun q => h q.1
theorem validD_len {ps : List PieceP} {g : Nat} {st : List Ent} (h : run0 ps = some (g, st)) (hl : st.length ≠ 1) : validD ps = none := by
  unfold validD
  rw [h]
  split
  · unfold doneD
    split
    · rename_i heq; cases heq; exact absurd rfl hl
    · rfl
  · rfl
theorem validD_some {ps : List PieceP} {g : Nat} {e : Ent} (hl : 1 ≤ ps.length ∧ ps.length ≤ 40000) (hp : ∀ p ∈ ps, OkPiece p) (ht : totalD ps ≤ 100000) (h : run0 ps = some (g, [e])) (hd : e.d.nestD ≤ 4000) : validD ps = some (e.d, g) := by
  unfold validD
  rw [if_pos ⟨hl, List.all_eq_true.2 fun p h => okPiece_iff.2 (hp p h), ht⟩, h]
  exact if_pos hd
theorem validD_inv {ps : List PieceP} {d : DocT} {g : Nat} (h : validD ps = some (d, g)) : (1 ≤ ps.length ∧ ps.length ≤ 40000) ∧ (∀ p ∈ ps, OkPiece p) ∧ totalD ps ≤ 100000 ∧ d.nestD ≤ 4000 ∧ ∃ s, run0 ps = some (g, [⟨d, s⟩]) := by
  unfold validD at h
  split at h
  · rename_i q
    refine ⟨q.1, fun p hp => okPiece_iff.1 (List.all_eq_true.1 q.2.1 p hp), q.2.2, ?_⟩
    unfold doneD at h
    split at h
    · rename_i g1 e heq
      split at h
      · cases h; exact ⟨by assumption, e.s, heq⟩
      · cases h
    · cases h
  · cases h
/-! ## the nests' sum as the reference reckons it -/
def nestS : DocT → Int
  | .cat l r => if nestS l > nestS r then nestS l else nestS r
  | .alt l r => if nestS l > nestS r then nestS l else nestS r
  | .nest d n => if nestS d > 4000 ∨ n > 4000 then 4001 else n + nestS d
  | .group d _ => if nestS d > 4000 then 4001 else nestS d
  | _ => 0
theorem nestS_eq : ∀ {d : DocT}, NnD d → 0 ≤ nestS d ∧ nestS d ≤ 8000 ∧ (nestS d ≤ 4000 ↔ d.nestD ≤ 4000) ∧ (d.nestD ≤ 4000 → nestS d = d.nestD)
  | .nil, _ => ⟨by decide, by decide, by decide, fun _ => rfl⟩
  | .text _, _ => ⟨Int.le_refl _, by simp only [nestS]; omega, Iff.rfl, fun _ => rfl⟩
  | .line _, _ => ⟨Int.le_refl _, by simp only [nestS]; omega, Iff.rfl, fun _ => rfl⟩
  | .cat l r, h => by
    obtain ⟨a1, a2, a3, a4⟩ := nestS_eq h.1
    obtain ⟨b1, b2, b3, b4⟩ := nestS_eq h.2
    simp only [nestS, DocT.nestD]
    split <;> (refine ⟨by omega, by omega, by omega, by omega⟩)
  | .alt l r, h => by
    obtain ⟨a1, a2, a3, a4⟩ := nestS_eq h.1
    obtain ⟨b1, b2, b3, b4⟩ := nestS_eq h.2
    simp only [nestS, DocT.nestD]
    split <;> (refine ⟨by omega, by omega, by omega, by omega⟩)
  | .nest d n, h => by
    obtain ⟨a1, a2, a3, a4⟩ := nestS_eq h.2
    have h0 := h.2.nonneg
    have h1 := h.1
    simp only [nestS, DocT.nestD]
    split <;> (refine ⟨by omega, by omega, by omega, by omega⟩)
  | .group d g, h => by
    obtain ⟨a1, a2, a3, a4⟩ := nestS_eq (d := d) h
    have h0 := NnD.nonneg (d := d) h
    simp only [nestS, DocT.nestD]
    split <;> (refine ⟨by omega, by omega, by omega, by omega⟩)
/-! ## flat texts and first lines -/
def flatD : DocT → Option (List Int)
  | .nil => some []
  | .text t => some t
  | .line k => if k = 2 then some [32] else if k = 3 then some [] else none
  | .cat l r => (flatD l).bind fun a => (flatD r).map fun b => a ++ b
  | .alt _ r => flatD r
  | .nest d _ => flatD d
  | .group d _ => flatD d
def leadD : DocT → Int × Bool
  | .nil => (0, false)
  | .text t => (tw t, false)
  | .line _ => (0, true)
  | .cat l r => if (leadD l).2 = true then ((leadD l).1, true) else ((leadD l).1 + (leadD r).1, (leadD r).2)
  | .alt l _ => leadD l
  | .nest d _ => leadD d
  | .group d _ => leadD d
end Go.Proofs.YtfhpgfbakimmhaaE
