/- Documents as trees, in plain lists: what a list of pieces stands for. No program stands here. -/
import Derived.Test.YtfhpgfbakimmhaaPText
namespace Go.Proofs.YtfhpgfbakimmhaaE
set_option linter.unusedVariables false

structure PieceP where
  kind : Int
  text : List Int
  n : Int
deriving DecidableEq
instance : Inhabited PieceP := ⟨⟨0, [], 0⟩⟩
inductive DocT where
  | nil
  | text (t : List Int)
  | line (k : Int)
  | cat (l r : DocT)
  | alt (l r : DocT)
  | nest (d : DocT) (n : Int)
  | group (d : DocT) (g : Nat)
def arK (k : Int) : Nat := if k = 6 ∨ k = 9 then 2 else if k = 7 ∨ k = 8 then 1 else 0
theorem arK_two {k : Int} (h : ¬ arK k = 0) (h1 : ¬ arK k = 1) : k = 6 ∨ k = 9 := by
  unfold arK at h h1
  by_cases a : k = 6 ∨ k = 9
  · exact a
  · rw [if_neg a] at h h1
    by_cases b : k = 7 ∨ k = 8
    · rw [if_pos b] at h1; exact absurd rfl h1
    · rw [if_neg b] at h; exact absurd rfl h
theorem arK_one {k : Int} (h : arK k = 1) : k = 7 ∨ k = 8 := by
  unfold arK at h
  by_cases a : k = 6 ∨ k = 9
  · rw [if_pos a] at h; cases h
  · rw [if_neg a] at h
    by_cases b : k = 7 ∨ k = 8
    · exact b
    · rw [if_neg b] at h; cases h
theorem arK_le (k : Int) : arK k ≤ 2 := by unfold arK; (repeat' split) <;> omega
def leafD (p : PieceP) : DocT := if p.kind = 0 then .nil else if p.kind = 1 then .text p.text else .line p.kind
def DocT.size : DocT → Nat
  | .nil => 1
  | .text _ => 1
  | .line _ => 1
  | .cat l r => l.size + r.size + 1
  | .alt l r => l.size + r.size + 1
  | .nest d _ => d.size + 1
  | .group d _ => d.size + 1
def DocT.nestD : DocT → Int
  | .cat l r => max l.nestD r.nestD
  | .alt l r => max l.nestD r.nestD
  | .nest d n => n + d.nestD
  | .group d _ => d.nestD
  | _ => 0
structure Ent where
  d : DocT
  s : Nat
def stepM (p : PieceP) (i g : Nat) (st : List Ent) : Option (Nat × List Ent) :=
  if arK p.kind = 0 then some (g, ⟨leafD p, i⟩ :: st)
  else if arK p.kind = 1 then
    (match st with
    | e :: r => some (if p.kind = 7 then (g, ⟨.nest e.d p.n, e.s⟩ :: r) else (g + 1, ⟨.group e.d g, e.s⟩ :: r))
    | [] => none)
  else
    (match st with
    | r :: l :: q => some (g, ⟨if p.kind = 6 then .cat l.d r.d else .alt l.d r.d, l.s⟩ :: q)
    | _ => none)
def runM : List PieceP → Nat → Nat → List Ent → Option (Nat × List Ent)
  | [], _, g, st => some (g, st)
  | p :: ps, i, g, st =>
    match stepM p i g st with
    | some (g', st') => runM ps (i + 1) g' st'
    | none => none
abbrev run0 (ps : List PieceP) : Option (Nat × List Ent) := runM ps 0 0 []
theorem runM_app : ∀ (xs ys : List PieceP) (i g : Nat) (st : List Ent), runM (xs ++ ys) i g st = match runM xs i g st with | some (g', st') => runM ys (i + xs.length) g' st' | none => none
  | [], ys, i, g, st => by simp [runM]
  | x :: xs, ys, i, g, st => by
    simp only [List.cons_append, runM]
    cases hs : stepM x i g st with
    | none => rfl
    | some q =>
      obtain ⟨g', st'⟩ := q
      simp only []
      rw [runM_app xs ys, List.length_cons, show i + 1 + xs.length = i + (xs.length + 1) by omega]
theorem run_snoc {ps : List PieceP} {i : Nat} {p : PieceP} (h : ps[i]? = some p) : run0 (ps.take (i + 1)) = match run0 (ps.take i) with | some (g, st) => stepM p i g st | none => none := by
  have hi := (List.getElem?_eq_some_iff.1 h).1
  unfold run0
  rw [List.take_add_one, h, Option.toList_some, runM_app]
  cases runM (ps.take i) 0 0 [] with
  | none => rfl
  | some q =>
    obtain ⟨g, st⟩ := q
    simp only [runM, List.length_take, Nat.min_eq_left (Nat.le_of_lt hi), Nat.zero_add]
    cases stepM p i g st <;> rfl
theorem run_none {ps : List PieceP} {i : Nat} (h : run0 (ps.take i) = none) : run0 ps = none := by
  have e : ps = ps.take i ++ ps.drop i := (List.take_append_drop i ps).symm
  unfold run0 at h ⊢
  rw [e, runM_app, h]
/-- where the document begins that ends with element j -/
def startM (ps : List PieceP) (j : Nat) : Nat :=
  match run0 (ps.take (j + 1)) with
  | some (_, e :: _) => e.s
  | _ => 0
def cntG (ps : List PieceP) : Nat := (ps.filter fun p => decide (p.kind = 8)).length
theorem step_ne {p : PieceP} {i g g' : Nat} {st st' : List Ent} (h : stepM p i g st = some (g', st')) : ∃ e r, st' = e :: r := by
  unfold stepM at h
  split at h
  · cases h; exact ⟨_, _, rfl⟩
  · split at h
    · split at h
      · split at h <;> (cases h; exact ⟨_, _, rfl⟩)
      · cases h
    · split at h
      · cases h; exact ⟨_, _, rfl⟩
      · cases h
/-- the document that ends just before to -/
inductive Loc (ps : List PieceP) : DocT → Nat → Prop
  | leaf {to : Nat} {p : PieceP} (h : ps[to]? = some p) (a : arK p.kind = 0) : Loc ps (leafD p) (to + 1)
  | nest {to : Nat} {p : PieceP} {d : DocT} (h : ps[to]? = some p) (a : p.kind = 7) (k : Loc ps d to) : Loc ps (.nest d p.n) (to + 1)
  | group {to : Nat} {p : PieceP} {d : DocT} (h : ps[to]? = some p) (a : p.kind = 8) (k : Loc ps d to) : Loc ps (.group d (cntG (ps.take to))) (to + 1)
  | cat {to : Nat} {p : PieceP} {l r : DocT} (h : ps[to]? = some p) (a : p.kind = 6) (kr : Loc ps r to) (hp : 0 < to) (kl : Loc ps l (startM ps (to - 1))) : Loc ps (.cat l r) (to + 1)
  | alt {to : Nat} {p : PieceP} {l r : DocT} (h : ps[to]? = some p) (a : p.kind = 9) (kr : Loc ps r to) (hp : 0 < to) (kl : Loc ps l (startM ps (to - 1))) : Loc ps (.alt l r) (to + 1)
def Chn (ps : List PieceP) : List Ent → Nat → Prop
  | [], i => i = 0
  | e :: r, i => Loc ps e.d i ∧ e.s < i ∧ startM ps (i - 1) = e.s ∧ Chn ps r e.s
theorem cntG_snoc {ps : List PieceP} {i : Nat} {p : PieceP} (h : ps[i]? = some p) : cntG (ps.take (i + 1)) = cntG (ps.take i) + if p.kind = 8 then 1 else 0 := by
  unfold cntG
  rw [List.take_add_one, h, Option.toList_some, List.filter_append, List.length_append]
  by_cases e : p.kind = 8
  · rw [if_pos e, List.filter_cons_of_pos (by simp [e])]; rfl
  · rw [if_neg e, List.filter_cons_of_neg (by simp [e])]; rfl
theorem run_chn (ps : List PieceP) : ∀ (i : Nat), i ≤ ps.length → ∀ g st, run0 (ps.take i) = some (g, st) → Chn ps st i ∧ g = cntG (ps.take i)
  | 0, _, g, st, h => by
    simp only [List.take_zero, run0, runM, Option.some.injEq, Prod.mk.injEq] at h
    obtain ⟨rfl, rfl⟩ := h
    exact ⟨rfl, rfl⟩
  | i + 1, hi, g, st, h => by
    obtain ⟨p, hp⟩ : ∃ p, ps[i]? = some p := ⟨_, List.getElem?_eq_getElem (by omega)⟩
    have h0 := h
    rw [run_snoc hp] at h
    cases hr : run0 (ps.take i) with
    | none => rw [hr] at h; cases h
    | some q =>
      obtain ⟨g0, st0⟩ := q
      rw [hr] at h
      simp only at h
      obtain ⟨hc, hg⟩ := run_chn ps i (by omega) g0 st0 hr
      obtain ⟨e, r, rfl⟩ := step_ne h
      have hst : startM ps i = e.s := by unfold startM; rw [h0]
      rw [cntG_snoc hp]
      unfold stepM at h
      by_cases ha : arK p.kind = 0
      · rw [if_pos ha] at h
        simp only [Option.some.injEq, Prod.mk.injEq, List.cons.injEq] at h
        obtain ⟨rfl, rfl, rfl⟩ := h
        have hk : p.kind ≠ 8 := fun e => by rw [e] at ha; exact absurd ha (by decide)
        rw [if_neg hk]
        exact ⟨⟨Loc.leaf hp ha, Nat.lt_succ_self _, hst, hc⟩, by omega⟩
      · rw [if_neg ha] at h
        by_cases ha1 : arK p.kind = 1
        · rw [if_pos ha1] at h
          cases st0 with
          | nil => cases h
          | cons e0 r0 =>
            obtain ⟨k1, k2, k3, k4⟩ := hc
            simp only at h
            by_cases h7 : p.kind = 7
            · rw [if_pos h7] at h
              simp only [Option.some.injEq, Prod.mk.injEq, List.cons.injEq] at h
              obtain ⟨rfl, rfl, rfl⟩ := h
              rw [if_neg (show ¬ p.kind = 8 by omega)]
              exact ⟨⟨Loc.nest hp h7 k1, Nat.lt_succ_of_lt k2, hst, k4⟩, by omega⟩
            · rw [if_neg h7] at h
              have h8 : p.kind = 8 := by
                unfold arK at ha1
                split at ha1
                · cases ha1
                · split at ha1
                  · omega
                  · cases ha1
              simp only [Option.some.injEq, Prod.mk.injEq, List.cons.injEq] at h
              obtain ⟨rfl, rfl, rfl⟩ := h
              rw [if_pos h8, hg]
              exact ⟨⟨Loc.group hp h8 k1, Nat.lt_succ_of_lt k2, hst, k4⟩, rfl⟩
        · rw [if_neg ha1] at h
          cases st0 with
          | nil => cases h
          | cons r0 q0 =>
            cases q0 with
            | nil => cases h
            | cons l0 q0 =>
              obtain ⟨k1, k2, k3, k4, k5, k6, k7⟩ := hc
              simp only [Option.some.injEq, Prod.mk.injEq, List.cons.injEq] at h
              obtain ⟨rfl, rfl, rfl⟩ := h
              have h69 := arK_two ha ha1
              rw [if_neg (show ¬ p.kind = 8 by omega)]
              refine ⟨⟨?_, by show l0.s < i + 1; omega, hst, k7⟩, by omega⟩
              by_cases h6 : p.kind = 6
              · simp only [if_pos h6]
                exact Loc.cat hp h6 k1 (by omega) (by rw [k3]; exact k4)
              · simp only [if_neg h6]
                exact Loc.alt hp (by omega) k1 (by omega) (by rw [k3]; exact k4)
theorem run_loc {ps : List PieceP} {g : Nat} {e : Ent} (h : run0 ps = some (g, [e])) : Loc ps e.d ps.length ∧ e.s = 0 ∧ g = cntG ps := by
  have := run_chn ps ps.length (Nat.le_refl _) g [e] (by rw [List.take_length]; exact h)
  rw [List.take_length] at this
  exact ⟨this.1.1, this.1.2.2.2, this.2⟩
end Go.Proofs.YtfhpgfbakimmhaaE
