/- The length of what a quoted text answers. -/
import Derived.Test.YtcokdccbfbbhbaaTReadS3
namespace Go.Proofs.YtcokdccbfbbhbaaE
open Go Go.RowKit Go.Proofs
set_option linter.unusedVariables false

theorem escQ_u {qs u r : List Int} (h : escQ qs = some (u, r)) : u.length ≤ 2 := by
  cases qs with
  | nil => simp [escQ] at h
  | cons c t =>
    unfold escQ at h
    simp only [] at h
    have hx : ∀ n, (readHex n t 0).map (fun x => ([x.1], x.2)) = some (u, r) → u.length ≤ 2 := fun n h => by
      cases hh : readHex n t 0 with
      | none => rw [hh] at h; cases h
      | some x =>
        rw [hh] at h
        simp only [Option.map_some, Option.some.injEq, Prod.mk.injEq] at h
        obtain ⟨rfl, _⟩ := h
        simp
    split at h
    · simp only [Option.some.injEq, Prod.mk.injEq] at h; obtain ⟨rfl, _⟩ := h; simp
    split at h
    · simp only [Option.some.injEq, Prod.mk.injEq] at h; obtain ⟨rfl, _⟩ := h; simp
    split at h
    · exact hx 2 h
    split at h
    · exact hx 4 h
    split at h
    · split at h
      · cases h
      · simp only [Option.some.injEq, Prod.mk.injEq] at h; obtain ⟨rfl, _⟩ := h; simp
    split at h
    · cases h
    split at h
    · simp only [Option.some.injEq, Prod.mk.injEq] at h; obtain ⟨rfl, _⟩ := h; simp
    · simp only [Option.some.injEq, Prod.mk.injEq] at h; obtain ⟨rfl, _⟩ := h; exact unitsOne_len c
theorem strQ_len (q : Int) : ∀ (f : Nat) (qs acc u r : List Int), strQ q f qs acc = some (u, r) → u.length ≤ acc.length + 2 * qs.length := by
  intro f
  induction f with
  | zero => intro qs acc u r h; cases h
  | succ f ih =>
    intro qs acc u r h
    cases qs with
    | nil => cases h
    | cons c t =>
      rw [strQ_cons] at h
      split at h
      · simp only [Option.some.injEq, Prod.mk.injEq] at h; obtain ⟨rfl, _⟩ := h; omega
      split at h
      · cases h
      split at h
      · cases he : escQ t with
        | none => rw [he] at h; cases h
        | some x =>
          rw [he] at h
          have h1 := ih _ _ _ _ h
          have h2 := escQ_len (u := x.1) (r := x.2) he
          have h3 := escQ_u (u := x.1) (r := x.2) he
          simp only [List.length_append, List.length_cons] at h1 ⊢; omega
      · have h1 := ih _ _ _ _ h
        have h2 := unitsOne_len c
        simp only [List.length_append, List.length_cons] at h1 ⊢; omega
theorem readS_len (xs : List Int) (hb : byteOK xs) : (readS xs).1.length ≤ 2 * xs.length := by
  unfold readS
  split
  · simp
  · have hl := decW_len xs hb
    unfold readR
    cases hq : quotedQ (decW xs).1 with
    | none => simp
    | some x =>
      obtain ⟨u, r⟩ := x
      have : u.length ≤ 2 * (decW xs).1.length := by
        cases hd : (decW xs).1 with
        | nil => rw [hd] at hq; cases hq
        | cons q t =>
          rw [hd] at hq
          unfold quotedQ at hq
          simp only [] at hq
          split at hq
          · have := strQ_len _ _ _ _ _ _ hq; simp only [List.length_nil, List.length_cons] at this ⊢; omega
          · cases hq
      cases r <;> simp <;> omega
end Go.Proofs.YtcokdccbfbbhbaaE
