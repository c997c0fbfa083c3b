/- A law's list of pieces, opened. -/
import Derived.Test.YtfhpgfbakimmhaaOpen
import Derived.Test.YtfhpgfbakimmhaaTPiece
namespace Go.Proofs.YtfhpgfbakimmhaaE
open Go Go.RowKit Go.ChangeShapes Go.WideShapes Go.ChangeAt
set_option linter.unusedVariables false
set_option linter.unusedSimpArgs false
set_option maxRecDepth 100000

structure FineP (f : PieceG) : Prop where
  l : LenPiece f
  b : byteOK f.text
theorem fldPiece : fieldsOf Try.prog 95 = some [(3, 0), (33, 1), (3, 2)] := by kernel_rfl
theorem undLPs : Try.prog.underlying 47 = some (.slice 95) := by kernel_rfl
section
variable {H : Type} {enc : TypeId × Value → H} {W : World} {sp : Nat → Bool} {held : Bool} {fuel : Nat}
theorem open_bytesP {v : Value} {x : DataW H × List MemPlace} (h : DataW.trod enc Try.prog W 0 sp held fuel 33 [v] = some x) : ∃ zs : List Int, RdB W v zs ∧ byteOK zs ∧ zs.length ≤ 9223372036854775807 := by
  obtain ⟨A, n, c, rfl, h1, h2, zs, h3, h4, h5⟩ := open_nums undB (by kernel_rfl : Try.prog.underlying 5 = some (.int .u8)) (by kernel_rfl) h
  subst h3
  unfold maxLen at h2
  exact ⟨zs, h4, fun z hz => wf_u8 (h5 z hz), by omega⟩
theorem open_piece {r : List Value} {x : DataW H × List MemPlace} (hr : r.length = 3) (h : DataW.trod enc Try.prog W 0 sp held fuel 95 r = some x) : ∃ f : PieceG, r = f.cells ∧ f.Rd W ∧ FineP f := by
  match r, hr with
  | [a, b, c], _ =>
    obtain ⟨_, hf⟩ := open_struct fldPiece h
    obtain ⟨m0, y0, h0⟩ := hf 0 _ rfl
    obtain ⟨m1, y1, h1⟩ := hf 1 _ rfl
    obtain ⟨m2, y2, h2⟩ := hf 2 _ rfl
    have h0 : DataW.trod enc Try.prog W 0 sp held m0 3 [a] = some y0 := h0
    have h1 : DataW.trod enc Try.prog W 0 sp held m1 33 [b] = some y1 := h1
    have h2 : DataW.trod enc Try.prog W 0 sp held m2 3 [c] = some y2 := h2
    obtain ⟨k, rfl, hk⟩ := open_one (by kernel_rfl : Try.prog.underlying 3 = some (.int .i64)) h0
    obtain ⟨tx, p1, p2, p3⟩ := open_bytesP h1
    obtain ⟨z, rfl, hz⟩ := open_one (by kernel_rfl : Try.prog.underlying 3 = some (.int .i64)) h2
    exact ⟨⟨b, k, tx, z⟩, rfl, p1, ⟨p3⟩, p2⟩
theorem open_pieces {v : Value} {x : DataW H × List MemPlace} (h : DataW.trod enc Try.prog W 0 sp held fuel 47 [v] = some x) :
    ∃ A n c, v = .slice A n c ∧ n ≤ 9223372036854775807 ∧ ∃ fs : List PieceG, RdPiece W v n fs ∧ ∀ f ∈ fs, FineP f := by
  obtain ⟨A, n, c, rfl, h1, h2, rows, h3, h4, h5⟩ := open_rows (sz := 3) undLPs (by kernel_rfl) (by decide) h
  have key : ∀ l : List (List Value), (∀ r ∈ l, r.length = 3 ∧ ∃ m y, DataW.trod enc Try.prog W 0 sp held m 95 r = some y) → ∃ fs : List PieceG, l.flatten = fs.flatMap PieceG.cells ∧ (∀ f ∈ fs, f.Rd W) ∧ ∀ f ∈ fs, FineP f := fun l => by
    induction l with
    | nil => intro _; exact ⟨[], rfl, by simp, by simp⟩
    | cons r l ih =>
      intro hl
      obtain ⟨fs, q1, q2, q3⟩ := ih fun r' hr' => hl r' (by simp [hr'])
      obtain ⟨hr1, m, y, hy⟩ := hl r (by simp)
      obtain ⟨f, rfl, hf1, hf2⟩ := open_piece hr1 hy
      exact ⟨f :: fs, by simp [q1], fun g hg => by rcases List.mem_cons.1 hg with rfl | hg; exact hf1; exact q2 g hg, fun g hg => by rcases List.mem_cons.1 hg with rfl | hg; exact hf2; exact q3 g hg⟩
  obtain ⟨fs, q1, q2, q3⟩ := key rows h4
  unfold maxLen at h2
  exact ⟨A, n, c, rfl, by omega, fs, ⟨q1 ▸ h5, q2⟩, q3⟩
end
end Go.Proofs.YtfhpgfbakimmhaaE
