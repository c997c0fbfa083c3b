/- The reference's documents: what a piece must be, where each element's document begins, how deep nests are. -/
import Derived.Test.YtfhpgfbakimmhaaTPiece
import Derived.Test.YtfhpgfbakimmhaaPLay
import Derived.Test.YtfhpgfbakimmhaaTDecT
import Derived.Test.YtfhpgfbakimmhaaTRow
namespace Go.Proofs.YtfhpgfbakimmhaaE
open Go Go.RowKit
set_option linter.unusedVariables false
set_option linter.unusedSimpArgs false
set_option maxRecDepth 100000
set_option maxHeartbeats 2000000

theorem ok_l2arity : callOK Try.prog 115 = true := by kernel_rfl
theorem spec_l2arity (k : Int) (W : World) : GivesV Try.prog 115 [.int .i64 k] W (.int .i64 (arK k)) := by
  have H := St.enter W
  refine calls_of_vcV (args := [.int .i64 k]) Try.func115 rfl (by kernel_rfl) (Nat.le_of_ble_eq_true rfl) ?_
  refine RegV.mk ?_
  refine gF (fun c1 => ?_) (fun c1 => ?_)
  · refine ifB (fun c2 => ?_) (fun c2 => ?_)
    · exact Exists.intro _ (And.intro rfl (And.intro (congrArg (Value.int .i64) (by unfold arK; (repeat' split) <;> omega)) H.none))
    · refine RegV.mk ?_
      refine gF (fun c4 => ?_) (fun c4 => ?_)
      · refine ifB (fun c5 => ?_) (fun c5 => ?_)
        · exact Exists.intro _ (And.intro rfl (And.intro (congrArg (Value.int .i64) (by unfold arK; (repeat' split) <;> omega)) H.none))
        · exact Exists.intro _ (And.intro rfl (And.intro (congrArg (Value.int .i64) (by unfold arK; (repeat' split) <;> omega)) H.none))
      · refine ifT ?_
        exact Exists.intro _ (And.intro rfl (And.intro (congrArg (Value.int .i64) (by unfold arK; (repeat' split) <;> omega)) H.none))
  · refine ifT ?_
    exact Exists.intro _ (And.intro rfl (And.intro (congrArg (Value.int .i64) (by unfold arK; (repeat' split) <;> omega)) H.none))
theorem ok_l2pieceOK : callOK Try.prog 85 = true := by kernel_rfl
theorem spec_l2pieceOK {f : PieceG} {W : World} (h : f.Rd W) (hl : f.text.length ≤ 4294967296) (hb : byteOK f.text) : GivesV Try.prog 85 [.agg f.cells.toArray] W (.bool (okPiece f.p)) := by
  have H := St.enter W
  obtain ⟨A0, c0, e0⟩ := PieceG.shape h
  obtain ⟨textV, kind, text, n⟩ := f
  dsimp only at *
  subst e0
  have hk : RdB W (.slice A0 text.length c0) text := h
  have no : ∀ {w : World}, St W.heap.size W w [] → ¬ OkPiece ⟨kind, text, n⟩ → ∃ v, Ending.returned (.bool false) = .returned v ∧ v = .bool (okPiece (PieceG.p ⟨.slice A0 text.length c0, kind, text, n⟩)) ∧ St W.heap.size W w [] := fun H h => ⟨_, rfl, by rw [show PieceG.p ⟨.slice A0 text.length c0, kind, text, n⟩ = ⟨kind, text, n⟩ from rfl, okPiece_no h], H⟩
  show GivesV Try.prog 85 [.agg #[.int .i64 kind, .slice A0 text.length c0, .int .i64 n]] W _
  refine calls_of_vcV (args := [.agg #[.int .i64 kind, .slice A0 text.length c0, .int .i64 n]]) Try.func85 rfl (by kernel_rfl) (Nat.le_of_ble_eq_true rfl) ?_
  refine newR (o := .cells #[.int .i64 kind, .slice A0 text.length c0, .int .i64 n] _) H fun g0 w H => ?_
  have Q : PieceG.p ⟨.slice A0 text.length c0, kind, text, n⟩ = ⟨kind, text, n⟩ := rfl
  refine RegV.mk ?_
  refine loadO H 0 rfl rfl ?_
  refine gF (fun c2 => ?_) (fun c2 => ?_)
  · refine loadO H 0 rfl rfl ?_
    refine ifB (fun c4 => ?_) (fun c4 => ?_)
    · exact no H.none (fun q => by have := q.kind; simp only at this; omega)
    · refine joinV (fun e w => e 1 = .pointer (some ⟨g0, 0, none⟩) ∧ (kind = 1 → 10 ∉ text ∧ 0 ≤ tw text) ∧ (kind ≠ 1 → text.length = 0) ∧ St W.heap.size W w [.obj g0 (.cells #[.int .i64 kind, .slice A0 text.length c0, .int .i64 n] 96)]) rfl ?_ ?_
      · refine loadO H 0 rfl rfl ?_
        refine ifB (fun c5 => ?_) (fun c5 => ?_)
        · refine loopV (by kernel_rfl) (fun m e w => e 1 = .pointer (some ⟨g0, 0, none⟩) ∧ ∃ j : Nat, e 3 = .int .i64 j ∧ j + m = text.length ∧ (∀ q, q < j → text.getD q 0 ≠ 10) ∧ St W.heap.size W w [.obj g0 (.cells #[.int .i64 kind, .slice A0 text.length c0, .int .i64 n] 96)]) text.length
            ⟨rfl, 0, rfl, by omega, by omega, H⟩ ?_
          rintro m e w ⟨h1, j, h3, hj, hq, H⟩
          rw [Env.two h1 h3]
          refine loadO H 0 rfl rfl ?_
          refine ifB (fun c6 => ?_) (fun c6 => ?_)
          · refine JoinV.mk ?_
            refine loadO H 0 rfl rfl ?_
            refine idxP rfl (hk.ext H.below) (by omega) fun b off hc => ?_
            refine loadS hc ?_
            refine ifB (fun c7 => ?_) (fun c7 => ?_)
            · exact no H.none (fun q => (q.text c5).1 (by
                have hj2 : j < text.length := by omega
                rw [List.getD_eq_getElem?_getD, List.getElem?_eq_getElem hj2] at c7
                have c7 : text[j] = 10 := c7
                exact c7 ▸ List.getElem_mem hj2))
            · refine arN (by omega) ?_
              exact Exists.intro (m - 1) (And.intro (by omega) ⟨rfl, j + 1, rfl, by omega, (fun q hq2 => by by_cases e : q = j; exact e ▸ c7; exact hq q (by omega)), H⟩)
          · have hm : (10 : Int) ∉ text := fun hm => by
              obtain ⟨q, hq1, hq2⟩ := List.getElem_of_mem hm
              exact hq q (by omega) (by rw [List.getD_eq_getElem?_getD, List.getElem?_eq_getElem hq1, hq2]; rfl)
            refine loadO H 0 rfl rfl ?_
            refine callV ok_spec_TextWidth (spec_TextWidth hb hl (hk.ext H.below)) H fun w H => ?_
            refine ifB (fun c8 => ?_) (fun c8 => ?_)
            · exact no H.none (fun q => by have := (q.text c5).2; unfold tw at this; simp only at this; omega)
            · exact ⟨rfl, fun _ => ⟨hm, by unfold tw; omega⟩, fun c => absurd c5 c, H⟩
        · refine loadO H 0 rfl rfl ?_
          refine ifB (fun c8 => ?_) (fun c8 => ?_)
          · exact no H.none (fun q => by have := q.empty c5; simp only at this; omega)
          · exact ⟨rfl, fun c => absurd c c5, fun _ => by omega, H⟩
      rintro e w ⟨h1, ht, he, H⟩
      rw [Env.one h1]
      have ok : (kind = 7 → 0 ≤ n) → (kind ≠ 7 → n = 0) → okPiece ⟨kind, text, n⟩ = true := fun a b => okPiece_iff.2 ⟨⟨show (0 : Int) ≤ kind by omega, show kind ≤ 9 by omega⟩, ht, he, a, b⟩
      refine loadO H 0 rfl rfl ?_
      refine ifB (fun c1 => ?_) (fun c1 => ?_)
      · refine loadO H 0 rfl rfl ?_
        exact Exists.intro _ (And.intro rfl (And.intro (congrArg Value.bool (show decide (n ≥ 0) = okPiece ⟨kind, text, n⟩ by
          by_cases hn : n ≥ 0
          · rw [ok (fun _ => by omega) (fun c => absurd c1 c), decide_eq_true hn]
          · rw [okPiece_no (fun q => hn (q.nest c1)), decide_eq_false hn])) H.none))
      · refine loadO H 0 rfl rfl ?_
        exact Exists.intro _ (And.intro rfl (And.intro (congrArg Value.bool (show decide (n = 0) = okPiece ⟨kind, text, n⟩ by
          by_cases hn : n = 0
          · rw [ok (fun c => absurd c c1) (fun _ => hn), decide_eq_true hn]
          · rw [okPiece_no (fun q => hn (q.zero c1)), decide_eq_false hn])) H.none))
  · refine ifT ?_
    exact no H.none (fun q => by have := q.kind; simp only at this; omega)
end Go.Proofs.YtfhpgfbakimmhaaE
