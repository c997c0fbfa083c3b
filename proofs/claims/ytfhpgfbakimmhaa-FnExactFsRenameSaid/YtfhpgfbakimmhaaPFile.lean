/- Sorted lists of files: where a name stands. -/
import Derived.Test.YtfhpgfbakimmhaaTBin
namespace Go.Proofs.YtfhpgfbakimmhaaE
open Go Go.RowKit
set_option linter.unusedVariables false

def Srt (fs : List FileG) : Prop := ∀ (i j : Nat) (f g : FileG), i < j → fs[i]? = some f → fs[j]? = some g → cmpB f.nm g.nm < 0
theorem sorted_of_valid {fs : List FileG} (h : validF (fs.map FileG.p) = true) : Srt fs := by
  have h := (of_decide_eq_true h).2
  have step : ∀ i f g, fs[i]? = some f → fs[i + 1]? = some g → cmpB f.nm g.nm < 0 := by
    intro i f g hf hg
    have hi := (List.getElem?_eq_some_iff.1 hg).1
    have := (h (i + 1) (by simpa using hi)).2 (by omega)
    rw [List.getD_eq_getElem?_getD, List.getD_eq_getElem?_getD, List.getElem?_map, List.getElem?_map, Nat.add_sub_cancel, hf, hg] at this
    exact this
  have gen : ∀ d i f g, fs[i]? = some f → fs[i + d + 1]? = some g → cmpB f.nm g.nm < 0 := by
    intro d
    induction d with
    | zero => exact step
    | succ d ih =>
      intro i f g hf hg
      have hi := (List.getElem?_eq_some_iff.1 hg).1
      obtain ⟨k, hk⟩ : ∃ k, fs[i + d + 1]? = some k := ⟨_, List.getElem?_eq_getElem (by omega)⟩
      exact cmpB_trans _ _ _ (ih i f k hf hk) (step _ k g hk hg)
  intro i j f g hij hf hg
  exact gen (j - i - 1) i f g hf (by rw [show i + (j - i - 1) + 1 = j by omega]; exact hg)
theorem low_of {fs : List FileG} (hs : Srt fs) (nm : List Int) : ∃ i0, LowF fs nm i0 := by
  have gen : ∀ m, m ≤ fs.length → (∀ k f, fs[k]? = some f → k < m → cmpB f.nm nm < 0) ∨ ∃ i0, LowF fs nm i0 := by
    intro m
    induction m with
    | zero => intro _; left; intro k f _ hk; omega
    | succ m ih =>
      intro hm
      rcases ih (by omega) with h | h
      · obtain ⟨f, hf⟩ : ∃ f, fs[m]? = some f := ⟨_, List.getElem?_eq_getElem (by omega)⟩
        by_cases hc : cmpB f.nm nm < 0
        · left
          intro k g hg hk
          rcases Nat.lt_succ_iff_lt_or_eq.1 hk with q | rfl
          · exact h k g hg q
          · rw [hf] at hg; cases hg; exact hc
        · right
          refine ⟨m, by omega, h, fun k g hg hk => ?_⟩
          rcases Nat.lt_or_eq_of_le hk with q | rfl
          · have h1 := hs m k f g q hf hg
            by_cases q2 : cmpB g.nm nm < 0
            · exact absurd (cmpB_trans _ _ _ h1 q2) hc
            · omega
          · rw [hf] at hg; cases hg; omega
      · exact .inr h
  rcases gen fs.length (Nat.le_refl _) with h | h
  · exact ⟨fs.length, Nat.le_refl _, h, fun k f hf hk => by have := (List.getElem?_eq_some_iff.1 hf).1; omega⟩
  · exact h
theorem hit_some {fs : List FileG} {nm : List Int} {i0 : Nat} (hl : LowF fs nm i0) (h : hitF fs nm i0 = true) : ∃ f, fs[i0]? = some f ∧ f.nm = nm ∧ findF fs nm = some f := by
  obtain ⟨f, hf⟩ : ∃ f, fs[i0]? = some f := ⟨_, List.getElem?_eq_getElem (hitF_lt h)⟩
  unfold hitF at h
  rw [hf] at h
  have he := (cmpB_eq _ _).1 (of_decide_eq_true h)
  refine ⟨f, hf, he, findF_some hf he fun i g hi hg e => ?_⟩
  have := hl.lo i g hg hi
  rw [e, cmpB_refl] at this
  omega
theorem hit_none {fs : List FileG} {nm : List Int} {i0 : Nat} (hs : Srt fs) (hl : LowF fs nm i0) (h : hitF fs nm i0 = false) : findF fs nm = none := by
  refine findF_none fun i g hi hg e => ?_
  rcases Nat.lt_trichotomy i i0 with q | rfl | q
  · have := hl.lo i g hg q
    rw [e, cmpB_refl] at this
    omega
  · unfold hitF at h
    rw [hg] at h
    exact of_decide_eq_false h ((cmpB_eq _ _).2 e)
  · obtain ⟨f, hf⟩ : ∃ f, fs[i0]? = some f := ⟨_, List.getElem?_eq_getElem (by omega)⟩
    have h1 := hs i0 i f g q hf hg
    have h2 := hl.hi i0 f hf (Nat.le_refl _)
    rw [e] at h1
    omega
end Go.Proofs.YtfhpgfbakimmhaaE
