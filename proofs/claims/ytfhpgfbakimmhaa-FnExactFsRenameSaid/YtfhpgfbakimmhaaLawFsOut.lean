/- For the laws of functions that answer a list of files: the size of what is answered. -/
import Derived.Test.YtfhpgfbakimmhaaTCrash2
import Derived.Test.YtfhpgfbakimmhaaSel
namespace Go.Proofs.YtfhpgfbakimmhaaE
open Go Go.RowKit
set_option linter.unusedVariables false
set_option maxRecDepth 100000

structure OutB (r : List FileP × Int) : Prop where
  len : r.1.length ≤ 51
  each : ∀ p ∈ r.1, p.nm.length ≤ 1048576 ∧ p.dt.length ≤ 1048576
theorem OutB.bad : OutB ([], 1) := ⟨by simp, by simp⟩
theorem out_small {gs : List FileG} {r : List FileP} (h : gs.map FileG.p = r) (hr : ∀ p ∈ r, p.nm.length ≤ 1048576 ∧ p.dt.length ≤ 1048576) : ∀ g ∈ gs, SmallF g := fun g hg => by
  have := hr g.p (h ▸ List.mem_map_of_mem hg)
  have h1 : g.nm.length ≤ 1048576 := this.1
  have h2 : g.dt.length ≤ 1048576 := this.2
  exact ⟨by omega, by omega⟩
theorem sumF_bound : ∀ {gs : List FileG}, (∀ g ∈ gs, g.nm.length ≤ 1048576 ∧ g.dt.length ≤ 1048576) → sumF gs ≤ gs.length * 2097152
  | [], _ => by simp [sumF]
  | g :: gs, h => by
    have h1 := h g (by simp)
    have h2 := sumF_bound (gs := gs) fun x hx => h x (by simp [hx])
    unfold sumF at h2 ⊢
    simp only [List.map_cons, List.sum_cons, List.length_cons]; omega
theorem out_size {gs : List FileG} {r : List FileP} (h : gs.map FileG.p = r) (hl : r.length ≤ 51) (hr : ∀ p ∈ r, p.nm.length ≤ 1048576 ∧ p.dt.length ≤ 1048576) : sizeF gs ≤ 1073741824 := by
  have h1 := sumF_bound (gs := gs) fun g hg => hr g.p (h ▸ List.mem_map_of_mem hg)
  have h2 := congrArg List.length h
  simp only [List.length_map] at h2
  unfold sizeF; omega
theorem val_each {fs : List FileG} (hz : fs.length + sumF fs ≤ 1048576) : ∀ p ∈ fs.map FileG.p, p.nm.length ≤ 1048576 ∧ p.dt.length ≤ 1048576 := fun p hp => by
  obtain ⟨f, hf, rfl⟩ := List.mem_map.1 hp
  have := sumF_mem hf
  show f.nm.length ≤ _ ∧ f.dt.length ≤ _
  omega
theorem val_len {fs : List FileP} (h : validF fs = true) : fs.length ≤ 50 := (of_decide_eq_true h).1
theorem crashF_out {fs : List FileP} {keep : Int} (h : ∀ p ∈ fs, p.nm.length ≤ 1048576 ∧ p.dt.length ≤ 1048576) : OutB (crashF fs keep) := by
  unfold crashF
  split
  · rename_i q
    have := val_len q.1
    refine ⟨by simp only [List.length_map]; omega, fun p hp => ?_⟩
    obtain ⟨f, hf, rfl⟩ := List.mem_map.1 hp
    have := h f hf
    exact ⟨this.1, by show (f.dt.take _).length ≤ _; rw [List.length_take]; omega⟩
  · exact OutB.bad
end Go.Proofs.YtfhpgfbakimmhaaE
