/- The sizes of what FsRemove, FsSync, FsWrite and FsRename answer. -/
import Derived.Test.YtfhpgfbakimmhaaTFs1
import Derived.Test.YtfhpgfbakimmhaaTFs2
import Derived.Test.YtfhpgfbakimmhaaLawFsOut
namespace Go.Proofs.YtfhpgfbakimmhaaE
open Go Go.RowKit
set_option linter.unusedVariables false

abbrev EachB (ps : List FileP) : Prop := ∀ p ∈ ps, p.nm.length ≤ 1048576 ∧ p.dt.length ≤ 1048576
theorem without_each {ps : List FileP} {nm : List Int} (h : EachB ps) : EachB (withoutP ps nm) := fun p hp => h p (List.mem_filter.1 hp).1
theorem without_len (ps : List FileP) (nm : List Int) : (withoutP ps nm).length ≤ ps.length := List.length_filter_le _ _
theorem ins_mem {f p : FileP} : ∀ {ps : List FileP}, p ∈ insP f ps → p = f ∨ p ∈ ps
  | [], h => .inl (by simpa [insP] using h)
  | g :: r, h => by
    rw [insP] at h
    split at h
    · rcases List.mem_cons.1 h with q | q
      · exact .inl q
      · exact .inr q
    · rcases List.mem_cons.1 h with q | q
      · exact .inr (by simp [q])
      · rcases ins_mem q with q | q
        · exact .inl q
        · exact .inr (by simp [q])
theorem ins_len (f : FileP) : ∀ ps : List FileP, (insP f ps).length = ps.length + 1
  | [] => rfl
  | g :: r => by
    rw [insP]
    split
    · rfl
    · rw [List.length_cons, ins_len f r, List.length_cons]
theorem with_each {ps : List FileP} {f : FileP} (h : EachB ps) (hf : f.nm.length ≤ 1048576 ∧ f.dt.length ≤ 1048576) : EachB (withP ps f) := fun p hp => by
  rcases ins_mem hp with rfl | q
  · exact hf
  · exact without_each h p q
theorem with_len (ps : List FileP) (f : FileP) : (withP ps f).length ≤ ps.length + 1 := by
  unfold withP; rw [ins_len]; have := without_len ps f.nm; omega
section
variable {ps : List FileP} {nm ds : List Int}
theorem find_each {f : FileP} (h : EachB ps) (e : findP ps nm = some f) : f.nm.length ≤ 1048576 ∧ f.dt.length ≤ 1048576 := h f (List.mem_of_find?_eq_some e)
theorem removeF_out (h : EachB ps) : OutB (removeF ps nm) := by
  unfold removeF
  split
  · rename_i q
    have hl := val_len q.1
    split
    · exact ⟨by have := without_len ps nm; show (withoutP ps nm).length ≤ _; omega, without_each h⟩
    · exact ⟨by show ps.length ≤ _; omega, h⟩
  · exact OutB.bad
theorem syncF_out (h : EachB ps) : OutB (syncF ps nm) := by
  unfold syncF
  split
  · rename_i q
    have hl := val_len q.1
    split
    · rename_i f e
      exact ⟨by have := with_len ps ⟨f.nm, f.dt, f.dt.length⟩; show (withP ps _).length ≤ _; omega, with_each h (f := ⟨f.nm, f.dt, f.dt.length⟩) ⟨(find_each h e).1, (find_each h e).2⟩⟩
    · exact ⟨by show ps.length ≤ _; omega, h⟩
  · exact OutB.bad
theorem writeF_out (h : EachB ps) (hn : nm.length ≤ 1048576) (hd : ds.length ≤ 1048576) : OutB (writeF ps nm ds) := by
  unfold writeF
  split
  · rename_i q
    have hl := val_len q.1
    split
    · exact ⟨by show ps.length ≤ _; omega, h⟩
    · exact ⟨by have := with_len ps ⟨nm, ds, 0⟩; show (withP ps _).length ≤ _; omega, with_each h ⟨hn, hd⟩⟩
  · exact OutB.bad
theorem renameF_out (h : EachB ps) (hd : ds.length ≤ 1048576) : OutB (renameF ps nm ds) := by
  unfold renameF
  split
  · rename_i q
    have hl := val_len q.1
    split
    · rename_i f e
      exact ⟨by have := with_len (withoutP ps nm) ⟨ds, f.dt, f.sf⟩; have := without_len ps nm; show (withP _ _).length ≤ _; omega, with_each (without_each h) ⟨hd, (find_each h e).2⟩⟩
    · exact ⟨by show ps.length ≤ _; omega, h⟩
  · exact OutB.bad
end
end Go.Proofs.YtfhpgfbakimmhaaE
