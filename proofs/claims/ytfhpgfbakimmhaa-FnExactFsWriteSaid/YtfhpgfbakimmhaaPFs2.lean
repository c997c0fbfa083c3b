/- What the functions over lists of files come to where a name's place is known. -/
import Derived.Test.YtfhpgfbakimmhaaPFs
namespace Go.Proofs.YtfhpgfbakimmhaaE
open Go Go.RowKit
set_option linter.unusedVariables false

section
variable {a b : List FileP} {f : FileP} {nm ds to : List Int}
theorem removeF_no (hv : validF (a ++ b) = true) (ho : okNm nm) (h : LowP a b nm) : removeF (a ++ b) nm = (a ++ b, 5) := by unfold removeF; rw [if_pos ⟨hv, ho⟩, findP_low h]
theorem removeF_hit (hv : validF (a ++ f :: b) = true) (ho : okNm nm) (h : LowP a b nm) (e : f.nm = nm) : removeF (a ++ f :: b) nm = (a ++ b, 0) := by
  unfold removeF; rw [if_pos ⟨hv, ho⟩, findP_hit h e]
  show (withoutP _ _, _) = _
  rw [h.without1 e]
theorem syncF_no (hv : validF (a ++ b) = true) (ho : okNm nm) (h : LowP a b nm) : syncF (a ++ b) nm = (a ++ b, 5) := by unfold syncF; rw [if_pos ⟨hv, ho⟩, findP_low h]
theorem syncF_hit (hv : validF (a ++ f :: b) = true) (ho : okNm nm) (h : LowP a b nm) (e : f.nm = nm) : syncF (a ++ f :: b) nm = (a ++ ⟨f.nm, f.dt, f.dt.length⟩ :: b, 0) := by
  unfold syncF; rw [if_pos ⟨hv, ho⟩, findP_hit h e]
  show (withP _ _, _) = _
  rw [LowP.with1 (g := f) (f := ⟨f.nm, f.dt, f.dt.length⟩) (by rw [e]; exact h) rfl]
theorem writeF_new (hv : validF (a ++ b) = true) (ho : okNm nm) (h : LowP a b nm) (hl : (a ++ b).length < 50) : writeF (a ++ b) nm ds = (a ++ ⟨nm, ds, 0⟩ :: b, 0) := by
  unfold writeF; rw [if_pos ⟨hv, ho⟩, LowP.with0 (f := ⟨nm, ds, 0⟩) h]
  rw [if_neg (by simp only [List.length_append, List.length_cons] at hl ⊢; omega)]
theorem writeF_full (hv : validF (a ++ b) = true) (ho : okNm nm) (h : LowP a b nm) (hl : 50 ≤ (a ++ b).length) : writeF (a ++ b) nm ds = (a ++ b, 6) := by
  unfold writeF; rw [if_pos ⟨hv, ho⟩, LowP.with0 (f := ⟨nm, ds, 0⟩) h]
  rw [if_pos (by simp only [List.length_append, List.length_cons] at hl ⊢; omega)]
theorem writeF_hit (hv : validF (a ++ f :: b) = true) (ho : okNm nm) (h : LowP a b nm) (e : f.nm = nm) : writeF (a ++ f :: b) nm ds = (a ++ ⟨nm, ds, 0⟩ :: b, 0) := by
  have hl := (of_decide_eq_true hv).1
  unfold writeF; rw [if_pos ⟨hv, ho⟩, LowP.with1 (f := ⟨nm, ds, 0⟩) h e]
  rw [if_neg (by simp only [List.length_append, List.length_cons] at hl ⊢; omega)]
theorem renameF_no (hv : validF (a ++ b) = true) (ho : okNm nm ∧ okNm to) (h : LowP a b nm) : renameF (a ++ b) nm to = (a ++ b, 5) := by unfold renameF; rw [if_pos ⟨hv, ho⟩, findP_low h]
theorem renameF_new {a2 b2 : List FileP} (hv : validF (a ++ f :: b) = true) (ho : okNm nm ∧ okNm to) (h : LowP a b nm) (e : f.nm = nm) (hab : a ++ b = a2 ++ b2) (h2 : LowP a2 b2 to) : renameF (a ++ f :: b) nm to = (a2 ++ ⟨to, f.dt, f.sf⟩ :: b2, 0) := by
  unfold renameF; rw [if_pos ⟨hv, ho⟩, findP_hit h e]
  show (withP (withoutP _ _) _, _) = _
  rw [h.without1 e, hab, LowP.with0 (f := ⟨to, f.dt, f.sf⟩) h2]
theorem renameF_hit {a2 b2 : List FileP} {g : FileP} (hv : validF (a ++ f :: b) = true) (ho : okNm nm ∧ okNm to) (h : LowP a b nm) (e : f.nm = nm) (hab : a ++ b = a2 ++ g :: b2) (h2 : LowP a2 b2 to) (eg : g.nm = to) : renameF (a ++ f :: b) nm to = (a2 ++ ⟨to, f.dt, f.sf⟩ :: b2, 0) := by
  unfold renameF; rw [if_pos ⟨hv, ho⟩, findP_hit h e]
  show (withP (withoutP _ _) _, _) = _
  rw [h.without1 e, hab, LowP.with1 (f := ⟨to, f.dt, f.sf⟩) h2 eg]
end
theorem lowF_of {a b : List FileG} {nm : List Int} (h : LowP (a.map FileG.p) (b.map FileG.p) nm) : LowF (a ++ b) nm a.length := by
  refine ⟨by simp, fun k f hf hk => ?_, fun k f hf hk => ?_⟩
  · rw [List.getElem?_append_left hk] at hf
    exact h.lo f.p (List.mem_map_of_mem (List.mem_of_getElem? hf))
  · rw [List.getElem?_append_right hk] at hf
    exact Int.le_of_lt (h.hi f.p (List.mem_map_of_mem (List.mem_of_getElem? hf)))
end Go.Proofs.YtfhpgfbakimmhaaE
