/- What the functions over lists of files come to, in plain lists. -/
import Derived.Test.YtfhpgfbakimmhaaTMut3
namespace Go.Proofs.YtfhpgfbakimmhaaE
open Go Go.RowKit
set_option linter.unusedVariables false

def withoutP (ps : List FileP) (nm : List Int) : List FileP := ps.filter fun p => decide (p.nm ≠ nm)
def insP (f : FileP) : List FileP → List FileP
  | [] => [f]
  | g :: r => if cmpB g.nm f.nm > 0 then f :: g :: r else g :: insP f r
def withP (ps : List FileP) (f : FileP) : List FileP := insP f (withoutP ps f.nm)
def okNm (nm : List Int) : Prop := 1 ≤ nm.length ∧ nm.length ≤ 100
instance (nm : List Int) : Decidable (okNm nm) := by unfold okNm; exact inferInstance
def findP (ps : List FileP) (nm : List Int) : Option FileP := ps.find? fun f => decide (f.nm = nm)
def removeF (ps : List FileP) (nm : List Int) : List FileP × Int :=
  if validF ps = true ∧ okNm nm then (match findP ps nm with | some f => (withoutP ps nm, 0) | none => (ps, 5)) else ([], 1)
def syncF (ps : List FileP) (nm : List Int) : List FileP × Int :=
  if validF ps = true ∧ okNm nm then (match findP ps nm with | some f => (withP ps ⟨f.nm, f.dt, f.dt.length⟩, 0) | none => (ps, 5)) else ([], 1)
def writeF (ps : List FileP) (nm ds : List Int) : List FileP × Int :=
  if validF ps = true ∧ okNm nm then (if (withP ps ⟨nm, ds, 0⟩).length > 50 then (ps, 6) else (withP ps ⟨nm, ds, 0⟩, 0)) else ([], 1)
def renameF (ps : List FileP) (nm to : List Int) : List FileP × Int :=
  if validF ps = true ∧ okNm nm ∧ okNm to then (match findP ps nm with | some f => (withP (withoutP ps nm) ⟨to, f.dt, f.sf⟩, 0) | none => (ps, 5)) else ([], 1)
/-! ## in sorted lists -/
def SrtP (ps : List FileP) : Prop := ps.Pairwise fun f g => cmpB f.nm g.nm < 0
theorem srtP_of {fs : List FileG} (h : Srt fs) : SrtP (fs.map FileG.p) := by
  unfold SrtP
  rw [List.pairwise_map, List.pairwise_iff_getElem]
  intro i j hi hj hij
  exact h i j _ _ hij (List.getElem?_eq_getElem hi) (List.getElem?_eq_getElem hj)
theorem srt_of {fs : List FileG} (h : SrtP (fs.map FileG.p)) : Srt fs := by
  unfold SrtP at h
  rw [List.pairwise_map, List.pairwise_iff_getElem] at h
  intro i j f g hij hf hg
  obtain ⟨hi, rfl⟩ := List.getElem?_eq_some_iff.1 hf
  obtain ⟨hj, rfl⟩ := List.getElem?_eq_some_iff.1 hg
  exact h i j hi hj hij
theorem SrtP.mid {a b : List FileP} {f : FileP} (h : SrtP (a ++ f :: b)) : SrtP (a ++ b) := h.sublist (List.Sublist.append (List.Sublist.refl _) (List.sublist_cons_self f b))
/-- a name stands between a and b -/
structure LowP (a b : List FileP) (nm : List Int) : Prop where
  lo : ∀ p ∈ a, cmpB p.nm nm < 0
  hi : ∀ p ∈ b, 0 < cmpB p.nm nm
theorem without_none {ps : List FileP} {nm : List Int} (h : ∀ p ∈ ps, p.nm ≠ nm) : withoutP ps nm = ps := List.filter_eq_self.2 fun p hp => decide_eq_true (h p hp)
theorem LowP.without {a b : List FileP} {nm : List Int} (h : LowP a b nm) : withoutP (a ++ b) nm = a ++ b := without_none fun p hp e => by
  rcases List.mem_append.1 hp with q | q
  · have := h.lo p q; rw [e, cmpB_refl] at this; omega
  · have := h.hi p q; rw [e, cmpB_refl] at this; omega
theorem LowP.without1 {a b : List FileP} {f : FileP} {nm : List Int} (h : LowP a b nm) (e : f.nm = nm) : withoutP (a ++ f :: b) nm = a ++ b := by
  have h0 := h.without
  unfold withoutP at h0 ⊢
  rw [List.filter_append] at h0 ⊢
  rw [List.filter_cons_of_neg (by simp [e])]
  exact h0
theorem LowP.ins {f : FileP} : ∀ {a b : List FileP}, LowP a b f.nm → insP f (a ++ b) = a ++ f :: b
  | [], [], _ => rfl
  | [], g :: b, h => by
    have := h.hi g (by simp)
    show insP f (g :: b) = _
    rw [insP, if_pos this]; rfl
  | g :: a, b, h => by
    have := h.lo g (by simp)
    have ih := LowP.ins (f := f) (a := a) (b := b) ⟨fun p hp => h.lo p (by simp [hp]), h.hi⟩
    rw [List.cons_append, insP, if_neg (by omega), ih]; rfl
theorem LowP.with0 {a b : List FileP} {f : FileP} (h : LowP a b f.nm) : withP (a ++ b) f = a ++ f :: b := by unfold withP; rw [h.without, h.ins]
theorem LowP.with1 {a b : List FileP} {f g : FileP} (h : LowP a b f.nm) (e : g.nm = f.nm) : withP (a ++ g :: b) f = a ++ f :: b := by unfold withP; rw [h.without1 e, h.ins]
theorem low_split {fs : List FileG} {nm : List Int} {i0 : Nat} (hs : Srt fs) (hl : LowF fs nm i0) : (hitF fs nm i0 = false ∧ ∃ a b, fs = a ++ b ∧ i0 = a.length ∧ LowP (a.map FileG.p) (b.map FileG.p) nm) ∨ (hitF fs nm i0 = true ∧ ∃ a f b, fs = a ++ f :: b ∧ i0 = a.length ∧ f.nm = nm ∧ LowP (a.map FileG.p) (b.map FileG.p) nm) := by
  have hsp : fs = fs.take i0 ++ fs.drop i0 := (List.take_append_drop _ _).symm
  have hlen : (fs.take i0).length = i0 := by rw [List.length_take]; have := hl.le; omega
  have ha : ∀ p ∈ (fs.take i0).map FileG.p, cmpB p.nm nm < 0 := by
    intro p hp
    obtain ⟨f, hf, rfl⟩ := List.mem_map.1 hp
    obtain ⟨k, hk, rfl⟩ := List.getElem_of_mem hf
    rw [hlen] at hk
    exact hl.lo k _ (by rw [List.getElem_take]; exact List.getElem?_eq_getElem _) hk
  cases hh : hitF fs nm i0 with
  | false =>
    left
    refine ⟨rfl, fs.take i0, fs.drop i0, hsp, hlen.symm, ha, fun p hp => ?_⟩
    obtain ⟨f, hf, rfl⟩ := List.mem_map.1 hp
    obtain ⟨k, hk, rfl⟩ := List.getElem_of_mem hf
    rw [List.length_drop] at hk
    have hg : fs[i0 + k]? = some ((fs.drop i0)[k]'(by rw [List.length_drop]; exact hk)) := by rw [List.getElem_drop]; exact List.getElem?_eq_getElem _
    have h1 := hl.hi (i0 + k) _ hg (by omega)
    have hne : cmpB ((fs.drop i0)[k]'(by rw [List.length_drop]; exact hk)).nm nm ≠ 0 := by
      intro e
      have e := (cmpB_eq _ _).1 e
      have hnone := hit_none hs hl hh
      unfold findF at hnone
      have := List.find?_eq_none.1 hnone _ (List.mem_of_getElem? hg)
      rw [List.getElem_drop] at e this
      simp [e] at this
    show 0 < cmpB ((fs.drop i0)[k]'(by rw [List.length_drop]; exact hk)).nm nm
    omega
  | true =>
    right
    obtain ⟨f, hf, he, _⟩ := hit_some hl hh
    have hi := (List.getElem?_eq_some_iff.1 hf).1
    refine ⟨rfl, fs.take i0, f, fs.drop (i0 + 1), ?_, hlen.symm, he, ha, fun p hp => ?_⟩
    · rw [← (List.getElem?_eq_some_iff.1 hf).2, ← List.drop_eq_getElem_cons hi]; exact hsp
    · obtain ⟨g, hg, rfl⟩ := List.mem_map.1 hp
      obtain ⟨k, hk, rfl⟩ := List.getElem_of_mem hg
      rw [List.length_drop] at hk
      have hg : fs[i0 + 1 + k]? = some ((fs.drop (i0 + 1))[k]'(by rw [List.length_drop]; exact hk)) := by rw [List.getElem_drop]; exact List.getElem?_eq_getElem _
      have h1 := hs i0 (i0 + 1 + k) f _ (by omega) hf hg
      have h2 := cmpB_neg f.nm ((fs.drop (i0 + 1))[k]'(by rw [List.length_drop]; exact hk)).nm
      rw [he] at h1 h2
      show 0 < cmpB ((fs.drop (i0 + 1))[k]'(by rw [List.length_drop]; exact hk)).nm nm
      omega
theorem findP_low {a b : List FileP} {nm : List Int} (h : LowP a b nm) : findP (a ++ b) nm = none := List.find?_eq_none.2 fun p hp => by
  have := h.without
  have h2 := (List.filter_eq_self.1 this) p hp
  simpa using h2
theorem findP_hit {a b : List FileP} {f : FileP} {nm : List Int} (h : LowP a b nm) (e : f.nm = nm) : findP (a ++ f :: b) nm = some f := by
  unfold findP
  rw [List.find?_append, List.find?_eq_none.2 (fun p hp => ?_)]
  · simp [e]
  · have := h.lo p hp
    simp only [decide_eq_true_eq]
    intro q; rw [q, cmpB_refl] at this; omega
end Go.Proofs.YtfhpgfbakimmhaaE
