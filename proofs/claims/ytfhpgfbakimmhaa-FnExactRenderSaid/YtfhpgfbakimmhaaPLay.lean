/- Layout of documents, in plain lists. No program stands here. -/
import Derived.Test.YtfhpgfbakimmhaaPTw
namespace Go.Proofs.YtfhpgfbakimmhaaE
set_option linter.unusedVariables false

def GoodD : DocT → Prop
  | .nil => True
  | .text t => 0 ≤ tw t
  | .line k => 2 ≤ k ∧ k ≤ 5
  | .cat l r => GoodD l ∧ GoodD r
  | .alt l r => GoodD l ∧ GoodD r
  | .nest d n => 0 ≤ n ∧ GoodD d
  | .group d _ => GoodD d
theorem GoodD.nn : ∀ {d : DocT}, GoodD d → NnD d
  | .nil, _ => trivial
  | .text _, _ => trivial
  | .line _, _ => trivial
  | .cat l r, h => ⟨h.1.nn, h.2.nn⟩
  | .alt l r, h => ⟨h.1.nn, h.2.nn⟩
  | .nest d n, h => ⟨h.1, h.2.nn⟩
  | .group d _, h => GoodD.nn (d := d) h
def GrD (k : Nat) : DocT → Prop
  | .cat l r => GrD k l ∧ GrD k r
  | .alt l r => GrD k l ∧ GrD k r
  | .nest d _ => GrD k d
  | .group d g => g < k ∧ GrD k d
  | _ => True
/-- all bytes of the texts, and one for each element -/
def DocT.tl : DocT → Nat
  | .nil => 1
  | .text t => t.length + 1
  | .line _ => 1
  | .cat l r => l.tl + r.tl + 1
  | .alt l r => l.tl + r.tl + 1
  | .nest d _ => d.tl + 1
  | .group d _ => d.tl + 1
def fwD : DocT → Int
  | .nil => 0
  | .text t => tw t
  | .line k => if k = 2 then 1 else if k = 4 ∨ k = 5 then -1 else 0
  | .cat l r => if fwD l < 0 then -1 else if fwD r < 0 then -1 else fwD l + fwD r
  | .alt _ r => fwD r
  | .nest d _ => fwD d
  | .group d _ => fwD d
theorem fw_flat : ∀ {d : DocT}, GoodD d → (∀ t, flatD d = some t → fwD d = tw t ∧ 0 ≤ tw t) ∧ (flatD d = none → fwD d = -1)
  | .nil, _ => ⟨fun t h => by cases h; exact ⟨tw_nil.symm, Int.le_of_eq tw_nil.symm⟩, fun h => by cases h⟩
  | .text t, hg => ⟨fun t' h => by cases h; exact ⟨rfl, hg⟩, fun h => by cases h⟩
  | .line k, hg => by
    have hk : k = 2 ∨ k = 3 ∨ k = 4 ∨ k = 5 := by have := hg.1; have := hg.2; omega
    rcases hk with rfl | rfl | rfl | rfl
    · exact ⟨fun t h => by cases h; exact ⟨tw_sp.symm, by rw [tw_sp]; decide⟩, fun h => by cases h⟩
    · exact ⟨fun t h => by cases h; exact ⟨tw_nil.symm, Int.le_of_eq tw_nil.symm⟩, fun h => by cases h⟩
    · exact ⟨(fun t h => by cases h), fun _ => rfl⟩
    · exact ⟨(fun t h => by cases h), fun _ => rfl⟩
  | .cat l r, hg => by
    obtain ⟨a1, a2⟩ := fw_flat hg.1
    obtain ⟨b1, b2⟩ := fw_flat hg.2
    simp only [flatD, fwD]
    cases hl : flatD l with
    | none => exact ⟨(fun t h => by cases h), fun _ => by rw [if_pos (by rw [a2 hl]; decide)]⟩
    | some x =>
      obtain ⟨c1, c2⟩ := a1 x hl
      rw [c1, if_neg (by omega)]
      cases hr : flatD r with
      | none => exact ⟨(fun t h => by cases h), fun _ => by rw [if_pos (by rw [b2 hr]; decide)]⟩
      | some y =>
        obtain ⟨d1, d2⟩ := b1 y hr
        rw [d1, if_neg (by omega)]
        refine ⟨fun t h => ?_, fun h => by cases h⟩
        cases h
        rw [tw_app c2, if_neg (by omega)]
        exact ⟨rfl, by omega⟩
  | .alt l r, hg => fw_flat (d := r) hg.2
  | .nest d n, hg => fw_flat (d := d) hg.2
  | .group d g, hg => fw_flat (d := d) hg
theorem fw_bound : ∀ {d : DocT}, GoodD d → -1 ≤ fwD d ∧ fwD d ≤ d.tl
  | .nil, _ => ⟨by decide, by decide⟩
  | .text t, h => ⟨tw_ge t, by have := tw_le t; simp only [fwD, DocT.tl]; omega⟩
  | .line k, _ => by simp only [fwD, DocT.tl]; (repeat' split) <;> omega
  | .cat l r, h => by
    have a := fw_bound h.1
    have b := fw_bound h.2
    simp only [fwD, DocT.tl]
    (repeat' split) <;> omega
  | .alt l r, h => by have a := fw_bound h.2; simp only [fwD, DocT.tl]; omega
  | .nest d n, h => by have a := fw_bound h.2; simp only [fwD, DocT.tl]; omega
  | .group d g, h => by have a := fw_bound (d := d) h; simp only [fwD, DocT.tl]; omega
theorem lead_bound : ∀ {d : DocT}, GoodD d → 0 ≤ (leadD d).1 ∧ (leadD d).1 ≤ d.tl
  | .nil, _ => ⟨by decide, by decide⟩
  | .text t, h => ⟨h, by have := tw_le t; simp only [leadD, DocT.tl]; omega⟩
  | .line k, _ => ⟨Int.le_refl _, by simp only [leadD, DocT.tl]; omega⟩
  | .cat l r, h => by
    have a := lead_bound h.1
    have b := lead_bound h.2
    simp only [leadD, DocT.tl]
    split <;> (simp only []; omega)
  | .alt l r, h => by have a := lead_bound h.1; simp only [leadD, DocT.tl]; omega
  | .nest d n, h => by have a := lead_bound h.2; simp only [leadD, DocT.tl]; omega
  | .group d g, h => by have a := lead_bound (d := d) h; simp only [leadD, DocT.tl]; omega
theorem flat_len_le : ∀ {d : DocT} {t : List Int}, flatD d = some t → t.length ≤ d.tl
  | .nil, t, h => by cases h; simp [DocT.tl]
  | .text x, t, h => by cases h; simp [DocT.tl]
  | .line k, t, h => by
    simp only [flatD] at h
    split at h
    · cases h; simp [DocT.tl]
    · split at h
      · cases h; simp
      · cases h
  | .cat l r, t, h => by
    simp only [flatD] at h
    cases hl : flatD l with
    | none => rw [hl] at h; cases h
    | some x =>
      rw [hl] at h
      cases hr : flatD r with
      | none => rw [hr] at h; cases h
      | some y =>
        rw [hr] at h
        cases h
        have a := flat_len_le hl
        have b := flat_len_le hr
        simp only [List.length_append, DocT.tl]; omega
  | .alt l r, t, h => by have a := flat_len_le (d := r) h; simp only [DocT.tl]; omega
  | .nest d n, t, h => by have a := flat_len_le (d := d) h; simp only [DocT.tl]; omega
  | .group d g, t, h => by have a := flat_len_le (d := d) h; simp only [DocT.tl]; omega
/-! ## the run -/
abbrev ItD := DocT × Int
structure LS where
  out : List Int
  col : Int
  met : List Int
def markF : DocT → List Int → List Int
  | .cat l r, m => markF r (markF l m)
  | .alt _ r, m => markF r m
  | .nest d _, m => markF d m
  | .group d g, m => markF d (m.set g 1)
  | _, m => m
theorem markF_len : ∀ (d : DocT) (m : List Int), (markF d m).length = m.length
  | .nil, m => rfl
  | .text _, m => rfl
  | .line _, m => rfl
  | .cat l r, m => by rw [markF, markF_len r, markF_len l]
  | .alt _ r, m => by rw [markF, markF_len r]
  | .nest d _, m => by rw [markF, markF_len d]
  | .group d g, m => by rw [markF, markF_len d, List.length_set]
def behindD : List ItD → Int
  | [] => 0
  | x :: r => if (leadD x.1).2 = true then (leadD x.1).1 else (leadD x.1).1 + behindD r
def sumS (l : List ItD) : Nat := (l.map fun x => x.1.size).sum
def sumT (l : List ItD) : Nat := (l.map fun x => x.1.tl).sum
theorem behind_bound : ∀ {l : List ItD}, (∀ x ∈ l, GoodD x.1) → 0 ≤ behindD l ∧ behindD l ≤ sumT l
  | [], _ => ⟨Int.le_refl _, by simp [behindD, sumT]⟩
  | x :: r, h => by
    have a := lead_bound (h x (by simp))
    have b := behind_bound (l := r) fun y hy => h y (by simp [hy])
    simp only [behindD, sumT, List.map_cons, List.sum_cons] at b ⊢
    split <;> omega
abbrev ChT := DocT → Nat → LS → List ItD → Option Bool
def spaces (n : Int) : List Int := List.replicate n.toNat 32
def flatT (d : DocT) : List Int := (flatD d).getD []
def layN (ch : ChT) : Nat → List ItD → LS → Option LS
  | _, [], s => some s
  | 0, _ :: _, _ => none
  | k + 1, (.nil, _) :: r, s => layN ch k r s
  | k + 1, (.text t, _) :: r, s => layN ch k r ⟨s.out ++ t, s.col + tw t, s.met⟩
  | k + 1, (.line kd, ind) :: r, s => layN ch k r (if kd = 5 then ⟨s.out ++ [10], 0, s.met⟩ else ⟨s.out ++ [10] ++ spaces ind, ind, s.met⟩)
  | k + 1, (.cat x y, ind) :: r, s => layN ch k ((x, ind) :: (y, ind) :: r) s
  | k + 1, (.alt x _, ind) :: r, s => layN ch k ((x, ind) :: r) s
  | k + 1, (.nest d n, ind) :: r, s => layN ch k ((d, ind + n) :: r) s
  | k + 1, (.group d g, ind) :: r, s =>
    match ch d g s r with
    | none => none
    | some true => layN ch k r ⟨s.out ++ flatT d, s.col + fwD d, markF (.group d g) s.met⟩
    | some false => layN ch k ((d, ind) :: r) ⟨s.out, s.col, s.met.set g 2⟩
theorem size_pos (d : DocT) : 0 < d.size := by cases d <;> simp only [DocT.size] <;> omega
theorem sumS_cons (x : ItD) (r : List ItD) : sumS (x :: r) = x.1.size + sumS r := by simp [sumS]
theorem sumT_cons (x : ItD) (r : List ItD) : sumT (x :: r) = x.1.tl + sumT r := by simp [sumT]
theorem layN_more (ch : ChT) : ∀ (k q : Nat) (l : List ItD) (s : LS), sumS l ≤ k → sumS l ≤ q → layN ch k l s = layN ch q l s
  | k, q, [], s, _, _ => by cases k <;> cases q <;> rfl
  | 0, q, x :: r, s, h, _ => by have := size_pos x.1; rw [sumS_cons] at h; omega
  | k + 1, 0, x :: r, s, _, h => by have := size_pos x.1; rw [sumS_cons] at h; omega
  | k + 1, q + 1, (d, ind) :: r, s, h, h2 => by
    rw [sumS_cons] at h h2
    cases d with
    | nil => exact layN_more ch k q r s (by simp only [DocT.size] at h; omega) (by simp only [DocT.size] at h2; omega)
    | text t => exact layN_more ch k q r _ (by simp only [DocT.size] at h; omega) (by simp only [DocT.size] at h2; omega)
    | line kd => exact layN_more ch k q r _ (by simp only [DocT.size] at h; omega) (by simp only [DocT.size] at h2; omega)
    | cat x y => exact layN_more ch k q _ s (by simp only [DocT.size, sumS_cons] at h ⊢; omega) (by simp only [DocT.size, sumS_cons] at h2 ⊢; omega)
    | alt x y => exact layN_more ch k q _ s (by simp only [DocT.size, sumS_cons] at h ⊢; omega) (by simp only [DocT.size, sumS_cons] at h2 ⊢; omega)
    | nest d n => exact layN_more ch k q _ s (by simp only [DocT.size, sumS_cons] at h ⊢; omega) (by simp only [DocT.size, sumS_cons] at h2 ⊢; omega)
    | group d g =>
      simp only [layN]
      cases ch d g s r with
      | none => rfl
      | some b =>
        cases b with
        | true => exact layN_more ch k q r _ (by simp only [DocT.size] at h; omega) (by simp only [DocT.size] at h2; omega)
        | false => exact layN_more ch k q _ _ (by simp only [DocT.size, sumS_cons] at h ⊢; omega) (by simp only [DocT.size, sumS_cons] at h2 ⊢; omega)
def layD (ch : ChT) (l : List ItD) (s : LS) : Option LS := layN ch (sumS l) l s
section
variable {ch : ChT} {r : List ItD} {s : LS} {ind : Int}
theorem lay_end : layD ch [] s = some s := rfl
theorem lay_nil : layD ch ((.nil, ind) :: r) s = layD ch r s := by
  unfold layD; rw [sumS_cons, show DocT.size .nil + sumS r = sumS r + 1 from Nat.add_comm _ _]; rfl
theorem lay_text {t : List Int} : layD ch ((.text t, ind) :: r) s = layD ch r ⟨s.out ++ t, s.col + tw t, s.met⟩ := by
  unfold layD; rw [sumS_cons, show DocT.size (.text t) + sumS r = sumS r + 1 from Nat.add_comm _ _]; rfl
theorem lay_line {kd : Int} : layD ch ((.line kd, ind) :: r) s = layD ch r (if kd = 5 then ⟨s.out ++ [10], 0, s.met⟩ else ⟨s.out ++ [10] ++ spaces ind, ind, s.met⟩) := by
  unfold layD; rw [sumS_cons, show DocT.size (.line kd) + sumS r = sumS r + 1 from Nat.add_comm _ _]; rfl
theorem lay_cat {x y : DocT} : layD ch ((.cat x y, ind) :: r) s = layD ch ((x, ind) :: (y, ind) :: r) s := by
  unfold layD; rw [sumS_cons, show DocT.size (.cat x y) + sumS r = (x.size + y.size + sumS r) + 1 by simp only [DocT.size]; omega]
  show layN ch (x.size + y.size + sumS r) ((x, ind) :: (y, ind) :: r) s = _
  exact layN_more ch _ _ _ s  (by simp only [sumS_cons]; omega) (Nat.le_refl _)
theorem lay_alt {x y : DocT} : layD ch ((.alt x y, ind) :: r) s = layD ch ((x, ind) :: r) s := by
  unfold layD; rw [sumS_cons, show DocT.size (.alt x y) + sumS r = (x.size + y.size + sumS r) + 1 by simp only [DocT.size]; omega]
  show layN ch (x.size + y.size + sumS r) ((x, ind) :: r) s = _
  exact layN_more ch _ _ _ s  (by simp only [sumS_cons]; omega) (Nat.le_refl _)
theorem lay_nest {d : DocT} {n : Int} : layD ch ((.nest d n, ind) :: r) s = layD ch ((d, ind + n) :: r) s := by
  unfold layD; rw [sumS_cons, show DocT.size (.nest d n) + sumS r = (d.size + sumS r) + 1 by simp only [DocT.size]; omega]
  show layN ch (d.size + sumS r) ((d, ind + n) :: r) s = _
  exact layN_more ch _ _ _ s  (by simp only [sumS_cons]; omega) (Nat.le_refl _)
theorem lay_group {d : DocT} {g : Nat} : layD ch ((.group d g, ind) :: r) s = (match ch d g s r with
    | none => none
    | some true => layD ch r ⟨s.out ++ flatT d, s.col + fwD d, markF (.group d g) s.met⟩
    | some false => layD ch ((d, ind) :: r) ⟨s.out, s.col, s.met.set g 2⟩) := by
  unfold layD; rw [sumS_cons, show DocT.size (.group d g) + sumS r = (d.size + sumS r) + 1 by simp only [DocT.size]; omega]
  simp only [layN]
  cases ch d g s r with
  | none => rfl
  | some b =>
    cases b with
    | true => exact layN_more ch _ _ _ _ (by omega) (Nat.le_refl _)
    | false => exact layN_more ch _ _ _ _ (by simp only [sumS_cons]; omega) (Nat.le_refl _)
end
/-! ## bounds -/
structure LayB (T S : Nat) (l : List ItD) (s : LS) : Prop where
  col0 : 0 ≤ s.col
  col : s.col + (sumT l : Nat) ≤ (T : Int) + 4000
  tl : sumT l ≤ T
  out : s.out.length + sumT l + 4001 * sumS l ≤ T + 4001 * S
  good : ∀ x ∈ l, GoodD x.1 ∧ 0 ≤ x.2 ∧ x.2 + x.1.nestD ≤ 4000 ∧ GrD s.met.length x.1
section
variable {T S : Nat} {r : List ItD} {s : LS} {ind : Int}
theorem LayB.rest {x : ItD} (h : LayB T S (x :: r) s) : ∀ y ∈ r, GoodD y.1 ∧ 0 ≤ y.2 ∧ y.2 + y.1.nestD ≤ 4000 ∧ GrD s.met.length y.1 := fun y hy => h.good y (by simp [hy])
theorem LayB.nil (h : LayB T S ((.nil, ind) :: r) s) : LayB T S r s := by
  obtain ⟨a, b, c, d, e⟩ := h
  simp only [sumT_cons, sumS_cons, DocT.tl, DocT.size] at b c d
  exact ⟨a, by omega, by omega, by omega, fun y hy => e y (by simp [hy])⟩
theorem LayB.text {t : List Int} (h : LayB T S ((.text t, ind) :: r) s) : LayB T S r ⟨s.out ++ t, s.col + tw t, s.met⟩ := by
  obtain ⟨a, b, c, d, e⟩ := h
  have h1 : 0 ≤ tw t := (e (.text t, ind) (by simp)).1
  have h2 := tw_le t
  simp only [sumT_cons, sumS_cons, DocT.tl, DocT.size] at b c d
  exact ⟨by show 0 ≤ s.col + tw t; omega, by show s.col + tw t + _ ≤ _; omega, by omega, by simp only [List.length_append]; omega, fun y hy => e y (by simp [hy])⟩
theorem LayB.line {kd : Int} (h : LayB T S ((.line kd, ind) :: r) s) : LayB T S r (if kd = 5 then ⟨s.out ++ [10], 0, s.met⟩ else ⟨s.out ++ [10] ++ spaces ind, ind, s.met⟩) := by
  obtain ⟨a, b, c, d, e⟩ := h
  have h1 := e (.line kd, ind) (by simp)
  have h2 : 0 ≤ ind := h1.2.1
  have h3 : ind + 0 ≤ 4000 := h1.2.2.1
  simp only [sumT_cons, sumS_cons, DocT.tl, DocT.size] at b c d
  split
  · exact ⟨Int.le_refl _, by simp only []; omega, by omega, by simp only [List.length_append, List.length_cons, List.length_nil]; omega, fun y hy => e y (by simp [hy])⟩
  · exact ⟨h2, by simp only []; omega, by omega, by simp only [List.length_append, List.length_cons, List.length_nil, spaces, List.length_replicate]; omega, fun y hy => e y (by simp [hy])⟩
theorem LayB.cat {x y : DocT} (h : LayB T S ((.cat x y, ind) :: r) s) : LayB T S ((x, ind) :: (y, ind) :: r) s := by
  obtain ⟨a, b, c, d, e⟩ := h
  have h1 := e (.cat x y, ind) (by simp)
  simp only [sumT_cons, sumS_cons, DocT.tl, DocT.size] at b c d
  have h4 := h1.2.2.1
  simp only [DocT.nestD] at h4
  refine ⟨a, by simp only [sumT_cons]; omega, by simp only [sumT_cons]; omega, by simp only [sumT_cons, sumS_cons]; omega, fun z hz => ?_⟩
  rcases List.mem_cons.1 hz with rfl | hz
  · exact ⟨h1.1.1, h1.2.1, by show ind + x.nestD ≤ 4000; omega, h1.2.2.2.1⟩
  · rcases List.mem_cons.1 hz with rfl | hz
    · exact ⟨h1.1.2, h1.2.1, by show ind + y.nestD ≤ 4000; omega, h1.2.2.2.2⟩
    · exact e z (by simp [hz])
theorem LayB.alt {x y : DocT} (h : LayB T S ((.alt x y, ind) :: r) s) : LayB T S ((x, ind) :: r) s := by
  obtain ⟨a, b, c, d, e⟩ := h
  have h1 := e (.alt x y, ind) (by simp)
  simp only [sumT_cons, sumS_cons, DocT.tl, DocT.size] at b c d
  have h4 := h1.2.2.1
  simp only [DocT.nestD] at h4
  refine ⟨a, by simp only [sumT_cons]; omega, by simp only [sumT_cons]; omega, by simp only [sumT_cons, sumS_cons]; omega, fun z hz => ?_⟩
  rcases List.mem_cons.1 hz with rfl | hz
  · exact ⟨h1.1.1, h1.2.1, by show ind + x.nestD ≤ 4000; omega, h1.2.2.2.1⟩
  · exact e z (by simp [hz])
theorem LayB.nest {d : DocT} {n : Int} (h : LayB T S ((.nest d n, ind) :: r) s) : LayB T S ((d, ind + n) :: r) s := by
  obtain ⟨a, b, c, f, e⟩ := h
  have h1 := e (.nest d n, ind) (by simp)
  simp only [sumT_cons, sumS_cons, DocT.tl, DocT.size] at b c f
  have h4 := h1.2.2.1
  have h5 := h1.2.1
  have h6 := h1.1.1
  simp only [DocT.nestD] at h4
  refine ⟨a, by simp only [sumT_cons]; omega, by simp only [sumT_cons]; omega, by simp only [sumT_cons, sumS_cons]; omega, fun z hz => ?_⟩
  rcases List.mem_cons.1 hz with rfl | hz
  · exact ⟨h1.1.2, by show 0 ≤ ind + n; omega, by show ind + n + d.nestD ≤ 4000; omega, h1.2.2.2⟩
  · exact e z (by simp [hz])
theorem LayB.broken {d : DocT} {g : Nat} (h : LayB T S ((.group d g, ind) :: r) s) : LayB T S ((d, ind) :: r) ⟨s.out, s.col, s.met.set g 2⟩ := by
  obtain ⟨a, b, c, f, e⟩ := h
  have h1 := e (.group d g, ind) (by simp)
  simp only [sumT_cons, sumS_cons, DocT.tl, DocT.size] at b c f
  refine ⟨a, by simp only [sumT_cons]; omega, by simp only [sumT_cons]; omega, by simp only [sumT_cons, sumS_cons]; omega, fun z hz => ?_⟩
  simp only [List.length_set]
  rcases List.mem_cons.1 hz with rfl | hz
  · exact ⟨h1.1, h1.2.1, h1.2.2.1, h1.2.2.2.2⟩
  · exact e z (by simp [hz])
theorem LayB.flat {d : DocT} {g : Nat} (h : LayB T S ((.group d g, ind) :: r) s) (hf : 0 ≤ fwD d) : LayB T S r ⟨s.out ++ flatT d, s.col + fwD d, markF (.group d g) s.met⟩ := by
  obtain ⟨a, b, c, f, e⟩ := h
  have h1 := e (.group d g, ind) (by simp)
  have hb := fw_bound (d := d) h1.1
  have hl : (flatT d).length ≤ d.tl := by
    unfold flatT
    cases hq : flatD d with
    | none => simp
    | some t => exact flat_len_le hq
  simp only [sumT_cons, sumS_cons, DocT.tl, DocT.size] at b c f
  refine ⟨by show 0 ≤ s.col + fwD d; omega, by show s.col + fwD d + _ ≤ _; omega, by omega, by simp only [List.length_append]; omega, fun z hz => ?_⟩
  rw [markF_len]
  exact e z (by simp [hz])
end
/-! ## choices -/
def chW (width : Int) : ChT := fun d g s r => some (decide (0 ≤ fwD d ∧ s.col + fwD d + behindD r ≤ width))
def chG (cs : List Int) : ChT := fun d g s r => if cs.getD g 0 = 1 then (if 0 ≤ fwD d then some true else none) else if cs.getD g 0 = 2 then some false else none
def layoutF (ps : List PieceP) (width : Int) : List Int × List Int × Int :=
  match validD ps with
  | some (d, g) => if 0 ≤ width ∧ width ≤ 65535 then (match layD (chW width) [(d, 0)] ⟨[], 0, List.replicate g 0⟩ with | some s => (s.out, s.met, 0) | none => ([], [], 1)) else ([], [], 1)
  | none => ([], [], 1)
def renderF (ps : List PieceP) (cs : List Int) : List Int × Int :=
  match validD ps with
  | some (d, g) => if cs.length = g then (match layD (chG cs) [(d, 0)] ⟨[], 0, List.replicate g 0⟩ with | some s => if s.met = cs then (s.out, 0) else ([], 1) | none => ([], 1)) else ([], 1)
  | none => ([], 1)
end Go.Proofs.YtfhpgfbakimmhaaE
