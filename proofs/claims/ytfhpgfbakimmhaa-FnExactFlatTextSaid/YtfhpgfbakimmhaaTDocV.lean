/- The program's ValidDoc, FlatText, LeadWidth. -/
import Derived.Test.YtfhpgfbakimmhaaTDocO
import Derived.Test.YtfhpgfbakimmhaaTDocI2
import Derived.Test.YtfhpgfbakimmhaaTDocS6
namespace Go.Proofs.YtfhpgfbakimmhaaE
open Go Go.RowKit
set_option linter.unusedVariables false
set_option linter.unusedSimpArgs false
set_option maxRecDepth 100000
set_option maxHeartbeats 8000000

theorem ok_impl_ValidDoc : callOK Try.prog 41 = true := by kernel_rfl
theorem impl_ValidDoc {fs : List PieceG} {A : Option Addr} {n c : Nat} {W : World} (hx : RdPiece W (.slice A n c) n fs) (hl : n ≤ 4294967296) (hb : DocOK fs) : GivesV Try.prog 41 [.slice A n c] W (.bool (validD (fs.map PieceG.p)).isSome) := by
  have H := St.enter W
  refine calls_of_vcV (args := [.slice A n c]) Try.func41 rfl (by kernel_rfl) (Nat.le_of_ble_eq_true rfl) ?_
  refine CallS.mk ok_docOf ((impl_docOf hx hl hb.b).mono ?_)
  rintro e w hR
  cases hv : validD (fs.map PieceG.p) with
  | none =>
    rw [hv] at hR
    obtain ⟨rfl, H⟩ := hR
    exact Exists.intro _ (And.intro rfl (And.intro rfl H))
  | some dg =>
    obtain ⟨d, g⟩ := dg
    rw [hv] at hR
    obtain ⟨D, hD, rfl, hT, H⟩ := hR
    exact Exists.intro _ (And.intro rfl (And.intro rfl H.none))
theorem ok_impl_LeadWidth : callOK Try.prog 47 = true := by kernel_rfl
theorem impl_LeadWidth {fs : List PieceG} {A : Option Addr} {n c : Nat} {W : World} (hx : RdPiece W (.slice A n c) n fs) (hl : n ≤ 4294967296) (hb : DocOK fs) : GivesV Try.prog 47 [.slice A n c] W (.int .i64 (leadF (fs.map PieceG.p))) := by
  have H := St.enter W
  obtain ⟨r, hr⟩ : ∃ r, leadF (fs.map PieceG.p) = r := ⟨_, rfl⟩
  rw [hr]
  unfold leadF at hr
  refine calls_of_vcV (args := [.slice A n c]) Try.func47 rfl (by kernel_rfl) (Nat.le_of_ble_eq_true rfl) ?_
  refine CallS.mk ok_docOf ((impl_docOf hx hl hb.b).mono ?_)
  rintro e w hR
  cases hv : validD (fs.map PieceG.p) with
  | none =>
    rw [hv] at hR hr
    obtain ⟨rfl, H⟩ := hR
    have hr : -1 = r := hr
    subst hr
    refine ifNot ?_
    refine ifF ?_
    exact Exists.intro _ (And.intro rfl (And.intro rfl H))
  | some dg =>
    obtain ⟨d, g⟩ := dg
    have v := validOf hv
    rw [hv] at hR hr
    obtain ⟨D, hD, rfl, hT, H⟩ := hR
    have hr : (leadD d).1 = r := hr
    subst hr
    refine ifNot ?_
    refine ifT ?_
    refine callV ok_lead (impl_lead D (by rw [hD]; exact v.good) (by rw [hD]; exact v.tl) (docAt H (fun it h => h) (hT.ext H.below))) H fun w H => ?_
    rw [hD]
    exact Exists.intro _ (And.intro rfl (And.intro rfl H.none))
theorem ok_impl_FlatText : callOK Try.prog 44 = true := by kernel_rfl
theorem impl_FlatText {fs : List PieceG} {A : Option Addr} {n c : Nat} {W : World} (hx : RdPiece W (.slice A n c) n fs) (hl : n ≤ 4294967296) (hb : DocOK fs) : Calls Try.prog 44 #[.slice A n c] W fun e w => ∃ A' c', e = .returned (.tuple #[.slice A' (flatF (fs.map PieceG.p)).1.length c', .bool (flatF (fs.map PieceG.p)).2]) ∧ St W.heap.size W w [.rowB (.slice A' (flatF (fs.map PieceG.p)).1.length c') (flatF (fs.map PieceG.p)).1] := by
  have H := St.enter W
  obtain ⟨r, hr⟩ : ∃ r, flatF (fs.map PieceG.p) = r := ⟨_, rfl⟩
  rw [hr]
  unfold flatF at hr
  refine calls_of_vcV (args := [.slice A n c]) Try.func44 rfl (by kernel_rfl) (Nat.le_of_ble_eq_true rfl) ?_
  refine CallS.mk ok_docOf ((impl_docOf hx hl hb.b).mono ?_)
  rintro e w hR
  cases hv : validD (fs.map PieceG.p) with
  | none =>
    rw [hv] at hR hr
    obtain ⟨rfl, H⟩ := hR
    have hr : ([], false) = r := hr
    subst hr
    refine ifNot ?_
    refine ifF ?_
    have H1 : St W.heap.size W w [.rowB (.slice none ([] : List Int).length 0) []] := H.rowNil
    exact Exists.intro none (Exists.intro 0 (And.intro rfl H1))
  | some dg =>
    obtain ⟨d, g⟩ := dg
    have v := validOf hv
    rw [hv] at hR hr
    simp only at hr
    obtain ⟨D, hD, rfl, hT, H⟩ := hR
    have H1 : St W.heap.size W w (.rowB (.slice none ([] : List Int).length 0) [] :: D.own) := H.rowNil
    have hf := impl_flatText (B := W.heap.size) (W0 := W) (L := D.own) D (by rw [hD]; exact v.good) (by rw [hD]; exact v.tl) (fun w M H h => docAt H h (hT.ext H.below)) [] none 0 w (by rw [hD]; have := v.tl; simp only [List.length_nil]; omega) H1
    rw [hD] at hf
    refine ifNot ?_
    refine ifT ?_
    refine CallS.mk ok_flatText (hf.mono ?_)
    rintro e3 w3 hR
    cases hfd : flatD d with
    | none =>
      rw [hfd] at hR hr
      have hr : ([], false) = r := hr
      subst hr
      obtain ⟨rfl, H⟩ := hR
      have H1 : St W.heap.size W w3 (.rowB (.slice none ([] : List Int).length 0) [] :: D.own) := H.rowNil
      exact Exists.intro none (Exists.intro 0 (And.intro rfl (H1.sel (fun q => by simp only [cntL_append, cntL, List.cons_append, List.nil_append, List.set_cons_zero, List.set_cons_succ, List.flatMap_append, List.flatMap_cons, List.flatMap_nil, It.rowF, It.rowB, It.rowI, It.roB, It.roI]; omega))))
    | some t =>
      rw [hfd] at hR hr
      have hr : (t, true) = r := hr
      subst hr
      obtain ⟨A3, c3, rfl, H⟩ := hR
      exact Exists.intro A3 (Exists.intro c3 (And.intro rfl (H.sel (fun q => by simp only [cntL_append, cntL, List.cons_append, List.nil_append, List.set_cons_zero, List.set_cons_succ, List.flatMap_append, List.flatMap_cons, List.flatMap_nil, It.rowF, It.rowB, It.rowI, It.roB, It.roI]; omega))))
end Go.Proofs.YtfhpgfbakimmhaaE
