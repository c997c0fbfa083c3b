/- The program's lead and flatText. -/
import Derived.Test.YtfhpgfbakimmhaaTDocI
import Derived.Test.YtfhpgfbakimmhaaTDocS5
namespace Go.Proofs.YtfhpgfbakimmhaaE
open Go Go.RowKit
set_option linter.unusedVariables false
set_option linter.unusedSimpArgs false
set_option maxRecDepth 100000
set_option maxHeartbeats 8000000

theorem ok_lead : callOK Try.prog 94 = true := by kernel_rfl
theorem impl_lead (D : DocG) (hg : GoodD D.d) (ht : D.d.tl ≤ 140000) : ∀ {W : World}, DocAt W D → GivesV Try.prog 94 [D.v] W (vIB (leadD D.d)) := by
  induction D with
  | nil a =>
    intro W h
    have H := St.enter W
    refine calls_of_vcV (args := [.iface 148 (.pointer (some ⟨a, 0, none⟩))]) Try.func94 rfl (by kernel_rfl) (Nat.le_of_ble_eq_true rfl) ?_
    refine JoinV.mk ?_
    refine asN pt_text rfl ?_
    refine ifF ?_
    refine asN pt_line rfl ?_
    refine ifF ?_
    refine asN pt_cat rfl ?_
    refine ifF ?_
    refine asN pt_alt rfl ?_
    refine ifF ?_
    refine asN pt_nest rfl ?_
    refine ifF ?_
    refine asN pt_group rfl ?_
    refine ifF ?_
    exact Exists.intro _ (And.intro rfl (And.intro rfl H.none))
  | text a tv t =>
    intro W h
    have H := St.enter W
    refine calls_of_vcV (args := [.iface 154 (.pointer (some ⟨a, 0, none⟩))]) Try.func94 rfl (by kernel_rfl) (Nat.le_of_ble_eq_true rfl) ?_
    refine JoinV.mk ?_
    refine asY pt_text ?_
    refine ifT ?_
    refine loadS (v := .int .i64 (tw t)) ((h.1.ext H.below) 1 _ rfl) ?_
    exact Exists.intro _ (And.intro rfl (And.intro rfl H.none))
  | line a k =>
    intro W h
    have H := St.enter W
    refine calls_of_vcV (args := [.iface 157 (.pointer (some ⟨a, 0, none⟩))]) Try.func94 rfl (by kernel_rfl) (Nat.le_of_ble_eq_true rfl) ?_
    refine JoinV.mk ?_
    refine asN pt_text rfl ?_
    refine ifF ?_
    refine asY pt_line ?_
    refine ifT ?_
    exact Exists.intro _ (And.intro rfl (And.intro rfl H.none))
  | cat a l r ihl ihr =>
    intro W h
    have H := St.enter W
    refine calls_of_vcV (args := [.iface 160 (.pointer (some ⟨a, 0, none⟩))]) Try.func94 rfl (by kernel_rfl) (Nat.le_of_ble_eq_true rfl) ?_
    refine JoinV.mk ?_
    refine asN pt_text rfl ?_
    refine ifF ?_
    refine asN pt_line rfl ?_
    refine ifF ?_
    refine asY pt_cat ?_
    refine ifT ?_
    have hg1 := hg.1
    have hg2 := hg.2
    simp only [DocG.d, DocT.tl] at ht
    have ht1 : l.d.tl ≤ 140000 := by omega
    have ht2 : r.d.tl ≤ 140000 := by omega
    have b1 := lead_bound hg1
    have b2 := lead_bound hg2
    refine loadS (v := l.v) ((h.1.ext H.below) 0 _ rfl) ?_
    refine callV ok_lead (ihl hg1 ht1 (h.2.1.ext H.below)) H fun w H => ?_
    simp only [DocG.d, leadD]
    refine ifO (fun c0 => ?_) (fun c0 => ?_)
    · exact Exists.intro _ (And.intro rfl (And.intro (show Value.tuple #[.int .i64 (leadD l.d).1, .bool true] = _ by rw [if_pos c0]) H.none))
    · refine loadS (v := r.v) ((h.1.ext H.below) 1 _ rfl) ?_
      refine callV ok_lead (ihr hg2 ht2 (h.2.2.ext H.below)) H fun w H => ?_
      refine ar64 (by omega) (by omega) ?_
      exact Exists.intro _ (And.intro rfl (And.intro (show Value.tuple #[.int .i64 ((leadD l.d).1 + (leadD r.d).1), .bool (leadD r.d).2] = _ by rw [if_neg (by rw [c0]; decide)]) H.none))
  | alt a l r ihl ihr =>
    intro W h
    have H := St.enter W
    refine calls_of_vcV (args := [.iface 165 (.pointer (some ⟨a, 0, none⟩))]) Try.func94 rfl (by kernel_rfl) (Nat.le_of_ble_eq_true rfl) ?_
    refine JoinV.mk ?_
    refine asN pt_text rfl ?_
    refine ifF ?_
    refine asN pt_line rfl ?_
    refine ifF ?_
    refine asN pt_cat rfl ?_
    refine ifF ?_
    refine asY pt_alt ?_
    refine ifT ?_
    simp only [DocG.d, DocT.tl] at ht
    refine loadS (v := l.v) ((h.1.ext H.below) 0 _ rfl) ?_
    refine callV ok_lead (ihl hg.1 (by omega) (h.2.1.ext H.below)) H fun w H => ?_
    exact Exists.intro _ (And.intro rfl (And.intro rfl H.none))
  | nest a d n ih =>
    intro W h
    have H := St.enter W
    refine calls_of_vcV (args := [.iface 167 (.pointer (some ⟨a, 0, none⟩))]) Try.func94 rfl (by kernel_rfl) (Nat.le_of_ble_eq_true rfl) ?_
    refine JoinV.mk ?_
    refine asN pt_text rfl ?_
    refine ifF ?_
    refine asN pt_line rfl ?_
    refine ifF ?_
    refine asN pt_cat rfl ?_
    refine ifF ?_
    refine asN pt_alt rfl ?_
    refine ifF ?_
    refine asY pt_nest ?_
    refine ifT ?_
    simp only [DocG.d, DocT.tl] at ht
    refine loadS (v := d.v) ((h.1.ext H.below) 0 _ rfl) ?_
    refine callV ok_lead (ih hg.2 (by omega) (h.2.ext H.below)) H fun w H => ?_
    exact Exists.intro _ (And.intro rfl (And.intro rfl H.none))
  | group a d k ih =>
    intro W h
    have H := St.enter W
    refine calls_of_vcV (args := [.iface 115 (.pointer (some ⟨a, 0, none⟩))]) Try.func94 rfl (by kernel_rfl) (Nat.le_of_ble_eq_true rfl) ?_
    refine JoinV.mk ?_
    refine asN pt_text rfl ?_
    refine ifF ?_
    refine asN pt_line rfl ?_
    refine ifF ?_
    refine asN pt_cat rfl ?_
    refine ifF ?_
    refine asN pt_alt rfl ?_
    refine ifF ?_
    refine asN pt_nest rfl ?_
    refine ifF ?_
    refine asY pt_group ?_
    refine ifT ?_
    simp only [DocG.d, DocT.tl] at ht
    refine loadS (v := d.v) ((h.1.ext H.below) 0 _ rfl) ?_
    refine callV ok_lead (ih hg (by omega) (h.2.ext H.below)) H fun w H => ?_
    exact Exists.intro _ (And.intro rfl (And.intro rfl H.none))
theorem ok_flatText : callOK Try.prog 92 = true := by kernel_rfl
theorem impl_flatText {B : Nat} {W0 : World} {L : List It} (D : DocG) (hg : GoodD D.d) (ht : D.d.tl ≤ 140000) : (KeepL B W0 L fun w => DocAt w D) → ∀ (acc : List Int) (Ao : Option Addr) (co : Nat) (w : World), acc.length + D.d.tl ≤ 4294967296 → St B W0 w (.rowB (.slice Ao acc.length co) acc :: L) →
    Calls Try.prog 92 #[D.v, .slice Ao acc.length co] w (FlatR B W0 L acc (flatD D.d)) := by
  induction D with
  | nil a =>
    intro h acc Ao co w hacc H
    refine calls_of_vcV (args := [.iface 148 (.pointer (some ⟨a, 0, none⟩)), .slice Ao acc.length co]) Try.func92 rfl (by kernel_rfl) (Nat.le_of_ble_eq_true rfl) ?_
    refine JoinV.mk ?_
    refine asN pt_text rfl ?_
    refine ifF ?_
    refine asN pt_line rfl ?_
    refine ifF ?_
    refine asN pt_cat rfl ?_
    refine ifF ?_
    refine asN pt_alt rfl ?_
    refine ifF ?_
    refine asN pt_nest rfl ?_
    refine ifF ?_
    refine asN pt_group rfl ?_
    refine ifF ?_
    exact FlatR.nil H
  | text a tv t =>
    intro h acc Ao co w hacc H
    simp only [DocG.d, DocT.tl] at hacc
    have h0 := h _ _ H (fun it h => by simp [h])
    have r0 := h0.2
    obtain ⟨_, At, ct, rfl, _⟩ := id h0.2
    refine calls_of_vcV (args := [.iface 154 (.pointer (some ⟨a, 0, none⟩)), .slice Ao acc.length co]) Try.func92 rfl (by kernel_rfl) (Nat.le_of_ble_eq_true rfl) ?_
    refine JoinV.mk ?_
    refine asY pt_text ?_
    refine ifT ?_
    refine loadS (v := .slice At t.length ct) (h0.1 0 _ rfl) ?_
    refine appBS (xs := acc) (ys := t) H 0 rfl r0 (by omega) fun A6 c6 w H => ?_
    exact ⟨A6, c6, rfl, H⟩
  | line a k =>
    intro h acc Ao co w hacc H
    have h0 := h _ _ H (fun it h => by simp [h])
    simp only [DocG.d, DocT.tl] at hacc
    obtain ⟨r, hr⟩ : ∃ r, flatD (DocG.line a k).d = r := ⟨_, rfl⟩
    rw [hr]
    simp only [DocG.d, flatD] at hr
    refine calls_of_vcV (args := [.iface 157 (.pointer (some ⟨a, 0, none⟩)), .slice Ao acc.length co]) Try.func92 rfl (by kernel_rfl) (Nat.le_of_ble_eq_true rfl) ?_
    refine JoinV.mk ?_
    refine asN pt_text rfl ?_
    refine ifF ?_
    refine asY pt_line ?_
    refine ifT ?_
    refine JoinV.mk ?_
    refine loadS (v := .int .i64 k) (h0 0 _ rfl) ?_
    refine ifB (fun c0 => ?_) (fun c0 => ?_)
    · refine litBS (xs := [32]) H (by simp) (by kernel_rfl) fun A1 k1 w H => ?_
      refine appBS H 1 rfl (H.rd 0 rfl) (by first | omega | (simp; omega)) fun A2 k2 w H => ?_
      rw [if_pos c0] at hr
      subst hr
      exact ⟨A2, k2, rfl, H.tl⟩
    · refine ifB (fun c3 => ?_) (fun c3 => ?_)
      · rw [if_neg c0, if_pos c3] at hr
        subst hr
        exact FlatR.nil H
      · rw [if_neg c0, if_neg c3] at hr
        subst hr
        exact And.intro rfl H.tl
  | cat a l r ihl ihr =>
    intro h acc Ao co w hacc H
    simp only [DocG.d, DocT.tl] at ht hacc
    have h0 := h _ _ H (fun it h => by simp [h])
    have fl := ihl hg.1 (by omega) (fun w M H q => (h w M H q).2.1)
    have fr := ihr hg.2 (by omega) (fun w M H q => (h w M H q).2.2)
    refine calls_of_vcV (args := [.iface 160 (.pointer (some ⟨a, 0, none⟩)), .slice Ao acc.length co]) Try.func92 rfl (by kernel_rfl) (Nat.le_of_ble_eq_true rfl) ?_
    refine JoinV.mk ?_
    refine asN pt_text rfl ?_
    refine ifF ?_
    refine asN pt_line rfl ?_
    refine ifF ?_
    refine asY pt_cat ?_
    refine ifT ?_
    refine loadS (v := l.v) (h0.1 0 _ rfl) ?_
    refine CallS.mk ok_flatText ((fl acc Ao co _ (by omega) H).mono ?_)
    rintro e2 w2 hR
    simp only [DocG.d, flatD]
    cases hxe : flatD l.d with
    | none =>
      rw [hxe] at hR
      obtain ⟨rfl, H⟩ := hR
      refine ifNot ?_
      refine ifF ?_
      exact And.intro rfl H
    | some x =>
      rw [hxe] at hR
      obtain ⟨A2, c2, rfl, H⟩ := hR
      have hxl := flat_len_le hxe
      refine ifNot ?_
      refine ifT ?_
      have h2 := h _ _ H (fun it h => by simp [h])
      refine loadS (v := r.v) (h2.1 1 _ rfl) ?_
      refine CallS.mk ok_flatText ((fr (acc ++ x) A2 c2 _ (by rw [List.length_append]; omega) H).mono ?_)
      rintro e3 w3 hR
      cases hye : flatD r.d with
      | none =>
        rw [hye] at hR
        obtain ⟨rfl, H⟩ := hR
        exact And.intro rfl H
      | some y =>
        rw [hye] at hR
        obtain ⟨A3, c3, rfl, H⟩ := hR
        have q : FlatR B W0 L acc (some (x ++ y)) (.returned (.tuple #[.slice A3 (acc ++ x ++ y).length c3, .bool true])) w3 := ⟨A3, c3, by rw [List.append_assoc], by rw [← List.append_assoc]; exact H⟩
        exact q
  | alt a l r ihl ihr =>
    intro h acc Ao co w hacc H
    simp only [DocG.d, DocT.tl] at ht hacc
    have h0 := h _ _ H (fun it h => by simp [h])
    have fd := ihr hg.2 (by omega) (fun w M H q => (h w M H q).2.2)
    refine calls_of_vcV (args := [.iface 165 (.pointer (some ⟨a, 0, none⟩)), .slice Ao acc.length co]) Try.func92 rfl (by kernel_rfl) (Nat.le_of_ble_eq_true rfl) ?_
    refine JoinV.mk ?_
    refine asN pt_text rfl ?_
    refine ifF ?_
    refine asN pt_line rfl ?_
    refine ifF ?_
    refine asN pt_cat rfl ?_
    refine ifF ?_
    refine asY pt_alt ?_
    refine ifT ?_
    refine loadS (v := r.v) (h0.1 1 _ rfl) ?_
    refine CallS.mk ok_flatText ((fd acc Ao co _ (by omega) H).mono ?_)
    rintro e3 w3 hR
    simp only [DocG.d, flatD]
    cases hye : flatD r.d with
    | none =>
      rw [hye] at hR
      obtain ⟨rfl, H⟩ := hR
      exact And.intro rfl H
    | some y =>
      rw [hye] at hR
      obtain ⟨A3, c3, rfl, H⟩ := hR
      exact ⟨A3, c3, rfl, H⟩
  | nest a d n ih =>
    intro h acc Ao co w hacc H
    simp only [DocG.d, DocT.tl] at ht hacc
    have h0 := h _ _ H (fun it h => by simp [h])
    have fd := ih hg.2 (by omega) (fun w M H q => (h w M H q).2)
    refine calls_of_vcV (args := [.iface 167 (.pointer (some ⟨a, 0, none⟩)), .slice Ao acc.length co]) Try.func92 rfl (by kernel_rfl) (Nat.le_of_ble_eq_true rfl) ?_
    refine JoinV.mk ?_
    refine asN pt_text rfl ?_
    refine ifF ?_
    refine asN pt_line rfl ?_
    refine ifF ?_
    refine asN pt_cat rfl ?_
    refine ifF ?_
    refine asN pt_alt rfl ?_
    refine ifF ?_
    refine asY pt_nest ?_
    refine ifT ?_
    refine loadS (v := d.v) (h0.1 0 _ rfl) ?_
    refine CallS.mk ok_flatText ((fd acc Ao co _ (by omega) H).mono ?_)
    rintro e3 w3 hR
    simp only [DocG.d, flatD]
    cases hye : flatD d.d with
    | none =>
      rw [hye] at hR
      obtain ⟨rfl, H⟩ := hR
      exact And.intro rfl H
    | some y =>
      rw [hye] at hR
      obtain ⟨A3, c3, rfl, H⟩ := hR
      exact ⟨A3, c3, rfl, H⟩
  | group a d k ih =>
    intro h acc Ao co w hacc H
    simp only [DocG.d, DocT.tl] at ht hacc
    have h0 := h _ _ H (fun it h => by simp [h])
    have fd := ih hg (by omega) (fun w M H q => (h w M H q).2)
    refine calls_of_vcV (args := [.iface 115 (.pointer (some ⟨a, 0, none⟩)), .slice Ao acc.length co]) Try.func92 rfl (by kernel_rfl) (Nat.le_of_ble_eq_true rfl) ?_
    refine JoinV.mk ?_
    refine asN pt_text rfl ?_
    refine ifF ?_
    refine asN pt_line rfl ?_
    refine ifF ?_
    refine asN pt_cat rfl ?_
    refine ifF ?_
    refine asN pt_alt rfl ?_
    refine ifF ?_
    refine asN pt_nest rfl ?_
    refine ifF ?_
    refine asY pt_group ?_
    refine ifT ?_
    refine loadS (v := d.v) (h0.1 0 _ rfl) ?_
    refine CallS.mk ok_flatText ((fd acc Ao co _ (by omega) H).mono ?_)
    rintro e3 w3 hR
    simp only [DocG.d, flatD]
    cases hye : flatD d.d with
    | none =>
      rw [hye] at hR
      obtain ⟨rfl, H⟩ := hR
      exact And.intro rfl H
    | some y =>
      rw [hye] at hR
      obtain ⟨A3, c3, rfl, H⟩ := hR
      exact ⟨A3, c3, rfl, H⟩
end Go.Proofs.YtfhpgfbakimmhaaE
