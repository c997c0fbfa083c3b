/- (*memory).rename. -/
import Derived.Test.YtfhpgfbakimmhaaTMut2
namespace Go.Proofs.YtfhpgfbakimmhaaE
open Go Go.RowKit
set_option linter.unusedVariables false
set_option maxRecDepth 100000
set_option maxHeartbeats 2000000

theorem newRB {B : Nat} {W0 w : World} {L : List It} {o : Obj} {K : Nat → World → Prop} (H : St B W0 w L) (k : ∀ g w', Below w.heap.size w w' → St B W0 w' (.obj g o :: L) → K g w') : NewS w o K :=
  ⟨fun b w' hb hw => k b w' (by subst hw; exact (Below.refl _ _).alloc (Nat.le_refl _) o) (by subst hb hw; exact H.cons ((Below.refl _ _).alloc (Nat.le_refl _) o) ⟨H.size, heap_alloc_new w o⟩ (fun g hg => by cases hg; exact Nat.le_refl _))⟩
theorem impl_rename {g : Nat} {a b a2 b2 b3 : List FileG} {f : FileG} {nm to : List Int} {A A1 : Option Addr} {n c n1 c1 : Nat} {v : Value} {B : Nat} {W0 w : World} {L : List It} (H : St B W0 w (memS g (.slice A n c) n (a ++ f :: b) L)) (hl : n ≤ 4294967296) (hb : ∀ f' ∈ a ++ f :: b, byteOK f'.nm) (hv : RdL B W0 L v nm) (hn : byteOK nm) (hd : RdL B W0 L (.slice A1 n1 c1) to) (hto : byteOK to) (hld : n1 ≤ 1099511627776)
    (hi : LowF (a ++ f :: b) nm a.length) (hh : hitF (a ++ f :: b) nm a.length = true) (hab : a ++ b = a2 ++ b2) (hi2 : LowF (a ++ b) to a2.length) {hit : Bool} (hh2 : hitF (a ++ b) to a2.length = hit) (h3 : hit = true → ∃ f2, b2 = f2 :: b3) (h4 : hit = false → b3 = b2) :
    Calls Try.prog 83 #[.pointer (some ⟨g, 0, none⟩), v, .slice A1 n1 c1] w fun e w' => e = .returned .nilIface ∧ ∃ A' n' c' f', f'.p = ⟨to, f.dt, f.sf⟩ ∧ St B W0 w' (memS g (.slice A' n' c') n' (a2 ++ f' :: b3) L) := by
  obtain ⟨_, A0, c0, rfl, _⟩ := id (hv _ _ H (fun it hit => by simp [hit]))
  obtain rfl : n1 = to.length := by obtain ⟨_, _, _, e, _⟩ := id (hd _ _ H (fun it hit => by simp [hit])); cases e; rfl
  have hx := memS_rd H
  have hnl := hx.len
  have hnl2 : n = a.length + (b.length + 1) := by rw [hnl, List.length_append, List.length_cons]
  have hf : (a ++ f :: b)[a.length]? = some f := by simp
  have hk := (hx.kids f (List.mem_of_getElem? hf)).2
  refine calls_of_vcV (args := [.pointer (some ⟨g, 0, none⟩), .slice A0 nm.length c0, .slice A1 to.length c1]) Try.func83 rfl (by kernel_rfl) (Nat.le_of_ble_eq_true rfl) ?_
  obtain ⟨bb, rfl, _⟩ := own_cells (H.own 1 rfl) (by omega)
  refine callV ok_file (impl_file (cell0 H 0 rfl rfl) hx hl hb (hv _ _ H (fun it hit => by simp [hit])) hn hi hh) H fun w H => ?_
  obtain ⟨_, A3, c3, e3, _⟩ := id hk
  refine ifNot ?_
  refine ifT ?_
  have lk1 : ∀ {w : World} {M : List It}, St B W0 w M → (∀ it ∈ memS g (.slice (some ⟨bb, 0, none⟩) n c) n (a ++ f :: b) L, it ∈ M) → w.cell? ⟨bb, 0 + a.length * 3 + 1, none⟩ = some (.slice A3 f.dt.length c3) ∧ w.cell? ⟨bb, 0 + a.length * 3 + 2, none⟩ = some (.int .i64 f.sf) := fun H hm => by
    have hr : RdF _ (.slice (some ⟨bb, 0, none⟩) n c) n (a ++ f :: b) := rdFm H _ _ _ (hm _ (by simp)) (fun it hit => hm it (List.mem_cons_of_mem _ (List.mem_cons_of_mem _ (List.mem_append_left _ hit))))
    have h1 := hr.cell hf 1 (by decide)
    have h2 := hr.cell hf 2 (by decide)
    rw [show 0 + (a.length * 3 + 1) = 0 + a.length * 3 + 1 by omega] at h1
    rw [show 0 + (a.length * 3 + 2) = 0 + a.length * 3 + 2 by omega] at h2
    rw [h1, h2]
    exact ⟨by simp [FileG.cells, e3], rfl⟩
  refine cutReg (fun e w => e 0 = .pointer (some ⟨g, 0, none⟩) ∧ e 1 = .slice A0 nm.length c0 ∧ e 2 = .slice A1 to.length c1 ∧ ∃ g9 A4 k4, e 9 = .pointer (some ⟨g9, 0, none⟩) ∧ St B W0 w (.obj g9 (.cells #[.slice A4 to.length k4, .slice A3 f.dt.length c3, .int .i64 f.sf] 69) :: .rowB (.slice A4 to.length k4) to :: memS g (.slice (some ⟨bb, 0, none⟩) n c) n (a ++ f :: b) L)) ?_ ?_
  · refine regT [1, 10, 11, 12] [1, 11] [5, 9] (PT.of [0, 2, 3, 4, 5, 6, 7, 8, 9] (.fork (PT.of [1] (.fork (PT.of [10, 11, 12] .nil) (PT.of [11, 10, 12] .nil))) (PT.of [11, 1, 10, 12] .nil))) (by kernel_rfl) ?_
    (refine drawR H fun w H => ?_; have hw := HeldW.refl w; have hl1 := lk1 H (fun it hit => hit))
    refine loadS hl1.1 ?_
    refine loadS hl1.2 ?_
    refine ForkS.mk ⟨?_, ?_⟩
    · refine callRowB ok_clone (slices_Clone (hd _ _ H (fun it hit => by simp [hit])) (by omega)) H fun A4 k4 w hB H => ?_
      (have hw := HeldW.step hw hB; refine KeepS.mk ⟨hw, ?_⟩)
      refine ForkS.mk ⟨?_, ?_⟩
      · refine RunS.mk ⟨.agg #[.slice A4 to.length k4, .slice A3 f.dt.length c3, .int .i64 f.sf], w, by kernel_rfl, ?_⟩
        refine newRB (o := .cells #[.slice none 0 0, .slice none 0 0, .int .i64 0] _) H fun g9 w hB H => ?_
        (have hw := HeldW.step hw hB; refine KeepS.mk ⟨hw, ?_⟩)
        refine storeO H 0 rfl rfl rfl fun w H => ?_
        refine storeO H 0 rfl rfl rfl fun w H => ?_
        refine storeO H 0 rfl rfl rfl fun w H => ?_
        exact ⟨rfl, rfl, rfl, g9, A4, k4, rfl, H⟩
      · refine newRB (o := .cells #[.slice none 0 0, .slice none 0 0, .int .i64 0] _) H fun g9 w hB H => ?_
        (have hw := HeldW.step hw hB; refine KeepS.mk ⟨hw, ?_⟩)
        refine RunS.mk ⟨.agg #[.slice A4 to.length k4, .slice A3 f.dt.length c3, .int .i64 f.sf], w, by kernel_rfl, ?_⟩
        refine storeO H 0 rfl rfl rfl fun w H => ?_
        refine storeO H 0 rfl rfl rfl fun w H => ?_
        refine storeO H 0 rfl rfl rfl fun w H => ?_
        exact ⟨rfl, rfl, rfl, g9, A4, k4, rfl, H⟩
    · refine newRB (o := .cells #[.slice none 0 0, .slice none 0 0, .int .i64 0] _) H fun g9 w hB H => ?_
      (have hw := HeldW.step hw hB; refine KeepS.mk ⟨hw, ?_⟩)
      refine callRowB ok_clone (slices_Clone (hd _ _ H (fun it hit => by simp [hit])) (by omega)) H fun A4 k4 w hB H => ?_
      (have hw := HeldW.step hw hB; refine KeepS.mk ⟨hw, ?_⟩)
      refine RunS.mk ⟨.agg #[.slice A4 to.length k4, .slice A3 f.dt.length c3, .int .i64 f.sf], w, by kernel_rfl, ?_⟩
      refine storeO H 1 rfl rfl rfl fun w H => ?_
      refine storeO H 1 rfl rfl rfl fun w H => ?_
      refine storeO H 1 rfl rfl rfl fun w H => ?_
      exact ⟨rfl, rfl, rfl, g9, A4, k4, rfl, H.sw2⟩
  rintro e w ⟨h0, h1, h2, g9, A4, k4, h9, H⟩
  rw [Env.four h0 h1 h2 h9]
  have H : St B W0 w (memS g (.slice (some ⟨bb, 0, none⟩) n c) n (a ++ f :: b) (.obj g9 (.cells #[.slice A4 to.length k4, .slice A3 f.dt.length c3, .int .i64 f.sf] 69) :: .rowB (.slice A4 to.length k4) to :: L)) := H.sel (fun q => by simp only [cntL_append, cntL, List.cons_append, List.nil_append, List.set_cons_zero, List.set_cons_succ, List.flatMap_append, List.flatMap_cons, List.flatMap_nil, It.rowF, It.rowB, It.rowI, It.roB, It.roI]; omega)
  refine CallS.mk ok_remove ((impl_remove H hl hb (hv _ _ H (fun it hit => by simp [hit])) hn hi hh).mono ?_)
  rintro _ w5 ⟨rfl, H⟩
  have hx5 := memS_rd H
  have hb5 : ∀ f' ∈ a ++ b, byteOK f'.nm := fun f' hf' => hb f' (by simp only [List.mem_append, List.mem_cons] at hf' ⊢; rcases hf' with h | h; exact .inl h; exact .inr (.inr h))
  have hl5 := hx5.len
  refine callV (u := .tuple #[.int .i64 (a2.length : Nat), .bool hit]) ok_find (by rw [← hh2]; exact impl_find (cell0 H 0 rfl rfl) hx5 (by omega) hb5 (hd _ _ H (fun it hit => by simp [hit])) hto hi2) H fun w H => ?_
  have e9 : ∀ {w : World} {M : List It}, St B W0 w M → .obj g9 (.cells #[.slice A4 to.length k4, .slice A3 f.dt.length c3, .int .i64 f.sf] 69) ∈ M → w.cell? ⟨g9, 0, none⟩ = some (.slice A4 to.length k4) ∧ w.cell? ⟨g9, 1, none⟩ = some (.slice A3 f.dt.length c3) ∧ w.cell? ⟨g9, 2, none⟩ = some (.int .i64 f.sf) := fun H hm => ⟨cellM H (cs := [.slice A4 to.length k4, .slice A3 f.dt.length c3, .int .i64 f.sf]) hm rfl, cellM H (cs := [.slice A4 to.length k4, .slice A3 f.dt.length c3, .int .i64 f.sf]) hm rfl, cellM H (cs := [.slice A4 to.length k4, .slice A3 f.dt.length c3, .int .i64 f.sf]) hm rfl⟩
  cases hit with
  | true =>
    obtain ⟨f2, rfl⟩ := h3 rfl
    rw [hab] at H hl5
    have hl6 := hl5
    simp only [List.length_append, List.length_cons] at hl6
    have hx6 : (a2 ++ f2 :: b3)[a2.length]? = some f2 := by simp
    refine JoinV.mk ?_
    refine ifT ?_
    refine drawR H fun w H => ?_
    refine loadO H 0 rfl rfl ?_
    refine loadS (e9 H (by simp)).1 ?_
    refine loadS (e9 H (by simp)).2.1 ?_
    refine loadS (e9 H (by simp)).2.2 ?_
    (refine idxRow H 1 rfl (by omega) (by omega) fun b0 hA hc => ?_; cases hA)
    refine storeRowN H 1 rfl (a2.length * 3 + 0) (by show 0 + (a2.length : Int).toNat * 3 = _; omega) (by omega) rfl fun w H => ?_
    refine storeRowN H 1 rfl (a2.length * 3 + 1) (by show 0 + (a2.length : Int).toNat * 3 + 1 = _; omega) (by omega) rfl fun w H => ?_
    refine storeRowN H 1 rfl (a2.length * 3 + 2) (by show 0 + (a2.length : Int).toNat * 3 + 2 = _; omega) (by omega) rfl fun w H => ?_
    have H1 : St B W0 w (.mem g (.slice (some ⟨bb, 0, none⟩) (n - 1) c) :: .row (.slice (some ⟨bb, 0, none⟩) (n - 1) c) 69 3 (n - 1) (((((a2 ++ f2 :: b3).flatMap FileG.cells).set (a2.length * 3 + 0) (.slice A4 to.length k4)).set (a2.length * 3 + 1) (.slice A3 f.dt.length c3)).set (a2.length * 3 + 2) (.int .i64 f.sf)) :: ((a2 ++ f2 :: b3).flatMap FileG.own ++ (f.own ++ .obj g9 (.cells #[.slice A4 to.length k4, .slice A3 f.dt.length c3, .int .i64 f.sf] 69) :: .rowB (.slice A4 to.length k4) to :: L))) := H
    rw [flat_set3F hx6 _ _ to f.dt, ← e3, set_mid, List.append_assoc] at H1
    exact And.intro rfl (Exists.intro (some ⟨bb, 0, none⟩) (Exists.intro (n - 1) (Exists.intro c (Exists.intro (⟨.slice A4 to.length k4, f.dv, to, f.dt, f.sf⟩ : FileG) (And.intro rfl (H1.sel (fun q => by simp only [cntL_append, cntL, List.cons_append, List.nil_append, List.set_cons_zero, List.set_cons_succ, List.flatMap_append, List.flatMap_cons, List.flatMap_nil, FileG.own, It.rowF, It.rowB, It.rowI, It.roB, It.roI]; omega)))))))
  | false =>
    obtain rfl := h4 rfl
    rw [hab] at H hl5
    have h1 := one_own H (gs := a2 ++ b3) (fun it hit => by simp only [List.mem_cons, List.mem_append]; right; right; left; exact hit)
    have hl6 := hl5
    simp only [List.length_append] at hl6
    refine JoinV.mk ?_
    refine ifF ?_
    refine regG [7, 8, 11] [7] [4, 6] [0, 1, 2, 3, 4, 5, 6, 7, 8, 9, 10, 11] (by kernel_rfl) ?_
    (refine drawR H fun w H => ?_; have hw := HeldW.refl w)
    refine loadO H 0 rfl rfl ?_
    refine loadS (e9 H (by simp)).1 ?_
    refine loadS (e9 H (by simp)).2.1 ?_
    refine loadS (e9 H (by simp)).2.2 ?_
    refine litRB (e := 69) (sz := 3) (n := 1) (cs := [.slice A4 to.length k4, .slice A3 f.dt.length c3, .int .i64 f.sf]) H rfl (by decide) (by kernel_rfl) fun A6 k6 w hB H => ?_
    (have hw := HeldW.step hw hB; refine KeepS.mk ⟨hw, ?_⟩)
    have H : St B W0 w (.rowF (.slice A6 1 k6) 1 [⟨.slice A4 to.length k4, .slice A3 f.dt.length c3, to, f.dt, f.sf⟩] :: memS g (.slice (some ⟨bb, 0, none⟩) (n - 1) c) (n - 1) (a2 ++ b3) (f.own ++ .obj g9 (.cells #[.slice A4 to.length k4, .slice A3 f.dt.length c3, .int .i64 f.sf] 69) :: .rowB (.slice A4 to.length k4) to :: L)) := H
    have H : St B W0 w (.rowF (.slice A6 1 k6) 1 [⟨.slice A4 to.length k4, .slice A3 f.dt.length c3, to, f.dt, f.sf⟩] :: .rowF (.slice (some ⟨bb, 0, none⟩) (n - 1) c) (n - 1) (a2 ++ b3) :: .mem g (.slice (some ⟨bb, 0, none⟩) (n - 1) c) :: .rowB (.slice A4 to.length k4) to :: (f.own ++ ((a2 ++ b3).flatMap FileG.own ++ L))) := H.sel (fun q => by simp only [cntL_append, cntL, List.cons_append, List.nil_append, List.set_cons_zero, List.set_cons_succ, List.flatMap_append, List.flatMap_cons, List.flatMap_nil, It.rowF, It.rowB, It.rowI, It.roB, It.roI]; omega)
    refine CallS.mk ok_ins ((slices_Insert (i := a2.length) H hl5 (by omega) (by omega) h1 ⟨rfl, rfl⟩).mono ?_)
    rintro _ w7 ⟨A7, k7, rfl, H⟩
    rw [List.take_left, List.drop_left] at H
    refine storeO H 1 rfl rfl rfl fun w H => ?_
    have H1 : St B W0 w (.rowF (.slice A7 (n - 1 + 1) k7) (n - 1 + 1) (a2 ++ ⟨.slice A4 to.length k4, .slice A3 f.dt.length c3, to, f.dt, f.sf⟩ :: b3) :: .mem g (.slice A7 (n - 1 + 1) k7) :: .rowB (.slice A4 to.length k4) to :: (f.own ++ ((a2 ++ b3).flatMap FileG.own ++ L))) := H
    rw [← e3] at H1
    exact And.intro rfl (Exists.intro A7 (Exists.intro (n - 1 + 1) (Exists.intro k7 (Exists.intro (⟨.slice A4 to.length k4, f.dv, to, f.dt, f.sf⟩ : FileG) (And.intro rfl (H1.sel (fun q => by simp only [cntL_append, cntL, List.cons_append, List.nil_append, List.set_cons_zero, List.set_cons_succ, List.flatMap_append, List.flatMap_cons, List.flatMap_nil, FileG.own, It.rowF, It.rowB, It.rowI, It.roB, It.roI]; omega)))))))
end Go.Proofs.YtfhpgfbakimmhaaE
