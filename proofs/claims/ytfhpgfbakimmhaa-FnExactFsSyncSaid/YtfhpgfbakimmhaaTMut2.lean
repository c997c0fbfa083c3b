/- (*memory).write and rename. -/
import Derived.Test.YtfhpgfbakimmhaaTMut
namespace Go.Proofs.YtfhpgfbakimmhaaE
open Go Go.RowKit
set_option linter.unusedVariables false
set_option maxRecDepth 100000
set_option maxHeartbeats 2000000

/-- bytes that may be read as long as what stands in L stands -/
def RdL (B : Nat) (W0 : World) (L : List It) (v : Value) (xs : List Int) : Prop := ∀ (w : World) (M : List It), St B W0 w M → (∀ it ∈ L, it ∈ M) → RdB w v xs
theorem RdL.base {W0 : World} {L : List It} {v : Value} {xs : List Int} (h : RdB W0 v xs) : RdL W0.heap.size W0 L v xs := fun w M H _ => h.ext H.below
theorem RdL.own {B : Nat} {W0 : World} {L : List It} {v : Value} {xs : List Int} (h : .rowB v xs ∈ L) : RdL B W0 L v xs := fun w M H hm => H.rdm (hm _ h) rfl
theorem RdL.more {B : Nat} {W0 : World} {L L' : List It} {v : Value} {xs : List Int} (h : RdL B W0 L v xs) (hs : ∀ it ∈ L, it ∈ L') : RdL B W0 L' v xs := fun w M H hm => h w M H fun it hit => hm it (hs it hit)
theorem flat_set12 (a b : List FileG) (x : FileG) (v : Value) (ds : List Int) (s : Int) : (((a ++ x :: b).flatMap FileG.cells).set (a.length * 3 + 1) v).set (a.length * 3 + 2) (.int .i64 s) = (a ++ ⟨x.nv, v, x.nm, ds, s⟩ :: b).flatMap FileG.cells := by
  have h1 : (a ++ x :: b)[a.length]? = some x := by simp
  rw [flat_set (v := v) (x' := ⟨x.nv, v, x.nm, ds, x.sf⟩) FileG.cells_len _ a.length 1 _ h1 (by decide) rfl, flat_set (v := .int .i64 s) (x' := ⟨x.nv, v, x.nm, ds, s⟩) FileG.cells_len _ a.length 2 ⟨x.nv, v, x.nm, ds, x.sf⟩ (get_set h1) (by decide) rfl, List.set_set, set_mid, List.append_assoc]
  rfl
theorem ok_write : callOK Try.prog 81 = true := by kernel_rfl
theorem impl_write_full {g : Nat} {fs : List FileG} {nm : List Int} {A A1 : Option Addr} {n c n1 c1 : Nat} {v : Value} {i0 : Nat} {W : World} (hg : W.cell? ⟨g, 0, none⟩ = some (.slice A n c)) (hx : RdF W (.slice A n c) n fs) (hl : n ≤ 4294967296) (hb : ∀ f ∈ fs, byteOK f.nm) (hv : RdB W v nm) (hn : byteOK nm) (hi : LowF fs nm i0) (hh : hitF fs nm i0 = false) (hf : 50 ≤ n) :
    GivesV Try.prog 81 [.pointer (some ⟨g, 0, none⟩), v, .slice A1 n1 c1] W (.iface 138 (.int .i64 6)) := by
  have H := St.enter W
  obtain ⟨_, A0, c0, rfl, _⟩ := id hv
  refine calls_of_vcV (args := [.pointer (some ⟨g, 0, none⟩), .slice A0 nm.length c0, .slice A1 n1 c1]) Try.func81 rfl (by kernel_rfl) (Nat.le_of_ble_eq_true rfl) ?_
  refine callV (u := .tuple #[.int .i64 i0, .bool false]) ok_find (by rw [← hh]; exact impl_find hg hx hl hb hv hn hi) H fun w H => ?_
  refine JoinV.mk ?_
  refine ifNot ?_
  refine ifF ?_
  refine loadS (v := .slice A n c) ((HeldW.ofBelow H.below).cell hg) ?_
  refine ifB (fun c5 => ?_) (fun c5 => absurd c5 (by omega))
  exact Exists.intro _ (And.intro rfl (And.intro rfl H.none))
theorem impl_write_new {g : Nat} {a b : List FileG} {nm ds : List Int} {A A1 : Option Addr} {n c n1 c1 : Nat} {v : Value} {B : Nat} {W0 w : World} {L : List It} (H : St B W0 w (memS g (.slice A n c) n (a ++ b) L)) (hl : n < 50) (hb : ∀ f' ∈ a ++ b, byteOK f'.nm) (hv : RdL B W0 L v nm) (hn : byteOK nm) (hln : nm.length ≤ 1099511627776) (hd : RdL B W0 L (.slice A1 n1 c1) ds) (hld : n1 ≤ 1099511627776) (hi : LowF (a ++ b) nm a.length) (hh : hitF (a ++ b) nm a.length = false) :
    Calls Try.prog 81 #[.pointer (some ⟨g, 0, none⟩), v, .slice A1 n1 c1] w fun e w' => e = .returned .nilIface ∧ ∃ A' c' f', f'.p = ⟨nm, ds, 0⟩ ∧ St B W0 w' (memS g (.slice A' (n + 1) c') (n + 1) (a ++ f' :: b) L) := by
  obtain ⟨_, A0, c0, rfl, _⟩ := id (hv _ _ H (fun it hit => by simp [hit]))
  obtain rfl : n1 = ds.length := by obtain ⟨_, _, _, e, _⟩ := id (hd _ _ H (fun it hit => by simp [hit])); cases e; rfl
  have hx := memS_rd H
  have hnl := hx.len
  have h1 := one_own H (gs := a ++ b) (fun it hit => by simp only [List.mem_cons, List.mem_append]; right; right; left; exact hit)
  refine calls_of_vcV (args := [.pointer (some ⟨g, 0, none⟩), .slice A0 nm.length c0, .slice A1 ds.length c1]) Try.func81 rfl (by kernel_rfl) (Nat.le_of_ble_eq_true rfl) ?_
  refine callV (u := .tuple #[.int .i64 (a.length : Nat), .bool false]) ok_find (by rw [← hh]; exact impl_find (cell0 H 0 rfl rfl) hx (by omega) hb (hv _ _ H (fun it hit => by simp [hit])) hn hi) H fun w H => ?_
  refine JoinV.mk ?_
  refine ifNot ?_
  refine ifF ?_
  refine loadO H 0 rfl rfl ?_
  refine ifB (fun c4 => absurd c4 (by omega)) (fun c4 => ?_)
  refine regG [7, 8, 9, 10, 13] [7, 8, 9] [4] [0, 1, 2, 3, 4, 5, 6, 7, 8, 9, 10, 11, 12, 13] (by kernel_rfl) ?_
  (refine drawR H fun w H => ?_; have hw := HeldW.refl w)
  refine loadO H 0 rfl rfl ?_
  refine callRowB ok_clone (slices_Clone (hv _ _ H (fun it hit => by simp [hit])) (by omega)) H fun A4 k4 w hB H => ?_
  (have hw := HeldW.step hw hB; refine KeepS.mk ⟨hw, ?_⟩)
  refine RunS.mk ⟨.agg #[.slice A4 nm.length k4, .slice none 0 0, .int .i64 0], w, by kernel_rfl, ?_⟩
  refine KeepS.mk ⟨hw, ?_⟩
  refine litRB (e := 69) (sz := 3) (n := 1) (cs := [.slice A4 nm.length k4, .slice none 0 0, .int .i64 0]) H rfl (by decide) (by kernel_rfl) fun A6 k6 w hB H => ?_
  (have hw := HeldW.step hw hB; refine KeepS.mk ⟨hw, ?_⟩)
  have H : St B W0 w (.rowF (.slice A6 1 k6) 1 [⟨.slice A4 nm.length k4, .slice none 0 0, nm, [], 0⟩] :: .rowB (.slice A4 nm.length k4) nm :: memS g (.slice A n c) n (a ++ b) L) := H
  have H : St B W0 w (.rowF (.slice A6 1 k6) 1 [⟨.slice A4 nm.length k4, .slice none 0 0, nm, [], 0⟩] :: .rowF (.slice A n c) n (a ++ b) :: .mem g (.slice A n c) :: .rowB (.slice A4 nm.length k4) nm :: ((a ++ b).flatMap FileG.own ++ L)) := H.sel (fun q => by simp only [cntL_append, cntL, List.cons_append, List.nil_append, List.set_cons_zero, List.set_cons_succ, List.flatMap_append, List.flatMap_cons, List.flatMap_nil, It.rowF, It.rowB, It.rowI, It.roB, It.roI]; omega)
  refine CallS.mk ok_ins ((slices_Insert (i := a.length) H hnl (by omega) (by rw [hnl, List.length_append]; omega) h1 ⟨rfl, rfl⟩).mono ?_)
  rintro _ w2 ⟨A7, k7, rfl, H⟩
  rw [List.take_left, List.drop_left] at H
  refine storeO H 1 rfl rfl rfl fun w H => ?_
  refine regG [11, 14, 17] [11] [3, 8] [0, 1, 2, 3, 4, 5, 6, 7, 8, 9, 10, 11, 12, 13, 14, 15, 16, 17] (by kernel_rfl) ?_
  (refine drawR H fun w H => ?_; have hw := HeldW.refl w)
  refine loadO H 1 rfl rfl ?_
  refine loadO H 1 rfl rfl ?_
  have H : St B W0 w (.rowF (.slice A7 (n + 1) k7) (n + 1) (a ++ ⟨.slice A4 nm.length k4, .slice none 0 0, nm, [], 0⟩ :: b) :: .mem g (.slice A7 (n + 1) k7) :: .rowB (.slice A4 nm.length k4) nm :: ((a ++ b).flatMap FileG.own ++ L)) := H
  refine callRowB ok_clone (slices_Clone (hd _ _ H (fun it hit => by simp [hit])) (by omega)) H fun A8 k8 w hB H => ?_
  have hx1 : (a ++ (⟨.slice A4 nm.length k4, .slice none 0 0, nm, [], 0⟩ : FileG) :: b)[a.length]? = some ⟨.slice A4 nm.length k4, .slice none 0 0, nm, [], 0⟩ := by simp
  (have hw := HeldW.step hw hB; refine KeepS.mk ⟨hw, ?_⟩)
  (refine idxRow H 1 rfl (by omega) (by simp only [List.length_append] at hnl; omega) fun b0 hA hc => ?_; cases hA)
  refine storeRowN H 1 rfl (a.length * 3 + 1) (by show 0 + (a.length : Int).toNat * 3 + 1 = _; omega) (by simp only [List.length_append] at hnl; omega) rfl fun w H => ?_
  (refine idxRow H 1 rfl (by omega) (by simp only [List.length_append] at hnl; omega) fun b0 hA hc => ?_; cases hA)
  refine storeRowN H 1 rfl (a.length * 3 + 2) (by show 0 + (a.length : Int).toNat * 3 + 2 = _; omega) (by simp only [List.length_append] at hnl; omega) rfl fun w H => ?_
  have H1 : St B W0 w (.rowB (.slice A8 ds.length k8) ds :: .row (.slice (some ⟨b0, 0, none⟩) (n + 1) k7) 69 3 (n + 1) ((((a ++ (⟨.slice A4 nm.length k4, .slice none 0 0, nm, [], 0⟩ : FileG) :: b).flatMap FileG.cells).set (a.length * 3 + 1) (.slice A8 ds.length k8)).set (a.length * 3 + 2) (.int .i64 0)) :: .mem g (.slice (some ⟨b0, 0, none⟩) (n + 1) k7) :: .rowB (.slice A4 nm.length k4) nm :: ((a ++ b).flatMap FileG.own ++ L)) := H
  rw [flat_set12 (ds := ds)] at H1
  exact And.intro rfl (Exists.intro (some ⟨b0, 0, none⟩) (Exists.intro k7 (Exists.intro (⟨.slice A4 nm.length k4, .slice A8 ds.length k8, nm, ds, 0⟩ : FileG) (And.intro rfl (H1.sel (fun q => by simp only [cntL_append, cntL, List.cons_append, List.nil_append, List.set_cons_zero, List.set_cons_succ, List.flatMap_append, List.flatMap_cons, List.flatMap_nil, FileG.own, It.rowF, It.rowB, It.rowI, It.roB, It.roI]; omega))))))
theorem impl_write {g : Nat} {a b : List FileG} {f : FileG} {nm ds : List Int} {A A1 : Option Addr} {n c n1 c1 : Nat} {v : Value} {B : Nat} {W0 w : World} {L : List It} (H : St B W0 w (memS g (.slice A n c) n (a ++ f :: b) L)) (hl : n ≤ 4294967296) (hb : ∀ f' ∈ a ++ f :: b, byteOK f'.nm) (hv : RdL B W0 L v nm) (hn : byteOK nm) (hd : RdL B W0 L (.slice A1 n1 c1) ds) (hld : n1 ≤ 1099511627776) (hi : LowF (a ++ f :: b) nm a.length) (hh : hitF (a ++ f :: b) nm a.length = true) :
    Calls Try.prog 81 #[.pointer (some ⟨g, 0, none⟩), v, .slice A1 n1 c1] w fun e w' => e = .returned .nilIface ∧ ∃ A' c' f', f'.p = ⟨f.nm, ds, 0⟩ ∧ St B W0 w' (memS g (.slice A' n c') n (a ++ f' :: b) L) := by
  obtain ⟨_, A0, c0, rfl, _⟩ := id (hv _ _ H (fun it hit => by simp [hit]))
  obtain rfl : n1 = ds.length := by obtain ⟨_, _, _, e, _⟩ := id (hd _ _ H (fun it hit => by simp [hit])); cases e; rfl
  have hx := memS_rd H
  have hnl := hx.len
  refine calls_of_vcV (args := [.pointer (some ⟨g, 0, none⟩), .slice A0 nm.length c0, .slice A1 ds.length c1]) Try.func81 rfl (by kernel_rfl) (Nat.le_of_ble_eq_true rfl) ?_
  refine callV (u := .tuple #[.int .i64 (a.length : Nat), .bool true]) ok_find (by rw [← hh]; exact impl_find (cell0 H 0 rfl rfl) hx (by omega) hb (hv _ _ H (fun it hit => by simp [hit])) hn hi) H fun w H => ?_
  refine JoinV.mk ?_
  refine ifNot ?_
  refine ifT ?_
  refine regG [11, 14, 17] [11] [3, 8] [0, 1, 2, 3, 4, 5, 6, 7, 8, 9, 10, 11, 12, 13, 14, 15, 16, 17] (by kernel_rfl) ?_
  (refine drawR H fun w H => ?_; have hw := HeldW.refl w)
  refine loadO H 0 rfl rfl ?_
  refine loadO H 0 rfl rfl ?_
  refine callRowB ok_clone (slices_Clone (hd _ _ H (fun it hit => by simp [hit])) (by omega)) H fun A8 k8 w hB H => ?_
  (have hw := HeldW.step hw hB; refine KeepS.mk ⟨hw, ?_⟩)
  (refine idxRow H 2 rfl (by omega) (by simp only [List.length_append, List.length_cons] at hnl; omega) fun b0 hA hc => ?_; cases hA)
  refine storeRowN H 2 rfl (a.length * 3 + 1) (by show 0 + (a.length : Int).toNat * 3 + 1 = _; omega) (by simp only [List.length_append, List.length_cons] at hnl; omega) rfl fun w H => ?_
  (refine idxRow H 2 rfl (by omega) (by simp only [List.length_append, List.length_cons] at hnl; omega) fun b0 hA hc => ?_; cases hA)
  refine storeRowN H 2 rfl (a.length * 3 + 2) (by show 0 + (a.length : Int).toNat * 3 + 2 = _; omega) (by simp only [List.length_append, List.length_cons] at hnl; omega) rfl fun w H => ?_
  have H1 : St B W0 w (.rowB (.slice A8 ds.length k8) ds :: .mem g (.slice (some ⟨b0, 0, none⟩) n c) :: .row (.slice (some ⟨b0, 0, none⟩) n c) 69 3 n ((((a ++ f :: b).flatMap FileG.cells).set (a.length * 3 + 1) (.slice A8 ds.length k8)).set (a.length * 3 + 2) (.int .i64 0)) :: ((a ++ f :: b).flatMap FileG.own ++ L)) := H
  rw [flat_set12 (ds := ds)] at H1
  exact And.intro rfl (Exists.intro (some ⟨b0, 0, none⟩) (Exists.intro c (Exists.intro (⟨f.nv, .slice A8 ds.length k8, f.nm, ds, 0⟩ : FileG) (And.intro rfl (H1.sel (fun q => by simp only [cntL_append, cntL, List.cons_append, List.nil_append, List.set_cons_zero, List.set_cons_succ, List.flatMap_append, List.flatMap_cons, List.flatMap_nil, FileG.own, It.rowF, It.rowB, It.rowI, It.roB, It.roI]; omega))))))
theorem ok_rename : callOK Try.prog 83 = true := by kernel_rfl
theorem impl_rename_no {g : Nat} {fs : List FileG} {nm : List Int} {A A1 : Option Addr} {n c n1 c1 : Nat} {v : Value} {i0 : Nat} {W : World} (hg : W.cell? ⟨g, 0, none⟩ = some (.slice A n c)) (hx : RdF W (.slice A n c) n fs) (hl : n ≤ 4294967296) (hb : ∀ f ∈ fs, byteOK f.nm) (hv : RdB W v nm) (hn : byteOK nm) (hi : LowF fs nm i0) (hh : hitF fs nm i0 = false) :
    GivesV Try.prog 83 [.pointer (some ⟨g, 0, none⟩), v, .slice A1 n1 c1] W (.iface 138 (.int .i64 5)) := by
  have H := St.enter W
  obtain ⟨_, A0, c0, rfl, _⟩ := id hv
  refine calls_of_vcV (args := [.pointer (some ⟨g, 0, none⟩), .slice A0 nm.length c0, .slice A1 n1 c1]) Try.func83 rfl (by kernel_rfl) (Nat.le_of_ble_eq_true rfl) ?_
  refine callV ok_file (impl_file_no hg hx hl hb hv hn hi hh) H fun w H => ?_
  refine ifNot ?_
  refine ifF ?_
  exact Exists.intro _ (And.intro rfl (And.intro rfl H.none))
end Go.Proofs.YtfhpgfbakimmhaaE
