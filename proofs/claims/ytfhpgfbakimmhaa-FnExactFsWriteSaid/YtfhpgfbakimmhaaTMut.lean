/- (*memory).remove, sync, write, rename. -/
import Derived.Test.YtfhpgfbakimmhaaTSlc
import Derived.Test.YtfhpgfbakimmhaaTCrash2
namespace Go.Proofs.YtfhpgfbakimmhaaE
open Go Go.RowKit
set_option linter.unusedVariables false
set_option maxRecDepth 100000
set_option maxHeartbeats 2000000

theorem one_own {B : Nat} {W0 w : World} {L : List It} (H : St B W0 w L) {gs : List FileG} (h : ∀ it ∈ gs.flatMap FileG.own, it ∈ L) : ∀ g ∈ gs, g.nv.oneCell' = true ∧ g.dv.oneCell' = true := by
  intro g hg
  have k : ∀ it ∈ g.own, it ∈ L := fun it hit => h it (List.mem_flatMap.2 ⟨g, hg, hit⟩)
  have k1 : w.ownsRow B 5 1 g.nv g.nm.length (g.nm.map (.int .u8)) := H.mem (k (.rowB g.nv g.nm) (by simp [FileG.own]))
  have k2 : w.ownsRow B 5 1 g.dv g.dt.length (g.dt.map (.int .u8)) := H.mem (k (.rowB g.dv g.dt) (by simp [FileG.own]))
  obtain ⟨A1, c1, e1⟩ := own_val k1
  obtain ⟨A2, c2, e2⟩ := own_val k2
  rw [e1, e2]; exact ⟨rfl, rfl⟩
abbrev memS (g : Nat) (v : Value) (n : Nat) (gs : List FileG) (L : List It) : List It := .mem g v :: .rowF v n gs :: (gs.flatMap FileG.own ++ L)
theorem memS_rd {B : Nat} {W0 w : World} {L : List It} {g n : Nat} {v : Value} {gs : List FileG} (H : St B W0 w (memS g v n gs L)) : RdF w v n gs := rdFm H v n gs (by simp) (fun it hit => by simp [hit])
theorem ok_remove : callOK Try.prog 76 = true := by kernel_rfl
theorem impl_remove_no {g : Nat} {fs : List FileG} {nm : List Int} {A : Option Addr} {n c : Nat} {v : Value} {i0 : Nat} {W : World} (hg : W.cell? ⟨g, 0, none⟩ = some (.slice A n c)) (hx : RdF W (.slice A n c) n fs) (hl : n ≤ 4294967296) (hb : ∀ f ∈ fs, byteOK f.nm) (hv : RdB W v nm) (hn : byteOK nm) (hi : LowF fs nm i0) (hh : hitF fs nm i0 = false) :
    GivesV Try.prog 76 [.pointer (some ⟨g, 0, none⟩), v] W (.iface 138 (.int .i64 5)) := by
  have H := St.enter W
  obtain ⟨_, A0, c0, rfl, _⟩ := id hv
  refine calls_of_vcV (args := [.pointer (some ⟨g, 0, none⟩), .slice A0 nm.length c0]) Try.func76 rfl (by kernel_rfl) (Nat.le_of_ble_eq_true rfl) ?_
  refine callV (u := .tuple #[.int .i64 i0, .bool false]) ok_find (by rw [← hh]; exact impl_find hg hx hl hb hv hn hi) H fun w H => ?_
  refine ifNot ?_
  refine ifF ?_
  exact Exists.intro _ (And.intro rfl (And.intro rfl H.none))
theorem impl_remove {g : Nat} {a b : List FileG} {f : FileG} {nm : List Int} {A : Option Addr} {n c : Nat} {v : Value} {B : Nat} {W0 w : World} {L : List It} (H : St B W0 w (memS g (.slice A n c) n (a ++ f :: b) L)) (hl : n ≤ 4294967296) (hb : ∀ f' ∈ a ++ f :: b, byteOK f'.nm) (hv : RdB w v nm) (hn : byteOK nm) (hi : LowF (a ++ f :: b) nm a.length) (hh : hitF (a ++ f :: b) nm a.length = true) :
    Calls Try.prog 76 #[.pointer (some ⟨g, 0, none⟩), v] w fun e w' => e = .returned .nilIface ∧ St B W0 w' (memS g (.slice A (n - 1) c) (n - 1) (a ++ b) (f.own ++ L)) := by
  obtain ⟨_, A0, c0, rfl, _⟩ := id hv
  have hx := memS_rd H
  have hnl := hx.len
  have hnl2 : n = a.length + (b.length + 1) := by rw [hnl, List.length_append, List.length_cons]
  have h1 := one_own H (gs := a ++ f :: b) (fun it hit => by simp only [List.mem_cons, List.mem_append]; right; right; left; exact hit)
  refine calls_of_vcV (args := [.pointer (some ⟨g, 0, none⟩), .slice A0 nm.length c0]) Try.func76 rfl (by kernel_rfl) (Nat.le_of_ble_eq_true rfl) ?_
  refine callV (u := .tuple #[.int .i64 (a.length : Nat), .bool true]) ok_find (by rw [← hh]; exact impl_find (cell0 H 0 rfl rfl) hx hl hb hv hn hi) H fun w H => ?_
  refine ifNot ?_
  refine ifT ?_
  refine loadO H 0 rfl rfl ?_
  refine arN (by omega) ?_
  refine CallS.mk ok_del ((slices_Delete (i := a.length) H.sw2 hnl hl (by omega) h1).mono ?_)
  rintro _ w2 ⟨rfl, H⟩
  have H := H.sw2
  refine storeO H 0 rfl rfl rfl fun w H => ?_
  rw [List.eraseIdx_append_of_length_le (Nat.le_refl _), Nat.sub_self, List.eraseIdx_zero, List.tail_cons] at H
  have H : St B W0 w (.mem g (.slice A (n - 1) c) :: .rowF (.slice A (n - 1) c) (n - 1) (a ++ b) :: ((a ++ f :: b).flatMap FileG.own ++ L)) := H
  exact And.intro rfl (H.sel (fun q => by simp only [cntL_append, cntL, List.cons_append, List.nil_append, List.set_cons_zero, List.set_cons_succ, List.flatMap_append, List.flatMap_cons, List.flatMap_nil, It.rowF, It.rowB, It.rowI, It.roB, It.roI]; omega))
theorem ok_sync : callOK Try.prog 79 = true := by kernel_rfl
theorem impl_sync_no {g : Nat} {fs : List FileG} {nm : List Int} {A : Option Addr} {n c : Nat} {v : Value} {i0 : Nat} {W : World} (hg : W.cell? ⟨g, 0, none⟩ = some (.slice A n c)) (hx : RdF W (.slice A n c) n fs) (hl : n ≤ 4294967296) (hb : ∀ f ∈ fs, byteOK f.nm) (hv : RdB W v nm) (hn : byteOK nm) (hi : LowF fs nm i0) (hh : hitF fs nm i0 = false) :
    GivesV Try.prog 79 [.pointer (some ⟨g, 0, none⟩), v] W (.iface 138 (.int .i64 5)) := by
  have H := St.enter W
  obtain ⟨_, A0, c0, rfl, _⟩ := id hv
  refine calls_of_vcV (args := [.pointer (some ⟨g, 0, none⟩), .slice A0 nm.length c0]) Try.func79 rfl (by kernel_rfl) (Nat.le_of_ble_eq_true rfl) ?_
  refine callV ok_file (impl_file_no hg hx hl hb hv hn hi hh) H fun w H => ?_
  refine JoinV.mk ?_
  refine ifF ?_
  exact Exists.intro _ (And.intro rfl (And.intro rfl H.none))
theorem impl_sync {g : Nat} {a b : List FileG} {f : FileG} {nm : List Int} {A : Option Addr} {n c : Nat} {v : Value} {B : Nat} {W0 w : World} {L : List It} (H : St B W0 w (memS g (.slice A n c) n (a ++ f :: b) L)) (hl : n ≤ 4294967296) (hd : f.dt.length ≤ 4294967296) (hb : ∀ f' ∈ a ++ f :: b, byteOK f'.nm) (hv : RdB w v nm) (hn : byteOK nm) (hi : LowF (a ++ f :: b) nm a.length) (hh : hitF (a ++ f :: b) nm a.length = true) :
    Calls Try.prog 79 #[.pointer (some ⟨g, 0, none⟩), v] w fun e w' => e = .returned .nilIface ∧ St B W0 w' (memS g (.slice A n c) n (a ++ ⟨f.nv, f.dv, f.nm, f.dt, f.dt.length⟩ :: b) L) := by
  obtain ⟨_, A0, c0, rfl, _⟩ := id hv
  have hx := memS_rd H
  have hnl := hx.len
  have hnl2 : n = a.length + (b.length + 1) := by rw [hnl, List.length_append, List.length_cons]
  have hf : (a ++ f :: b)[a.length]? = some f := by simp
  refine calls_of_vcV (args := [.pointer (some ⟨g, 0, none⟩), .slice A0 nm.length c0]) Try.func79 rfl (by kernel_rfl) (Nat.le_of_ble_eq_true rfl) ?_
  obtain ⟨bb, rfl, _⟩ := own_cells (H.own 1 rfl) (by omega)
  have hk := (hx.kids f (List.mem_of_getElem? hf)).2
  refine callV ok_file (impl_file (cell0 H 0 rfl rfl) hx hl hb hv hn hi hh) H fun w H => ?_
  clear hi hh hb hx
  obtain ⟨nv, dv, fm, dt, sf⟩ := f
  obtain ⟨_, A3, c3, e3, _⟩ := id hk
  dsimp only at *
  subst e3
  refine JoinV.mk ?_
  refine ifT ?_
  refine loadS (v := .slice A3 dt.length c3) (rowCell (k := 1) FileG.cells_len H 1 rfl hf (by omega) rfl (by show 0 + a.length * 3 + 1 = _; omega)) ?_
  refine storeRowN H 1 rfl (a.length * 3 + 2) (by show 0 + a.length * 3 + 2 = _; omega) (by omega) rfl fun w H => ?_
  have H1 : St B W0 w (.mem g (.slice (some ⟨bb, 0, none⟩) n c) :: .row (.slice (some ⟨bb, 0, none⟩) n c) 69 3 n (((a ++ ⟨nv, .slice A3 dt.length c3, fm, dt, sf⟩ :: b).flatMap FileG.cells).set (a.length * 3 + 2) (.int .i64 dt.length)) :: ((a ++ ⟨nv, .slice A3 dt.length c3, fm, dt, sf⟩ :: b).flatMap FileG.own ++ L)) := H
  rw [flat_set (v := .int .i64 dt.length) (x' := ⟨nv, .slice A3 dt.length c3, fm, dt, dt.length⟩) FileG.cells_len _ a.length 2 _ hf (by decide) rfl, set_mid, List.append_assoc] at H1
  exact And.intro rfl (H1.sel (fun q => by simp only [cntL_append, cntL, List.cons_append, List.nil_append, List.set_cons_zero, List.set_cons_succ, List.flatMap_append, List.flatMap_cons, List.flatMap_nil, FileG.own, It.rowF, It.rowB, It.rowI, It.roB, It.roI]; omega))
