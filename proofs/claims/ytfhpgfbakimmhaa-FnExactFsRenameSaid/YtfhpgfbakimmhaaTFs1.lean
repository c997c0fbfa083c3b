/- FsRemove, FsSync, FsWrite, FsRename: the reference's side. -/
import Derived.Test.YtfhpgfbakimmhaaTWith
namespace Go.Proofs.YtfhpgfbakimmhaaE
open Go Go.RowKit
set_option linter.unusedVariables false
set_option maxRecDepth 100000
set_option maxHeartbeats 2000000

theorem findF_p {fs : List FileG} {nm : List Int} : findP (fs.map FileG.p) nm = (findF fs nm).map FileG.p := by
  unfold findP findF; rw [List.find?_map]; rfl
theorem rets {A' : Option Addr} {n c' : Nat} {gs : List FileG} {r : List FileP × Int} {x : Value}  {B : Nat} {W0 w : World} (hx : x = .tuple #[.agg #[.slice A' n c'], .int .i64 r.2]) (hg : gs.map FileG.p = r.1) (H : St B W0 w (.rowF (.slice A' n c') n gs :: gs.flatMap FileG.own)) :
    ∃ A n c gs, Ending.returned x = .returned (.tuple #[.agg #[.slice A n c], .int .i64 r.2]) ∧ gs.map FileG.p = r.1 ∧ St B W0 w (.rowF (.slice A n c) n gs :: gs.flatMap FileG.own) := ⟨A', n, c', gs, by rw [hx], hg, H⟩
theorem ok_specFsRemove : callOK Try.prog 30 = true := by kernel_rfl
theorem spec_FsRemove {fs : List FileG} {A : Option Addr} {n c : Nat} {A0 : Option Addr} {c0 : Nat} {nm : List Int} {W : World} (hx : RdF W (.slice A n c) n fs) (hl : n ≤ 4294967296) (hs : ∀ f ∈ fs, SmallF f) (hb : ∀ f ∈ fs, byteOK f.nm) (v0 : RdB W (.slice A0 nm.length c0) nm) (hn : byteOK nm) (l0 : nm.length ≤ 1048576) :
    FsOut 30 [.agg #[.slice A n c], .slice A0 nm.length c0] W (removeF (fs.map FileG.p) nm) := by
  have H := St.enter W
  obtain ⟨r, hr⟩ : ∃ r, removeF (fs.map FileG.p) nm = r := ⟨_, rfl⟩
  rw [hr]
  unfold removeF at hr
  rw [findF_p] at hr
  obtain ⟨of, ho⟩ : ∃ o, findF fs nm = o := ⟨_, rfl⟩
  refine calls_of_vcV (args := [.agg #[.slice A n c], .slice A0 nm.length c0]) Try.func30 rfl (by kernel_rfl) (Nat.le_of_ble_eq_true rfl) ?_
  refine newR (o := .cells #[.slice A n c] _) H fun g0 w H => ?_
  refine newR (o := .cells #[.slice none 0 0] _) H fun g1 w H => ?_
  refine RegV.mk ?_
  refine loadO H 1 rfl rfl ?_
  refine callV ok_spec_ValidFs (spec_ValidFs (hx.ext H.below) hl hs hb) H fun w H => ?_
  refine gNot ?_
  refine gT (fun c6 => ?_) (fun c6 => ?_)
  · refine callV ok_l7nameOK (spec_l7nameOK _) H fun w H => ?_
    refine ifNot ?_
    refine ifB (fun c9 => ?_) (fun c9 => ?_)
    · refine loadO H 1 rfl rfl ?_
      refine callV (u := findV of) ok_l7find (by rw [← ho]; exact spec_l7find (hx.ext H.below) hl hb (v0.ext H.below) hn) H fun w H => ?_
      have hv5 : validF (fs.map FileG.p) = true := decide_eq_true c6
      have hn50 := (of_decide_eq_true hv5).1
      rw [List.length_map, ← hx.len] at hn50
      rw [if_pos ⟨hv5, c9⟩, ho] at hr
      cases of with
      | none =>
        subst hr
        refine newR (o := .cells #[.slice none 0 0, .slice none 0 0, .int .i64 0] _) H fun g0 w H => ?_
        refine storeO H 0 rfl rfl rfl fun w H => ?_
        refine storeO H 0 rfl rfl rfl fun w H => ?_
        refine storeO H 0 rfl rfl rfl fun w H => ?_
        refine ifNot ?_
        refine ifF ?_
        refine loadO H 2 rfl rfl ?_
        refine CallS.mk ok_l7copy ((spec_l7copy (hx.ext H.below) hl hs).mono ?_)
        rintro _ w2 ⟨A', c', gs, rfl, hg, H2⟩
        have H := H.joinL H2 (own_all _ _ _ _ _)
        refine storeO H 1 rfl rfl rfl fun w H => ?_
        refine loadO H 1 rfl rfl ?_
        exact rets rfl hg H.tl.tl.tl
      | some f =>
        subst hr
        have k1 := hx.kids f (findF_mem ho)
        have hsf := hs f (findF_mem ho)
        obtain ⟨nv, dv, fm, dt, sf⟩ := f
        obtain ⟨_, A2, c2, e2, _⟩ := id k1.1
        obtain ⟨_, A3, c3, e3, _⟩ := id k1.2
        dsimp only at *
        subst e2 e3
        refine newR (o := .cells #[.slice none 0 0, .slice none 0 0, .int .i64 0] _) H fun g0 w H => ?_
        refine storeO H 0 rfl rfl rfl fun w H => ?_
        refine storeO H 0 rfl rfl rfl fun w H => ?_
        refine storeO H 0 rfl rfl rfl fun w H => ?_
        refine ifNot ?_
        refine ifT ?_
        refine loadO H 2 rfl rfl ?_
        refine CallS.mk ok_l7without ((spec_l7without (hx.ext H.below) hl hs hb (v0.ext H.below) hn).mono ?_)
        rintro _ w2 ⟨A', n', c', gs, rfl, _, hg, H2⟩
        have H := H.joinL H2 (own_all _ _ _ _ _)
        refine storeO H 1 rfl rfl rfl fun w H => ?_
        refine loadO H 1 rfl rfl ?_
        exact rets rfl hg H.tl.tl.tl
    · refine RunS.mk ⟨.agg #[.slice none 0 0], w, by kernel_rfl, ?_⟩
      refine storeO H 0 rfl rfl rfl fun w H => ?_
      refine loadO H 0 rfl rfl ?_
      rw [if_neg (fun q => c9 q.2)] at hr
      subst hr
      exact rets (gs := []) rfl rfl H.rowN
  · refine ifT ?_
    refine RunS.mk ⟨.agg #[.slice none 0 0], w, by kernel_rfl, ?_⟩
    refine storeO H 0 rfl rfl rfl fun w H => ?_
    refine loadO H 0 rfl rfl ?_
    rw [if_neg (fun q => c6 (of_decide_eq_true q.1))] at hr
    subst hr
    exact rets (gs := []) rfl rfl H.rowN
    
theorem ok_specFsSync : callOK Try.prog 32 = true := by kernel_rfl
theorem spec_FsSync {fs : List FileG} {A : Option Addr} {n c : Nat} {A0 : Option Addr} {c0 : Nat} {nm : List Int} {W : World} (hx : RdF W (.slice A n c) n fs) (hl : n ≤ 4294967296) (hs : ∀ f ∈ fs, SmallF f) (hb : ∀ f ∈ fs, byteOK f.nm) (v0 : RdB W (.slice A0 nm.length c0) nm) (hn : byteOK nm) (l0 : nm.length ≤ 1048576) :
    FsOut 32 [.agg #[.slice A n c], .slice A0 nm.length c0] W (syncF (fs.map FileG.p) nm) := by
  have H := St.enter W
  obtain ⟨r, hr⟩ : ∃ r, syncF (fs.map FileG.p) nm = r := ⟨_, rfl⟩
  rw [hr]
  unfold syncF at hr
  rw [findF_p] at hr
  obtain ⟨of, ho⟩ : ∃ o, findF fs nm = o := ⟨_, rfl⟩
  refine calls_of_vcV (args := [.agg #[.slice A n c], .slice A0 nm.length c0]) Try.func32 rfl (by kernel_rfl) (Nat.le_of_ble_eq_true rfl) ?_
  refine newR (o := .cells #[.slice A n c] _) H fun g0 w H => ?_
  refine newR (o := .cells #[.slice none 0 0] _) H fun g1 w H => ?_
  refine RegV.mk ?_
  refine loadO H 1 rfl rfl ?_
  refine callV ok_spec_ValidFs (spec_ValidFs (hx.ext H.below) hl hs hb) H fun w H => ?_
  refine gNot ?_
  refine gT (fun c6 => ?_) (fun c6 => ?_)
  · refine callV ok_l7nameOK (spec_l7nameOK _) H fun w H => ?_
    refine ifNot ?_
    refine ifB (fun c9 => ?_) (fun c9 => ?_)
    · refine loadO H 1 rfl rfl ?_
      refine callV (u := findV of) ok_l7find (by rw [← ho]; exact spec_l7find (hx.ext H.below) hl hb (v0.ext H.below) hn) H fun w H => ?_
      have hv5 : validF (fs.map FileG.p) = true := decide_eq_true c6
      have hn50 := (of_decide_eq_true hv5).1
      rw [List.length_map, ← hx.len] at hn50
      rw [if_pos ⟨hv5, c9⟩, ho] at hr
      cases of with
      | none =>
        subst hr
        refine newR (o := .cells #[.slice none 0 0, .slice none 0 0, .int .i64 0] _) H fun g0 w H => ?_
        refine storeO H 0 rfl rfl rfl fun w H => ?_
        refine storeO H 0 rfl rfl rfl fun w H => ?_
        refine storeO H 0 rfl rfl rfl fun w H => ?_
        refine ifNot ?_
        refine ifF ?_
        refine loadO H 2 rfl rfl ?_
        refine CallS.mk ok_l7copy ((spec_l7copy (hx.ext H.below) hl hs).mono ?_)
        rintro _ w2 ⟨A', c', gs, rfl, hg, H2⟩
        have H := H.joinL H2 (own_all _ _ _ _ _)
        refine storeO H 1 rfl rfl rfl fun w H => ?_
        refine loadO H 1 rfl rfl ?_
        exact rets rfl hg H.tl.tl.tl
      | some f =>
        subst hr
        have k1 := hx.kids f (findF_mem ho)
        have hsf := hs f (findF_mem ho)
        obtain ⟨nv, dv, fm, dt, sf⟩ := f
        obtain ⟨_, A2, c2, e2, _⟩ := id k1.1
        obtain ⟨_, A3, c3, e3, _⟩ := id k1.2
        dsimp only at *
        subst e2 e3
        refine newR (o := .cells #[.slice none 0 0, .slice none 0 0, .int .i64 0] _) H fun g0 w H => ?_
        refine storeO H 0 rfl rfl rfl fun w H => ?_
        refine storeO H 0 rfl rfl rfl fun w H => ?_
        refine storeO H 0 rfl rfl rfl fun w H => ?_
        refine ifNot ?_
        refine ifT ?_
        refine loadO H 0 rfl rfl ?_
        refine storeO H 0 rfl rfl rfl fun w H => ?_
        refine loadO H 2 rfl rfl ?_
        refine loadO H 0 rfl rfl ?_
        refine loadO H 0 rfl rfl ?_
        refine loadO H 0 rfl rfl ?_
        refine CallS.mk ok_l7with ((spec_l7with (hx.ext H.below) (by omega) hs hb (k1.1.ext H.below) (k1.2.ext H.below) (hb _ (findF_mem ho)) ⟨hsf.nm, hsf.dt⟩).mono ?_)
        rintro _ w2 ⟨A', n', c', gs, rfl, _, hg, H2⟩
        have H := H.joinL H2 (own_all _ _ _ _ _)
        refine storeO H 1 rfl rfl rfl fun w H => ?_
        refine loadO H 1 rfl rfl ?_
        exact rets rfl hg H.tl.tl.tl
    · refine RunS.mk ⟨.agg #[.slice none 0 0], w, by kernel_rfl, ?_⟩
      refine storeO H 0 rfl rfl rfl fun w H => ?_
      refine loadO H 0 rfl rfl ?_
      rw [if_neg (fun q => c9 q.2)] at hr
      subst hr
      exact rets (gs := []) rfl rfl H.rowN
  · refine ifT ?_
    refine RunS.mk ⟨.agg #[.slice none 0 0], w, by kernel_rfl, ?_⟩
    refine storeO H 0 rfl rfl rfl fun w H => ?_
    refine loadO H 0 rfl rfl ?_
    rw [if_neg (fun q => c6 (of_decide_eq_true q.1))] at hr
    subst hr
    exact rets (gs := []) rfl rfl H.rowN
    
theorem ok_specFsWrite : callOK Try.prog 34 = true := by kernel_rfl
theorem spec_FsWrite {fs : List FileG} {A : Option Addr} {n c : Nat} {A0 : Option Addr} {c0 : Nat} {nm : List Int} {A1 : Option Addr} {c1 : Nat} {ds : List Int} {W : World} (hx : RdF W (.slice A n c) n fs) (hl : n ≤ 4294967296) (hs : ∀ f ∈ fs, SmallF f) (hb : ∀ f ∈ fs, byteOK f.nm) (v0 : RdB W (.slice A0 nm.length c0) nm) (hn : byteOK nm) (l0 : nm.length ≤ 1048576) (v1 : RdB W (.slice A1 ds.length c1) ds) (hn1 : byteOK ds) (l1 : ds.length ≤ 1048576) :
    FsOut 34 [.agg #[.slice A n c], .slice A0 nm.length c0, .slice A1 ds.length c1] W (writeF (fs.map FileG.p) nm ds) := by
  have H := St.enter W
  obtain ⟨r, hr⟩ : ∃ r, writeF (fs.map FileG.p) nm ds = r := ⟨_, rfl⟩
  rw [hr]
  unfold writeF at hr
  obtain ⟨of, ho⟩ : ∃ o, findF fs nm = o := ⟨_, rfl⟩
  refine calls_of_vcV (args := [.agg #[.slice A n c], .slice A0 nm.length c0, .slice A1 ds.length c1]) Try.func34 rfl (by kernel_rfl) (Nat.le_of_ble_eq_true rfl) ?_
  refine newR (o := .cells #[.slice A n c] _) H fun g0 w H => ?_
  refine newR (o := .cells #[.slice none 0 0] _) H fun g1 w H => ?_
  refine RegV.mk ?_
  refine loadO H 1 rfl rfl ?_
  refine callV ok_spec_ValidFs (spec_ValidFs (hx.ext H.below) hl hs hb) H fun w H => ?_
  refine gNot ?_
  refine gT (fun c6 => ?_) (fun c6 => ?_)
  · refine callV ok_l7nameOK (spec_l7nameOK _) H fun w H => ?_
    refine ifNot ?_
    refine ifB (fun c9 => ?_) (fun c9 => ?_)
    · refine loadO H 1 rfl rfl ?_
      refine RunS.mk ⟨.agg #[.slice A0 nm.length c0, .slice A1 ds.length c1, .int .i64 0], w, by kernel_rfl, ?_⟩
      have hv5 : validF (fs.map FileG.p) = true := decide_eq_true c6
      have hn50 := (of_decide_eq_true hv5).1
      rw [List.length_map, ← hx.len] at hn50
      rw [if_pos ⟨hv5, c9⟩] at hr
      refine CallS.mk ok_l7with ((spec_l7with (sf := 0) (hx.ext H.below) (by omega) hs hb (v0.ext H.below) (v1.ext H.below) hn ⟨by omega, by omega⟩).mono ?_)
      rintro _ w2 ⟨A', n', c', gs, rfl, _, hg, H2⟩
      have H := H.joinL H2 (own_all _ _ _ _ _)
      have hgl : n' = gs.length := by have h := (H2.rd 0 rfl).len; rw [flat_len FileG.cells_len] at h; omega
      have hgl2 := congrArg List.length hg
      rw [List.length_map] at hgl2
      refine newR (o := .cells #[.slice none 0 0] _) H fun g5 w H => ?_
      refine storeO H 0 rfl rfl rfl fun w H => ?_
      refine loadO H 0 rfl rfl ?_
      refine ifB (fun c1 => ?_) (fun c1 => ?_)
      · refine loadO H 2 rfl rfl ?_
        rw [if_pos (by omega)] at hr
        subst hr
        refine CallS.mk ok_l7copy ((spec_l7copy (hx.ext H.below) hl hs).mono ?_)
        rintro _ w3 ⟨A'', c'', gs', rfl, hg', H3⟩
        have H := H.joinL H3 (own_all _ _ _ _ _)
        refine storeO H 1 rfl rfl rfl fun w H => ?_
        refine loadO H 1 rfl rfl ?_
        exact rets rfl hg' (H.sel (fun q => by simp only [cntL_append, cntL, List.cons_append, List.nil_append, List.set_cons_zero, List.set_cons_succ, List.flatMap_append, List.flatMap_cons, List.flatMap_nil, It.rowF, It.rowB, It.rowI, It.roB, It.roI]; omega))
      · refine loadO H 0 rfl rfl ?_
        refine storeO H 1 rfl rfl rfl fun w H => ?_
        refine loadO H 1 rfl rfl ?_
        rw [if_neg (by omega)] at hr
        subst hr
        exact rets rfl hg H.tl.tl.tl
    · refine RunS.mk ⟨.agg #[.slice none 0 0], w, by kernel_rfl, ?_⟩
      refine storeO H 0 rfl rfl rfl fun w H => ?_
      refine loadO H 0 rfl rfl ?_
      rw [if_neg (fun q => c9 q.2)] at hr
      subst hr
      exact rets (gs := []) rfl rfl H.rowN
  · refine ifT ?_
    refine RunS.mk ⟨.agg #[.slice none 0 0], w, by kernel_rfl, ?_⟩
    refine storeO H 0 rfl rfl rfl fun w H => ?_
    refine loadO H 0 rfl rfl ?_
    rw [if_neg (fun q => c6 (of_decide_eq_true q.1))] at hr
    subst hr
    exact rets (gs := []) rfl rfl H.rowN
    
theorem ok_specFsRename : callOK Try.prog 36 = true := by kernel_rfl
theorem spec_FsRename {fs : List FileG} {A : Option Addr} {n c : Nat} {A0 : Option Addr} {c0 : Nat} {nm : List Int} {A1 : Option Addr} {c1 : Nat} {ds : List Int} {W : World} (hx : RdF W (.slice A n c) n fs) (hl : n ≤ 4294967296) (hs : ∀ f ∈ fs, SmallF f) (hb : ∀ f ∈ fs, byteOK f.nm) (v0 : RdB W (.slice A0 nm.length c0) nm) (hn : byteOK nm) (l0 : nm.length ≤ 1048576) (v1 : RdB W (.slice A1 ds.length c1) ds) (hn1 : byteOK ds) (l1 : ds.length ≤ 1048576) :
    FsOut 36 [.agg #[.slice A n c], .slice A0 nm.length c0, .slice A1 ds.length c1] W (renameF (fs.map FileG.p) nm ds) := by
  have H := St.enter W
  obtain ⟨r, hr⟩ : ∃ r, renameF (fs.map FileG.p) nm ds = r := ⟨_, rfl⟩
  rw [hr]
  unfold renameF at hr
  rw [findF_p] at hr
  obtain ⟨of, ho⟩ : ∃ o, findF fs nm = o := ⟨_, rfl⟩
  refine calls_of_vcV (args := [.agg #[.slice A n c], .slice A0 nm.length c0, .slice A1 ds.length c1]) Try.func36 rfl (by kernel_rfl) (Nat.le_of_ble_eq_true rfl) ?_
  refine newR (o := .cells #[.slice A n c] _) H fun g0 w H => ?_
  refine newR (o := .cells #[.slice none 0 0] _) H fun g1 w H => ?_
  refine RegV.mk ?_
  refine loadO H 1 rfl rfl ?_
  refine callV ok_spec_ValidFs (spec_ValidFs (hx.ext H.below) hl hs hb) H fun w H => ?_
  refine gNot ?_
  refine gT (fun c6 => ?_) (fun c6 => ?_)
  · refine callV ok_l7nameOK (spec_l7nameOK _) H fun w H => ?_
    refine gNot ?_
    refine gT (fun c9 => ?_) (fun c9 => ?_)
    · refine callV ok_l7nameOK (spec_l7nameOK _) H fun w H => ?_
      refine ifNot ?_
      refine ifB (fun c12 => ?_) (fun c12 => ?_)
      · refine loadO H 1 rfl rfl ?_
        refine callV (u := findV of) ok_l7find (by rw [← ho]; exact spec_l7find (hx.ext H.below) hl hb (v0.ext H.below) hn) H fun w H => ?_
        have hv5 : validF (fs.map FileG.p) = true := decide_eq_true c6
        have hn50 := (of_decide_eq_true hv5).1
        rw [List.length_map, ← hx.len] at hn50
        rw [if_pos ⟨hv5, c9, c12⟩, ho] at hr
        cases of with
        | none =>
          subst hr
          refine newR (o := .cells #[.slice none 0 0, .slice none 0 0, .int .i64 0] _) H fun g0 w H => ?_
          refine storeO H 0 rfl rfl rfl fun w H => ?_
          refine storeO H 0 rfl rfl rfl fun w H => ?_
          refine storeO H 0 rfl rfl rfl fun w H => ?_
          refine ifNot ?_
          refine ifF ?_
          refine loadO H 2 rfl rfl ?_
          refine CallS.mk ok_l7copy ((spec_l7copy (hx.ext H.below) hl hs).mono ?_)
          rintro _ w2 ⟨A', c', gs, rfl, hg, H2⟩
          have H := H.joinL H2 (own_all _ _ _ _ _)
          refine storeO H 1 rfl rfl rfl fun w H => ?_
          refine loadO H 1 rfl rfl ?_
          exact rets rfl hg H.tl.tl.tl
        | some f =>
          subst hr
          have k1 := hx.kids f (findF_mem ho)
          have hsf := hs f (findF_mem ho)
          obtain ⟨nv, dv, fm, dt, sf⟩ := f
          obtain ⟨_, A2, c2, e2, _⟩ := id k1.1
          obtain ⟨_, A3, c3, e3, _⟩ := id k1.2
          dsimp only at *
          subst e2 e3
          refine newR (o := .cells #[.slice none 0 0, .slice none 0 0, .int .i64 0] _) H fun g0 w H => ?_
          refine storeO H 0 rfl rfl rfl fun w H => ?_
          refine storeO H 0 rfl rfl rfl fun w H => ?_
          refine storeO H 0 rfl rfl rfl fun w H => ?_
          refine ifNot ?_
          refine ifT ?_
          refine storeO H 0 rfl rfl rfl fun w H => ?_
          refine regG [2, 4, 5] [2] [0, 3] [0, 1, 3, 2, 4, 5, 6] (by kernel_rfl) ?_
          refine drawR H fun w H => ?_
          refine loadO H 2 rfl rfl ?_
          refine loadO H 0 rfl rfl ?_
          refine loadO H 0 rfl rfl ?_
          refine loadO H 0 rfl rfl ?_
          refine CallS.mk ok_l7without ((spec_l7without (hx.ext H.below) hl hs hb (v0.ext H.below) hn).mono ?_)
          rintro _ w2 ⟨A', n', c', gs, rfl, hnn, hg, H2⟩
          have hB := H2.below
          have H := H.joinL H2 (own_all _ _ _ _ _)
          refine KeepS.mk ⟨HeldW.ofBelow hB, ?_⟩
          have bsm : ∀ g ∈ gs, SmallF g ∧ byteOK g.nm := fun g hg2 => by
            have h1 : g.p ∈ withoutP (fs.map FileG.p) nm := hg ▸ List.mem_map_of_mem hg2
            obtain ⟨f, hf, e⟩ := List.mem_map.1 (List.mem_filter.1 h1).1
            have e1 : f.nm = g.nm := congrArg FileP.nm e
            have e2 : f.dt = g.dt := congrArg FileP.dt e
            exact ⟨⟨e1 ▸ (hs f hf).nm, e2 ▸ (hs f hf).dt⟩, e1 ▸ hb f hf⟩
          have hr2 : RdF w2 (.slice A' n' c') n' gs := rdFm H _ _ _ (by simp) (fun it hit => by simp [hit])
          refine CallS.mk ok_l7with ((spec_l7with hr2 (by omega) (fun g hg => (bsm g hg).1) (fun g hg => (bsm g hg).2) (v1.ext H.below) (k1.2.ext H.below) hn1 ⟨by omega, hsf.dt⟩).mono ?_)
          rintro _ w3 ⟨A'', n'', c'', gs', rfl, _, hg', H3⟩
          have H := H.joinL H3 (own_all _ _ _ _ _)
          refine storeO H 1 rfl rfl rfl fun w H => ?_
          refine loadO H 1 rfl rfl ?_
          exact rets rfl (by rw [hg', hg]; rfl) (H.sel (fun q => by simp only [cntL_append, cntL, List.cons_append, List.nil_append, List.set_cons_zero, List.set_cons_succ, List.flatMap_append, List.flatMap_cons, List.flatMap_nil, It.rowF, It.rowB, It.rowI, It.roB, It.roI]; omega))
      · refine RunS.mk ⟨.agg #[.slice none 0 0], w, by kernel_rfl, ?_⟩
        refine storeO H 0 rfl rfl rfl fun w H => ?_
        refine loadO H 0 rfl rfl ?_
        rw [if_neg (fun q => c12 q.2.2)] at hr
        subst hr
        exact rets (gs := []) rfl rfl H.rowN
    · refine ifT ?_
      refine RunS.mk ⟨.agg #[.slice none 0 0], w, by kernel_rfl, ?_⟩
      refine storeO H 0 rfl rfl rfl fun w H => ?_
      refine loadO H 0 rfl rfl ?_
      rw [if_neg (fun q => c9 q.2.1)] at hr
      subst hr
      exact rets (gs := []) rfl rfl H.rowN
  · refine gNf ?_
    refine ifT ?_
    refine RunS.mk ⟨.agg #[.slice none 0 0], w, by kernel_rfl, ?_⟩
    refine storeO H 0 rfl rfl rfl fun w H => ?_
    refine loadO H 0 rfl rfl ?_
    rw [if_neg (fun q => c6 (of_decide_eq_true q.1))] at hr
    subst hr
    exact rets (gs := []) rfl rfl H.rowN
    
end Go.Proofs.YtfhpgfbakimmhaaE
