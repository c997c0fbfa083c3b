/- FsRemove, FsSync, FsWrite, FsRename: the program's side. -/
import Derived.Test.YtfhpgfbakimmhaaPFs2
namespace Go.Proofs.YtfhpgfbakimmhaaE
open Go Go.RowKit
set_option linter.unusedVariables false
set_option maxRecDepth 100000
set_option maxHeartbeats 2000000

theorem ok_implFsRemove : callOK Try.prog 31 = true := by kernel_rfl
theorem ok_fsRemove1 : callOK Try.prog 75 = true := by kernel_rfl
theorem impl_FsRemove1 {fs : List FileG} {A0 : Option Addr} {c0 g0 : Nat} {nm : List Int} {W : World} (hg0 : W.cell? ⟨g0, 0, none⟩ = some (.slice A0 nm.length c0)) (hl : fs.length ≤ 50) (hs : ∀ f ∈ fs, SmallF f) (hb : ∀ f ∈ fs, byteOK f.nm) (hv : validF (fs.map FileG.p) = true) (ho : okNm nm) (v0 : RdB W (.slice A0 nm.length c0) nm) (hn : byteOK nm) (l0 : nm.length ≤ 1048576) :
    DoC 75 [.pointer (some ⟨g0, 0, none⟩)] W fs fun ps r => (ps, r) = removeF (fs.map FileG.p) nm := by
  intro w L g A n c gs hgs H
  have hv2 : validF (gs.map FileG.p) = true := by rw [hgs]; exact hv
  have hnl : n ≤ 50 := by
    have h1 := congrArg List.length hgs
    have h2 := (memS_rd H).len
    simp only [List.length_map] at h1; omega
  have srt := sorted_of_valid hv2
  have hbb := byte_p hgs hb
  have hss := small_p hgs hs
  obtain ⟨i0, hi0⟩ := low_of srt nm
  have hx := memS_rd H
  have hxl := hx.len
  refine calls_of_vcV (args := [.pointer (some ⟨g, 0, none⟩), .pointer (some ⟨g0, 0, none⟩)]) Try.func75 rfl (by kernel_rfl) (Nat.le_of_ble_eq_true rfl) ?_
  have hc0 := (HeldW.ofBelow H.below).cell hg0
  skip
  refine loadS hc0 ?_
  rw [← hgs]
  rcases low_split srt hi0 with ⟨hh, a, b, rfl, rfl, hlow⟩ | ⟨hh, a, f, b, rfl, rfl, hf, hlow⟩
  · rw [List.map_append] at hv2
    refine callV ok_remove (impl_remove_no (cell0 H 0 rfl rfl) hx (by omega) hbb (v0.ext H.below) hn hi0 hh) H fun w H => ?_
    refine Exists.intro _ (Exists.intro 5 (Exists.intro A (Exists.intro n (Exists.intro c (Exists.intro (a ++ b) (And.intro rfl (And.intro (.inr ⟨rfl, by decide⟩) (And.intro ?_ H))))))))
    rw [List.map_append]
    exact (removeF_no hv2 ho hlow).symm
  · rw [List.map_append, List.map_cons] at hv2
    refine CallS.mk ok_remove ((impl_remove H (by omega) hbb (v0.ext H.below) hn hi0 hh).mono ?_)
    rintro _ w2 ⟨rfl, H⟩
    refine Exists.intro _ (Exists.intro 0 (Exists.intro A (Exists.intro (n - 1) (Exists.intro c (Exists.intro (a ++ b) (And.intro rfl (And.intro (.inl ⟨rfl, rfl⟩) (And.intro ?_ (H.sel (fun q => by simp only [cntL_append, cntL, List.cons_append, List.nil_append, List.set_cons_zero, List.set_cons_succ, List.flatMap_append, List.flatMap_cons, List.flatMap_nil, It.rowF, It.rowB, It.rowI, It.roB, It.roI]; omega))))))))))
    rw [List.map_append, List.map_append, List.map_cons]
    exact (removeF_hit hv2 ho hlow hf).symm
theorem impl_FsRemove {fs : List FileG} {A : Option Addr} {n c : Nat} {A0 : Option Addr} {c0 : Nat} {nm : List Int} {W : World} (hx : RdF W (.slice A n c) n fs) (hl : n ≤ 4294967296) (hs : ∀ f ∈ fs, SmallF f) (hb : ∀ f ∈ fs, byteOK f.nm) (v0 : RdB W (.slice A0 nm.length c0) nm) (hn : byteOK nm) (l0 : nm.length ≤ 1048576) :
    FsOut 31 [.agg #[.slice A n c], .slice A0 nm.length c0] W (removeF (fs.map FileG.p) nm) := by
  have H := St.enter W
  obtain ⟨r, hr⟩ : ∃ r, removeF (fs.map FileG.p) nm = r := ⟨_, rfl⟩
  rw [hr]
  refine calls_of_vcV (args := [.agg #[.slice A n c], .slice A0 nm.length c0]) Try.func31 rfl (by kernel_rfl) (Nat.le_of_ble_eq_true rfl) ?_
  refine newR (o := .cells #[.slice A n c] _) H fun g0 w H => ?_
  refine newR (o := .cells #[.slice A0 nm.length c0] _) H fun g1 w H => ?_
  refine newR (o := .cells #[.slice none 0 0] _) H fun g2 w H => ?_
  refine regG [2, 4, 7] [2] [0, 1] [0, 1, 3, 2, 4, 5, 6, 7, 8] (by kernel_rfl) ?_
  (refine drawR H fun w H => ?_; have hw := HeldW.refl w; have H0 := H)
  refine loadO H 2 rfl rfl ?_
  refine loadO H 1 rfl rfl ?_
  refine callVB ok_goodFsName (impl_goodFsName _) H fun w hB H => ?_
  (have hw := HeldW.step hw hB; refine KeepS.mk ⟨hw, ?_⟩)
  refine CallS.mk ok_changed ((impl_changedO (A := A) (n := n) (c := c) (b := decide (1 ≤ nm.length ∧ nm.length ≤ 100)) (F := 75) (cap := [.pointer (some ⟨g1, 0, none⟩)]) (r := r) (hx.ext H.below) hl hs hb ok_fsRemove1 (fun h1 h2 => ?_) (fun h => ?_)).mono ?_)
  · subst hr
    exact (impl_FsRemove1 (cell0 H 1 rfl rfl) (by have := (of_decide_eq_true h2).1; rw [List.length_map] at this; exact this) hs hb h2 (of_decide_eq_true h1) (v0.ext H.below) hn l0).mono fun ps r e => ⟨congrArg Prod.fst e, congrArg Prod.snd e⟩
  · rw [← hr]; unfold removeF; rw [if_neg (fun q => h ⟨decide_eq_true q.2, q.1⟩)]
  rintro _ w2 ⟨A', n', c', gs, rfl, hg, H2⟩
  have H := H.joinL H2 (own_all _ _ _ _ _)
  refine storeO H 0 rfl rfl rfl fun w H => ?_
  refine loadO H 0 rfl rfl ?_
  exact Exists.intro A' (Exists.intro n' (Exists.intro c' (Exists.intro gs (And.intro rfl (And.intro hg (H.sel (fun q => by simp only [cntL_append, cntL, List.cons_append, List.nil_append, List.set_cons_zero, List.set_cons_succ, List.flatMap_append, List.flatMap_cons, List.flatMap_nil, It.rowF, It.rowB, It.rowI, It.roB, It.roI]; omega)))))))

theorem ok_implFsSync : callOK Try.prog 33 = true := by kernel_rfl
theorem ok_fsSync1 : callOK Try.prog 78 = true := by kernel_rfl
theorem impl_FsSync1 {fs : List FileG} {A0 : Option Addr} {c0 g0 : Nat} {nm : List Int} {W : World} (hg0 : W.cell? ⟨g0, 0, none⟩ = some (.slice A0 nm.length c0)) (hl : fs.length ≤ 50) (hs : ∀ f ∈ fs, SmallF f) (hb : ∀ f ∈ fs, byteOK f.nm) (hv : validF (fs.map FileG.p) = true) (ho : okNm nm) (v0 : RdB W (.slice A0 nm.length c0) nm) (hn : byteOK nm) (l0 : nm.length ≤ 1048576) :
    DoC 78 [.pointer (some ⟨g0, 0, none⟩)] W fs fun ps r => (ps, r) = syncF (fs.map FileG.p) nm := by
  intro w L g A n c gs hgs H
  have hv2 : validF (gs.map FileG.p) = true := by rw [hgs]; exact hv
  have hnl : n ≤ 50 := by
    have h1 := congrArg List.length hgs
    have h2 := (memS_rd H).len
    simp only [List.length_map] at h1; omega
  have srt := sorted_of_valid hv2
  have hbb := byte_p hgs hb
  have hss := small_p hgs hs
  obtain ⟨i0, hi0⟩ := low_of srt nm
  have hx := memS_rd H
  have hxl := hx.len
  refine calls_of_vcV (args := [.pointer (some ⟨g, 0, none⟩), .pointer (some ⟨g0, 0, none⟩)]) Try.func78 rfl (by kernel_rfl) (Nat.le_of_ble_eq_true rfl) ?_
  have hc0 := (HeldW.ofBelow H.below).cell hg0
  skip
  refine loadS hc0 ?_
  rw [← hgs]
  rcases low_split srt hi0 with ⟨hh, a, b, rfl, rfl, hlow⟩ | ⟨hh, a, f, b, rfl, rfl, hf, hlow⟩
  · rw [List.map_append] at hv2
    refine callV ok_sync (impl_sync_no (cell0 H 0 rfl rfl) hx (by omega) hbb (v0.ext H.below) hn hi0 hh) H fun w H => ?_
    refine Exists.intro _ (Exists.intro 5 (Exists.intro A (Exists.intro n (Exists.intro c (Exists.intro (a ++ b) (And.intro rfl (And.intro (.inr ⟨rfl, by decide⟩) (And.intro ?_ H))))))))
    rw [List.map_append]
    exact (syncF_no hv2 ho hlow).symm
  · rw [List.map_append, List.map_cons] at hv2
    refine CallS.mk ok_sync ((impl_sync H (by omega) (hss f (by simp)).dt hbb (v0.ext H.below) hn hi0 hh).mono ?_)
    rintro _ w2 ⟨rfl, H⟩
    refine Exists.intro _ (Exists.intro 0 (Exists.intro A (Exists.intro n (Exists.intro c (Exists.intro (a ++ ⟨f.nv, f.dv, f.nm, f.dt, f.dt.length⟩ :: b) (And.intro rfl (And.intro (.inl ⟨rfl, rfl⟩) (And.intro ?_ (H.sel (fun q => by simp only [cntL_append, cntL, List.cons_append, List.nil_append, List.set_cons_zero, List.set_cons_succ, List.flatMap_append, List.flatMap_cons, List.flatMap_nil, It.rowF, It.rowB, It.rowI, It.roB, It.roI]; omega))))))))))
    rw [List.map_append, List.map_append, List.map_cons]
    rw [List.map_cons]; exact (syncF_hit hv2 ho hlow hf).symm
theorem impl_FsSync {fs : List FileG} {A : Option Addr} {n c : Nat} {A0 : Option Addr} {c0 : Nat} {nm : List Int} {W : World} (hx : RdF W (.slice A n c) n fs) (hl : n ≤ 4294967296) (hs : ∀ f ∈ fs, SmallF f) (hb : ∀ f ∈ fs, byteOK f.nm) (v0 : RdB W (.slice A0 nm.length c0) nm) (hn : byteOK nm) (l0 : nm.length ≤ 1048576) :
    FsOut 33 [.agg #[.slice A n c], .slice A0 nm.length c0] W (syncF (fs.map FileG.p) nm) := by
  have H := St.enter W
  obtain ⟨r, hr⟩ : ∃ r, syncF (fs.map FileG.p) nm = r := ⟨_, rfl⟩
  rw [hr]
  refine calls_of_vcV (args := [.agg #[.slice A n c], .slice A0 nm.length c0]) Try.func33 rfl (by kernel_rfl) (Nat.le_of_ble_eq_true rfl) ?_
  refine newR (o := .cells #[.slice A n c] _) H fun g0 w H => ?_
  refine newR (o := .cells #[.slice A0 nm.length c0] _) H fun g1 w H => ?_
  refine newR (o := .cells #[.slice none 0 0] _) H fun g2 w H => ?_
  refine regG [2, 4, 7] [2] [0, 1] [0, 1, 3, 2, 4, 5, 6, 7, 8] (by kernel_rfl) ?_
  (refine drawR H fun w H => ?_; have hw := HeldW.refl w; have H0 := H)
  refine loadO H 2 rfl rfl ?_
  refine loadO H 1 rfl rfl ?_
  refine callVB ok_goodFsName (impl_goodFsName _) H fun w hB H => ?_
  (have hw := HeldW.step hw hB; refine KeepS.mk ⟨hw, ?_⟩)
  refine CallS.mk ok_changed ((impl_changedO (A := A) (n := n) (c := c) (b := decide (1 ≤ nm.length ∧ nm.length ≤ 100)) (F := 78) (cap := [.pointer (some ⟨g1, 0, none⟩)]) (r := r) (hx.ext H.below) hl hs hb ok_fsSync1 (fun h1 h2 => ?_) (fun h => ?_)).mono ?_)
  · subst hr
    exact (impl_FsSync1 (cell0 H 1 rfl rfl) (by have := (of_decide_eq_true h2).1; rw [List.length_map] at this; exact this) hs hb h2 (of_decide_eq_true h1) (v0.ext H.below) hn l0).mono fun ps r e => ⟨congrArg Prod.fst e, congrArg Prod.snd e⟩
  · rw [← hr]; unfold syncF; rw [if_neg (fun q => h ⟨decide_eq_true q.2, q.1⟩)]
  rintro _ w2 ⟨A', n', c', gs, rfl, hg, H2⟩
  have H := H.joinL H2 (own_all _ _ _ _ _)
  refine storeO H 0 rfl rfl rfl fun w H => ?_
  refine loadO H 0 rfl rfl ?_
  exact Exists.intro A' (Exists.intro n' (Exists.intro c' (Exists.intro gs (And.intro rfl (And.intro hg (H.sel (fun q => by simp only [cntL_append, cntL, List.cons_append, List.nil_append, List.set_cons_zero, List.set_cons_succ, List.flatMap_append, List.flatMap_cons, List.flatMap_nil, It.rowF, It.rowB, It.rowI, It.roB, It.roI]; omega)))))))

theorem ok_implFsWrite : callOK Try.prog 35 = true := by kernel_rfl
theorem ok_fsWrite1 : callOK Try.prog 80 = true := by kernel_rfl
theorem impl_FsWrite1 {fs : List FileG} {A0 : Option Addr} {c0 g0 : Nat} {nm : List Int} {A1 : Option Addr} {c1 g1 : Nat} {ds : List Int} {W : World} (hg0 : W.cell? ⟨g0, 0, none⟩ = some (.slice A0 nm.length c0)) (hg1 : W.cell? ⟨g1, 0, none⟩ = some (.slice A1 ds.length c1)) (hl : fs.length ≤ 50) (hs : ∀ f ∈ fs, SmallF f) (hb : ∀ f ∈ fs, byteOK f.nm) (hv : validF (fs.map FileG.p) = true) (ho : okNm nm) (v0 : RdB W (.slice A0 nm.length c0) nm) (hn : byteOK nm) (l0 : nm.length ≤ 1048576) (v1 : RdB W (.slice A1 ds.length c1) ds) (hn1 : byteOK ds) (l1 : ds.length ≤ 1048576) :
    DoC 80 [.pointer (some ⟨g0, 0, none⟩), .pointer (some ⟨g1, 0, none⟩)] W fs fun ps r => (ps, r) = writeF (fs.map FileG.p) nm ds := by
  intro w L g A n c gs hgs H
  have hv2 : validF (gs.map FileG.p) = true := by rw [hgs]; exact hv
  have hnl : n ≤ 50 := by
    have h1 := congrArg List.length hgs
    have h2 := (memS_rd H).len
    simp only [List.length_map] at h1; omega
  have srt := sorted_of_valid hv2
  have hbb := byte_p hgs hb
  have hss := small_p hgs hs
  obtain ⟨i0, hi0⟩ := low_of srt nm
  have hx := memS_rd H
  have hxl := hx.len
  refine calls_of_vcV (args := [.pointer (some ⟨g, 0, none⟩), .pointer (some ⟨g0, 0, none⟩), .pointer (some ⟨g1, 0, none⟩)]) Try.func80 rfl (by kernel_rfl) (Nat.le_of_ble_eq_true rfl) ?_
  have hc0 := (HeldW.ofBelow H.below).cell hg0
  have hc1 := (HeldW.ofBelow H.below).cell hg1
  refine loadS hc0 ?_
  refine loadS hc1 ?_
  rw [← hgs]
  rcases low_split srt hi0 with ⟨hh, a, b, rfl, rfl, hlow⟩ | ⟨hh, a, f, b, rfl, rfl, hf, hlow⟩
  · rw [List.map_append] at hv2
    by_cases hfull : 50 ≤ n
    · refine callV ok_write (impl_write_full (cell0 H 0 rfl rfl) hx (by omega) hbb (v0.ext H.below) hn hi0 hh hfull) H fun w H => ?_
      refine Exists.intro _ (Exists.intro 6 (Exists.intro A (Exists.intro n (Exists.intro c (Exists.intro (a ++ b) (And.intro rfl (And.intro (.inr ⟨rfl, by decide⟩) (And.intro ?_ H))))))))
      rw [List.map_append]
      exact (writeF_full hv2 ho hlow (by rw [← List.map_append, List.length_map]; omega)).symm
    · refine CallS.mk ok_write ((impl_write_new H (by omega) hbb (RdL.base v0) hn (by omega) (RdL.base v1) (by omega) hi0 hh).mono ?_)
      rintro _ w2 ⟨rfl, A', c', f', hf', H⟩
      refine Exists.intro _ (Exists.intro 0 (Exists.intro A' (Exists.intro (n + 1) (Exists.intro c' (Exists.intro (a ++ f' :: b) (And.intro rfl (And.intro (.inl ⟨rfl, rfl⟩) (And.intro ?_ H))))))))
      rw [List.map_append, List.map_append, List.map_cons, hf']
      exact (writeF_new hv2 ho hlow (by rw [← List.map_append, List.length_map]; omega)).symm
  · rw [List.map_append, List.map_cons] at hv2
    refine CallS.mk ok_write ((impl_write H (by omega) hbb (RdL.base v0) hn (RdL.base v1) (by omega) hi0 hh).mono ?_)
    rintro _ w2 ⟨rfl, A', c', f', hf', H⟩
    refine Exists.intro _ (Exists.intro 0 (Exists.intro A' (Exists.intro n (Exists.intro c' (Exists.intro (a ++ f' :: b) (And.intro rfl (And.intro (.inl ⟨rfl, rfl⟩) (And.intro ?_ (H.sel (fun q => by simp only [cntL_append, cntL, List.cons_append, List.nil_append, List.set_cons_zero, List.set_cons_succ, List.flatMap_append, List.flatMap_cons, List.flatMap_nil, It.rowF, It.rowB, It.rowI, It.roB, It.roI]; omega))))))))))
    rw [List.map_append, List.map_append, List.map_cons]
    rw [List.map_cons, hf', hf]; exact (writeF_hit hv2 ho hlow hf).symm
theorem impl_FsWrite {fs : List FileG} {A : Option Addr} {n c : Nat} {A0 : Option Addr} {c0 : Nat} {nm : List Int} {A1 : Option Addr} {c1 : Nat} {ds : List Int} {W : World} (hx : RdF W (.slice A n c) n fs) (hl : n ≤ 4294967296) (hs : ∀ f ∈ fs, SmallF f) (hb : ∀ f ∈ fs, byteOK f.nm) (v0 : RdB W (.slice A0 nm.length c0) nm) (hn : byteOK nm) (l0 : nm.length ≤ 1048576) (v1 : RdB W (.slice A1 ds.length c1) ds) (hn1 : byteOK ds) (l1 : ds.length ≤ 1048576) :
    FsOut 35 [.agg #[.slice A n c], .slice A0 nm.length c0, .slice A1 ds.length c1] W (writeF (fs.map FileG.p) nm ds) := by
  have H := St.enter W
  obtain ⟨r, hr⟩ : ∃ r, writeF (fs.map FileG.p) nm ds = r := ⟨_, rfl⟩
  rw [hr]
  refine calls_of_vcV (args := [.agg #[.slice A n c], .slice A0 nm.length c0, .slice A1 ds.length c1]) Try.func35 rfl (by kernel_rfl) (Nat.le_of_ble_eq_true rfl) ?_
  refine newR (o := .cells #[.slice A n c] _) H fun g0 w H => ?_
  refine newR (o := .cells #[.slice A0 nm.length c0] _) H fun g1 w H => ?_
  refine newR (o := .cells #[.slice A1 ds.length c1] _) H fun g2 w H => ?_
  refine newR (o := .cells #[.slice none 0 0] _) H fun g3 w H => ?_
  refine regG [2, 4, 7] [2] [0, 1] [0, 1, 3, 2, 4, 5, 6, 7, 8] (by kernel_rfl) ?_
  (refine drawR H fun w H => ?_; have hw := HeldW.refl w; have H0 := H)
  refine loadO H 3 rfl rfl ?_
  refine loadO H 2 rfl rfl ?_
  refine callVB ok_goodFsName (impl_goodFsName _) H fun w hB H => ?_
  (have hw := HeldW.step hw hB; refine KeepS.mk ⟨hw, ?_⟩)
  refine CallS.mk ok_changed ((impl_changedO (A := A) (n := n) (c := c) (b := decide (1 ≤ nm.length ∧ nm.length ≤ 100)) (F := 80) (cap := [.pointer (some ⟨g1, 0, none⟩), .pointer (some ⟨g2, 0, none⟩)]) (r := r) (hx.ext H.below) hl hs hb ok_fsWrite1 (fun h1 h2 => ?_) (fun h => ?_)).mono ?_)
  · subst hr
    exact (impl_FsWrite1 (cell0 H 2 rfl rfl) (cell0 H 1 rfl rfl) (by have := (of_decide_eq_true h2).1; rw [List.length_map] at this; exact this) hs hb h2 (of_decide_eq_true h1) (v0.ext H.below) hn l0 (v1.ext H.below) hn1 l1).mono fun ps r e => ⟨congrArg Prod.fst e, congrArg Prod.snd e⟩
  · rw [← hr]; unfold writeF; rw [if_neg (fun q => h ⟨decide_eq_true q.2, q.1⟩)]
  rintro _ w2 ⟨A', n', c', gs, rfl, hg, H2⟩
  have H := H.joinL H2 (own_all _ _ _ _ _)
  refine storeO H 0 rfl rfl rfl fun w H => ?_
  refine loadO H 0 rfl rfl ?_
  exact Exists.intro A' (Exists.intro n' (Exists.intro c' (Exists.intro gs (And.intro rfl (And.intro hg (H.sel (fun q => by simp only [cntL_append, cntL, List.cons_append, List.nil_append, List.set_cons_zero, List.set_cons_succ, List.flatMap_append, List.flatMap_cons, List.flatMap_nil, It.rowF, It.rowB, It.rowI, It.roB, It.roI]; omega)))))))

theorem ok_implFsRename : callOK Try.prog 37 = true := by kernel_rfl
theorem ok_fsRename1 : callOK Try.prog 82 = true := by kernel_rfl
theorem impl_FsRename1 {fs : List FileG} {A0 : Option Addr} {c0 g0 : Nat} {nm : List Int} {A1 : Option Addr} {c1 g1 : Nat} {ds : List Int} {W : World} (hg0 : W.cell? ⟨g0, 0, none⟩ = some (.slice A0 nm.length c0)) (hg1 : W.cell? ⟨g1, 0, none⟩ = some (.slice A1 ds.length c1)) (hl : fs.length ≤ 50) (hs : ∀ f ∈ fs, SmallF f) (hb : ∀ f ∈ fs, byteOK f.nm) (hv : validF (fs.map FileG.p) = true) (ho : okNm nm ∧ okNm ds) (v0 : RdB W (.slice A0 nm.length c0) nm) (hn : byteOK nm) (l0 : nm.length ≤ 1048576) (v1 : RdB W (.slice A1 ds.length c1) ds) (hn1 : byteOK ds) (l1 : ds.length ≤ 1048576) :
    DoC 82 [.pointer (some ⟨g0, 0, none⟩), .pointer (some ⟨g1, 0, none⟩)] W fs fun ps r => (ps, r) = renameF (fs.map FileG.p) nm ds := by
  intro w L g A n c gs hgs H
  have hv2 : validF (gs.map FileG.p) = true := by rw [hgs]; exact hv
  have hnl : n ≤ 50 := by
    have h1 := congrArg List.length hgs
    have h2 := (memS_rd H).len
    simp only [List.length_map] at h1; omega
  have srt := sorted_of_valid hv2
  have hbb := byte_p hgs hb
  have hss := small_p hgs hs
  obtain ⟨i0, hi0⟩ := low_of srt nm
  have hx := memS_rd H
  have hxl := hx.len
  refine calls_of_vcV (args := [.pointer (some ⟨g, 0, none⟩), .pointer (some ⟨g0, 0, none⟩), .pointer (some ⟨g1, 0, none⟩)]) Try.func82 rfl (by kernel_rfl) (Nat.le_of_ble_eq_true rfl) ?_
  have hc0 := (HeldW.ofBelow H.below).cell hg0
  have hc1 := (HeldW.ofBelow H.below).cell hg1
  refine loadS hc0 ?_
  refine loadS hc1 ?_
  rw [← hgs]
  rcases low_split srt hi0 with ⟨hh, a, b, rfl, rfl, hlow⟩ | ⟨hh, a, f, b, rfl, rfl, hf, hlow⟩
  · rw [List.map_append] at hv2
    refine callV ok_rename (impl_rename_no (cell0 H 0 rfl rfl) hx (by omega) hbb (v0.ext H.below) hn hi0 hh) H fun w H => ?_
    refine Exists.intro _ (Exists.intro 5 (Exists.intro A (Exists.intro n (Exists.intro c (Exists.intro (a ++ b) (And.intro rfl (And.intro (.inr ⟨rfl, by decide⟩) (And.intro ?_ H))))))))
    rw [List.map_append]
    exact (renameF_no hv2 ho hlow).symm
  · rw [List.map_append, List.map_cons] at hv2
    have srt2 : Srt (a ++ b) := srt_of (by rw [List.map_append]; exact SrtP.mid (f := f.p) (by have := srtP_of srt; rw [List.map_append, List.map_cons] at this; exact this))
    obtain ⟨i1, hi1⟩ := low_of srt2 ds
    rcases low_split srt2 hi1 with ⟨hh2, a2, b2, hab, rfl, hlow2⟩ | ⟨hh2, a2, f2, b2, hab, rfl, hf2, hlow2⟩
    · refine CallS.mk ok_rename ((impl_rename (b3 := b2) H (by omega) hbb (RdL.base v0) hn (RdL.base v1) hn1 (by omega) hi0 hh hab hi1 hh2 (fun e => by cases e) (fun _ => rfl)).mono ?_)
      rintro _ w2 ⟨rfl, A', n', c', f', hf', H⟩
      refine Exists.intro _ (Exists.intro 0 (Exists.intro A' (Exists.intro n' (Exists.intro c' (Exists.intro (a2 ++ f' :: b2) (And.intro rfl (And.intro (.inl ⟨rfl, rfl⟩) (And.intro ?_ H))))))))
      rw [List.map_append, List.map_append, List.map_cons, List.map_cons, hf']
      exact (renameF_new hv2 ho hlow hf (by rw [← List.map_append, hab, List.map_append]) hlow2).symm
    · refine CallS.mk ok_rename ((impl_rename (b3 := b2) H (by omega) hbb (RdL.base v0) hn (RdL.base v1) hn1 (by omega) hi0 hh hab hi1 hh2 (fun _ => ⟨f2, rfl⟩) (fun e => by cases e)).mono ?_)
      rintro _ w2 ⟨rfl, A', n', c', f', hf', H⟩
      refine Exists.intro _ (Exists.intro 0 (Exists.intro A' (Exists.intro n' (Exists.intro c' (Exists.intro (a2 ++ f' :: b2) (And.intro rfl (And.intro (.inl ⟨rfl, rfl⟩) (And.intro ?_ H))))))))
      rw [List.map_append, List.map_append, List.map_cons, List.map_cons, hf']
      exact (renameF_hit hv2 ho hlow hf (by rw [← List.map_append, hab, List.map_append, List.map_cons]) hlow2 hf2).symm
theorem impl_FsRename {fs : List FileG} {A : Option Addr} {n c : Nat} {A0 : Option Addr} {c0 : Nat} {nm : List Int} {A1 : Option Addr} {c1 : Nat} {ds : List Int} {W : World} (hx : RdF W (.slice A n c) n fs) (hl : n ≤ 4294967296) (hs : ∀ f ∈ fs, SmallF f) (hb : ∀ f ∈ fs, byteOK f.nm) (v0 : RdB W (.slice A0 nm.length c0) nm) (hn : byteOK nm) (l0 : nm.length ≤ 1048576) (v1 : RdB W (.slice A1 ds.length c1) ds) (hn1 : byteOK ds) (l1 : ds.length ≤ 1048576) :
    FsOut 37 [.agg #[.slice A n c], .slice A0 nm.length c0, .slice A1 ds.length c1] W (renameF (fs.map FileG.p) nm ds) := by
  have H := St.enter W
  obtain ⟨r, hr⟩ : ∃ r, renameF (fs.map FileG.p) nm ds = r := ⟨_, rfl⟩
  rw [hr]
  refine calls_of_vcV (args := [.agg #[.slice A n c], .slice A0 nm.length c0, .slice A1 ds.length c1]) Try.func37 rfl (by kernel_rfl) (Nat.le_of_ble_eq_true rfl) ?_
  refine newR (o := .cells #[.slice A n c] _) H fun g0 w H => ?_
  refine newR (o := .cells #[.slice A0 nm.length c0] _) H fun g1 w H => ?_
  refine newR (o := .cells #[.slice A1 ds.length c1] _) H fun g2 w H => ?_
  refine newR (o := .cells #[.slice none 0 0] _) H fun g3 w H => ?_
  refine regG [2, 5, 8, 11] [2, 5] [0, 1, 4] [0, 1, 7, 2, 3, 4, 5, 6, 8, 9, 10, 11, 12] (by kernel_rfl) ?_
  (refine drawR H fun w H => ?_; have hw := HeldW.refl w; have H0 := H)
  refine loadO H 3 rfl rfl ?_
  refine loadO H 2 rfl rfl ?_
  refine callVB ok_goodFsName (impl_goodFsName _) H fun w hB H => ?_
  (have hw := HeldW.step hw hB; refine KeepS.mk ⟨hw, ?_⟩)
  refine gT (fun c10 => ?_) (fun c10 => ?_)
  · refine loadO H0 1 rfl rfl ?_
    refine gY ?_
    refine callVB ok_goodFsName (impl_goodFsName _) H fun w hB H => ?_
    (have hw := HeldW.step hw hB; refine KeepS.mk ⟨hw, ?_⟩)
    refine CallS.mk ok_changed ((impl_changedO (A := A) (n := n) (c := c) (b := decide (1 ≤ ds.length ∧ ds.length ≤ 100)) (F := 82) (cap := [.pointer (some ⟨g1, 0, none⟩), .pointer (some ⟨g2, 0, none⟩)]) (r := r) (hx.ext H.below) hl hs hb ok_fsRename1 (fun h1 h2 => ?_) (fun h => ?_)).mono ?_)
    · subst hr
      exact (impl_FsRename1 (cell0 H 2 rfl rfl) (cell0 H 1 rfl rfl) (by have := (of_decide_eq_true h2).1; rw [List.length_map] at this; exact this) hs hb h2 ⟨c10, of_decide_eq_true h1⟩ (v0.ext H.below) hn l0 (v1.ext H.below) hn1 l1).mono fun ps r e => ⟨congrArg Prod.fst e, congrArg Prod.snd e⟩
    · rw [← hr]; unfold renameF; rw [if_neg (fun q => h ⟨decide_eq_true q.2.2, q.1⟩)]
    rintro _ w2 ⟨A', n', c', gs, rfl, hg, H2⟩
    have H := H.joinL H2 (own_all _ _ _ _ _)
    refine storeO H 0 rfl rfl rfl fun w H => ?_
    refine loadO H 0 rfl rfl ?_
    exact Exists.intro A' (Exists.intro n' (Exists.intro c' (Exists.intro gs (And.intro rfl (And.intro hg (H.sel (fun q => by simp only [cntL_append, cntL, List.cons_append, List.nil_append, List.set_cons_zero, List.set_cons_succ, List.flatMap_append, List.flatMap_cons, List.flatMap_nil, It.rowF, It.rowB, It.rowI, It.roB, It.roI]; omega)))))))
  · refine gNot ?_
    refine gNf ?_
    refine CallS.mk ok_changed ((impl_changedO (A := A) (n := n) (c := c) (b := false) (F := 82) (cap := [.pointer (some ⟨g1, 0, none⟩), .pointer (some ⟨g2, 0, none⟩)]) (r := r) (hx.ext H.below) hl hs hb ok_fsRename1 (fun h1 h2 => ?_) (fun h => ?_)).mono ?_)
    · subst hr
      exact (impl_FsRename1 (cell0 H 2 rfl rfl) (cell0 H 1 rfl rfl) (by have := (of_decide_eq_true h2).1; rw [List.length_map] at this; exact this) hs hb h2 (by cases h1) (v0.ext H.below) hn l0 (v1.ext H.below) hn1 l1).mono fun ps r e => ⟨congrArg Prod.fst e, congrArg Prod.snd e⟩
    · rw [← hr]; unfold renameF; rw [if_neg (fun q => c10 q.2.1)]
    rintro _ w2 ⟨A', n', c', gs, rfl, hg, H2⟩
    have H := H.joinL H2 (own_all _ _ _ _ _)
    refine storeO H 0 rfl rfl rfl fun w H => ?_
    refine loadO H 0 rfl rfl ?_
    exact Exists.intro A' (Exists.intro n' (Exists.intro c' (Exists.intro gs (And.intro rfl (And.intro hg (H.sel (fun q => by simp only [cntL_append, cntL, List.cons_append, List.nil_append, List.set_cons_zero, List.set_cons_succ, List.flatMap_append, List.flatMap_cons, List.flatMap_nil, It.rowF, It.rowB, It.rowI, It.roB, It.roI]; omega)))))))
    
    