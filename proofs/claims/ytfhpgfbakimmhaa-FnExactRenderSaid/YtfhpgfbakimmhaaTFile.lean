/- Lists of files in the memory, and what the laws' helpers do with them. -/
import Derived.Test.YtfhpgfbakimmhaaNest
import Derived.Test.YtfhpgfbakimmhaaLawIB
namespace Go.Proofs.YtfhpgfbakimmhaaE
open Go Go.RowKit
set_option linter.unusedVariables false
set_option maxRecDepth 100000
set_option maxHeartbeats 2000000

structure FileP where
  nm : List Int
  dt : List Int
  sf : Int
/-- a file and the two slices that hold it -/
structure FileG where
  nv : Value
  dv : Value
  nm : List Int
  dt : List Int
  sf : Int
def FileG.p (f : FileG) : FileP := ⟨f.nm, f.dt, f.sf⟩
def FileG.cells (f : FileG) : List Value := [f.nv, f.dv, .int .i64 f.sf]
def FileG.ro (f : FileG) : List It := [.roB f.nv f.nm, .roB f.dv f.dt]
def FileG.own (f : FileG) : List It := [.rowB f.nv f.nm, .rowB f.dv f.dt]
theorem FileG.cells_len (f : FileG) : f.cells.length = 3 := rfl
structure RdF (w : World) (v : Value) (n : Nat) (fs : List FileG) : Prop where
  row : Rd w v 3 n (fs.flatMap FileG.cells)
  kids : ∀ f ∈ fs, RdB w f.nv f.nm ∧ RdB w f.dv f.dt
def Fro (v : Value) (n : Nat) (fs : List FileG) : List It := .ro v 3 n (fs.flatMap FileG.cells) :: fs.flatMap FileG.ro
theorem Fro_ro (v : Value) (n : Nat) (fs : List FileG) : (Fro v n fs).all (fun it => !it.isOwn) = true := by
  rw [List.all_eq_true]
  intro it hit
  rcases List.mem_cons.1 hit with rfl | h
  · rfl
  · obtain ⟨f, _, h⟩ := List.mem_flatMap.1 h
    simp only [FileG.ro, List.mem_cons, List.not_mem_nil, or_false] at h
    rcases h with rfl | rfl <;> rfl
theorem RdF.on {w : World} {v : Value} {n : Nat} {fs : List FileG} {B : Nat} (h : RdF w v n fs) : ∀ it ∈ Fro v n fs, it.on w B := by
  intro it hit
  rcases List.mem_cons.1 hit with rfl | hit
  · exact h.row
  · obtain ⟨f, hf, hit⟩ := List.mem_flatMap.1 hit
    simp only [FileG.ro, List.mem_cons, List.not_mem_nil, or_false] at hit
    rcases hit with rfl | rfl
    · exact (h.kids f hf).1
    · exact (h.kids f hf).2
theorem RdF.len {w : World} {v : Value} {n : Nat} {fs : List FileG} (h : RdF w v n fs) : n = fs.length := by
  have := h.row.len
  rw [flat_len FileG.cells_len] at this
  omega
theorem RdF.ext {w w' : World} {v : Value} {n : Nat} {fs : List FileG} (h : RdF w v n fs) (k : Below w.heap.size w w') : RdF w' v n fs := ⟨h.row.ext k, fun f hf => ⟨(h.kids f hf).1.ext k, (h.kids f hf).2.ext k⟩⟩
section
variable {B : Nat} {W0 w : World} {L : List It}
theorem St.rdF (H : St B W0 w L) {v : Value} {n : Nat} {fs : List FileG} (h : ∀ it ∈ Fro v n fs, it ∈ L) : RdF w v n fs :=
  ⟨H.rdm (h _ List.mem_cons_self) rfl, fun f hf => ⟨H.rdm (h (.roB f.nv f.nm) (List.mem_cons_of_mem _ (List.mem_flatMap.2 ⟨f, hf, by simp [FileG.ro]⟩))) rfl, H.rdm (h (.roB f.dv f.dt) (List.mem_cons_of_mem _ (List.mem_flatMap.2 ⟨f, hf, by simp [FileG.ro]⟩))) rfl⟩⟩
theorem St.rdFo (H : St B W0 w L) {v : Value} {e : TypeId} {n : Nat} {fs : List FileG} (h0 : .row v e 3 n (fs.flatMap FileG.cells) ∈ L) (h : ∀ it ∈ fs.flatMap FileG.own, it ∈ L) : RdF w v n fs :=
  ⟨H.rdm h0 rfl, fun f hf => ⟨H.rdm (h (.rowB f.nv f.nm) (List.mem_flatMap.2 ⟨f, hf, by simp [FileG.own]⟩)) rfl, H.rdm (h (.rowB f.dv f.dt) (List.mem_flatMap.2 ⟨f, hf, by simp [FileG.own]⟩)) rfl⟩⟩
end
/-! ## sizes -/
def szI (l k : Int) : Int := if l - k < 0 then -1 else l - k
theorem ok_szByteS : callOK Try.prog 113 = true := by kernel_rfl
theorem laws_szByteS {A : Option Addr} {n c : Nat} {l : Int} (h0 : -1 ≤ l) (h1 : l ≤ 1048576) (hn : n ≤ 9223372036854775807) {W : World} : GivesV Try.prog 113 [.slice A n c, .int .i64 l] W (.int .i64 (szI l n)) := by
  have H := St.enter W
  refine calls_of_vcV (args := [.slice A n c, .int .i64 l]) Try.func113 rfl (by kernel_rfl) (Nat.le_of_ble_eq_true rfl) ?_
  unfold szI
  refine ar64 (by omega) (by omega) ?_
  refine ifB (fun c1 => ?_) (fun c1 => ?_)
  · rw [if_pos c1]; exact Exists.intro _ (And.intro rfl (And.intro rfl H.none))
  · rw [if_neg c1]; exact Exists.intro _ (And.intro rfl (And.intro rfl H.none))
theorem ok_szFsFile : callOK Try.prog 102 = true := by kernel_rfl
theorem laws_szFsFile {A A' : Option Addr} {n c n' c' : Nat} {l s : Int} (h0 : 0 ≤ l) (h1 : l ≤ 1048576) (hn : n ≤ 9223372036854775807) (hn' : n' ≤ 9223372036854775807) {W : World} : GivesV Try.prog 102 [.agg #[.slice A n c, .slice A' n' c', .int .i64 s], .int .i64 l] W (.int .i64 (szI l (n + n'))) := by
  have H := St.enter W
  refine calls_of_vcV (args := [.agg #[.slice A n c, .slice A' n' c', .int .i64 s], .int .i64 l]) Try.func102 rfl (by kernel_rfl) (Nat.le_of_ble_eq_true rfl) ?_
  have hs1 : -1 ≤ szI l n ∧ szI l n ≤ l := by unfold szI; split <;> omega
  have hs2 : szI l (n + n') = if szI l n < 0 then -1 else szI (szI l n) n' := by unfold szI; (repeat' split) <;> omega
  have hs3 : ¬ szI l n < 0 → (szI (szI l n) n' < 0 → szI (szI l n) n' = -1) := by unfold szI; (repeat' split) <;> omega
  rw [hs2]
  refine newR (o := .cells #[.slice A n c, .slice A' n' c', .int .i64 s] _) H fun g0 w H => ?_
  refine loadO H 0 rfl rfl ?_
  refine callV ok_szByteS (laws_szByteS (by omega) (by omega) (by omega)) H fun w H => ?_
  refine ifB (fun c3 => ?_) (fun c3 => ?_)
  · rw [if_pos c3]; exact Exists.intro _ (And.intro rfl (And.intro rfl H.none))
  · refine loadO H 0 rfl rfl ?_
    refine callV ok_szByteS (laws_szByteS (by omega) (by omega) (by omega)) H fun w H => ?_
    refine ifB (fun c6 => ?_) (fun c6 => ?_)
    · rw [if_neg c3, hs3 c3 c6]; exact Exists.intro _ (And.intro rfl (And.intro rfl H.none))
    · rw [if_neg c3]; exact Exists.intro _ (And.intro rfl (And.intro rfl H.none))
theorem ok_toFsFile : callOK Try.prog 103 = true := by kernel_rfl
theorem laws_toFsFile {f : FileG} {W : World} (hn : RdB W f.nv f.nm) (hd : RdB W f.dv f.dt) (ln : f.nm.length ≤ 4294967296) (ld : f.dt.length ≤ 4294967296) :
    Calls Try.prog 103 #[.agg #[f.nv, f.dv, .int .i64 f.sf]] W fun e w => ∃ a b, e = .returned (.agg #[a, b, .int .i64 f.sf]) ∧ St W.heap.size W w [.rowB a f.nm, .rowB b f.dt] := by
  obtain ⟨nv, dv, nm, dt, sf⟩ := f
  dsimp only at *
  have H := ((St.enter W).ro0 rfl hn).ro0 rfl hd
  obtain ⟨_, A, c, rfl, _⟩ := hn
  obtain ⟨_, A', c', rfl, _⟩ := hd
  refine calls_of_vcV (args := [.agg #[.slice A nm.length c, .slice A' dt.length c', .int .i64 sf]]) Try.func103 rfl (by kernel_rfl) (Nat.le_of_ble_eq_true rfl) ?_
  refine newR (o := .cells #[.slice A nm.length c, .slice A' dt.length c', .int .i64 sf] _) H fun g0 w H => ?_
  refine newR (o := .cells #[.slice none 0 0, .slice none 0 0, .int .i64 0] _) H fun g1 w H => ?_
  refine newR (o := .cells #[.slice none 0 0, .slice none 0 0, .int .i64 0] _) H fun g2 w H => ?_
  refine loadO H 2 rfl rfl ?_
  refine callRow ok_toByteS (laws_toByteS _ _ _ _ (H.rd 4 rfl) (by omega)) H fun A4 k4 w H => ?_
  refine storeO H 1 rfl rfl rfl fun w H => ?_
  refine loadO H 3 rfl rfl ?_
  refine callRow ok_toByteS (laws_toByteS _ _ _ _ (H.rd 4 rfl) (by omega)) H fun A7 k7 w H => ?_
  refine storeO H 2 rfl rfl rfl fun w H => ?_
  refine loadO H 4 rfl rfl ?_
  refine storeO H 2 rfl rfl rfl fun w H => ?_
  refine loadO H 2 rfl rfl ?_
  refine loadO H 2 rfl rfl ?_
  refine loadO H 2 rfl rfl ?_
  refine storeO H 3 rfl rfl rfl fun w H => ?_
  refine storeO H 3 rfl rfl rfl fun w H => ?_
  refine storeO H 3 rfl rfl rfl fun w H => ?_
  refine loadO H 3 rfl rfl ?_
  refine loadO H 3 rfl rfl ?_
  refine loadO H 3 rfl rfl ?_
  exact Exists.intro _ (Exists.intro _ (And.intro rfl (H.sub [1, 0] (by decide))))
theorem infFile : (Try.prog.info? 69).map (fun i => (i.zero, i.size, i.bytes)) = some (some (.agg #[.slice none 0 0, .slice none 0 0, .int .i64 0]), 3, 56) := by kernel_rfl
theorem undFiles : Try.prog.underlying 27 = some (.slice 69) := by kernel_rfl
def zeroF : FileG := ⟨.slice none 0 0, .slice none 0 0, [], [], 0⟩
abbrev It.rowF (v : Value) (n : Nat) (fs : List FileG) : It := .row v 69 3 n (fs.flatMap FileG.cells)
theorem flat_own (done : List FileG) (g : FileG) (M L : List It) : ((g.own ++ M) ++ (done.flatMap FileG.own ++ L)).Perm (M ++ ((done ++ [g]).flatMap FileG.own ++ L)) := by
  rw [List.flatMap_append, List.flatMap_cons, List.flatMap_nil, List.append_nil]
  refine (List.perm_append_comm.append_right _).trans ?_
  rw [List.append_assoc, ← List.append_assoc g.own]
  exact List.Perm.append_left _ (List.perm_append_comm.append_right _)
theorem flat_set3F {xs : List FileG} {j : Nat} {x : FileG} (hx : xs[j]? = some x) (a b : Value) (nm dt : List Int) (s : Int) :
    (((xs.flatMap FileG.cells).set (j * 3 + 0) a).set (j * 3 + 1) b).set (j * 3 + 2) (.int .i64 s) = (xs.set j ⟨a, b, nm, dt, s⟩).flatMap FileG.cells := by
  rw [flat_set (v := a) (x' := ⟨a, x.dv, nm, dt, x.sf⟩) FileG.cells_len xs j 0 x hx (by decide) rfl, flat_set (v := b) (x' := ⟨a, b, nm, dt, x.sf⟩) FileG.cells_len _ j 1 ⟨a, x.dv, nm, dt, x.sf⟩ (get_set hx) (by decide) rfl,
    flat_set (v := .int .i64 s) (x' := ⟨a, b, nm, dt, s⟩) FileG.cells_len _ j 2 ⟨a, b, nm, dt, x.sf⟩ (get_set (get_set hx)) (by decide) rfl, List.set_set, List.set_set]
theorem set_mid {α : Type} (gs : List α) (x y : α) (r : List α) : (gs ++ x :: r).set gs.length y = (gs ++ [y]) ++ r := by
  rw [List.set_append_right _ _ (Nat.le_refl _)]; simp
structure SmallF (f : FileG) : Prop where
  nm : f.nm.length ≤ 4294967296
  dt : f.dt.length ≤ 4294967296
theorem own_all (v : Value) (e : TypeId) (n : Nat) (cs : List Value) (gs : List FileG) : (It.row v e 3 n cs :: gs.flatMap FileG.own).all It.isOwn = true := by
  rw [List.all_eq_true]
  intro it hit
  rcases List.mem_cons.1 hit with rfl | h
  · rfl
  · obtain ⟨f, _, h⟩ := List.mem_flatMap.1 h
    simp only [FileG.own, List.mem_cons, List.not_mem_nil, or_false] at h
    rcases h with rfl | rfl <;> rfl
theorem ok_toFsFileS : callOK Try.prog 58 = true := by kernel_rfl
theorem laws_toFsFileS {fs : List FileG} {A : Option Addr} {n c : Nat} {W : World} (hx : RdF W (.slice A n c) n fs) (hl : n ≤ 4294967296) (hs : ∀ f ∈ fs, SmallF f) :
    Calls Try.prog 58 #[.slice A n c] W fun e w => ∃ A' c' gs, e = .returned (.slice A' n c') ∧ gs.map FileG.p = fs.map FileG.p ∧ St W.heap.size W w (.rowF (.slice A' n c') n gs :: gs.flatMap FileG.own) := by
  have H := St.enterRo W _ (Fro_ro (.slice A n c) n fs) hx.on
  obtain rfl := hx.len
  refine calls_of_vcV (args := [.slice A fs.length c]) Try.func58 rfl (by kernel_rfl) (Nat.le_of_ble_eq_true rfl) ?_
  refine mkR (cells := FileG.cells) FileG.cells_len (by decide) zeroF undFiles infFile rfl (by decide) H hl fun A1 k1 w H => ?_
  refine loopV (by kernel_rfl) (fun m e w => e 0 = .slice A fs.length c ∧ e 3 = .slice A1 fs.length k1 ∧ ∃ (j : Nat) (gs : List FileG), e 4 = .int .i64 j ∧ j + m = fs.length ∧ gs.map FileG.p = (fs.take j).map FileG.p ∧ gs.length = j ∧ St W.heap.size W w ([.rowF (.slice A1 fs.length k1) fs.length (gs ++ List.replicate m zeroF)] ++ (gs.flatMap FileG.own ++ Fro (.slice A fs.length c) fs.length fs))) fs.length
    ⟨rfl, rfl, 0, [], rfl, by omega, rfl, rfl, H⟩ ?_
  rintro m e w ⟨h0, h3, j, gs, h4, hj, hgs, hgl, H⟩
  rw [Env.three h0 h3 h4]
  refine ifB (fun h => ?_) (fun h => ?_)
  case refine_2 =>
    obtain rfl : m = 0 := by omega
    rw [show j = fs.length by omega, List.take_length] at hgs
    refine Exists.intro A1 (Exists.intro k1 (Exists.intro gs (And.intro rfl (And.intro hgs ?_))))
    have H := H.sublist (List.Sublist.append (List.Sublist.refl _) (List.sublist_append_left _ _))
    simpa using H
  obtain ⟨m, rfl⟩ : ∃ m', m = m' + 1 := ⟨m - 1, by omega⟩
  have hjl : j < fs.length := by omega
  obtain ⟨f, hf⟩ : ∃ f, fs[j]? = some f := ⟨_, List.getElem?_eq_getElem hjl⟩
  have hfm : f ∈ fs := List.mem_of_getElem? hf
  have hR : RdF w (.slice A fs.length c) fs.length fs := H.rdF fun it hit => List.mem_append_right _ (List.mem_append_right _ hit)
  refine idxC (cells := FileG.cells) FileG.cells_len hR.row hf hjl fun b off hc => ?_
  refine loadS (hc 0 _ rfl) ?_
  refine loadS (hc 1 _ rfl) ?_
  refine loadS (hc 2 _ rfl) ?_
  refine CallS.mk ok_toFsFile ((laws_toFsFile (hR.kids f hfm).1 (hR.kids f hfm).2 (hs f hfm).nm (hs f hfm).dt).mono ?_)
  rintro _ w2 ⟨a, b2, rfl, H2⟩
  have H := H.joinS H2 rfl
  obtain ⟨Aa, ka, rfl⟩ := H.mk1 0 rfl
  obtain ⟨Ab, kb, rfl⟩ := H.mk1 1 rfl
  refine idxRow H 2 rfl (by omega) (by omega) fun b0 hA _ => ?_
  subst hA
  refine storeRowN H 2 rfl (j * 3 + 0) (by show 0 + (j : Int).toNat * 3 = _; omega) (by omega) rfl fun w H => ?_
  refine storeRowN H 2 rfl (j * 3 + 1) (by show 0 + (j : Int).toNat * 3 + 1 = _; omega) (by omega) rfl fun w H => ?_
  refine storeRowN H 2 rfl (j * 3 + 2) (by show 0 + (j : Int).toNat * 3 + 2 = _; omega) (by omega) rfl fun w H => ?_
  refine arN (by omega) ?_
  refine Exists.intro m (And.intro (by omega) ⟨rfl, rfl, j + 1, gs ++ [⟨.slice Aa f.nm.length ka, .slice Ab f.dt.length kb, f.nm, f.dt, f.sf⟩], rfl, by omega, ?_, by simp [hgl], ?_⟩)
  · rw [List.map_append, hgs, List.take_add_one, hf, List.map_append]; rfl
  · have H1 : St W.heap.size W w ((FileG.own ⟨.slice Aa f.nm.length ka, .slice Ab f.dt.length kb, f.nm, f.dt, f.sf⟩ ++ [.row (.slice (some ⟨b0, 0, none⟩) fs.length k1) 69 3 fs.length (((((gs ++ List.replicate (m + 1) zeroF).flatMap FileG.cells).set (j * 3 + 0) (.slice Aa f.nm.length ka)).set (j * 3 + 1) (.slice Ab f.dt.length kb)).set (j * 3 + 2) (.int .i64 f.sf))]) ++ (gs.flatMap FileG.own ++ Fro (.slice A fs.length c) fs.length fs)) := H
    rw [flat_set3F (x := zeroF) (by rw [← hgl, List.getElem?_append_right (Nat.le_refl _)]; simp) _ _ f.nm f.dt] at H1
    have e : (gs ++ List.replicate (m + 1) zeroF).set j ⟨.slice Aa f.nm.length ka, .slice Ab f.dt.length kb, f.nm, f.dt, f.sf⟩ = (gs ++ [⟨.slice Aa f.nm.length ka, .slice Ab f.dt.length kb, f.nm, f.dt, f.sf⟩]) ++ List.replicate m zeroF := by
      rw [← hgl, List.replicate_succ]; exact set_mid _ _ _ _
    rw [e] at H1
    exact H1.perm (flat_own _ _ _ _)
theorem ok_toFs : callOK Try.prog 17 = true := by kernel_rfl
theorem laws_toFs {fs : List FileG} {A : Option Addr} {n c : Nat} {W : World} (hx : RdF W (.slice A n c) n fs) (hl : n ≤ 4294967296) (hs : ∀ f ∈ fs, SmallF f) :
    Calls Try.prog 17 #[.agg #[.slice A n c]] W fun e w => ∃ A' c' gs, e = .returned (.agg #[.slice A' n c']) ∧ gs.map FileG.p = fs.map FileG.p ∧ St W.heap.size W w (.rowF (.slice A' n c') n gs :: gs.flatMap FileG.own) := by
  have H := St.enterRo W _ (Fro_ro (.slice A n c) n fs) hx.on
  refine calls_of_vcV (args := [.agg #[.slice A n c]]) Try.func17 rfl (by kernel_rfl) (Nat.le_of_ble_eq_true rfl) ?_
  refine newR (o := .cells #[.slice A n c] _) H fun g0 w H => ?_
  refine newR (o := .cells #[.slice none 0 0] _) H fun g1 w H => ?_
  refine newR (o := .cells #[.slice none 0 0] _) H fun g2 w H => ?_
  refine loadO H 2 rfl rfl ?_
  refine CallS.mk ok_toFsFileS ((laws_toFsFileS (H.rdF fun it hit => List.mem_cons_of_mem _ (List.mem_cons_of_mem _ (List.mem_cons_of_mem _ hit))) hl hs).mono ?_)
  rintro _ w2 ⟨A', c', gs, rfl, hg, H2⟩
  have H := H.joinL H2 (own_all _ _ _ _ _)
  refine storeO H 0 rfl rfl rfl fun w H => ?_
  refine loadO H 0 rfl rfl ?_
  refine storeO H 1 rfl rfl rfl fun w H => ?_
  refine loadO H 1 rfl rfl ?_
  exact Exists.intro A' (Exists.intro c' (Exists.intro gs (And.intro rfl (And.intro hg (H.tl.tl.tl.sublist (List.sublist_append_right _ _))))))
/-! ## sizes of lists -/
def sumF (fs : List FileG) : Nat := (fs.map fun f => f.nm.length + f.dt.length).sum
theorem sumF_take {fs : List FileG} {j : Nat} {f : FileG} (h : fs[j]? = some f) : sumF (fs.take (j + 1)) = sumF (fs.take j) + (f.nm.length + f.dt.length) := by
  unfold sumF
  rw [List.take_add_one, h, List.map_append, List.sum_append]; simp
theorem sumF_le (fs : List FileG) (j : Nat) : sumF (fs.take j) ≤ sumF fs := by
  have h : sumF fs = sumF (fs.take j) + sumF (fs.drop j) := by
    unfold sumF
    rw [← List.sum_append, ← List.map_append, List.take_append_drop]
  omega
def sizeF (fs : List FileG) : Nat := fs.length + sumF fs
theorem ok_szFsFileS : callOK Try.prog 56 = true := by kernel_rfl
theorem laws_szFsFileS {fs : List FileG} {A : Option Addr} {n c : Nat} {W : World} (hx : RdF W (.slice A n c) n fs) (hl : n ≤ 9223372036854775807) (hs : ∀ f ∈ fs, f.nm.length ≤ 9223372036854775807 ∧ f.dt.length ≤ 9223372036854775807) : GivesV Try.prog 56 [.slice A n c, .int .i64 1048576] W (.int .i64 (szI 1048576 (sizeF fs))) := by
  have H := St.enterRo W _ (Fro_ro (.slice A n c) n fs) hx.on
  obtain rfl := hx.len
  refine calls_of_vcV (args := [.slice A fs.length c, .int .i64 1048576]) Try.func56 rfl (by kernel_rfl) (Nat.le_of_ble_eq_true rfl) ?_
  have bad : ∀ {w : World}, St W.heap.size W w (Fro (.slice A fs.length c) fs.length fs) → (1048576 : Int) - sizeF fs < 0 → ∃ v, Ending.returned (.int .i64 (-1)) = .returned v ∧ v = .int .i64 (szI 1048576 (sizeF fs)) ∧ St W.heap.size W w [] := fun H h => ⟨_, rfl, by unfold szI; rw [if_pos h], H.none⟩
  refine ar64 (by omega) (by omega) ?_
  refine ifB (fun c1 => ?_) (fun c1 => ?_)
  · exact bad H (by unfold sizeF; omega)
  · refine loopV (by kernel_rfl) (fun m e w => e 0 = .slice A fs.length c ∧ ∃ (j : Nat) (l : Int), e 5 = .int .i64 j ∧ e 1 = .int .i64 l ∧ j + m = fs.length ∧ 0 ≤ l ∧ l = 1048576 - (fs.length + sumF (fs.take j) : Nat) ∧ St W.heap.size W w (Fro (.slice A fs.length c) fs.length fs)) fs.length
      ⟨rfl, 0, _, rfl, rfl, by omega, by omega, by simp [sumF], H⟩ ?_
    rintro m e w ⟨h0, j, l, h5, h1, hj, hl0, hle, H⟩
    rw [Env.three h0 h5 h1]
    refine ifB (fun h => ?_) (fun h => ?_)
    case refine_2 =>
      rw [show j = fs.length by omega, List.take_length] at hle
      exact Exists.intro _ (And.intro rfl (And.intro (congrArg (Value.int .i64) (show l = szI 1048576 (sizeF fs) by unfold szI sizeF; rw [if_neg (by omega), hle])) H.none))
    have hjl : j < fs.length := by omega
    obtain ⟨f, hf⟩ : ∃ f, fs[j]? = some f := ⟨_, List.getElem?_eq_getElem hjl⟩
    have hfm : f ∈ fs := List.mem_of_getElem? hf
    have hst := sumF_take hf
    have hle2 := sumF_le fs (j + 1)
    have hR : RdF w (.slice A fs.length c) fs.length fs := H.rdF fun it hit => hit
    have hss := hs f hfm
    obtain ⟨nv, dv, nm, dt, sf⟩ := f
    obtain ⟨_, A1, c1, e1, _⟩ := (hR.kids _ hfm).1
    obtain ⟨_, A2, c2, e2, _⟩ := (hR.kids _ hfm).2
    dsimp only at *
    subst e1 e2
    refine JoinV.mk ?_
    refine idxC (cells := FileG.cells) FileG.cells_len hR.row hf hjl fun b off hc => ?_
    refine loadS (hc 0 _ rfl) ?_
    refine loadS (hc 1 _ rfl) ?_
    refine loadS (hc 2 _ rfl) ?_
    refine callV ok_szFsFile (laws_szFsFile (by omega) (by omega) (by omega) (by omega)) H fun w H => ?_
    refine ifB (fun c6 => ?_) (fun c6 => ?_)
    · unfold szI at c6
      refine bad H ?_
      unfold sizeF
      split at c6 <;> omega
    · refine arN (by omega) ?_
      have hsz : szI l ((nm.length : Int) + dt.length) = l - (nm.length + dt.length) := by unfold szI at c6 ⊢; split at c6 <;> omega
      rw [hsz] at c6
      exact Exists.intro (m - 1) (And.intro (by omega) ⟨rfl, j + 1, _, rfl, congrArg (Value.int .i64) hsz, by omega, by omega, by omega, H⟩)
theorem ok_szFs : callOK Try.prog 15 = true := by kernel_rfl
theorem laws_szFs {fs : List FileG} {A : Option Addr} {n c : Nat} {W : World} (hx : RdF W (.slice A n c) n fs) (hl : n ≤ 9223372036854775807) (hs : ∀ f ∈ fs, f.nm.length ≤ 9223372036854775807 ∧ f.dt.length ≤ 9223372036854775807) : GivesV Try.prog 15 [.agg #[.slice A n c], .int .i64 1048576] W (.int .i64 (szI 1048576 (sizeF fs))) := by
  have H := St.enter W
  have hg : szI 1048576 (sizeF fs) < 0 → szI 1048576 (sizeF fs) = -1 := by unfold szI; split <;> omega
  refine calls_of_vcV (args := [.agg #[.slice A n c], .int .i64 1048576]) Try.func15 rfl (by kernel_rfl) (Nat.le_of_ble_eq_true rfl) ?_
  refine newR (o := .cells #[.slice A n c] _) H fun g0 w H => ?_
  refine loadO H 0 rfl rfl ?_
  refine callV ok_szFsFileS (laws_szFsFileS (hx.ext H.below) hl hs) H fun w H => ?_
  refine ifB (fun c3 => ?_) (fun c3 => ?_)
  · rw [hg c3]; exact Exists.intro _ (And.intro rfl (And.intro rfl H.none))
  · exact Exists.intro _ (And.intro rfl (And.intro rfl H.none))
/-! ## compared -/
theorem ok_eqFsFile : callOK Try.prog 105 = true := by kernel_rfl
theorem laws_eqFsFile {a b a' b' : Value} {nm dt : List Int} {s : Int} {W : World} (h1 : RdB W a nm) (h2 : RdB W b dt) (h3 : RdB W a' nm) (h4 : RdB W b' dt) (ln : nm.length ≤ 4294967296) (ld : dt.length ≤ 4294967296) : GivesV Try.prog 105 [.agg #[a, b, .int .i64 s], .agg #[a', b', .int .i64 s]] W (.bool true) := by
  have H := St.enter W
  obtain ⟨_, A1, c1, rfl, _⟩ := id h1
  obtain ⟨_, A2, c2, rfl, _⟩ := id h2
  obtain ⟨_, A3, c3, rfl, _⟩ := id h3
  obtain ⟨_, A4, c4, rfl, _⟩ := id h4
  have eqv : ∀ {A A' : Option Addr} {c c' : Nat} {xs : List Int} {w : World}, RdB W (.slice A xs.length c) xs → RdB W (.slice A' xs.length c') xs → xs.length ≤ 4294967296 → Below W.heap.size W w → GivesV Try.prog 23 [.slice A xs.length c, .slice A' xs.length c'] w (.bool true) :=
    fun h h' l hb => givesV_of ((laws_eqByteS_same _ _ _ _ _ _ (h.ext hb) (h'.ext hb) (by omega)).mono fun e w' ⟨h1, h2⟩ => ⟨_, h1, rfl, h2⟩)
  refine calls_of_vcV (args := [.agg #[.slice A1 nm.length c1, .slice A2 dt.length c2, .int .i64 s], .agg #[.slice A3 nm.length c3, .slice A4 dt.length c4, .int .i64 s]]) Try.func105 rfl (by kernel_rfl) (Nat.le_of_ble_eq_true rfl) ?_
  refine newR (o := .cells #[.slice A1 nm.length c1, .slice A2 dt.length c2, .int .i64 s] _) H fun g0 w H => ?_
  refine newR (o := .cells #[.slice A3 nm.length c3, .slice A4 dt.length c4, .int .i64 s] _) H fun g1 w H => ?_
  refine loadO H 1 rfl rfl ?_
  refine loadO H 0 rfl rfl ?_
  refine callV ok_eqByteS (eqv (by assumption) (by assumption) (by assumption) H.below) H fun w H => ?_
  refine ifNot ?_
  refine ifT ?_
  refine loadO H 1 rfl rfl ?_
  refine loadO H 0 rfl rfl ?_
  refine callV ok_eqByteS (eqv (by assumption) (by assumption) (by assumption) H.below) H fun w H => ?_
  refine ifNot ?_
  refine ifT ?_
  refine loadO H 1 rfl rfl ?_
  refine loadO H 0 rfl rfl ?_
  refine ifB (fun c14 => absurd c14 (by omega)) (fun c14 => ?_)
  exact Exists.intro _ (And.intro rfl (And.intro rfl H.none))
theorem ok_eqFsFileS : callOK Try.prog 61 = true := by kernel_rfl
theorem laws_eqFsFileS {fs gs : List FileG} {A A' : Option Addr} {n c c' : Nat} {W : World} (hx : RdF W (.slice A n c) n fs) (hy : RdF W (.slice A' n c') n gs) (he : fs.map FileG.p = gs.map FileG.p) (hl : n ≤ 4294967296) (hs : ∀ f ∈ fs, SmallF f) : GivesV Try.prog 61 [.slice A n c, .slice A' n c'] W (.bool true) := by
  have H := St.enter W
  obtain rfl := hx.len
  have hlen := hy.len
  refine calls_of_vcV (args := [.slice A fs.length c, .slice A' fs.length c']) Try.func61 rfl (by kernel_rfl) (Nat.le_of_ble_eq_true rfl) ?_
  refine ifB (fun c0 => absurd c0 (by omega)) (fun c0 => ?_)
  refine loopV (by kernel_rfl) (fun m e w => e 0 = .slice A fs.length c ∧ e 1 = .slice A' fs.length c' ∧ ∃ j : Nat, e 5 = .int .i64 j ∧ j + m = fs.length ∧ St W.heap.size W w []) fs.length ⟨rfl, rfl, 0, rfl, by omega, H⟩ ?_
  rintro m e w ⟨h0, h1, j, h5, hj, H⟩
  rw [Env.three h0 h1 h5]
  refine ifB (fun h => ?_) (fun h => ?_)
  case refine_2 => exact Exists.intro _ (And.intro rfl (And.intro rfl H.none))
  have hjl : j < fs.length := by omega
  obtain ⟨f, hf⟩ : ∃ f, fs[j]? = some f := ⟨_, List.getElem?_eq_getElem hjl⟩
  obtain ⟨g, hg⟩ : ∃ g, gs[j]? = some g := ⟨_, List.getElem?_eq_getElem (by omega)⟩
  have hfg : f.p = g.p := by
    have := congrArg (fun l => l[j]?) he
    simp only [List.getElem?_map, hf, hg, Option.map_some, Option.some.injEq] at this
    exact this
  have hfm : f ∈ fs := List.mem_of_getElem? hf
  have hgm : g ∈ gs := List.mem_of_getElem? hg
  have hss := hs f hfm
  have k1 := hx.kids f hfm
  have k2 := hy.kids g hgm
  obtain ⟨nv, dv, nm, dt, sf⟩ := f
  obtain ⟨nv', dv', nm', dt', sf'⟩ := g
  simp only [FileG.p, FileP.mk.injEq] at hfg
  obtain ⟨rfl, rfl, rfl⟩ := hfg
  dsimp only at *
  refine JoinV.mk ?_
  refine drawR H fun w H => ?_
  refine idxC (cells := FileG.cells) FileG.cells_len (hx.ext H.below).row hf hjl fun b off hc => ?_
  refine loadS (hc 0 _ rfl) ?_
  refine loadS (hc 1 _ rfl) ?_
  refine loadS (hc 2 _ rfl) ?_
  refine idxC (cells := FileG.cells) FileG.cells_len (hy.ext H.below).row hg (by omega) fun b' off' hd => ?_
  refine loadS (hd 0 _ rfl) ?_
  refine loadS (hd 1 _ rfl) ?_
  refine loadS (hd 2 _ rfl) ?_
  refine callV ok_eqFsFile (laws_eqFsFile (k1.1.ext H.below) (k1.2.ext H.below) (k2.1.ext H.below) (k2.2.ext H.below) hss.nm hss.dt) H fun w H => ?_
  refine ifNot ?_
  refine ifT ?_
  refine arN (by omega) ?_
  exact Exists.intro (m - 1) (And.intro (by omega) ⟨rfl, rfl, j + 1, rfl, by omega, H⟩)
theorem ok_eqFs : callOK Try.prog 19 = true := by kernel_rfl
theorem laws_eqFs {fs gs : List FileG} {A A' : Option Addr} {n c c' : Nat} {W : World} (hx : RdF W (.slice A n c) n fs) (hy : RdF W (.slice A' n c') n gs) (he : fs.map FileG.p = gs.map FileG.p) (hl : n ≤ 4294967296) (hs : ∀ f ∈ fs, SmallF f) : GivesV Try.prog 19 [.agg #[.slice A n c], .agg #[.slice A' n c']] W (.bool true) := by
  have H := St.enter W
  refine calls_of_vcV (args := [.agg #[.slice A n c], .agg #[.slice A' n c']]) Try.func19 rfl (by kernel_rfl) (Nat.le_of_ble_eq_true rfl) ?_
  refine newR (o := .cells #[.slice A n c] _) H fun g0 w H => ?_
  refine newR (o := .cells #[.slice A' n c'] _) H fun g1 w H => ?_
  refine loadO H 1 rfl rfl ?_
  refine loadO H 0 rfl rfl ?_
  refine callV ok_eqFsFileS (laws_eqFsFileS (hx.ext H.below) (hy.ext H.below) he hl hs) H fun w H => ?_
  refine ifNot ?_
  refine ifT ?_
  exact Exists.intro _ (And.intro rfl (And.intro rfl H.none))
end Go.Proofs.YtfhpgfbakimmhaaE
