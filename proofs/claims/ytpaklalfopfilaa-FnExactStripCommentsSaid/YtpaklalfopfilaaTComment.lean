/- The record Comment and lists of it in the memory, and what the laws' helpers do with them (printed by genrec.py). -/
import Derived.Test.YtpaklalfopfilaaTRecK
import Derived.Test.YtpaklalfopfilaaPTree
namespace Go.Proofs.YtpaklalfopfilaaE
open Go Go.RowKit
set_option linter.unusedVariables false
set_option linter.unusedSimpArgs false
set_option maxRecDepth 100000
set_option maxHeartbeats 2000000

structure CommentG where
  textV : Value
  block : Bool
  text : List Int
def CommentG.p (f : CommentG) : CommentP := ⟨f.block, f.text⟩
def CommentG.cells (f : CommentG) : List Value := [.bool f.block, f.textV]
def CommentG.own (f : CommentG) : List It := [It.rowB f.textV f.text]
def CommentG.Rd (w : World) (f : CommentG) : Prop := RdB w f.textV f.text
theorem CommentG.cells_len (f : CommentG) : f.cells.length = 2 := rfl
theorem CommentG.Rd.ext {w w' : World} {f : CommentG} (h : f.Rd w) (k : Below w.heap.size w w') : f.Rd w' := Go.Proofs.YtpaklalfopfilaaE.Rd.ext h k
structure RdComment (w : World) (v : Value) (n : Nat) (fs : List CommentG) : Prop where
  row : Rd w v 2 n (fs.flatMap CommentG.cells)
  kids : ∀ f ∈ fs, f.Rd w
theorem RdComment.len {w : World} {v : Value} {n : Nat} {fs : List CommentG} (h : RdComment w v n fs) : n = fs.length := by
  have := h.row.len
  rw [flat_len CommentG.cells_len] at this
  omega
theorem RdComment.ext {w w' : World} {v : Value} {n : Nat} {fs : List CommentG} (h : RdComment w v n fs) (k : Below w.heap.size w w') : RdComment w' v n fs := ⟨h.row.ext k, fun f hf => (h.kids f hf).ext k⟩
abbrev It.rowComment (v : Value) (n : Nat) (fs : List CommentG) : It := .row v 73 2 n (fs.flatMap CommentG.cells)
theorem CommentG.rdo {B : Nat} {W0 w : World} {L : List It} {f : CommentG} (H : St B W0 w L) (h : ∀ it ∈ f.own, it ∈ L) : f.Rd w := H.rdm (h (.rowB f.textV f.text) (by simp [CommentG.own])) rfl
theorem rdCommento {B : Nat} {W0 w : World} {L : List It} {v : Value} {n : Nat} {fs : List CommentG} (H : St B W0 w L) (h0 : It.rowComment v n fs ∈ L) (h : ∀ it ∈ fs.flatMap CommentG.own, it ∈ L) : RdComment w v n fs :=
  ⟨H.rdm h0 rfl, fun f hf => CommentG.rdo H fun it hit => h it (List.mem_flatMap.2 ⟨f, hf, hit⟩)⟩
theorem CommentG.shape {w : World} {f : CommentG} (h : f.Rd w) : ∃ A0 c0, f.textV = .slice A0 f.text.length c0 := by
  have h0 := h
  obtain ⟨_, A0, c0, e0, _⟩ := h0
  exact ⟨A0, c0, e0⟩
theorem CommentG.ownAll (f : CommentG) : f.own.all It.isOwn = true := by
  rfl
theorem ownCommentAll (fs : List CommentG) : (fs.flatMap CommentG.own).all It.isOwn = true := by
  rw [List.all_flatMap]; exact List.all_eq_true.2 fun f _ => CommentG.ownAll f
theorem rowCommentAll (v : Value) (n : Nat) (fs : List CommentG) : (It.rowComment v n fs :: fs.flatMap CommentG.own).all It.isOwn = true := by
  rw [List.all_cons, ownCommentAll]; rfl
theorem undComments : Try.prog.underlying 29 = some (.slice 73) := by kernel_rfl
theorem infComment : (Try.prog.info? 73).map (fun i => (i.zero, i.size, i.bytes)) = some (some (.agg #[.bool false, .slice none 0 0]), 2, 32) := by kernel_rfl
structure SmallComment (f : CommentG) : Prop where
  text : f.text.length ≤ 4294967296
theorem smallComment_p {fs gs : List CommentG} (h : gs.map CommentG.p = fs.map CommentG.p) (hs : ∀ f ∈ fs, SmallComment f) : ∀ g ∈ gs, SmallComment g := fun g hg => by
  have : g.p ∈ fs.map CommentG.p := h ▸ List.mem_map_of_mem hg
  obtain ⟨f, hf, he⟩ := List.mem_map.1 this
  have hs := hs f hf
  have e_text : f.text = g.text := congrArg CommentP.text he
  exact ⟨e_text ▸ hs.text⟩
def zeroComment : CommentG := ⟨.slice none 0 0, false, []⟩
theorem CommentG.one {W w : World} {g : CommentG} (H : St W.heap.size W w g.own) : ∀ (i : Nat) (v : Value), g.cells[i]? = some v → v.oneCell' = true := by
  obtain ⟨A0, c0, e0⟩ := CommentG.shape (CommentG.rdo H fun it hit => hit)
  intro i v hv
  have : v ∈ g.cells := List.mem_of_getElem? hv
  simp only [CommentG.cells, List.mem_cons, List.not_mem_nil, or_false] at this
  rcases this with rfl | rfl
  · rfl
  · rw [e0]; rfl
theorem flat_setComment {xs : List CommentG} {j : Nat} {x : CommentG} (hx : xs[j]? = some x) (g : CommentG) : ((xs.flatMap CommentG.cells).set (j * 2 + 0) (.bool g.block)).set (j * 2 + 1) (g.textV) = (xs.set j g).flatMap CommentG.cells := flat_setAll (y := g) CommentG.cells_len hx
theorem ok_toComment : callOK Try.prog 69 = true := by kernel_rfl
theorem laws_toComment {f : CommentG} {W : World} (h : f.Rd W) (s : SmallComment f) : Calls Try.prog 69 #[.agg f.cells.toArray] W fun e w => ∃ g : CommentG, e = .returned (.agg g.cells.toArray) ∧ g.p = f.p ∧ St W.heap.size W w g.own := by
  have H := St.enter W
  have s0 := s.text
  clear s
  obtain ⟨A0, c0, e0⟩ := CommentG.shape h
  obtain ⟨textV, block, text⟩ := f
  dsimp only at *
  subst e0
  have hk : RdB W (.slice A0 text.length c0) text := h
  show Calls Try.prog 69 #[.agg #[.bool block, .slice A0 text.length c0]] W _
  refine calls_of_vcV (args := [.agg #[.bool block, .slice A0 text.length c0]]) Try.func69 rfl (by kernel_rfl) (Nat.le_of_ble_eq_true rfl) ?_
  refine newR (o := .cells #[.bool block, .slice A0 text.length c0] _) H fun g0 w H => ?_
  refine newR (o := .cells #[.bool false, .slice none 0 0] _) H fun g1 w H => ?_
  refine newR (o := .cells #[.bool false, .slice none 0 0] _) H fun g2 w H => ?_
  refine loadO H 2 rfl rfl ?_
  refine storeO H 0 rfl rfl rfl fun w H => ?_
  refine loadO H 2 rfl rfl ?_
  refine callRow ok_toByteS (laws_toByteS _ _ _ _ (hk.ext H.below) (by omega)) H fun B0 d0 w H => ?_
  refine storeO H 1 rfl rfl rfl fun w H => ?_
  refine loadO H 1 rfl rfl ?_
  refine loadO H 1 rfl rfl ?_
  refine storeO H 2 rfl rfl rfl fun w H => ?_
  refine storeO H 2 rfl rfl rfl fun w H => ?_
  refine loadO H 2 rfl rfl ?_
  refine loadO H 2 rfl rfl ?_
  exact Exists.intro (⟨.slice B0 text.length d0, block, text⟩ : CommentG) (And.intro rfl (And.intro rfl (H.sel (fun q => by simp only [cntL_append, cntL, List.cons_append, List.nil_append, List.set_cons_zero, List.set_cons_succ, List.flatMap_append, List.flatMap_cons, List.flatMap_nil, It.rowB, It.rowI, It.roB, It.roI, CommentG.own, It.rowComment]; omega))))
theorem ok_toCommentS : callOK Try.prog 33 = true := by kernel_rfl
theorem laws_toCommentS {fs : List CommentG} {A : Option Addr} {n c : Nat} {W : World} (hx : RdComment W (.slice A n c) n fs) (hl : n ≤ 4294967296) (hs : ∀ f ∈ fs, SmallComment f) :
    Calls Try.prog 33 #[.slice A n c] W fun e w => ∃ A' c' gs, e = .returned (.slice A' n c') ∧ gs.map CommentG.p = fs.map CommentG.p ∧ St W.heap.size W w (.rowComment (.slice A' n c') n gs :: gs.flatMap CommentG.own) := by
  have H := St.enter W
  obtain rfl := hx.len
  refine calls_of_vcV (args := [.slice A fs.length c]) Try.func33 rfl (by kernel_rfl) (Nat.le_of_ble_eq_true rfl) ?_
  refine mkR (cells := CommentG.cells) CommentG.cells_len (by decide) zeroComment undComments infComment rfl (by decide) H hl fun A1 k1 w H => ?_
  refine loopV (by kernel_rfl) (fun m e w => e 0 = .slice A fs.length c ∧ e 3 = .slice A1 fs.length k1 ∧ ∃ (j : Nat) (gs : List CommentG), e 4 = .int .i64 j ∧ j + m = fs.length ∧ gs.map CommentG.p = (fs.take j).map CommentG.p ∧ gs.length = j ∧ St W.heap.size W w (.rowComment (.slice A1 fs.length k1) fs.length (gs ++ List.replicate m zeroComment) :: gs.flatMap CommentG.own)) fs.length
    ⟨rfl, rfl, 0, [], rfl, by omega, rfl, rfl, H⟩ ?_
  rintro m e w ⟨h0, h3, j, gs, h4, hj, hgs, hgl, H⟩
  rw [Env.three h0 h3 h4]
  refine ifB (fun h => ?_) (fun h => ?_)
  case refine_2 =>
    obtain rfl : m = 0 := by omega
    rw [show j = fs.length by omega, List.take_length] at hgs
    rw [List.replicate_zero, List.append_nil] at H
    exact Exists.intro A1 (Exists.intro k1 (Exists.intro gs (And.intro rfl (And.intro hgs H))))
  obtain ⟨m, rfl⟩ : ∃ m', m = m' + 1 := ⟨m - 1, by omega⟩
  have hjl : j < fs.length := by omega
  obtain ⟨f, hf⟩ : ∃ f, fs[j]? = some f := ⟨_, List.getElem?_eq_getElem hjl⟩
  have hfm : f ∈ fs := List.mem_of_getElem? hf
  have htk : (fs.take (j + 1)).map CommentG.p = (fs.take j).map CommentG.p ++ [f.p] := by rw [List.take_add_one, hf, List.map_append]; rfl
  have hkf := hx.kids f hfm
  have hsf := hs f hfm
  refine idxC (cells := CommentG.cells) CommentG.cells_len (hx.ext H.below).row hf hjl fun b off hc => ?_
  refine loadS (hc 0 _ rfl) ?_
  refine loadS (hc 1 _ rfl) ?_
  refine CallS.mk ok_toComment ((laws_toComment (hkf.ext H.below) hsf).mono ?_)
  rintro _ w2 ⟨g, rfl, hgp, H2⟩
  have hone := CommentG.one H2
  have H := H.joinL H2 (CommentG.ownAll g)
  refine idxRow H 0 rfl (by omega) (by omega) fun b0 hA _ => ?_
  subst hA
  refine storeRowN H 0 rfl (j * 2 + 0) (by show 0 + (j : Int).toNat * 2 = _; omega) (by omega) (hone 0 _ rfl) fun w H => ?_
  refine storeRowN H 0 rfl (j * 2 + 1) (by show 0 + (j : Int).toNat * 2 + 1 = _; omega) (by omega) (hone 1 _ rfl) fun w H => ?_
  have H1 : St W.heap.size W w (.row (.slice (some ⟨b0, 0, none⟩) fs.length k1) 73 2 fs.length ((((gs ++ List.replicate (m + 1) zeroComment).flatMap CommentG.cells).set (j * 2 + 0) (.bool g.block)).set (j * 2 + 1) (g.textV)) :: (gs.flatMap CommentG.own ++ g.own)) := H
  rw [flat_setComment (x := zeroComment) (by rw [← hgl, List.getElem?_append_right (Nat.le_refl _)]; simp)] at H1
  have e1 : (gs ++ List.replicate (m + 1) zeroComment).set j g = (gs ++ [g]) ++ List.replicate m zeroComment := by
    rw [← hgl, List.replicate_succ]; exact set_mid _ _ _ _
  rw [e1] at H1
  refine arN (by omega) ?_
  exact Exists.intro m (And.intro (by omega) ⟨rfl, rfl, j + 1, gs ++ [g], rfl, by omega, by rw [List.map_append, hgs, htk]; simp [hgp], by simp [hgl], H1.sel (fun q => by simp only [cntL_append, cntL, List.cons_append, List.nil_append, List.set_cons_zero, List.set_cons_succ, List.flatMap_append, List.flatMap_cons, List.flatMap_nil, It.rowB, It.rowI, It.roB, It.roI, CommentG.own, It.rowComment]; omega)⟩)
def CommentG.size (f : CommentG) : Nat := f.text.length
def sizeComment (fs : List CommentG) : Nat := fs.length + (fs.map CommentG.size).sum
theorem sizeComment_take {fs : List CommentG} {j : Nat} {f : CommentG} (h : fs[j]? = some f) : ((fs.take (j + 1)).map CommentG.size).sum = ((fs.take j).map CommentG.size).sum + f.size := by
  rw [List.take_add_one, h, List.map_append, List.sum_append]; simp
theorem sizeComment_le (fs : List CommentG) (j : Nat) : ((fs.take j).map CommentG.size).sum ≤ (fs.map CommentG.size).sum := by
  have h : (fs.map CommentG.size).sum = ((fs.take j).map CommentG.size).sum + ((fs.drop j).map CommentG.size).sum := by
    rw [← List.sum_append, ← List.map_append, List.take_append_drop]
  omega
theorem sizeComment_mem {fs : List CommentG} {f : CommentG} (h : f ∈ fs) : f.size ≤ (fs.map CommentG.size).sum := by
  obtain ⟨i, hi, he⟩ := List.getElem_of_mem h
  have h1 := sizeComment_take (fs := fs) (j := i) (f := f) (by rw [List.getElem?_eq_getElem hi, he])
  have h2 := sizeComment_le fs (i + 1)
  omega
theorem sizeComment_p : ∀ {gs fs : List CommentG}, gs.map CommentG.p = fs.map CommentG.p → (gs.map CommentG.size).sum = (fs.map CommentG.size).sum
  | [], [], _ => rfl
  | [], f :: fs, h => by simp at h
  | g :: gs, [], h => by simp at h
  | g :: gs, f :: fs, h => by
    simp only [List.map_cons, List.cons.injEq] at h
    have ih := sizeComment_p h.2
    have e_text : g.text = f.text := congrArg CommentP.text h.1
    simp only [List.map_cons, List.sum_cons, ih, CommentG.size, e_text]
theorem ok_szComment : callOK Try.prog 63 = true := by kernel_rfl
structure LenComment (f : CommentG) : Prop where
  text : f.text.length ≤ 9223372036854775807
theorem laws_szComment {f : CommentG} {l : Int} (h0 : 0 ≤ l) (h1 : l ≤ 1048576) {W : World} (h : f.Rd W) (hs : LenComment f) : GivesV Try.prog 63 [.agg f.cells.toArray, .int .i64 l] W (.int .i64 (szI l f.size)) := by
  have H := St.enter W
  have s0 := hs.text
  clear hs
  obtain ⟨A0, c0, e0⟩ := CommentG.shape h
  obtain ⟨textV, block, text⟩ := f
  dsimp only at *
  subst e0
  have hk : RdB W (.slice A0 text.length c0) text := h
  obtain ⟨T, hT⟩ : ∃ T : Nat, CommentG.size ⟨.slice A0 text.length c0, block, text⟩ = T := ⟨_, rfl⟩
  have hT2 : (T : Int) = ((text.length : Nat) : Int) := by rw [← hT]; simp only [CommentG.size] <;> omega
  rw [hT]
  have q0 : (l - (text.length : Nat) < 0 → szI (l) ((text.length : Nat)) = -1) ∧ (¬ l - (text.length : Nat) < 0 → szI (l) ((text.length : Nat)) = l - (text.length : Nat)) := ⟨fun h => if_pos h, fun h => if_neg h⟩
  have qT : (l - T < 0 → szI l T = -1) ∧ (¬ l - T < 0 → szI l T = l - T) := ⟨fun h => if_pos h, fun h => if_neg h⟩
  show GivesV Try.prog 63 [.agg #[.bool block, .slice A0 text.length c0], .int .i64 l] W _
  refine calls_of_vcV (args := [.agg #[.bool block, .slice A0 text.length c0], .int .i64 l]) Try.func63 rfl (by kernel_rfl) (Nat.le_of_ble_eq_true rfl) ?_
  refine newR (o := .cells #[.bool block, .slice A0 text.length c0] _) H fun g0 w H => ?_
  refine loadO H 0 rfl rfl ?_
  refine callV ok_szByteS (laws_szByteS (n := text.length) (A := A0) (by omega) (by omega) (by omega)) H fun w H => ?_
  refine ifB (fun z0 => Exists.intro _ (And.intro rfl (And.intro (congrArg (Value.int .i64) (by omega)) H.none))) (fun z0 => ?_)
  exact Exists.intro _ (And.intro rfl (And.intro (congrArg (Value.int .i64) (by omega)) H.none))
theorem ok_szCommentS : callOK Try.prog 27 = true := by kernel_rfl
theorem laws_szCommentS {fs : List CommentG} {A : Option Addr} {n c : Nat} {l0 : Int} {W : World} (hl0 : 0 ≤ l0) (hl1 : l0 ≤ 1048576) (hx : RdComment W (.slice A n c) n fs) (hl : n ≤ 9223372036854775807) (hs : ∀ f ∈ fs, LenComment f) : GivesV Try.prog 27 [.slice A n c, .int .i64 l0] W (.int .i64 (szI l0 (sizeComment fs))) := by
  have H := St.enter W
  obtain rfl := hx.len
  refine calls_of_vcV (args := [.slice A fs.length c, .int .i64 l0]) Try.func27 rfl (by kernel_rfl) (Nat.le_of_ble_eq_true rfl) ?_
  have bad : ∀ {w : World}, St W.heap.size W w [] → l0 - sizeComment fs < 0 → ∃ v, Ending.returned (.int .i64 (-1)) = .returned v ∧ v = .int .i64 (szI l0 (sizeComment fs)) ∧ St W.heap.size W w [] := fun H h => ⟨_, rfl, by unfold szI; rw [if_pos h], H.none⟩
  refine ar64 (by omega) (by omega) ?_
  refine ifB (fun c1 => ?_) (fun c1 => ?_)
  · exact bad H (by unfold sizeComment; omega)
  · refine loopV (by kernel_rfl) (fun m e w => e 0 = .slice A fs.length c ∧ ∃ (j : Nat) (l : Int), e 5 = .int .i64 j ∧ e 1 = .int .i64 l ∧ j + m = fs.length ∧ 0 ≤ l ∧ l = l0 - (fs.length + ((fs.take j).map CommentG.size).sum : Nat) ∧ St W.heap.size W w []) fs.length
      ⟨rfl, 0, _, rfl, rfl, by omega, by omega, by simp, H⟩ ?_
    rintro m e w ⟨h0, j, l, h5, h1, hj, hl0, hle, H⟩
    rw [Env.three h0 h5 h1]
    refine ifB (fun h => ?_) (fun h => ?_)
    case refine_2 =>
      rw [show j = fs.length by omega, List.take_length] at hle
      exact Exists.intro _ (And.intro rfl (And.intro (congrArg (Value.int .i64) (show l = szI l0 (sizeComment fs) by unfold szI sizeComment; rw [if_neg (by omega), hle])) H.none))
    have hjl : j < fs.length := by omega
    obtain ⟨f, hf⟩ : ∃ f, fs[j]? = some f := ⟨_, List.getElem?_eq_getElem hjl⟩
    have hfm : f ∈ fs := List.mem_of_getElem? hf
    have hst := sizeComment_take hf
    have hle2 := sizeComment_le fs (j + 1)
    have hkf := hx.kids f hfm
    have hsf := hs f hfm
    have qf : (l - f.size < 0 → szI l f.size = -1) ∧ (¬ l - f.size < 0 → szI l f.size = l - f.size) := ⟨fun h => if_pos h, fun h => if_neg h⟩
    refine JoinV.mk ?_
    refine idxC (cells := CommentG.cells) CommentG.cells_len (hx.ext H.below).row hf hjl fun b off hc => ?_
    refine loadS (hc 0 _ rfl) ?_
    refine loadS (hc 1 _ rfl) ?_
    refine callV ok_szComment (laws_szComment (by omega) (by omega) (hkf.ext H.below) hsf) H fun w H => ?_
    refine ifB (fun c6 => ?_) (fun c6 => ?_)
    · exact bad H (by unfold sizeComment; omega)
    · refine arN (by omega) ?_
      exact Exists.intro (m - 1) (And.intro (by omega) ⟨rfl, j + 1, l - f.size, rfl, congrArg (Value.int .i64) (by omega), by omega, by omega, by omega, H⟩)
theorem ok_eqComment : callOK Try.prog 76 = true := by kernel_rfl
theorem laws_eqComment {f g : CommentG} {W : World} (h : f.Rd W) (h' : g.Rd W) (he : f.p = g.p) (s : SmallComment f) : GivesV Try.prog 76 [.agg f.cells.toArray, .agg g.cells.toArray] W (.bool true) := by
  have H := St.enter W
  have s0 := s.text
  clear s
  obtain ⟨A0, c0, e0⟩ := CommentG.shape h
  obtain ⟨textV, block, text⟩ := f
  dsimp only at *
  subst e0
  obtain ⟨A0', c0', e0'⟩ := CommentG.shape h'
  obtain ⟨textV', block', text'⟩ := g
  dsimp only at *
  subst e0'
  have hk : RdB W (.slice A0 text.length c0) text := h
  have hk' : RdB W (.slice A0' text'.length c0') text' := h'
  clear h h'
  simp only [CommentG.p, CommentP.mk.injEq] at he
  obtain ⟨rfl, rfl⟩ := he
  show GivesV Try.prog 76 [.agg #[.bool block, .slice A0 text.length c0], .agg #[.bool block, .slice A0' text.length c0']] W _
  refine calls_of_vcV (args := [.agg #[.bool block, .slice A0 text.length c0], .agg #[.bool block, .slice A0' text.length c0']]) Try.func76 rfl (by kernel_rfl) (Nat.le_of_ble_eq_true rfl) ?_
  refine newR (o := .cells #[.bool block, .slice A0 text.length c0] _) H fun g w H => ?_
  refine newR (o := .cells #[.bool block, .slice A0' text.length c0'] _) H fun g w H => ?_
  refine loadO H 1 rfl rfl ?_
  refine loadO H 0 rfl rfl ?_
  refine ifNot ?_
  refine ifB (fun _ => ?_) (fun c => absurd rfl c)
  refine loadO H 1 rfl rfl ?_
  refine loadO H 0 rfl rfl ?_
  refine callV ok_eqByteS (eqB2 (hk.ext H.below) (hk'.ext H.below) (by omega)) H fun w H => ?_
  refine ifNot (ifT ?_)
  exact Exists.intro _ (And.intro rfl (And.intro rfl H.none))
theorem ok_eqCommentS : callOK Try.prog 39 = true := by kernel_rfl
theorem laws_eqCommentS {fs gs : List CommentG} {A A' : Option Addr} {n c c' : Nat} {W : World} (hx : RdComment W (.slice A n c) n fs) (hy : RdComment W (.slice A' n c') n gs) (he : fs.map CommentG.p = gs.map CommentG.p) (hl : n ≤ 4294967296) (hs : ∀ f ∈ fs, SmallComment f) : GivesV Try.prog 39 [.slice A n c, .slice A' n c'] W (.bool true) := by
  have H := St.enter W
  obtain rfl := hx.len
  have hlen := hy.len
  refine calls_of_vcV (args := [.slice A fs.length c, .slice A' fs.length c']) Try.func39 rfl (by kernel_rfl) (Nat.le_of_ble_eq_true rfl) ?_
  refine ifB (fun c0 => absurd c0 (by omega)) (fun c0 => ?_)
  refine loopV (by kernel_rfl) (fun m e w => e 0 = .slice A fs.length c ∧ e 1 = .slice A' fs.length c' ∧ ∃ j : Nat, e 5 = .int .i64 j ∧ j + m = fs.length ∧ St W.heap.size W w []) fs.length ⟨rfl, rfl, 0, rfl, by omega, H⟩ ?_
  rintro m e w ⟨h0, h1, j, h5, hj, H⟩
  rw [Env.three h0 h1 h5]
  refine ifB (fun h => ?_) (fun h => ?_)
  case refine_2 => exact Exists.intro _ (And.intro rfl (And.intro rfl H.none))
  have hjl : j < fs.length := by omega
  obtain ⟨f, hf⟩ : ∃ f, fs[j]? = some f := ⟨_, List.getElem?_eq_getElem hjl⟩
  obtain ⟨g, hg⟩ : ∃ g, gs[j]? = some g := ⟨_, List.getElem?_eq_getElem (by omega)⟩
  have hfg : f.p = g.p := by
    have := congrArg (fun l => l[j]?) he
    simp only [List.getElem?_map, hf, hg, Option.map_some, Option.some.injEq] at this
    exact this
  have hfm : f ∈ fs := List.mem_of_getElem? hf
  have hgm : g ∈ gs := List.mem_of_getElem? hg
  have hss := hs f hfm
  have k1 := hx.kids f hfm
  have k2 := hy.kids g hgm
  refine JoinV.mk ?_
  refine drawR H fun w H => ?_
  refine idxC (cells := CommentG.cells) CommentG.cells_len (hx.ext H.below).row hf hjl fun b off hc => ?_
  refine loadS (hc 0 _ rfl) ?_
  refine loadS (hc 1 _ rfl) ?_
  refine idxC (cells := CommentG.cells) CommentG.cells_len (hy.ext H.below).row hg (by omega) fun b' off' hd => ?_
  refine loadS (hd 0 _ rfl) ?_
  refine loadS (hd 1 _ rfl) ?_
  refine callV ok_eqComment (laws_eqComment (k1.ext H.below) (k2.ext H.below) hfg hss) H fun w H => ?_
  refine ifNot ?_
  refine ifT ?_
  refine arN (by omega) ?_
  exact Exists.intro (m - 1) (And.intro (by omega) ⟨rfl, rfl, j + 1, rfl, by omega, H⟩)
theorem eqRComment {fs gs : List CommentG} {A A' : Option Addr} {c c' : Nat} {W : World} (hx : RdComment W (.slice A fs.length c) fs.length fs) (hy : RdComment W (.slice A' gs.length c') gs.length gs) (he : fs.map CommentG.p = gs.map CommentG.p) (hl : fs.length ≤ 4294967296) (hs : ∀ f ∈ fs, SmallComment f) : GivesV Try.prog 39 [.slice A fs.length c, .slice A' gs.length c'] W (.bool true) := by
  have l : gs.length = fs.length := by have := congrArg List.length he; simpa using this.symm
  rw [l] at hy ⊢
  exact laws_eqCommentS hx hy he hl hs
def markComment1 (f : CommentG) (k : Int) : CommentG := ⟨f.textV, decide (k % 3 = 0), cnt (· % 256) (k + 1) f.text.length⟩
def nextComment (f : CommentG) (k : Int) : Int := ((k + 1) + f.text.length)
def markCommentL : List CommentG → Int → List CommentG
  | [], _ => []
  | f :: fs, k => markComment1 f k :: markCommentL fs (nextComment f k)
def endCommentL : List CommentG → Int → Int
  | [], k => k
  | f :: fs, k => endCommentL fs (nextComment f k)
theorem markCommentL_len : ∀ (fs : List CommentG) (k : Int), (markCommentL fs k).length = fs.length
  | [], _ => rfl
  | f :: fs, k => by simp [markCommentL, markCommentL_len fs]
def stepsComment (f : CommentG) : Nat := 1 + f.text.length
theorem nextComment_eq (f : CommentG) (k : Int) : nextComment f k = k + stepsComment f := by
  simp only [nextComment, stepsComment]; omega
theorem endCommentL_eq : ∀ (fs : List CommentG) (k : Int), endCommentL fs k = k + ((fs.map stepsComment).sum : Nat)
  | [], k => by simp [endCommentL]
  | f :: fs, k => by rw [endCommentL, endCommentL_eq fs, nextComment_eq, List.map_cons, List.sum_cons]; omega
theorem markCommentL_app : ∀ (a b : List CommentG) (k : Int), markCommentL (a ++ b) k = markCommentL a k ++ markCommentL b (endCommentL a k)
  | [], b, k => rfl
  | f :: a, b, k => by simp only [List.cons_append, markCommentL, endCommentL, markCommentL_app a b]
theorem endCommentL_snoc : ∀ (fs : List CommentG) (f : CommentG) (k : Int), endCommentL (fs ++ [f]) k = nextComment f (endCommentL fs k)
  | [], f, k => rfl
  | g :: fs, f, k => by simp [endCommentL, endCommentL_snoc fs]
theorem stepsComment_len : ∀ fs : List CommentG, fs.length ≤ (fs.map stepsComment).sum
  | [] => Nat.le_refl _
  | f :: fs => by have := stepsComment_len fs; simp only [List.length_cons, List.map_cons, List.sum_cons, stepsComment]; omega
theorem ok_markCommentS : callOK Try.prog 59 = true := by kernel_rfl
theorem laws_markCommentS {fs : List CommentG} {A : Option Addr} {n c : Nat} {k : Int} (hk : 0 ≤ k) (hb : k + ((fs.map stepsComment).sum : Nat) ≤ 1099511627776) {B : Nat} {W0 w : World} {L : List It} (hn : n = fs.length) (H : St B W0 w (.rowComment (.slice A n c) n fs :: (fs.flatMap CommentG.own ++ L))) :
    Calls Try.prog 59 #[.slice A n c, .int .i64 k] w fun e w' => e = .returned (.int .i64 (endCommentL fs k)) ∧ St B W0 w' (.rowComment (.slice A n c) n (markCommentL fs k) :: ((markCommentL fs k).flatMap CommentG.own ++ L)) := by
  subst hn
  have hlen := stepsComment_len fs
  refine calls_of_vcV (args := [.slice A fs.length c, .int .i64 k]) Try.func59 rfl (by kernel_rfl) (Nat.le_of_ble_eq_true rfl) ?_
  refine loopV (by kernel_rfl) (fun m e w => e 0 = .slice A fs.length c ∧ ∃ (j : Nat) (done rest : List CommentG), e 5 = .int .i64 j ∧ e 1 = .int .i64 (endCommentL done k) ∧ fs = done ++ rest ∧ done.length = j ∧ rest.length = m ∧ St B W0 w (.rowComment (.slice A fs.length c) fs.length (markCommentL done k ++ rest) :: ((markCommentL done k).flatMap CommentG.own ++ (rest.flatMap CommentG.own ++ L)))) fs.length
    ⟨rfl, 0, [], fs, rfl, rfl, rfl, rfl, rfl, H⟩ ?_
  rintro m e w ⟨h0, j, done, rest, h5, h1, hfs, hd, hr, H⟩
  rw [Env.three h0 h5 h1]
  have hfl : fs.length = j + m := by rw [hfs, List.length_append]; omega
  refine ifB (fun h => ?_) (fun h => ?_)
  case refine_2 =>
    obtain rfl : rest = [] := List.length_eq_zero_iff.1 (by omega)
    rw [List.append_nil] at hfs
    subst hfs
    simp only [List.append_nil, List.flatMap_nil, List.nil_append] at H
    exact And.intro rfl H
  cases rest with
  | nil => simp only [List.length_nil] at hr; omega
  | cons f rest =>
    have hes : (fs.map stepsComment).sum = (done.map stepsComment).sum + stepsComment f + (rest.map stepsComment).sum := by
      rw [hfs]; simp only [List.map_append, List.map_cons, List.sum_append, List.sum_cons]; omega
    have hend := endCommentL_eq done k
    obtain ⟨k0, hk0⟩ : ∃ k0, endCommentL done k = k0 := ⟨_, rfl⟩
    have hnx := nextComment_eq f k0
    have hx : (markCommentL done k ++ f :: rest)[j]? = some f := by rw [List.getElem?_append_right (by rw [markCommentL_len]; omega), markCommentL_len, hd, Nat.sub_self]; rfl
    have hsn := endCommentL_snoc done f k
    have hlast : markCommentL (done ++ [f]) k = markCommentL done k ++ [markComment1 f (endCommentL done k)] := by rw [markCommentL_app]; rfl
    rw [hk0] at hend hsn hlast ⊢
    have hf0 : f.Rd w := CommentG.rdo (f := f) H (fun it hit => by simp [hit])
    obtain ⟨b0, rfl, _⟩ := own_cells (H.own 0 rfl) (by omega)
    have hml : (markCommentL done k).length = j := by rw [markCommentL_len, hd]
    obtain ⟨D, hD⟩ : ∃ D, markCommentL done k = D := ⟨_, rfl⟩
    rw [hD] at H hml hlast
    obtain ⟨f1, hf1⟩ : ∃ f1, markComment1 f k0 = f1 := ⟨_, rfl⟩
    rw [hf1] at hlast
    have hfs2 : fs = (done ++ [f]) ++ rest := by rw [hfs]; simp
    obtain ⟨f0, hf00⟩ : ∃ f0, f = f0 := ⟨_, rfl⟩
    rw [hf00] at hfs2 hlast hsn
    obtain ⟨A0, c0, e0⟩ := CommentG.shape hf0
    obtain ⟨textV, block, text⟩ := f
    dsimp only at *
    subst e0
    simp only [stepsComment] at hes hnx
    simp only [markComment1] at hf1
    have H : St B W0 w (.rowComment (.slice (some ⟨b0, 0, none⟩) fs.length c) fs.length (D ++ ⟨.slice A0 text.length c0, block, text⟩ :: rest) :: ([It.row (.slice A0 text.length c0) 5 1 text.length ((text).map (.int .u8))] ++ (D.flatMap CommentG.own ++ (rest.flatMap CommentG.own ++ L)))) := H.sel (fun q => by simp only [cntL_append, cntL, List.cons_append, List.nil_append, List.set_cons_zero, List.set_cons_succ, List.flatMap_append, List.flatMap_cons, List.flatMap_nil, It.rowB, It.rowI, It.roB, It.roI, CommentG.own, It.rowComment]; omega)
    refine rem0 (by omega) (by omega) ?_
    refine idxRow H 0 rfl (by omega) (by omega) fun b1 hA _ => ?_
    cases hA
    refine storeRowN H 0 rfl (j * 2 + 0) (by show 0 + (j : Int).toNat * 2 = _; omega) (by omega) rfl fun w H => ?_
    have H : St B W0 w (.row (.slice (some ⟨b0, 0, none⟩) fs.length c) 73 2 fs.length (((D ++ ⟨.slice A0 text.length c0, block, text⟩ :: rest).flatMap CommentG.cells).set (j * 2 + 0) (.bool (decide (k0 % 3 = 0)))) :: ([It.row (.slice A0 text.length c0) 5 1 text.length ((text).map (.int .u8))] ++ (D.flatMap CommentG.own ++ (rest.flatMap CommentG.own ++ L)))) := H
    rw [flat_set (v := .bool (decide (k0 % 3 = 0))) (x' := ⟨.slice A0 text.length c0, (decide (k0 % 3 = 0)), text⟩) CommentG.cells_len (D ++ ⟨.slice A0 text.length c0, block, text⟩ :: rest) j 0 ⟨.slice A0 text.length c0, block, text⟩ (get_mid (a := D) (r := rest) (x := ⟨.slice A0 text.length c0, block, text⟩) hml) (by decide) rfl, set_mid2 hml] at H
    refine ar64 (by omega) (by omega) ?_
    refine idxC (cells := CommentG.cells) CommentG.cells_len (H.rd 0 rfl) (get_mid (a := D) (r := rest) (x := ⟨.slice A0 text.length c0, (decide (k0 % 3 = 0)), text⟩) hml) (by omega) fun b off hc => ?_
    refine loadS (v := .slice A0 text.length c0) (hc 1 _ rfl) ?_
    have H : St B W0 w (.rowB (.slice A0 text.length c0) text :: (.rowComment (.slice (some ⟨b0, 0, none⟩) fs.length c) fs.length (D ++ ⟨.slice A0 text.length c0, (decide (k0 % 3 = 0)), text⟩ :: rest) :: (D.flatMap CommentG.own ++ (rest.flatMap CommentG.own ++ L)))) := H.sel (fun q => by simp only [cntL_append, cntL, List.cons_append, List.nil_append, List.set_cons_zero, List.set_cons_succ, List.flatMap_append, List.flatMap_cons, List.flatMap_nil, It.rowB, It.rowI, It.roB, It.roI, CommentG.own, It.rowComment]; omega)
    refine markB_call H rfl (by omega) (by omega) fun w H => ?_
    have ec : (D ++ ⟨.slice A0 text.length c0, (decide (k0 % 3 = 0)), text⟩ :: rest).flatMap CommentG.cells = (D ++ ⟨.slice A0 text.length c0, (decide (k0 % 3 = 0)), cnt (· % 256) (k0 + 1) text.length⟩ :: rest).flatMap CommentG.cells := by simp only [List.flatMap_append, List.flatMap_cons]; rfl
    have H : St B W0 w (.rowB (.slice A0 text.length c0) (cnt (· % 256) (k0 + 1) text.length) :: (.rowComment (.slice (some ⟨b0, 0, none⟩) fs.length c) fs.length (D ++ ⟨.slice A0 text.length c0, (decide (k0 % 3 = 0)), text⟩ :: rest) :: (D.flatMap CommentG.own ++ (rest.flatMap CommentG.own ++ L)))) := H
    unfold It.rowB It.rowComment at H
    rw [cnt_len, ec] at H
    have H : St B W0 w (.rowComment (.slice (some ⟨b0, 0, none⟩) fs.length c) fs.length (D ++ ⟨.slice A0 text.length c0, (decide (k0 % 3 = 0)), cnt (· % 256) (k0 + 1) text.length⟩ :: rest) :: ([It.row (.slice A0 text.length c0) 5 1 text.length ((cnt (· % 256) (k0 + 1) text.length).map (.int .u8))] ++ (D.flatMap CommentG.own ++ (rest.flatMap CommentG.own ++ L)))) := H.sel (fun q => by simp only [cntL_append, cntL, List.cons_append, List.nil_append, List.set_cons_zero, List.set_cons_succ, List.flatMap_append, List.flatMap_cons, List.flatMap_nil, It.rowB, It.rowI, It.roB, It.roI, CommentG.own, It.rowComment]; omega)
    refine arN (by omega) ?_
    have ef : f1 = ⟨.slice A0 text.length c0, (decide (k0 % 3 = 0)), cnt (· % 256) (k0 + 1) text.length⟩ := hf1.symm
    have ek : ((k0 + 1) + text.length) = endCommentL (done ++ [f0]) k := by rw [hsn, ← hf00]; rfl
    refine Exists.intro (m - 1) (And.intro (by omega) ⟨rfl, j + 1, done ++ [f0], rest, rfl, congrArg (Value.int .i64) ek, hfs2, by simp [hd], by simp only [List.length_cons] at hr; omega, ?_⟩)
    rw [hlast, ef]
    refine H.sel (fun q => ?_)
    simp only [cntL_append, cntL, List.append_assoc, List.cons_append, List.nil_append, List.flatMap_append, List.flatMap_cons, List.flatMap_nil, It.rowB, It.rowI, CommentG.own, It.rowComment, cnt_len]; omega

theorem ok_heldCommentS : callOK Try.prog 61 = true := by kernel_rfl
theorem laws_heldCommentS {fs : List CommentG} {A : Option Addr} {n c : Nat} {k : Int} (hk : 0 ≤ k) (hb : k + ((fs.map stepsComment).sum : Nat) ≤ 1099511627776) {W : World} (hx : RdComment W (.slice A n c) n (markCommentL fs k)) : GivesV Try.prog 61 [.slice A n c, .int .i64 k] W (.int .i64 (endCommentL fs k)) := by
  have H := St.enter W
  have hn := hx.len
  rw [markCommentL_len] at hn
  subst hn
  have hlen := stepsComment_len fs
  refine calls_of_vcV (args := [.slice A fs.length c, .int .i64 k]) Try.func61 rfl (by kernel_rfl) (Nat.le_of_ble_eq_true rfl) ?_
  refine loopV (by kernel_rfl) (fun m e w => e 0 = .slice A fs.length c ∧ ∃ (j : Nat) (done rest : List CommentG), e 5 = .int .i64 j ∧ e 1 = .int .i64 (endCommentL done k) ∧ fs = done ++ rest ∧ done.length = j ∧ rest.length = m ∧ St W.heap.size W w []) fs.length
    ⟨rfl, 0, [], fs, rfl, rfl, rfl, rfl, rfl, H⟩ ?_
  rintro m e w ⟨h0, j, done, rest, h5, h1, hfs, hd, hr, H⟩
  rw [Env.three h0 h5 h1]
  have hfl : fs.length = j + m := by rw [hfs, List.length_append]; omega
  refine ifB (fun h => ?_) (fun h => ?_)
  case refine_2 =>
    obtain rfl : rest = [] := List.length_eq_zero_iff.1 (by omega)
    rw [List.append_nil] at hfs
    subst hfs
    exact Exists.intro _ (And.intro rfl (And.intro rfl H.none))
  cases rest with
  | nil => simp only [List.length_nil] at hr; omega
  | cons f rest =>
    have hes : (fs.map stepsComment).sum = (done.map stepsComment).sum + stepsComment f + (rest.map stepsComment).sum := by
      rw [hfs]; simp only [List.map_append, List.map_cons, List.sum_append, List.sum_cons]; omega
    have hend := endCommentL_eq done k
    have hsn := endCommentL_snoc done f k
    obtain ⟨k0, hk0⟩ : ∃ k0, endCommentL done k = k0 := ⟨_, rfl⟩
    rw [hk0] at hend hsn ⊢
    have hm : (markCommentL fs k)[j]? = some (markComment1 f k0) := by
      rw [hfs, markCommentL_app, List.getElem?_append_right (by rw [markCommentL_len]; omega), markCommentL_len, hd, Nat.sub_self, hk0]; rfl
    have hfs2 : fs = (done ++ [f]) ++ rest := by rw [hfs]; simp
    have hkm := hx.kids _ (List.mem_of_getElem? hm)
    obtain ⟨f1, hf1⟩ : ∃ f1, markComment1 f k0 = f1 := ⟨_, rfl⟩
    rw [hf1] at hm hkm
    have hsh := CommentG.shape hkm
    have hnx : nextComment f k0 = nextComment f k0 := rfl
    simp only [stepsComment] at hes
    obtain ⟨A0, c0, e0⟩ := hsh
    have v_block : f1.block = decide (k0 % 3 = 0) := by rw [← hf1]; rfl
    have v_text : f1.text = cnt (· % 256) (k0 + 1) f.text.length := by rw [← hf1]; rfl
    rw [v_text, cnt_len] at e0
    have kk0 : Rd W (.slice A0 f.text.length c0) 1 f.text.length ((cnt (· % 256) (k0 + 1) f.text.length).map (.int .u8)) := by have q : RdB W f1.textV f1.text := hkm; rw [e0, v_text] at q; simpa only [RdB, cnt_len] using q
    refine JoinV.mk ?_
    refine idxC (cells := CommentG.cells) CommentG.cells_len (hx.ext H.below).row hm (by omega) fun b off hc => ?_
    refine loadS (v := .bool (decide (k0 % 3 = 0))) (hc 0 _ (by show some (Value.bool f1.block) = _; rw [v_block])) ?_
    refine rem0 (by omega) (by omega) ?_
    refine ifNot ?_
    refine ifB (fun _ => ?_) (fun q => absurd rfl q)
    refine ar64 (by omega) (by omega) ?_
    refine idxC (cells := CommentG.cells) CommentG.cells_len (hx.ext H.below).row hm (by omega) fun b off hc => ?_
    refine loadS (v := .slice A0 f.text.length c0) (hc 1 _ (by show some f1.textV = _; rw [e0])) ?_
    refine callV ok_heldByteS (heldV (kk0.ext H.below) (by omega) (by omega)) H fun w H => ?_
    refine ifB (fun q => absurd q (by omega)) (fun q => ?_)
    refine arN (by omega) ?_
    exact Exists.intro (m - 1) (And.intro (by omega) ⟨rfl, j + 1, done ++ [f], rest, rfl, congrArg (Value.int .i64) (show ((k0 + 1) + f.text.length) = _ by rw [hsn]; rfl), hfs2, by simp [hd], by simp only [List.length_cons] at hr; omega, H⟩)

end Go.Proofs.YtpaklalfopfilaaE
