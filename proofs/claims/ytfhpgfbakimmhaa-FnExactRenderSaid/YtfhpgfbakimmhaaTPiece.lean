/- The record Piece and lists of it in the memory, and what the laws' helpers do with them (printed by genrec.py). -/
import Derived.Test.YtfhpgfbakimmhaaTRecK
import Derived.Test.YtfhpgfbakimmhaaPDoc
namespace Go.Proofs.YtfhpgfbakimmhaaE
open Go Go.RowKit
set_option linter.unusedVariables false
set_option linter.unusedSimpArgs false
set_option maxRecDepth 100000
set_option maxHeartbeats 2000000

structure PieceG where
  textV : Value
  kind : Int
  text : List Int
  n : Int
def PieceG.p (f : PieceG) : PieceP := ⟨f.kind, f.text, f.n⟩
def PieceG.cells (f : PieceG) : List Value := [.int .i64 f.kind, f.textV, .int .i64 f.n]
def PieceG.own (f : PieceG) : List It := [It.rowB f.textV f.text]
def PieceG.Rd (w : World) (f : PieceG) : Prop := RdB w f.textV f.text
theorem PieceG.cells_len (f : PieceG) : f.cells.length = 3 := rfl
theorem PieceG.Rd.ext {w w' : World} {f : PieceG} (h : f.Rd w) (k : Below w.heap.size w w') : f.Rd w' := Go.Proofs.YtfhpgfbakimmhaaE.Rd.ext h k
structure RdPiece (w : World) (v : Value) (n : Nat) (fs : List PieceG) : Prop where
  row : Rd w v 3 n (fs.flatMap PieceG.cells)
  kids : ∀ f ∈ fs, f.Rd w
theorem RdPiece.len {w : World} {v : Value} {n : Nat} {fs : List PieceG} (h : RdPiece w v n fs) : n = fs.length := by
  have := h.row.len
  rw [flat_len PieceG.cells_len] at this
  omega
theorem RdPiece.ext {w w' : World} {v : Value} {n : Nat} {fs : List PieceG} (h : RdPiece w v n fs) (k : Below w.heap.size w w') : RdPiece w' v n fs := ⟨h.row.ext k, fun f hf => (h.kids f hf).ext k⟩
abbrev It.rowPiece (v : Value) (n : Nat) (fs : List PieceG) : It := .row v 96 3 n (fs.flatMap PieceG.cells)
theorem PieceG.rdo {B : Nat} {W0 w : World} {L : List It} {f : PieceG} (H : St B W0 w L) (h : ∀ it ∈ f.own, it ∈ L) : f.Rd w := H.rdm (h (.rowB f.textV f.text) (by simp [PieceG.own])) rfl
theorem rdPieceo {B : Nat} {W0 w : World} {L : List It} {v : Value} {n : Nat} {fs : List PieceG} (H : St B W0 w L) (h0 : It.rowPiece v n fs ∈ L) (h : ∀ it ∈ fs.flatMap PieceG.own, it ∈ L) : RdPiece w v n fs :=
  ⟨H.rdm h0 rfl, fun f hf => PieceG.rdo H fun it hit => h it (List.mem_flatMap.2 ⟨f, hf, hit⟩)⟩
theorem PieceG.shape {w : World} {f : PieceG} (h : f.Rd w) : ∃ A0 c0, f.textV = .slice A0 f.text.length c0 := by
  have h0 := h
  obtain ⟨_, A0, c0, e0, _⟩ := h0
  exact ⟨A0, c0, e0⟩
theorem PieceG.ownAll (f : PieceG) : f.own.all It.isOwn = true := by
  rfl
theorem ownPieceAll (fs : List PieceG) : (fs.flatMap PieceG.own).all It.isOwn = true := by
  rw [List.all_flatMap]; exact List.all_eq_true.2 fun f _ => PieceG.ownAll f
theorem rowPieceAll (v : Value) (n : Nat) (fs : List PieceG) : (It.rowPiece v n fs :: fs.flatMap PieceG.own).all It.isOwn = true := by
  rw [List.all_cons, ownPieceAll]; rfl
theorem undPieces : Try.prog.underlying 50 = some (.slice 96) := by kernel_rfl
theorem infPiece : (Try.prog.info? 96).map (fun i => (i.zero, i.size, i.bytes)) = some (some (.agg #[.int .i64 0, .slice none 0 0, .int .i64 0]), 3, 40) := by kernel_rfl
structure SmallPiece (f : PieceG) : Prop where
  text : f.text.length ≤ 4294967296
theorem smallPiece_p {fs gs : List PieceG} (h : gs.map PieceG.p = fs.map PieceG.p) (hs : ∀ f ∈ fs, SmallPiece f) : ∀ g ∈ gs, SmallPiece g := fun g hg => by
  have : g.p ∈ fs.map PieceG.p := h ▸ List.mem_map_of_mem hg
  obtain ⟨f, hf, he⟩ := List.mem_map.1 this
  have hs := hs f hf
  have e_text : f.text = g.text := congrArg PieceP.text he
  exact ⟨e_text ▸ hs.text⟩
def zeroPiece : PieceG := ⟨.slice none 0 0, 0, [], 0⟩
theorem PieceG.one {W w : World} {g : PieceG} (H : St W.heap.size W w g.own) : ∀ (i : Nat) (v : Value), g.cells[i]? = some v → v.oneCell' = true := by
  obtain ⟨A0, c0, e0⟩ := PieceG.shape (PieceG.rdo H fun it hit => hit)
  intro i v hv
  have : v ∈ g.cells := List.mem_of_getElem? hv
  simp only [PieceG.cells, List.mem_cons, List.not_mem_nil, or_false] at this
  rcases this with rfl | rfl | rfl
  · rfl
  · rw [e0]; rfl
  · rfl
theorem flat_setPiece {xs : List PieceG} {j : Nat} {x : PieceG} (hx : xs[j]? = some x) (g : PieceG) : (((xs.flatMap PieceG.cells).set (j * 3 + 0) (.int .i64 g.kind)).set (j * 3 + 1) (g.textV)).set (j * 3 + 2) (.int .i64 g.n) = (xs.set j g).flatMap PieceG.cells := flat_setAll (y := g) PieceG.cells_len hx
theorem ok_toPiece : callOK Try.prog 88 = true := by kernel_rfl
theorem laws_toPiece {f : PieceG} {W : World} (h : f.Rd W) (s : SmallPiece f) : Calls Try.prog 88 #[.agg f.cells.toArray] W fun e w => ∃ g : PieceG, e = .returned (.agg g.cells.toArray) ∧ g.p = f.p ∧ St W.heap.size W w g.own := by
  have H := St.enter W
  have s0 := s.text
  clear s
  obtain ⟨A0, c0, e0⟩ := PieceG.shape h
  obtain ⟨textV, kind, text, n⟩ := f
  dsimp only at *
  subst e0
  have hk : RdB W (.slice A0 text.length c0) text := h
  show Calls Try.prog 88 #[.agg #[.int .i64 kind, .slice A0 text.length c0, .int .i64 n]] W _
  refine calls_of_vcV (args := [.agg #[.int .i64 kind, .slice A0 text.length c0, .int .i64 n]]) Try.func88 rfl (by kernel_rfl) (Nat.le_of_ble_eq_true rfl) ?_
  refine newR (o := .cells #[.int .i64 kind, .slice A0 text.length c0, .int .i64 n] _) H fun g0 w H => ?_
  refine newR (o := .cells #[.int .i64 0, .slice none 0 0, .int .i64 0] _) H fun g1 w H => ?_
  refine newR (o := .cells #[.int .i64 0, .slice none 0 0, .int .i64 0] _) H fun g2 w H => ?_
  refine loadO H 2 rfl rfl ?_
  refine storeO H 0 rfl rfl rfl fun w H => ?_
  refine loadO H 2 rfl rfl ?_
  refine callRow ok_toByteS (laws_toByteS _ _ _ _ (hk.ext H.below) (by omega)) H fun B0 d0 w H => ?_
  refine storeO H 1 rfl rfl rfl fun w H => ?_
  refine loadO H 3 rfl rfl ?_
  refine storeO H 1 rfl rfl rfl fun w H => ?_
  refine loadO H 1 rfl rfl ?_
  refine loadO H 1 rfl rfl ?_
  refine loadO H 1 rfl rfl ?_
  refine storeO H 2 rfl rfl rfl fun w H => ?_
  refine storeO H 2 rfl rfl rfl fun w H => ?_
  refine storeO H 2 rfl rfl rfl fun w H => ?_
  refine loadO H 2 rfl rfl ?_
  refine loadO H 2 rfl rfl ?_
  refine loadO H 2 rfl rfl ?_
  exact Exists.intro (⟨.slice B0 text.length d0, kind, text, n⟩ : PieceG) (And.intro rfl (And.intro rfl (H.sel (fun q => by simp only [cntL_append, cntL, List.cons_append, List.nil_append, List.set_cons_zero, List.set_cons_succ, List.flatMap_append, List.flatMap_cons, List.flatMap_nil, It.rowB, It.rowI, It.roB, It.roI, PieceG.own, It.rowPiece]; omega))))
theorem ok_toPieceS : callOK Try.prog 40 = true := by kernel_rfl
theorem laws_toPieceS {fs : List PieceG} {A : Option Addr} {n c : Nat} {W : World} (hx : RdPiece W (.slice A n c) n fs) (hl : n ≤ 4294967296) (hs : ∀ f ∈ fs, SmallPiece f) :
    Calls Try.prog 40 #[.slice A n c] W fun e w => ∃ A' c' gs, e = .returned (.slice A' n c') ∧ gs.map PieceG.p = fs.map PieceG.p ∧ St W.heap.size W w (.rowPiece (.slice A' n c') n gs :: gs.flatMap PieceG.own) := by
  have H := St.enter W
  obtain rfl := hx.len
  refine calls_of_vcV (args := [.slice A fs.length c]) Try.func40 rfl (by kernel_rfl) (Nat.le_of_ble_eq_true rfl) ?_
  refine mkR (cells := PieceG.cells) PieceG.cells_len (by decide) zeroPiece undPieces infPiece rfl (by decide) H hl fun A1 k1 w H => ?_
  refine loopV (by kernel_rfl) (fun m e w => e 0 = .slice A fs.length c ∧ e 3 = .slice A1 fs.length k1 ∧ ∃ (j : Nat) (gs : List PieceG), e 4 = .int .i64 j ∧ j + m = fs.length ∧ gs.map PieceG.p = (fs.take j).map PieceG.p ∧ gs.length = j ∧ St W.heap.size W w (.rowPiece (.slice A1 fs.length k1) fs.length (gs ++ List.replicate m zeroPiece) :: gs.flatMap PieceG.own)) fs.length
    ⟨rfl, rfl, 0, [], rfl, by omega, rfl, rfl, H⟩ ?_
  rintro m e w ⟨h0, h3, j, gs, h4, hj, hgs, hgl, H⟩
  rw [Env.three h0 h3 h4]
  refine ifB (fun h => ?_) (fun h => ?_)
  case refine_2 =>
    obtain rfl : m = 0 := by omega
    rw [show j = fs.length by omega, List.take_length] at hgs
    rw [List.replicate_zero, List.append_nil] at H
    exact Exists.intro A1 (Exists.intro k1 (Exists.intro gs (And.intro rfl (And.intro hgs H))))
  obtain ⟨m, rfl⟩ : ∃ m', m = m' + 1 := ⟨m - 1, by omega⟩
  have hjl : j < fs.length := by omega
  obtain ⟨f, hf⟩ : ∃ f, fs[j]? = some f := ⟨_, List.getElem?_eq_getElem hjl⟩
  have hfm : f ∈ fs := List.mem_of_getElem? hf
  have htk : (fs.take (j + 1)).map PieceG.p = (fs.take j).map PieceG.p ++ [f.p] := by rw [List.take_add_one, hf, List.map_append]; rfl
  have hkf := hx.kids f hfm
  have hsf := hs f hfm
  refine idxC (cells := PieceG.cells) PieceG.cells_len (hx.ext H.below).row hf hjl fun b off hc => ?_
  refine loadS (hc 0 _ rfl) ?_
  refine loadS (hc 1 _ rfl) ?_
  refine loadS (hc 2 _ rfl) ?_
  refine CallS.mk ok_toPiece ((laws_toPiece (hkf.ext H.below) hsf).mono ?_)
  rintro _ w2 ⟨g, rfl, hgp, H2⟩
  have hone := PieceG.one H2
  have H := H.joinL H2 (PieceG.ownAll g)
  refine idxRow H 0 rfl (by omega) (by omega) fun b0 hA _ => ?_
  subst hA
  refine storeRowN H 0 rfl (j * 3 + 0) (by show 0 + (j : Int).toNat * 3 = _; omega) (by omega) (hone 0 _ rfl) fun w H => ?_
  refine storeRowN H 0 rfl (j * 3 + 1) (by show 0 + (j : Int).toNat * 3 + 1 = _; omega) (by omega) (hone 1 _ rfl) fun w H => ?_
  refine storeRowN H 0 rfl (j * 3 + 2) (by show 0 + (j : Int).toNat * 3 + 2 = _; omega) (by omega) (hone 2 _ rfl) fun w H => ?_
  have H1 : St W.heap.size W w (.row (.slice (some ⟨b0, 0, none⟩) fs.length k1) 96 3 fs.length (((((gs ++ List.replicate (m + 1) zeroPiece).flatMap PieceG.cells).set (j * 3 + 0) (.int .i64 g.kind)).set (j * 3 + 1) (g.textV)).set (j * 3 + 2) (.int .i64 g.n)) :: (gs.flatMap PieceG.own ++ g.own)) := H
  rw [flat_setPiece (x := zeroPiece) (by rw [← hgl, List.getElem?_append_right (Nat.le_refl _)]; simp)] at H1
  have e1 : (gs ++ List.replicate (m + 1) zeroPiece).set j g = (gs ++ [g]) ++ List.replicate m zeroPiece := by
    rw [← hgl, List.replicate_succ]; exact set_mid _ _ _ _
  rw [e1] at H1
  refine arN (by omega) ?_
  exact Exists.intro m (And.intro (by omega) ⟨rfl, rfl, j + 1, gs ++ [g], rfl, by omega, by rw [List.map_append, hgs, htk]; simp [hgp], by simp [hgl], H1.sel (fun q => by simp only [cntL_append, cntL, List.cons_append, List.nil_append, List.set_cons_zero, List.set_cons_succ, List.flatMap_append, List.flatMap_cons, List.flatMap_nil, It.rowB, It.rowI, It.roB, It.roI, PieceG.own, It.rowPiece]; omega)⟩)
def PieceG.size (f : PieceG) : Nat := f.text.length
def sizePiece (fs : List PieceG) : Nat := fs.length + (fs.map PieceG.size).sum
theorem sizePiece_take {fs : List PieceG} {j : Nat} {f : PieceG} (h : fs[j]? = some f) : ((fs.take (j + 1)).map PieceG.size).sum = ((fs.take j).map PieceG.size).sum + f.size := by
  rw [List.take_add_one, h, List.map_append, List.sum_append]; simp
theorem sizePiece_le (fs : List PieceG) (j : Nat) : ((fs.take j).map PieceG.size).sum ≤ (fs.map PieceG.size).sum := by
  have h : (fs.map PieceG.size).sum = ((fs.take j).map PieceG.size).sum + ((fs.drop j).map PieceG.size).sum := by
    rw [← List.sum_append, ← List.map_append, List.take_append_drop]
  omega
theorem sizePiece_mem {fs : List PieceG} {f : PieceG} (h : f ∈ fs) : f.size ≤ (fs.map PieceG.size).sum := by
  obtain ⟨i, hi, he⟩ := List.getElem_of_mem h
  have h1 := sizePiece_take (fs := fs) (j := i) (f := f) (by rw [List.getElem?_eq_getElem hi, he])
  have h2 := sizePiece_le fs (i + 1)
  omega
theorem sizePiece_p : ∀ {gs fs : List PieceG}, gs.map PieceG.p = fs.map PieceG.p → (gs.map PieceG.size).sum = (fs.map PieceG.size).sum
  | [], [], _ => rfl
  | [], f :: fs, h => by simp at h
  | g :: gs, [], h => by simp at h
  | g :: gs, f :: fs, h => by
    simp only [List.map_cons, List.cons.injEq] at h
    have ih := sizePiece_p h.2
    have e_text : g.text = f.text := congrArg PieceP.text h.1
    simp only [List.map_cons, List.sum_cons, ih, PieceG.size, e_text]
theorem ok_szPiece : callOK Try.prog 84 = true := by kernel_rfl
structure LenPiece (f : PieceG) : Prop where
  text : f.text.length ≤ 9223372036854775807
theorem laws_szPiece {f : PieceG} {l : Int} (h0 : 0 ≤ l) (h1 : l ≤ 1048576) {W : World} (h : f.Rd W) (hs : LenPiece f) : GivesV Try.prog 84 [.agg f.cells.toArray, .int .i64 l] W (.int .i64 (szI l f.size)) := by
  have H := St.enter W
  have s0 := hs.text
  clear hs
  obtain ⟨A0, c0, e0⟩ := PieceG.shape h
  obtain ⟨textV, kind, text, n⟩ := f
  dsimp only at *
  subst e0
  have hk : RdB W (.slice A0 text.length c0) text := h
  obtain ⟨T, hT⟩ : ∃ T : Nat, PieceG.size ⟨.slice A0 text.length c0, kind, text, n⟩ = T := ⟨_, rfl⟩
  have hT2 : (T : Int) = ((text.length : Nat) : Int) := by rw [← hT]; simp only [PieceG.size] <;> omega
  rw [hT]
  have q0 : (l - (text.length : Nat) < 0 → szI (l) ((text.length : Nat)) = -1) ∧ (¬ l - (text.length : Nat) < 0 → szI (l) ((text.length : Nat)) = l - (text.length : Nat)) := ⟨fun h => if_pos h, fun h => if_neg h⟩
  have qT : (l - T < 0 → szI l T = -1) ∧ (¬ l - T < 0 → szI l T = l - T) := ⟨fun h => if_pos h, fun h => if_neg h⟩
  show GivesV Try.prog 84 [.agg #[.int .i64 kind, .slice A0 text.length c0, .int .i64 n], .int .i64 l] W _
  refine calls_of_vcV (args := [.agg #[.int .i64 kind, .slice A0 text.length c0, .int .i64 n], .int .i64 l]) Try.func84 rfl (by kernel_rfl) (Nat.le_of_ble_eq_true rfl) ?_
  refine newR (o := .cells #[.int .i64 kind, .slice A0 text.length c0, .int .i64 n] _) H fun g0 w H => ?_
  refine loadO H 0 rfl rfl ?_
  refine callV ok_szByteS (laws_szByteS (n := text.length) (A := A0) (by omega) (by omega) (by omega)) H fun w H => ?_
  refine ifB (fun c3 => ?_) (fun c3 => ?_)
  · exact Exists.intro _ (And.intro rfl (And.intro (congrArg (Value.int .i64) (by omega)) H.none))
  · exact Exists.intro _ (And.intro rfl (And.intro (congrArg (Value.int .i64) (by omega)) H.none))
theorem ok_szPieceS : callOK Try.prog 38 = true := by kernel_rfl
theorem laws_szPieceS {fs : List PieceG} {A : Option Addr} {n c : Nat} {l0 : Int} {W : World} (hl0 : 0 ≤ l0) (hl1 : l0 ≤ 1048576) (hx : RdPiece W (.slice A n c) n fs) (hl : n ≤ 9223372036854775807) (hs : ∀ f ∈ fs, LenPiece f) : GivesV Try.prog 38 [.slice A n c, .int .i64 l0] W (.int .i64 (szI l0 (sizePiece fs))) := by
  have H := St.enter W
  obtain rfl := hx.len
  refine calls_of_vcV (args := [.slice A fs.length c, .int .i64 l0]) Try.func38 rfl (by kernel_rfl) (Nat.le_of_ble_eq_true rfl) ?_
  have bad : ∀ {w : World}, St W.heap.size W w [] → l0 - sizePiece fs < 0 → ∃ v, Ending.returned (.int .i64 (-1)) = .returned v ∧ v = .int .i64 (szI l0 (sizePiece fs)) ∧ St W.heap.size W w [] := fun H h => ⟨_, rfl, by unfold szI; rw [if_pos h], H.none⟩
  refine ar64 (by omega) (by omega) ?_
  refine ifB (fun c1 => ?_) (fun c1 => ?_)
  · exact bad H (by unfold sizePiece; omega)
  · refine loopV (by kernel_rfl) (fun m e w => e 0 = .slice A fs.length c ∧ ∃ (j : Nat) (l : Int), e 5 = .int .i64 j ∧ e 1 = .int .i64 l ∧ j + m = fs.length ∧ 0 ≤ l ∧ l = l0 - (fs.length + ((fs.take j).map PieceG.size).sum : Nat) ∧ St W.heap.size W w []) fs.length
      ⟨rfl, 0, _, rfl, rfl, by omega, by omega, by simp, H⟩ ?_
    rintro m e w ⟨h0, j, l, h5, h1, hj, hl0, hle, H⟩
    rw [Env.three h0 h5 h1]
    refine ifB (fun h => ?_) (fun h => ?_)
    case refine_2 =>
      rw [show j = fs.length by omega, List.take_length] at hle
      exact Exists.intro _ (And.intro rfl (And.intro (congrArg (Value.int .i64) (show l = szI l0 (sizePiece fs) by unfold szI sizePiece; rw [if_neg (by omega), hle])) H.none))
    have hjl : j < fs.length := by omega
    obtain ⟨f, hf⟩ : ∃ f, fs[j]? = some f := ⟨_, List.getElem?_eq_getElem hjl⟩
    have hfm : f ∈ fs := List.mem_of_getElem? hf
    have hst := sizePiece_take hf
    have hle2 := sizePiece_le fs (j + 1)
    have hkf := hx.kids f hfm
    have hsf := hs f hfm
    have qf : (l - f.size < 0 → szI l f.size = -1) ∧ (¬ l - f.size < 0 → szI l f.size = l - f.size) := ⟨fun h => if_pos h, fun h => if_neg h⟩
    refine JoinV.mk ?_
    refine idxC (cells := PieceG.cells) PieceG.cells_len (hx.ext H.below).row hf hjl fun b off hc => ?_
    refine loadS (hc 0 _ rfl) ?_
    refine loadS (hc 1 _ rfl) ?_
    refine loadS (hc 2 _ rfl) ?_
    refine callV ok_szPiece (laws_szPiece (by omega) (by omega) (hkf.ext H.below) hsf) H fun w H => ?_
    refine ifB (fun c6 => ?_) (fun c6 => ?_)
    · exact bad H (by unfold sizePiece; omega)
    · refine arN (by omega) ?_
      exact Exists.intro (m - 1) (And.intro (by omega) ⟨rfl, j + 1, l - f.size, rfl, congrArg (Value.int .i64) (by omega), by omega, by omega, by omega, H⟩)
theorem ok_eqPiece : callOK Try.prog 90 = true := by kernel_rfl
theorem laws_eqPiece {f g : PieceG} {W : World} (h : f.Rd W) (h' : g.Rd W) (he : f.p = g.p) (s : SmallPiece f) : GivesV Try.prog 90 [.agg f.cells.toArray, .agg g.cells.toArray] W (.bool true) := by
  have H := St.enter W
  have s0 := s.text
  clear s
  obtain ⟨A0, c0, e0⟩ := PieceG.shape h
  obtain ⟨textV, kind, text, n⟩ := f
  dsimp only at *
  subst e0
  obtain ⟨A0', c0', e0'⟩ := PieceG.shape h'
  obtain ⟨textV', kind', text', n'⟩ := g
  dsimp only at *
  subst e0'
  have hk : RdB W (.slice A0 text.length c0) text := h
  have hk' : RdB W (.slice A0' text'.length c0') text' := h'
  clear h h'
  simp only [PieceG.p, PieceP.mk.injEq] at he
  obtain ⟨rfl, rfl, rfl⟩ := he
  show GivesV Try.prog 90 [.agg #[.int .i64 kind, .slice A0 text.length c0, .int .i64 n], .agg #[.int .i64 kind, .slice A0' text.length c0', .int .i64 n]] W _
  refine calls_of_vcV (args := [.agg #[.int .i64 kind, .slice A0 text.length c0, .int .i64 n], .agg #[.int .i64 kind, .slice A0' text.length c0', .int .i64 n]]) Try.func90 rfl (by kernel_rfl) (Nat.le_of_ble_eq_true rfl) ?_
  refine newR (o := .cells #[.int .i64 kind, .slice A0 text.length c0, .int .i64 n] _) H fun g0 w H => ?_
  refine newR (o := .cells #[.int .i64 kind, .slice A0' text.length c0', .int .i64 n] _) H fun g1 w H => ?_
  refine loadO H 1 rfl rfl ?_
  refine loadO H 0 rfl rfl ?_
  refine ifB (fun c4 => absurd c4 (by omega)) (fun c4 => ?_)
  refine loadO H 1 rfl rfl ?_
  refine loadO H 0 rfl rfl ?_
  refine callV ok_eqByteS (eqB2 (hk.ext H.below) (hk'.ext H.below) (by omega)) H fun w H => ?_
  refine ifNot ?_
  refine ifT ?_
  refine loadO H 1 rfl rfl ?_
  refine loadO H 0 rfl rfl ?_
  refine ifB (fun c12 => absurd c12 (by omega)) (fun c12 => ?_)
  exact Exists.intro _ (And.intro rfl (And.intro rfl H.none))
theorem ok_eqPieceS : callOK Try.prog 42 = true := by kernel_rfl
theorem laws_eqPieceS {fs gs : List PieceG} {A A' : Option Addr} {n c c' : Nat} {W : World} (hx : RdPiece W (.slice A n c) n fs) (hy : RdPiece W (.slice A' n c') n gs) (he : fs.map PieceG.p = gs.map PieceG.p) (hl : n ≤ 4294967296) (hs : ∀ f ∈ fs, SmallPiece f) : GivesV Try.prog 42 [.slice A n c, .slice A' n c'] W (.bool true) := by
  have H := St.enter W
  obtain rfl := hx.len
  have hlen := hy.len
  refine calls_of_vcV (args := [.slice A fs.length c, .slice A' fs.length c']) Try.func42 rfl (by kernel_rfl) (Nat.le_of_ble_eq_true rfl) ?_
  refine ifB (fun c0 => absurd c0 (by omega)) (fun c0 => ?_)
  refine loopV (by kernel_rfl) (fun m e w => e 0 = .slice A fs.length c ∧ e 1 = .slice A' fs.length c' ∧ ∃ j : Nat, e 5 = .int .i64 j ∧ j + m = fs.length ∧ St W.heap.size W w []) fs.length ⟨rfl, rfl, 0, rfl, by omega, H⟩ ?_
  rintro m e w ⟨h0, h1, j, h5, hj, H⟩
  rw [Env.three h0 h1 h5]
  refine ifB (fun h => ?_) (fun h => ?_)
  case refine_2 => exact Exists.intro _ (And.intro rfl (And.intro rfl H.none))
  have hjl : j < fs.length := by omega
  obtain ⟨f, hf⟩ : ∃ f, fs[j]? = some f := ⟨_, List.getElem?_eq_getElem hjl⟩
  obtain ⟨g, hg⟩ : ∃ g, gs[j]? = some g := ⟨_, List.getElem?_eq_getElem (by omega)⟩
  have hfg : f.p = g.p := by
    have := congrArg (fun l => l[j]?) he
    simp only [List.getElem?_map, hf, hg, Option.map_some, Option.some.injEq] at this
    exact this
  have hfm : f ∈ fs := List.mem_of_getElem? hf
  have hgm : g ∈ gs := List.mem_of_getElem? hg
  have hss := hs f hfm
  have k1 := hx.kids f hfm
  have k2 := hy.kids g hgm
  refine JoinV.mk ?_
  refine drawR H fun w H => ?_
  refine idxC (cells := PieceG.cells) PieceG.cells_len (hx.ext H.below).row hf hjl fun b off hc => ?_
  refine loadS (hc 0 _ rfl) ?_
  refine loadS (hc 1 _ rfl) ?_
  refine loadS (hc 2 _ rfl) ?_
  refine idxC (cells := PieceG.cells) PieceG.cells_len (hy.ext H.below).row hg (by omega) fun b' off' hd => ?_
  refine loadS (hd 0 _ rfl) ?_
  refine loadS (hd 1 _ rfl) ?_
  refine loadS (hd 2 _ rfl) ?_
  refine callV ok_eqPiece (laws_eqPiece (k1.ext H.below) (k2.ext H.below) hfg hss) H fun w H => ?_
  refine ifNot ?_
  refine ifT ?_
  refine arN (by omega) ?_
  exact Exists.intro (m - 1) (And.intro (by omega) ⟨rfl, rfl, j + 1, rfl, by omega, H⟩)
def markPiece1 (f : PieceG) (k : Int) : PieceG := ⟨f.textV, k, cnt (· % 256) (k + 1) f.text.length, ((k + 1) + f.text.length)⟩
def nextPiece (f : PieceG) (k : Int) : Int := (((k + 1) + f.text.length) + 1)
def markPieceL : List PieceG → Int → List PieceG
  | [], _ => []
  | f :: fs, k => markPiece1 f k :: markPieceL fs (nextPiece f k)
def endPieceL : List PieceG → Int → Int
  | [], k => k
  | f :: fs, k => endPieceL fs (nextPiece f k)
theorem markPieceL_len : ∀ (fs : List PieceG) (k : Int), (markPieceL fs k).length = fs.length
  | [], _ => rfl
  | f :: fs, k => by simp [markPieceL, markPieceL_len fs]
def stepsPiece (f : PieceG) : Nat := 1 + f.text.length + 1
theorem nextPiece_eq (f : PieceG) (k : Int) : nextPiece f k = k + stepsPiece f := by
  simp only [nextPiece, stepsPiece]; omega
theorem endPieceL_eq : ∀ (fs : List PieceG) (k : Int), endPieceL fs k = k + ((fs.map stepsPiece).sum : Nat)
  | [], k => by simp [endPieceL]
  | f :: fs, k => by rw [endPieceL, endPieceL_eq fs, nextPiece_eq, List.map_cons, List.sum_cons]; omega
theorem markPieceL_app : ∀ (a b : List PieceG) (k : Int), markPieceL (a ++ b) k = markPieceL a k ++ markPieceL b (endPieceL a k)
  | [], b, k => rfl
  | f :: a, b, k => by simp only [List.cons_append, markPieceL, endPieceL, markPieceL_app a b]
theorem endPieceL_snoc : ∀ (fs : List PieceG) (f : PieceG) (k : Int), endPieceL (fs ++ [f]) k = nextPiece f (endPieceL fs k)
  | [], f, k => rfl
  | g :: fs, f, k => by simp [endPieceL, endPieceL_snoc fs]
theorem ok_markPieceS : callOK Try.prog 45 = true := by kernel_rfl
theorem laws_markPieceS {fs : List PieceG} {A : Option Addr} {n c : Nat} {k : Int} (hk : 0 ≤ k) (hb : k + ((fs.map stepsPiece).sum : Nat) + fs.length ≤ 1099511627776) {B : Nat} {W0 w : World} {L : List It} (hn : n = fs.length) (H : St B W0 w (.rowPiece (.slice A n c) n fs :: (fs.flatMap PieceG.own ++ L))) :
    Calls Try.prog 45 #[.slice A n c, .int .i64 k] w fun e w' => e = .returned (.int .i64 (endPieceL fs k)) ∧ St B W0 w' (.rowPiece (.slice A n c) n (markPieceL fs k) :: ((markPieceL fs k).flatMap PieceG.own ++ L)) := by
  subst hn
  refine calls_of_vcV (args := [.slice A fs.length c, .int .i64 k]) Try.func45 rfl (by kernel_rfl) (Nat.le_of_ble_eq_true rfl) ?_
  refine loopV (by kernel_rfl) (fun m e w => e 0 = .slice A fs.length c ∧ ∃ (j : Nat) (done rest : List PieceG), e 5 = .int .i64 j ∧ e 1 = .int .i64 (endPieceL done k) ∧ fs = done ++ rest ∧ done.length = j ∧ rest.length = m ∧ St B W0 w (.rowPiece (.slice A fs.length c) fs.length (markPieceL done k ++ rest) :: ((markPieceL done k).flatMap PieceG.own ++ (rest.flatMap PieceG.own ++ L)))) fs.length
    ⟨rfl, 0, [], fs, rfl, rfl, rfl, rfl, rfl, H⟩ ?_
  rintro m e w ⟨h0, j, done, rest, h5, h1, hfs, hd, hr, H⟩
  rw [Env.three h0 h5 h1]
  have hfl : fs.length = j + m := by rw [hfs, List.length_append]; omega
  refine ifB (fun h => ?_) (fun h => ?_)
  case refine_2 =>
    obtain rfl : rest = [] := List.length_eq_zero_iff.1 (by omega)
    rw [List.append_nil] at hfs
    subst hfs
    simp only [List.append_nil, List.flatMap_nil, List.nil_append] at H
    exact And.intro rfl H
  cases rest with
  | nil => simp only [List.length_nil] at hr; omega
  | cons f rest =>
    have hes : (fs.map stepsPiece).sum = (done.map stepsPiece).sum + stepsPiece f + (rest.map stepsPiece).sum := by
      rw [hfs]; simp only [List.map_append, List.map_cons, List.sum_append, List.sum_cons]; omega
    have hend := endPieceL_eq done k
    obtain ⟨k0, hk0⟩ : ∃ k0, endPieceL done k = k0 := ⟨_, rfl⟩
    have hnx := nextPiece_eq f k0
    have hx : (markPieceL done k ++ f :: rest)[j]? = some f := by rw [List.getElem?_append_right (by rw [markPieceL_len]; omega), markPieceL_len, hd, Nat.sub_self]; rfl
    have hsn := endPieceL_snoc done f k
    have hlast : markPieceL (done ++ [f]) k = markPieceL done k ++ [markPiece1 f (endPieceL done k)] := by rw [markPieceL_app]; rfl
    rw [hk0] at hend hsn hlast ⊢
    have hf0 : f.Rd w := PieceG.rdo (f := f) H (fun it hit => by simp [hit])
    obtain ⟨b0, rfl, _⟩ := own_cells (H.own 0 rfl) (by omega)
    have hml : (markPieceL done k).length = j := by rw [markPieceL_len, hd]
    obtain ⟨D, hD⟩ : ∃ D, markPieceL done k = D := ⟨_, rfl⟩
    rw [hD] at H hml hlast
    obtain ⟨f1, hf1⟩ : ∃ f1, markPiece1 f k0 = f1 := ⟨_, rfl⟩
    rw [hf1] at hlast
    have hfs2 : fs = (done ++ [f]) ++ rest := by rw [hfs]; simp
    obtain ⟨f0, hf00⟩ : ∃ f0, f = f0 := ⟨_, rfl⟩
    rw [hf00] at hfs2 hlast hsn
    obtain ⟨A0, c0, e0⟩ := PieceG.shape hf0
    obtain ⟨textV, kind, text, n⟩ := f
    dsimp only at *
    subst e0
    simp only [stepsPiece] at hes hnx
    simp only [markPiece1] at hf1
    have H : St B W0 w (.rowPiece (.slice (some ⟨b0, 0, none⟩) fs.length c) fs.length (D ++ ⟨.slice A0 text.length c0, kind, text, n⟩ :: rest) :: ([It.row (.slice A0 text.length c0) 5 1 text.length ((text).map (.int .u8))] ++ (D.flatMap PieceG.own ++ (rest.flatMap PieceG.own ++ L)))) := H.sel (fun q => by simp only [cntL_append, cntL, List.cons_append, List.nil_append, List.set_cons_zero, List.set_cons_succ, List.flatMap_append, List.flatMap_cons, List.flatMap_nil, It.rowB, It.rowI, It.roB, It.roI, PieceG.own, It.rowPiece]; omega)
    refine idxRow H 0 rfl (by omega) (by omega) fun b1 hA _ => ?_
    cases hA
    refine storeRowN H 0 rfl (j * 3 + 0) (by show 0 + (j : Int).toNat * 3 = _; omega) (by omega) rfl fun w H => ?_
    have H : St B W0 w (.row (.slice (some ⟨b0, 0, none⟩) fs.length c) 96 3 fs.length (((D ++ ⟨.slice A0 text.length c0, kind, text, n⟩ :: rest).flatMap PieceG.cells).set (j * 3 + 0) (.int .i64 k0)) :: ([It.row (.slice A0 text.length c0) 5 1 text.length ((text).map (.int .u8))] ++ (D.flatMap PieceG.own ++ (rest.flatMap PieceG.own ++ L)))) := H
    rw [flat_set (v := .int .i64 k0) (x' := ⟨.slice A0 text.length c0, k0, text, n⟩) PieceG.cells_len (D ++ ⟨.slice A0 text.length c0, kind, text, n⟩ :: rest) j 0 ⟨.slice A0 text.length c0, kind, text, n⟩ (get_mid (a := D) (r := rest) (x := ⟨.slice A0 text.length c0, kind, text, n⟩) hml) (by decide) rfl, set_mid2 hml] at H
    refine ar64 (by omega) (by omega) ?_
    refine idxC (cells := PieceG.cells) PieceG.cells_len (H.rd 0 rfl) (get_mid (a := D) (r := rest) (x := ⟨.slice A0 text.length c0, k0, text, n⟩) hml) (by omega) fun b off hc => ?_
    refine loadS (v := .slice A0 text.length c0) (hc 1 _ rfl) ?_
    have H : St B W0 w (.rowB (.slice A0 text.length c0) text :: (.rowPiece (.slice (some ⟨b0, 0, none⟩) fs.length c) fs.length (D ++ ⟨.slice A0 text.length c0, k0, text, n⟩ :: rest) :: (D.flatMap PieceG.own ++ (rest.flatMap PieceG.own ++ L)))) := H.sel (fun q => by simp only [cntL_append, cntL, List.cons_append, List.nil_append, List.set_cons_zero, List.set_cons_succ, List.flatMap_append, List.flatMap_cons, List.flatMap_nil, It.rowB, It.rowI, It.roB, It.roI, PieceG.own, It.rowPiece]; omega)
    refine markB_call H rfl (by omega) (by omega) fun w H => ?_
    have ec : (D ++ ⟨.slice A0 text.length c0, k0, text, n⟩ :: rest).flatMap PieceG.cells = (D ++ ⟨.slice A0 text.length c0, k0, cnt (· % 256) (k0 + 1) text.length, n⟩ :: rest).flatMap PieceG.cells := by simp only [List.flatMap_append, List.flatMap_cons]; rfl
    have H : St B W0 w (.rowB (.slice A0 text.length c0) (cnt (· % 256) (k0 + 1) text.length) :: (.rowPiece (.slice (some ⟨b0, 0, none⟩) fs.length c) fs.length (D ++ ⟨.slice A0 text.length c0, k0, text, n⟩ :: rest) :: (D.flatMap PieceG.own ++ (rest.flatMap PieceG.own ++ L)))) := H
    unfold It.rowB It.rowPiece at H
    rw [cnt_len, ec] at H
    have H : St B W0 w (.rowPiece (.slice (some ⟨b0, 0, none⟩) fs.length c) fs.length (D ++ ⟨.slice A0 text.length c0, k0, cnt (· % 256) (k0 + 1) text.length, n⟩ :: rest) :: ([It.row (.slice A0 text.length c0) 5 1 text.length ((cnt (· % 256) (k0 + 1) text.length).map (.int .u8))] ++ (D.flatMap PieceG.own ++ (rest.flatMap PieceG.own ++ L)))) := H.sel (fun q => by simp only [cntL_append, cntL, List.cons_append, List.nil_append, List.set_cons_zero, List.set_cons_succ, List.flatMap_append, List.flatMap_cons, List.flatMap_nil, It.rowB, It.rowI, It.roB, It.roI, PieceG.own, It.rowPiece]; omega)
    refine idxRow H 0 rfl (by omega) (by omega) fun b1 hA _ => ?_
    cases hA
    refine storeRowN H 0 rfl (j * 3 + 2) (by show 0 + (j : Int).toNat * 3 + 2 = _; omega) (by omega) rfl fun w H => ?_
    have H : St B W0 w (.row (.slice (some ⟨b0, 0, none⟩) fs.length c) 96 3 fs.length (((D ++ ⟨.slice A0 text.length c0, k0, cnt (· % 256) (k0 + 1) text.length, n⟩ :: rest).flatMap PieceG.cells).set (j * 3 + 2) (.int .i64 ((k0 + 1) + text.length))) :: ([It.row (.slice A0 text.length c0) 5 1 text.length ((cnt (· % 256) (k0 + 1) text.length).map (.int .u8))] ++ (D.flatMap PieceG.own ++ (rest.flatMap PieceG.own ++ L)))) := H
    rw [flat_set (v := .int .i64 ((k0 + 1) + text.length)) (x' := ⟨.slice A0 text.length c0, k0, cnt (· % 256) (k0 + 1) text.length, ((k0 + 1) + text.length)⟩) PieceG.cells_len (D ++ ⟨.slice A0 text.length c0, k0, cnt (· % 256) (k0 + 1) text.length, n⟩ :: rest) j 2 ⟨.slice A0 text.length c0, k0, cnt (· % 256) (k0 + 1) text.length, n⟩ (get_mid (a := D) (r := rest) (x := ⟨.slice A0 text.length c0, k0, cnt (· % 256) (k0 + 1) text.length, n⟩) hml) (by decide) rfl, set_mid2 hml] at H
    refine ar64 (by omega) (by omega) ?_
    refine arN (by omega) ?_
    have ef : f1 = ⟨.slice A0 text.length c0, k0, cnt (· % 256) (k0 + 1) text.length, ((k0 + 1) + text.length)⟩ := hf1.symm
    have ek : (((k0 + 1) + text.length) + 1) = endPieceL (done ++ [f0]) k := by rw [hsn, ← hf00]; rfl
    refine Exists.intro (m - 1) (And.intro (by omega) ⟨rfl, j + 1, done ++ [f0], rest, rfl, congrArg (Value.int .i64) ek, hfs2, by simp [hd], by simp only [List.length_cons] at hr; omega, ?_⟩)
    rw [hlast, ef]
    refine H.sel (fun q => ?_)
    simp only [cntL_append, cntL, List.append_assoc, List.cons_append, List.nil_append, List.flatMap_append, List.flatMap_cons, List.flatMap_nil, It.rowB, It.rowI, PieceG.own, It.rowPiece, cnt_len]; omega



























































end Go.Proofs.YtfhpgfbakimmhaaE
