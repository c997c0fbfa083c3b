/- The record Node and lists of it in the memory, and what the laws' helpers do with them (printed by genrec.py). -/
import Derived.Test.YtpaklalfopfilaaTComment
namespace Go.Proofs.YtpaklalfopfilaaE
open Go Go.RowKit
set_option linter.unusedVariables false
set_option linter.unusedSimpArgs false
set_option maxRecDepth 100000
set_option maxHeartbeats 2000000

structure NodeG where
  leadV : Value
  keyV : Value
  textV : Value
  unitsV : Value
  tailV : Value
  kind : Int
  lead : List CommentG
  member : Bool
  key : List Int
  text : List Int
  units : List Int
  count : Int
  tail : List CommentG
def NodeG.p (f : NodeG) : NodeP := ⟨f.kind, f.lead.map CommentG.p, f.member, f.key, f.text, f.units, f.count, f.tail.map CommentG.p⟩
def NodeG.cells (f : NodeG) : List Value := [.int .i64 f.kind, f.leadV, .bool f.member, f.keyV, f.textV, f.unitsV, .int .i64 f.count, f.tailV]
def NodeG.own (f : NodeG) : List It := (It.rowComment f.leadV f.lead.length f.lead :: f.lead.flatMap CommentG.own) ++ [It.rowI f.keyV f.key] ++ [It.rowB f.textV f.text] ++ [It.rowI f.unitsV f.units] ++ (It.rowComment f.tailV f.tail.length f.tail :: f.tail.flatMap CommentG.own)
def NodeG.Rd (w : World) (f : NodeG) : Prop := RdComment w f.leadV f.lead.length f.lead ∧ RdI w f.keyV f.key ∧ RdB w f.textV f.text ∧ RdI w f.unitsV f.units ∧ RdComment w f.tailV f.tail.length f.tail
theorem NodeG.cells_len (f : NodeG) : f.cells.length = 8 := rfl
theorem NodeG.Rd.ext {w w' : World} {f : NodeG} (h : f.Rd w) (k : Below w.heap.size w w') : f.Rd w' := by
  obtain ⟨h0, h1, h2, h3, h4⟩ := h
  exact ⟨h0.ext k, h1.ext k, h2.ext k, h3.ext k, h4.ext k⟩
structure RdNode (w : World) (v : Value) (n : Nat) (fs : List NodeG) : Prop where
  row : Rd w v 8 n (fs.flatMap NodeG.cells)
  kids : ∀ f ∈ fs, f.Rd w
theorem RdNode.len {w : World} {v : Value} {n : Nat} {fs : List NodeG} (h : RdNode w v n fs) : n = fs.length := by
  have := h.row.len
  rw [flat_len NodeG.cells_len] at this
  omega
theorem RdNode.ext {w w' : World} {v : Value} {n : Nat} {fs : List NodeG} (h : RdNode w v n fs) (k : Below w.heap.size w w') : RdNode w' v n fs := ⟨h.row.ext k, fun f hf => (h.kids f hf).ext k⟩
abbrev It.rowNode (v : Value) (n : Nat) (fs : List NodeG) : It := .row v 67 8 n (fs.flatMap NodeG.cells)
theorem NodeG.rdo {B : Nat} {W0 w : World} {L : List It} {f : NodeG} (H : St B W0 w L) (h : ∀ it ∈ f.own, it ∈ L) : f.Rd w := ⟨rdCommento H (h _ (by simp [NodeG.own])) (fun it hit => h it (by simp [NodeG.own, hit])), H.rdm (h (.rowI f.keyV f.key) (by simp [NodeG.own])) rfl, H.rdm (h (.rowB f.textV f.text) (by simp [NodeG.own])) rfl, H.rdm (h (.rowI f.unitsV f.units) (by simp [NodeG.own])) rfl, rdCommento H (h _ (by simp [NodeG.own])) (fun it hit => h it (by simp [NodeG.own, hit]))⟩
theorem rdNodeo {B : Nat} {W0 w : World} {L : List It} {v : Value} {n : Nat} {fs : List NodeG} (H : St B W0 w L) (h0 : It.rowNode v n fs ∈ L) (h : ∀ it ∈ fs.flatMap NodeG.own, it ∈ L) : RdNode w v n fs :=
  ⟨H.rdm h0 rfl, fun f hf => NodeG.rdo H fun it hit => h it (List.mem_flatMap.2 ⟨f, hf, hit⟩)⟩
theorem NodeG.shape {w : World} {f : NodeG} (h : f.Rd w) : ∃ A0 c0 A1 c1 A2 c2 A3 c3 A4 c4, f.leadV = .slice A0 f.lead.length c0 ∧ f.keyV = .slice A1 f.key.length c1 ∧ f.textV = .slice A2 f.text.length c2 ∧ f.unitsV = .slice A3 f.units.length c3 ∧ f.tailV = .slice A4 f.tail.length c4 := by
  obtain ⟨h0, h1, h2, h3, h4⟩ := h
  obtain ⟨_, A0, c0, e0, _⟩ := h0.row
  obtain ⟨_, A1, c1, e1, _⟩ := h1
  obtain ⟨_, A2, c2, e2, _⟩ := h2
  obtain ⟨_, A3, c3, e3, _⟩ := h3
  obtain ⟨_, A4, c4, e4, _⟩ := h4.row
  exact ⟨A0, c0, A1, c1, A2, c2, A3, c3, A4, c4, e0, e1, e2, e3, e4⟩
theorem NodeG.ownAll (f : NodeG) : f.own.all It.isOwn = true := by
  simp only [NodeG.own, List.all_append, List.all_cons, List.all_nil, It.isOwn, Bool.true_and, Bool.and_true, Bool.and_eq_true]
  exact ⟨ownCommentAll f.lead, ownCommentAll f.tail⟩
theorem ownNodeAll (fs : List NodeG) : (fs.flatMap NodeG.own).all It.isOwn = true := by
  rw [List.all_flatMap]; exact List.all_eq_true.2 fun f _ => NodeG.ownAll f
theorem rowNodeAll (v : Value) (n : Nat) (fs : List NodeG) : (It.rowNode v n fs :: fs.flatMap NodeG.own).all It.isOwn = true := by
  rw [List.all_cons, ownNodeAll]; rfl
theorem undNodes : Try.prog.underlying 28 = some (.slice 67) := by kernel_rfl
theorem infNode : (Try.prog.info? 67).map (fun i => (i.zero, i.size, i.bytes)) = some (some (.agg #[.int .i64 0, .slice none 0 0, .bool false, .slice none 0 0, .slice none 0 0, .slice none 0 0, .int .i64 0, .slice none 0 0]), 8, 144) := by kernel_rfl
structure SmallNode (f : NodeG) : Prop where
  lead : f.lead.length ≤ 4294967296
  leads : ∀ g ∈ f.lead, SmallComment g
  key : f.key.length ≤ 4294967296
  text : f.text.length ≤ 4294967296
  units : f.units.length ≤ 4294967296
  tail : f.tail.length ≤ 4294967296
  tails : ∀ g ∈ f.tail, SmallComment g
theorem smallNode_p {fs gs : List NodeG} (h : gs.map NodeG.p = fs.map NodeG.p) (hs : ∀ f ∈ fs, SmallNode f) : ∀ g ∈ gs, SmallNode g := fun g hg => by
  have : g.p ∈ fs.map NodeG.p := h ▸ List.mem_map_of_mem hg
  obtain ⟨f, hf, he⟩ := List.mem_map.1 this
  have hs := hs f hf
  have e_lead : f.lead.map CommentG.p = g.lead.map CommentG.p := congrArg NodeP.lead he
  have l_lead : f.lead.length = g.lead.length := by have := congrArg List.length e_lead; simpa using this
  have e_key : f.key = g.key := congrArg NodeP.key he
  have e_text : f.text = g.text := congrArg NodeP.text he
  have e_units : f.units = g.units := congrArg NodeP.units he
  have e_tail : f.tail.map CommentG.p = g.tail.map CommentG.p := congrArg NodeP.tail he
  have l_tail : f.tail.length = g.tail.length := by have := congrArg List.length e_tail; simpa using this
  exact ⟨l_lead ▸ hs.lead, smallComment_p e_lead.symm hs.leads, e_key ▸ hs.key, e_text ▸ hs.text, e_units ▸ hs.units, l_tail ▸ hs.tail, smallComment_p e_tail.symm hs.tails⟩
def zeroNode : NodeG := ⟨.slice none 0 0, .slice none 0 0, .slice none 0 0, .slice none 0 0, .slice none 0 0, 0, [], false, [], [], [], 0, []⟩
theorem NodeG.one {W w : World} {g : NodeG} (H : St W.heap.size W w g.own) : ∀ (i : Nat) (v : Value), g.cells[i]? = some v → v.oneCell' = true := by
  obtain ⟨A0, c0, A1, c1, A2, c2, A3, c3, A4, c4, e0, e1, e2, e3, e4⟩ := NodeG.shape (NodeG.rdo H fun it hit => hit)
  intro i v hv
  have : v ∈ g.cells := List.mem_of_getElem? hv
  simp only [NodeG.cells, List.mem_cons, List.not_mem_nil, or_false] at this
  rcases this with rfl | rfl | rfl | rfl | rfl | rfl | rfl | rfl
  · rfl
  · rw [e0]; rfl
  · rfl
  · rw [e1]; rfl
  · rw [e2]; rfl
  · rw [e3]; rfl
  · rfl
  · rw [e4]; rfl
theorem flat_setNode {xs : List NodeG} {j : Nat} {x : NodeG} (hx : xs[j]? = some x) (g : NodeG) : ((((((((xs.flatMap NodeG.cells).set (j * 8 + 0) (.int .i64 g.kind)).set (j * 8 + 1) (g.leadV)).set (j * 8 + 2) (.bool g.member)).set (j * 8 + 3) (g.keyV)).set (j * 8 + 4) (g.textV)).set (j * 8 + 5) (g.unitsV)).set (j * 8 + 6) (.int .i64 g.count)).set (j * 8 + 7) (g.tailV) = (xs.set j g).flatMap NodeG.cells := flat_setAll (y := g) NodeG.cells_len hx
theorem ok_toNode : callOK Try.prog 68 = true := by kernel_rfl
theorem laws_toNode {f : NodeG} {W : World} (h : f.Rd W) (s : SmallNode f) : Calls Try.prog 68 #[.agg f.cells.toArray] W fun e w => ∃ g : NodeG, e = .returned (.agg g.cells.toArray) ∧ g.p = f.p ∧ St W.heap.size W w g.own := by
  have H := St.enter W
  have s0 := s.lead
  have ss0 := s.leads
  have s1 := s.key
  have s2 := s.text
  have s3 := s.units
  have s4 := s.tail
  have ss4 := s.tails
  clear s
  obtain ⟨A0, c0, A1, c1, A2, c2, A3, c3, A4, c4, e0, e1, e2, e3, e4⟩ := NodeG.shape h
  obtain ⟨leadV, keyV, textV, unitsV, tailV, kind, lead, member, key, text, units, count, tail⟩ := f
  dsimp only at *
  subst e0 e1 e2 e3 e4
  have hk : RdComment W (.slice A0 lead.length c0) lead.length lead ∧ RdI W (.slice A1 key.length c1) key ∧ RdB W (.slice A2 text.length c2) text ∧ RdI W (.slice A3 units.length c3) units ∧ RdComment W (.slice A4 tail.length c4) tail.length tail := h
  show Calls Try.prog 68 #[.agg #[.int .i64 kind, .slice A0 lead.length c0, .bool member, .slice A1 key.length c1, .slice A2 text.length c2, .slice A3 units.length c3, .int .i64 count, .slice A4 tail.length c4]] W _
  refine calls_of_vcV (args := [.agg #[.int .i64 kind, .slice A0 lead.length c0, .bool member, .slice A1 key.length c1, .slice A2 text.length c2, .slice A3 units.length c3, .int .i64 count, .slice A4 tail.length c4]]) Try.func68 rfl (by kernel_rfl) (Nat.le_of_ble_eq_true rfl) ?_
  refine newR (o := .cells #[.int .i64 kind, .slice A0 lead.length c0, .bool member, .slice A1 key.length c1, .slice A2 text.length c2, .slice A3 units.length c3, .int .i64 count, .slice A4 tail.length c4] _) H fun g0 w H => ?_
  refine newR (o := .cells #[.int .i64 0, .slice none 0 0, .bool false, .slice none 0 0, .slice none 0 0, .slice none 0 0, .int .i64 0, .slice none 0 0] _) H fun g1 w H => ?_
  refine newR (o := .cells #[.int .i64 0, .slice none 0 0, .bool false, .slice none 0 0, .slice none 0 0, .slice none 0 0, .int .i64 0, .slice none 0 0] _) H fun g2 w H => ?_
  refine loadO H 2 rfl rfl ?_
  refine storeO H 0 rfl rfl rfl fun w H => ?_
  have H : St W.heap.size W w (.obj g2 (.cells #[.int .i64 kind, .slice none 0 0, .bool false, .slice none 0 0, .slice none 0 0, .slice none 0 0, .int .i64 0, .slice none 0 0] 67) :: .obj g1 (.cells #[.int .i64 0, .slice none 0 0, .bool false, .slice none 0 0, .slice none 0 0, .slice none 0 0, .int .i64 0, .slice none 0 0] 67) :: .obj g0 (.cells #[.int .i64 kind, .slice A0 lead.length c0, .bool member, .slice A1 key.length c1, .slice A2 text.length c2, .slice A3 units.length c3, .int .i64 count, .slice A4 tail.length c4] 116) :: []) := H
  refine loadO H 2 rfl rfl ?_
  refine CallS.mk ok_toCommentS ((laws_toCommentS (hk.1.ext H.below) (by omega) ss0).mono ?_)
  rintro _ w ⟨B0, d0, q0, rfl, hq0, H0⟩
  have H := H.joinL H0 (rowCommentAll _ _ _)
  have lq0 : q0.length = lead.length := by have := congrArg List.length hq0; simpa using this
  refine storeO H 0 rfl rfl rfl fun w H => ?_
  have H : St W.heap.size W w (.obj g2 (.cells #[.int .i64 kind, .slice B0 lead.length d0, .bool false, .slice none 0 0, .slice none 0 0, .slice none 0 0, .int .i64 0, .slice none 0 0] 67) :: .obj g1 (.cells #[.int .i64 0, .slice none 0 0, .bool false, .slice none 0 0, .slice none 0 0, .slice none 0 0, .int .i64 0, .slice none 0 0] 67) :: .obj g0 (.cells #[.int .i64 kind, .slice A0 lead.length c0, .bool member, .slice A1 key.length c1, .slice A2 text.length c2, .slice A3 units.length c3, .int .i64 count, .slice A4 tail.length c4] 116) :: (.rowComment (.slice B0 lead.length d0) lead.length q0 :: q0.flatMap CommentG.own)) := H
  refine loadO H 2 rfl rfl ?_
  refine storeO H 0 rfl rfl rfl fun w H => ?_
  have H : St W.heap.size W w (.obj g2 (.cells #[.int .i64 kind, .slice B0 lead.length d0, .bool member, .slice none 0 0, .slice none 0 0, .slice none 0 0, .int .i64 0, .slice none 0 0] 67) :: .obj g1 (.cells #[.int .i64 0, .slice none 0 0, .bool false, .slice none 0 0, .slice none 0 0, .slice none 0 0, .int .i64 0, .slice none 0 0] 67) :: .obj g0 (.cells #[.int .i64 kind, .slice A0 lead.length c0, .bool member, .slice A1 key.length c1, .slice A2 text.length c2, .slice A3 units.length c3, .int .i64 count, .slice A4 tail.length c4] 116) :: (.rowComment (.slice B0 lead.length d0) lead.length q0 :: q0.flatMap CommentG.own)) := H
  refine loadO H 2 rfl rfl ?_
  refine callRow ok_toIntS (laws_toIntS _ _ _ _ (hk.2.1.ext H.below) (by omega)) H fun B1 d1 w H => ?_
  refine storeO H 1 rfl rfl rfl fun w H => ?_
  have H : St W.heap.size W w (.rowI (.slice B1 key.length d1) key :: .obj g2 (.cells #[.int .i64 kind, .slice B0 lead.length d0, .bool member, .slice B1 key.length d1, .slice none 0 0, .slice none 0 0, .int .i64 0, .slice none 0 0] 67) :: .obj g1 (.cells #[.int .i64 0, .slice none 0 0, .bool false, .slice none 0 0, .slice none 0 0, .slice none 0 0, .int .i64 0, .slice none 0 0] 67) :: .obj g0 (.cells #[.int .i64 kind, .slice A0 lead.length c0, .bool member, .slice A1 key.length c1, .slice A2 text.length c2, .slice A3 units.length c3, .int .i64 count, .slice A4 tail.length c4] 116) :: (.rowComment (.slice B0 lead.length d0) lead.length q0 :: q0.flatMap CommentG.own)) := H
  refine loadO H 3 rfl rfl ?_
  refine callRow ok_toByteS (laws_toByteS _ _ _ _ (hk.2.2.1.ext H.below) (by omega)) H fun B2 d2 w H => ?_
  refine storeO H 2 rfl rfl rfl fun w H => ?_
  have H : St W.heap.size W w (.rowB (.slice B2 text.length d2) text :: .rowI (.slice B1 key.length d1) key :: .obj g2 (.cells #[.int .i64 kind, .slice B0 lead.length d0, .bool member, .slice B1 key.length d1, .slice B2 text.length d2, .slice none 0 0, .int .i64 0, .slice none 0 0] 67) :: .obj g1 (.cells #[.int .i64 0, .slice none 0 0, .bool false, .slice none 0 0, .slice none 0 0, .slice none 0 0, .int .i64 0, .slice none 0 0] 67) :: .obj g0 (.cells #[.int .i64 kind, .slice A0 lead.length c0, .bool member, .slice A1 key.length c1, .slice A2 text.length c2, .slice A3 units.length c3, .int .i64 count, .slice A4 tail.length c4] 116) :: (.rowComment (.slice B0 lead.length d0) lead.length q0 :: q0.flatMap CommentG.own)) := H
  refine loadO H 4 rfl rfl ?_
  refine callRow ok_toIntS (laws_toIntS _ _ _ _ (hk.2.2.2.1.ext H.below) (by omega)) H fun B3 d3 w H => ?_
  refine storeO H 3 rfl rfl rfl fun w H => ?_
  have H : St W.heap.size W w (.rowI (.slice B3 units.length d3) units :: .rowB (.slice B2 text.length d2) text :: .rowI (.slice B1 key.length d1) key :: .obj g2 (.cells #[.int .i64 kind, .slice B0 lead.length d0, .bool member, .slice B1 key.length d1, .slice B2 text.length d2, .slice B3 units.length d3, .int .i64 0, .slice none 0 0] 67) :: .obj g1 (.cells #[.int .i64 0, .slice none 0 0, .bool false, .slice none 0 0, .slice none 0 0, .slice none 0 0, .int .i64 0, .slice none 0 0] 67) :: .obj g0 (.cells #[.int .i64 kind, .slice A0 lead.length c0, .bool member, .slice A1 key.length c1, .slice A2 text.length c2, .slice A3 units.length c3, .int .i64 count, .slice A4 tail.length c4] 116) :: (.rowComment (.slice B0 lead.length d0) lead.length q0 :: q0.flatMap CommentG.own)) := H
  refine loadO H 5 rfl rfl ?_
  refine storeO H 3 rfl rfl rfl fun w H => ?_
  have H : St W.heap.size W w (.rowI (.slice B3 units.length d3) units :: .rowB (.slice B2 text.length d2) text :: .rowI (.slice B1 key.length d1) key :: .obj g2 (.cells #[.int .i64 kind, .slice B0 lead.length d0, .bool member, .slice B1 key.length d1, .slice B2 text.length d2, .slice B3 units.length d3, .int .i64 count, .slice none 0 0] 67) :: .obj g1 (.cells #[.int .i64 0, .slice none 0 0, .bool false, .slice none 0 0, .slice none 0 0, .slice none 0 0, .int .i64 0, .slice none 0 0] 67) :: .obj g0 (.cells #[.int .i64 kind, .slice A0 lead.length c0, .bool member, .slice A1 key.length c1, .slice A2 text.length c2, .slice A3 units.length c3, .int .i64 count, .slice A4 tail.length c4] 116) :: (.rowComment (.slice B0 lead.length d0) lead.length q0 :: q0.flatMap CommentG.own)) := H
  refine loadO H 5 rfl rfl ?_
  refine CallS.mk ok_toCommentS ((laws_toCommentS (hk.2.2.2.2.ext H.below) (by omega) ss4).mono ?_)
  rintro _ w ⟨B4, d4, q4, rfl, hq4, H4⟩
  have H := H.joinL H4 (rowCommentAll _ _ _)
  have lq4 : q4.length = tail.length := by have := congrArg List.length hq4; simpa using this
  refine storeO H 3 rfl rfl rfl fun w H => ?_
  have H : St W.heap.size W w (.rowI (.slice B3 units.length d3) units :: .rowB (.slice B2 text.length d2) text :: .rowI (.slice B1 key.length d1) key :: .obj g2 (.cells #[.int .i64 kind, .slice B0 lead.length d0, .bool member, .slice B1 key.length d1, .slice B2 text.length d2, .slice B3 units.length d3, .int .i64 count, .slice B4 tail.length d4] 67) :: .obj g1 (.cells #[.int .i64 0, .slice none 0 0, .bool false, .slice none 0 0, .slice none 0 0, .slice none 0 0, .int .i64 0, .slice none 0 0] 67) :: .obj g0 (.cells #[.int .i64 kind, .slice A0 lead.length c0, .bool member, .slice A1 key.length c1, .slice A2 text.length c2, .slice A3 units.length c3, .int .i64 count, .slice A4 tail.length c4] 116) :: ((.rowComment (.slice B0 lead.length d0) lead.length q0 :: q0.flatMap CommentG.own) ++ (.rowComment (.slice B4 tail.length d4) tail.length q4 :: q4.flatMap CommentG.own))) := H
  refine loadO H 3 rfl rfl ?_
  refine loadO H 3 rfl rfl ?_
  refine loadO H 3 rfl rfl ?_
  refine loadO H 3 rfl rfl ?_
  refine loadO H 3 rfl rfl ?_
  refine loadO H 3 rfl rfl ?_
  refine loadO H 3 rfl rfl ?_
  refine loadO H 3 rfl rfl ?_
  refine storeO H 4 rfl rfl rfl fun w H => ?_
  have H : St W.heap.size W w (.rowI (.slice B3 units.length d3) units :: .rowB (.slice B2 text.length d2) text :: .rowI (.slice B1 key.length d1) key :: .obj g2 (.cells #[.int .i64 kind, .slice B0 lead.length d0, .bool member, .slice B1 key.length d1, .slice B2 text.length d2, .slice B3 units.length d3, .int .i64 count, .slice B4 tail.length d4] 67) :: .obj g1 (.cells #[.int .i64 kind, .slice none 0 0, .bool false, .slice none 0 0, .slice none 0 0, .slice none 0 0, .int .i64 0, .slice none 0 0] 67) :: .obj g0 (.cells #[.int .i64 kind, .slice A0 lead.length c0, .bool member, .slice A1 key.length c1, .slice A2 text.length c2, .slice A3 units.length c3, .int .i64 count, .slice A4 tail.length c4] 116) :: ((.rowComment (.slice B0 lead.length d0) lead.length q0 :: q0.flatMap CommentG.own) ++ (.rowComment (.slice B4 tail.length d4) tail.length q4 :: q4.flatMap CommentG.own))) := H
  refine storeO H 4 rfl rfl rfl fun w H => ?_
  have H : St W.heap.size W w (.rowI (.slice B3 units.length d3) units :: .rowB (.slice B2 text.length d2) text :: .rowI (.slice B1 key.length d1) key :: .obj g2 (.cells #[.int .i64 kind, .slice B0 lead.length d0, .bool member, .slice B1 key.length d1, .slice B2 text.length d2, .slice B3 units.length d3, .int .i64 count, .slice B4 tail.length d4] 67) :: .obj g1 (.cells #[.int .i64 kind, .slice B0 lead.length d0, .bool false, .slice none 0 0, .slice none 0 0, .slice none 0 0, .int .i64 0, .slice none 0 0] 67) :: .obj g0 (.cells #[.int .i64 kind, .slice A0 lead.length c0, .bool member, .slice A1 key.length c1, .slice A2 text.length c2, .slice A3 units.length c3, .int .i64 count, .slice A4 tail.length c4] 116) :: ((.rowComment (.slice B0 lead.length d0) lead.length q0 :: q0.flatMap CommentG.own) ++ (.rowComment (.slice B4 tail.length d4) tail.length q4 :: q4.flatMap CommentG.own))) := H
  refine storeO H 4 rfl rfl rfl fun w H => ?_
  have H : St W.heap.size W w (.rowI (.slice B3 units.length d3) units :: .rowB (.slice B2 text.length d2) text :: .rowI (.slice B1 key.length d1) key :: .obj g2 (.cells #[.int .i64 kind, .slice B0 lead.length d0, .bool member, .slice B1 key.length d1, .slice B2 text.length d2, .slice B3 units.length d3, .int .i64 count, .slice B4 tail.length d4] 67) :: .obj g1 (.cells #[.int .i64 kind, .slice B0 lead.length d0, .bool member, .slice none 0 0, .slice none 0 0, .slice none 0 0, .int .i64 0, .slice none 0 0] 67) :: .obj g0 (.cells #[.int .i64 kind, .slice A0 lead.length c0, .bool member, .slice A1 key.length c1, .slice A2 text.length c2, .slice A3 units.length c3, .int .i64 count, .slice A4 tail.length c4] 116) :: ((.rowComment (.slice B0 lead.length d0) lead.length q0 :: q0.flatMap CommentG.own) ++ (.rowComment (.slice B4 tail.length d4) tail.length q4 :: q4.flatMap CommentG.own))) := H
  refine storeO H 4 rfl rfl rfl fun w H => ?_
  have H : St W.heap.size W w (.rowI (.slice B3 units.length d3) units :: .rowB (.slice B2 text.length d2) text :: .rowI (.slice B1 key.length d1) key :: .obj g2 (.cells #[.int .i64 kind, .slice B0 lead.length d0, .bool member, .slice B1 key.length d1, .slice B2 text.length d2, .slice B3 units.length d3, .int .i64 count, .slice B4 tail.length d4] 67) :: .obj g1 (.cells #[.int .i64 kind, .slice B0 lead.length d0, .bool member, .slice B1 key.length d1, .slice none 0 0, .slice none 0 0, .int .i64 0, .slice none 0 0] 67) :: .obj g0 (.cells #[.int .i64 kind, .slice A0 lead.length c0, .bool member, .slice A1 key.length c1, .slice A2 text.length c2, .slice A3 units.length c3, .int .i64 count, .slice A4 tail.length c4] 116) :: ((.rowComment (.slice B0 lead.length d0) lead.length q0 :: q0.flatMap CommentG.own) ++ (.rowComment (.slice B4 tail.length d4) tail.length q4 :: q4.flatMap CommentG.own))) := H
  refine storeO H 4 rfl rfl rfl fun w H => ?_
  have H : St W.heap.size W w (.rowI (.slice B3 units.length d3) units :: .rowB (.slice B2 text.length d2) text :: .rowI (.slice B1 key.length d1) key :: .obj g2 (.cells #[.int .i64 kind, .slice B0 lead.length d0, .bool member, .slice B1 key.length d1, .slice B2 text.length d2, .slice B3 units.length d3, .int .i64 count, .slice B4 tail.length d4] 67) :: .obj g1 (.cells #[.int .i64 kind, .slice B0 lead.length d0, .bool member, .slice B1 key.length d1, .slice B2 text.length d2, .slice none 0 0, .int .i64 0, .slice none 0 0] 67) :: .obj g0 (.cells #[.int .i64 kind, .slice A0 lead.length c0, .bool member, .slice A1 key.length c1, .slice A2 text.length c2, .slice A3 units.length c3, .int .i64 count, .slice A4 tail.length c4] 116) :: ((.rowComment (.slice B0 lead.length d0) lead.length q0 :: q0.flatMap CommentG.own) ++ (.rowComment (.slice B4 tail.length d4) tail.length q4 :: q4.flatMap CommentG.own))) := H
  refine storeO H 4 rfl rfl rfl fun w H => ?_
  have H : St W.heap.size W w (.rowI (.slice B3 units.length d3) units :: .rowB (.slice B2 text.length d2) text :: .rowI (.slice B1 key.length d1) key :: .obj g2 (.cells #[.int .i64 kind, .slice B0 lead.length d0, .bool member, .slice B1 key.length d1, .slice B2 text.length d2, .slice B3 units.length d3, .int .i64 count, .slice B4 tail.length d4] 67) :: .obj g1 (.cells #[.int .i64 kind, .slice B0 lead.length d0, .bool member, .slice B1 key.length d1, .slice B2 text.length d2, .slice B3 units.length d3, .int .i64 0, .slice none 0 0] 67) :: .obj g0 (.cells #[.int .i64 kind, .slice A0 lead.length c0, .bool member, .slice A1 key.length c1, .slice A2 text.length c2, .slice A3 units.length c3, .int .i64 count, .slice A4 tail.length c4] 116) :: ((.rowComment (.slice B0 lead.length d0) lead.length q0 :: q0.flatMap CommentG.own) ++ (.rowComment (.slice B4 tail.length d4) tail.length q4 :: q4.flatMap CommentG.own))) := H
  refine storeO H 4 rfl rfl rfl fun w H => ?_
  have H : St W.heap.size W w (.rowI (.slice B3 units.length d3) units :: .rowB (.slice B2 text.length d2) text :: .rowI (.slice B1 key.length d1) key :: .obj g2 (.cells #[.int .i64 kind, .slice B0 lead.length d0, .bool member, .slice B1 key.length d1, .slice B2 text.length d2, .slice B3 units.length d3, .int .i64 count, .slice B4 tail.length d4] 67) :: .obj g1 (.cells #[.int .i64 kind, .slice B0 lead.length d0, .bool member, .slice B1 key.length d1, .slice B2 text.length d2, .slice B3 units.length d3, .int .i64 count, .slice none 0 0] 67) :: .obj g0 (.cells #[.int .i64 kind, .slice A0 lead.length c0, .bool member, .slice A1 key.length c1, .slice A2 text.length c2, .slice A3 units.length c3, .int .i64 count, .slice A4 tail.length c4] 116) :: ((.rowComment (.slice B0 lead.length d0) lead.length q0 :: q0.flatMap CommentG.own) ++ (.rowComment (.slice B4 tail.length d4) tail.length q4 :: q4.flatMap CommentG.own))) := H
  refine storeO H 4 rfl rfl rfl fun w H => ?_
  have H : St W.heap.size W w (.rowI (.slice B3 units.length d3) units :: .rowB (.slice B2 text.length d2) text :: .rowI (.slice B1 key.length d1) key :: .obj g2 (.cells #[.int .i64 kind, .slice B0 lead.length d0, .bool member, .slice B1 key.length d1, .slice B2 text.length d2, .slice B3 units.length d3, .int .i64 count, .slice B4 tail.length d4] 67) :: .obj g1 (.cells #[.int .i64 kind, .slice B0 lead.length d0, .bool member, .slice B1 key.length d1, .slice B2 text.length d2, .slice B3 units.length d3, .int .i64 count, .slice B4 tail.length d4] 67) :: .obj g0 (.cells #[.int .i64 kind, .slice A0 lead.length c0, .bool member, .slice A1 key.length c1, .slice A2 text.length c2, .slice A3 units.length c3, .int .i64 count, .slice A4 tail.length c4] 116) :: ((.rowComment (.slice B0 lead.length d0) lead.length q0 :: q0.flatMap CommentG.own) ++ (.rowComment (.slice B4 tail.length d4) tail.length q4 :: q4.flatMap CommentG.own))) := H
  refine loadO H 4 rfl rfl ?_
  refine loadO H 4 rfl rfl ?_
  refine loadO H 4 rfl rfl ?_
  refine loadO H 4 rfl rfl ?_
  refine loadO H 4 rfl rfl ?_
  refine loadO H 4 rfl rfl ?_
  refine loadO H 4 rfl rfl ?_
  refine loadO H 4 rfl rfl ?_
  exact Exists.intro (⟨.slice B0 lead.length d0, .slice B1 key.length d1, .slice B2 text.length d2, .slice B3 units.length d3, .slice B4 tail.length d4, kind, q0, member, key, text, units, count, q4⟩ : NodeG) (And.intro rfl (And.intro (by simp only [NodeG.p, hq0, hq4]) (H.sel (fun q => by simp only [cntL_append, cntL, List.cons_append, List.nil_append, List.set_cons_zero, List.set_cons_succ, List.flatMap_append, List.flatMap_cons, List.flatMap_nil, It.rowB, It.rowI, It.roB, It.roI, NodeG.own, It.rowNode, It.rowComment, It.rowComment, lq0, lq4]; omega))))
theorem ok_toNodeS : callOK Try.prog 32 = true := by kernel_rfl
theorem laws_toNodeS {fs : List NodeG} {A : Option Addr} {n c : Nat} {W : World} (hx : RdNode W (.slice A n c) n fs) (hl : n ≤ 4294967296) (hs : ∀ f ∈ fs, SmallNode f) :
    Calls Try.prog 32 #[.slice A n c] W fun e w => ∃ A' c' gs, e = .returned (.slice A' n c') ∧ gs.map NodeG.p = fs.map NodeG.p ∧ St W.heap.size W w (.rowNode (.slice A' n c') n gs :: gs.flatMap NodeG.own) := by
  have H := St.enter W
  obtain rfl := hx.len
  refine calls_of_vcV (args := [.slice A fs.length c]) Try.func32 rfl (by kernel_rfl) (Nat.le_of_ble_eq_true rfl) ?_
  refine mkR (cells := NodeG.cells) NodeG.cells_len (by decide) zeroNode undNodes infNode rfl (by decide) H hl fun A1 k1 w H => ?_
  refine loopV (by kernel_rfl) (fun m e w => e 0 = .slice A fs.length c ∧ e 3 = .slice A1 fs.length k1 ∧ ∃ (j : Nat) (gs : List NodeG), e 4 = .int .i64 j ∧ j + m = fs.length ∧ gs.map NodeG.p = (fs.take j).map NodeG.p ∧ gs.length = j ∧ St W.heap.size W w (.rowNode (.slice A1 fs.length k1) fs.length (gs ++ List.replicate m zeroNode) :: gs.flatMap NodeG.own)) fs.length
    ⟨rfl, rfl, 0, [], rfl, by omega, rfl, rfl, H⟩ ?_
  rintro m e w ⟨h0, h3, j, gs, h4, hj, hgs, hgl, H⟩
  rw [Env.three h0 h3 h4]
  refine ifB (fun h => ?_) (fun h => ?_)
  case refine_2 =>
    obtain rfl : m = 0 := by omega
    rw [show j = fs.length by omega, List.take_length] at hgs
    rw [List.replicate_zero, List.append_nil] at H
    exact Exists.intro A1 (Exists.intro k1 (Exists.intro gs (And.intro rfl (And.intro hgs H))))
  obtain ⟨m, rfl⟩ : ∃ m', m = m' + 1 := ⟨m - 1, by omega⟩
  have hjl : j < fs.length := by omega
  obtain ⟨f, hf⟩ : ∃ f, fs[j]? = some f := ⟨_, List.getElem?_eq_getElem hjl⟩
  have hfm : f ∈ fs := List.mem_of_getElem? hf
  have htk : (fs.take (j + 1)).map NodeG.p = (fs.take j).map NodeG.p ++ [f.p] := by rw [List.take_add_one, hf, List.map_append]; rfl
  have hkf := hx.kids f hfm
  have hsf := hs f hfm
  refine idxC (cells := NodeG.cells) NodeG.cells_len (hx.ext H.below).row hf hjl fun b off hc => ?_
  refine loadS (hc 0 _ rfl) ?_
  refine loadS (hc 1 _ rfl) ?_
  refine loadS (hc 2 _ rfl) ?_
  refine loadS (hc 3 _ rfl) ?_
  refine loadS (hc 4 _ rfl) ?_
  refine loadS (hc 5 _ rfl) ?_
  refine loadS (hc 6 _ rfl) ?_
  refine loadS (hc 7 _ rfl) ?_
  refine CallS.mk ok_toNode ((laws_toNode (hkf.ext H.below) hsf).mono ?_)
  rintro _ w2 ⟨g, rfl, hgp, H2⟩
  have hone := NodeG.one H2
  have H := H.joinL H2 (NodeG.ownAll g)
  refine idxRow H 0 rfl (by omega) (by omega) fun b0 hA _ => ?_
  subst hA
  refine storeRowN H 0 rfl (j * 8 + 0) (by show 0 + (j : Int).toNat * 8 = _; omega) (by omega) (hone 0 _ rfl) fun w H => ?_
  refine storeRowN H 0 rfl (j * 8 + 1) (by show 0 + (j : Int).toNat * 8 + 1 = _; omega) (by omega) (hone 1 _ rfl) fun w H => ?_
  refine storeRowN H 0 rfl (j * 8 + 2) (by show 0 + (j : Int).toNat * 8 + 2 = _; omega) (by omega) (hone 2 _ rfl) fun w H => ?_
  refine storeRowN H 0 rfl (j * 8 + 3) (by show 0 + (j : Int).toNat * 8 + 3 = _; omega) (by omega) (hone 3 _ rfl) fun w H => ?_
  refine storeRowN H 0 rfl (j * 8 + 4) (by show 0 + (j : Int).toNat * 8 + 4 = _; omega) (by omega) (hone 4 _ rfl) fun w H => ?_
  refine storeRowN H 0 rfl (j * 8 + 5) (by show 0 + (j : Int).toNat * 8 + 5 = _; omega) (by omega) (hone 5 _ rfl) fun w H => ?_
  refine storeRowN H 0 rfl (j * 8 + 6) (by show 0 + (j : Int).toNat * 8 + 6 = _; omega) (by omega) (hone 6 _ rfl) fun w H => ?_
  refine storeRowN H 0 rfl (j * 8 + 7) (by show 0 + (j : Int).toNat * 8 + 7 = _; omega) (by omega) (hone 7 _ rfl) fun w H => ?_
  have H1 : St W.heap.size W w (.row (.slice (some ⟨b0, 0, none⟩) fs.length k1) 67 8 fs.length ((((((((((gs ++ List.replicate (m + 1) zeroNode).flatMap NodeG.cells).set (j * 8 + 0) (.int .i64 g.kind)).set (j * 8 + 1) (g.leadV)).set (j * 8 + 2) (.bool g.member)).set (j * 8 + 3) (g.keyV)).set (j * 8 + 4) (g.textV)).set (j * 8 + 5) (g.unitsV)).set (j * 8 + 6) (.int .i64 g.count)).set (j * 8 + 7) (g.tailV)) :: (gs.flatMap NodeG.own ++ g.own)) := H
  rw [flat_setNode (x := zeroNode) (by rw [← hgl, List.getElem?_append_right (Nat.le_refl _)]; simp)] at H1
  have e1 : (gs ++ List.replicate (m + 1) zeroNode).set j g = (gs ++ [g]) ++ List.replicate m zeroNode := by
    rw [← hgl, List.replicate_succ]; exact set_mid _ _ _ _
  rw [e1] at H1
  refine arN (by omega) ?_
  exact Exists.intro m (And.intro (by omega) ⟨rfl, rfl, j + 1, gs ++ [g], rfl, by omega, by rw [List.map_append, hgs, htk]; simp [hgp], by simp [hgl], H1.sel (fun q => by simp only [cntL_append, cntL, List.cons_append, List.nil_append, List.set_cons_zero, List.set_cons_succ, List.flatMap_append, List.flatMap_cons, List.flatMap_nil, It.rowB, It.rowI, It.roB, It.roI, NodeG.own, It.rowNode]; omega)⟩)
def NodeG.size (f : NodeG) : Nat := (f.lead.length + (f.lead.map CommentG.size).sum) + f.key.length + f.text.length + f.units.length + (f.tail.length + (f.tail.map CommentG.size).sum)
def sizeNode (fs : List NodeG) : Nat := fs.length + (fs.map NodeG.size).sum
theorem sizeNode_take {fs : List NodeG} {j : Nat} {f : NodeG} (h : fs[j]? = some f) : ((fs.take (j + 1)).map NodeG.size).sum = ((fs.take j).map NodeG.size).sum + f.size := by
  rw [List.take_add_one, h, List.map_append, List.sum_append]; simp
theorem sizeNode_le (fs : List NodeG) (j : Nat) : ((fs.take j).map NodeG.size).sum ≤ (fs.map NodeG.size).sum := by
  have h : (fs.map NodeG.size).sum = ((fs.take j).map NodeG.size).sum + ((fs.drop j).map NodeG.size).sum := by
    rw [← List.sum_append, ← List.map_append, List.take_append_drop]
  omega
theorem sizeNode_mem {fs : List NodeG} {f : NodeG} (h : f ∈ fs) : f.size ≤ (fs.map NodeG.size).sum := by
  obtain ⟨i, hi, he⟩ := List.getElem_of_mem h
  have h1 := sizeNode_take (fs := fs) (j := i) (f := f) (by rw [List.getElem?_eq_getElem hi, he])
  have h2 := sizeNode_le fs (i + 1)
  omega
theorem sizeNode_p : ∀ {gs fs : List NodeG}, gs.map NodeG.p = fs.map NodeG.p → (gs.map NodeG.size).sum = (fs.map NodeG.size).sum
  | [], [], _ => rfl
  | [], f :: fs, h => by simp at h
  | g :: gs, [], h => by simp at h
  | g :: gs, f :: fs, h => by
    simp only [List.map_cons, List.cons.injEq] at h
    have ih := sizeNode_p h.2
    have e_lead : g.lead.map CommentG.p = f.lead.map CommentG.p := congrArg NodeP.lead h.1
    have l_lead : g.lead.length = f.lead.length := by have := congrArg List.length e_lead; simpa using this
    have z_lead := sizeComment_p e_lead
    have e_key : g.key = f.key := congrArg NodeP.key h.1
    have e_text : g.text = f.text := congrArg NodeP.text h.1
    have e_units : g.units = f.units := congrArg NodeP.units h.1
    have e_tail : g.tail.map CommentG.p = f.tail.map CommentG.p := congrArg NodeP.tail h.1
    have l_tail : g.tail.length = f.tail.length := by have := congrArg List.length e_tail; simpa using this
    have z_tail := sizeComment_p e_tail
    simp only [List.map_cons, List.sum_cons, ih, NodeG.size, l_lead, z_lead, e_key, e_text, e_units, l_tail, z_tail]
theorem ok_szNode : callOK Try.prog 62 = true := by kernel_rfl
structure LenNode (f : NodeG) : Prop where
  lead : f.lead.length ≤ 9223372036854775807
  leads : ∀ g ∈ f.lead, LenComment g
  key : f.key.length ≤ 9223372036854775807
  text : f.text.length ≤ 9223372036854775807
  units : f.units.length ≤ 9223372036854775807
  tail : f.tail.length ≤ 9223372036854775807
  tails : ∀ g ∈ f.tail, LenComment g
theorem laws_szNode {f : NodeG} {l : Int} (h0 : 0 ≤ l) (h1 : l ≤ 1048576) {W : World} (h : f.Rd W) (hs : LenNode f) : GivesV Try.prog 62 [.agg f.cells.toArray, .int .i64 l] W (.int .i64 (szI l f.size)) := by
  have H := St.enter W
  have s0 := hs.lead
  have ss0 := hs.leads
  have s1 := hs.key
  have s2 := hs.text
  have s3 := hs.units
  have s4 := hs.tail
  have ss4 := hs.tails
  clear hs
  obtain ⟨A0, c0, A1, c1, A2, c2, A3, c3, A4, c4, e0, e1, e2, e3, e4⟩ := NodeG.shape h
  obtain ⟨leadV, keyV, textV, unitsV, tailV, kind, lead, member, key, text, units, count, tail⟩ := f
  dsimp only at *
  subst e0 e1 e2 e3 e4
  have hk : RdComment W (.slice A0 lead.length c0) lead.length lead ∧ RdI W (.slice A1 key.length c1) key ∧ RdB W (.slice A2 text.length c2) text ∧ RdI W (.slice A3 units.length c3) units ∧ RdComment W (.slice A4 tail.length c4) tail.length tail := h
  obtain ⟨T, hT⟩ : ∃ T : Nat, NodeG.size ⟨.slice A0 lead.length c0, .slice A1 key.length c1, .slice A2 text.length c2, .slice A3 units.length c3, .slice A4 tail.length c4, kind, lead, member, key, text, units, count, tail⟩ = T := ⟨_, rfl⟩
  have hT2 : (T : Int) = ((sizeComment lead : Nat) : Int) + ((key.length : Nat) : Int) + ((text.length : Nat) : Int) + ((units.length : Nat) : Int) + ((sizeComment tail : Nat) : Int) := by rw [← hT]; simp only [NodeG.size, sizeComment, sizeComment] <;> omega
  rw [hT]
  have q0 : (l - (sizeComment lead : Nat) < 0 → szI (l) ((sizeComment lead : Nat)) = -1) ∧ (¬ l - (sizeComment lead : Nat) < 0 → szI (l) ((sizeComment lead : Nat)) = l - (sizeComment lead : Nat)) := ⟨fun h => if_pos h, fun h => if_neg h⟩
  have q1 : (szI (l) ((sizeComment lead : Nat)) - (key.length : Nat) < 0 → szI (szI (l) ((sizeComment lead : Nat))) ((key.length : Nat)) = -1) ∧ (¬ szI (l) ((sizeComment lead : Nat)) - (key.length : Nat) < 0 → szI (szI (l) ((sizeComment lead : Nat))) ((key.length : Nat)) = szI (l) ((sizeComment lead : Nat)) - (key.length : Nat)) := ⟨fun h => if_pos h, fun h => if_neg h⟩
  have q2 : (szI (szI (l) ((sizeComment lead : Nat))) ((key.length : Nat)) - (text.length : Nat) < 0 → szI (szI (szI (l) ((sizeComment lead : Nat))) ((key.length : Nat))) ((text.length : Nat)) = -1) ∧ (¬ szI (szI (l) ((sizeComment lead : Nat))) ((key.length : Nat)) - (text.length : Nat) < 0 → szI (szI (szI (l) ((sizeComment lead : Nat))) ((key.length : Nat))) ((text.length : Nat)) = szI (szI (l) ((sizeComment lead : Nat))) ((key.length : Nat)) - (text.length : Nat)) := ⟨fun h => if_pos h, fun h => if_neg h⟩
  have q3 : (szI (szI (szI (l) ((sizeComment lead : Nat))) ((key.length : Nat))) ((text.length : Nat)) - (units.length : Nat) < 0 → szI (szI (szI (szI (l) ((sizeComment lead : Nat))) ((key.length : Nat))) ((text.length : Nat))) ((units.length : Nat)) = -1) ∧ (¬ szI (szI (szI (l) ((sizeComment lead : Nat))) ((key.length : Nat))) ((text.length : Nat)) - (units.length : Nat) < 0 → szI (szI (szI (szI (l) ((sizeComment lead : Nat))) ((key.length : Nat))) ((text.length : Nat))) ((units.length : Nat)) = szI (szI (szI (l) ((sizeComment lead : Nat))) ((key.length : Nat))) ((text.length : Nat)) - (units.length : Nat)) := ⟨fun h => if_pos h, fun h => if_neg h⟩
  have q4 : (szI (szI (szI (szI (l) ((sizeComment lead : Nat))) ((key.length : Nat))) ((text.length : Nat))) ((units.length : Nat)) - (sizeComment tail : Nat) < 0 → szI (szI (szI (szI (szI (l) ((sizeComment lead : Nat))) ((key.length : Nat))) ((text.length : Nat))) ((units.length : Nat))) ((sizeComment tail : Nat)) = -1) ∧ (¬ szI (szI (szI (szI (l) ((sizeComment lead : Nat))) ((key.length : Nat))) ((text.length : Nat))) ((units.length : Nat)) - (sizeComment tail : Nat) < 0 → szI (szI (szI (szI (szI (l) ((sizeComment lead : Nat))) ((key.length : Nat))) ((text.length : Nat))) ((units.length : Nat))) ((sizeComment tail : Nat)) = szI (szI (szI (szI (l) ((sizeComment lead : Nat))) ((key.length : Nat))) ((text.length : Nat))) ((units.length : Nat)) - (sizeComment tail : Nat)) := ⟨fun h => if_pos h, fun h => if_neg h⟩
  have qT : (l - T < 0 → szI l T = -1) ∧ (¬ l - T < 0 → szI l T = l - T) := ⟨fun h => if_pos h, fun h => if_neg h⟩
  show GivesV Try.prog 62 [.agg #[.int .i64 kind, .slice A0 lead.length c0, .bool member, .slice A1 key.length c1, .slice A2 text.length c2, .slice A3 units.length c3, .int .i64 count, .slice A4 tail.length c4], .int .i64 l] W _
  refine calls_of_vcV (args := [.agg #[.int .i64 kind, .slice A0 lead.length c0, .bool member, .slice A1 key.length c1, .slice A2 text.length c2, .slice A3 units.length c3, .int .i64 count, .slice A4 tail.length c4], .int .i64 l]) Try.func62 rfl (by kernel_rfl) (Nat.le_of_ble_eq_true rfl) ?_
  refine newR (o := .cells #[.int .i64 kind, .slice A0 lead.length c0, .bool member, .slice A1 key.length c1, .slice A2 text.length c2, .slice A3 units.length c3, .int .i64 count, .slice A4 tail.length c4] _) H fun g0 w H => ?_
  refine loadO H 0 rfl rfl ?_
  refine callV ok_szCommentS (laws_szCommentS (by omega) (by omega) (hk.1.ext H.below) (by omega) ss0) H fun w H => ?_
  refine ifB (fun z0 => Exists.intro _ (And.intro rfl (And.intro (congrArg (Value.int .i64) (by omega)) H.none))) (fun z0 => ?_)
  refine loadO H 0 rfl rfl ?_
  refine callV ok_szIntS (laws_szIntS (n := key.length) (A := A1) (by omega) (by omega) (by omega)) H fun w H => ?_
  refine ifB (fun z1 => Exists.intro _ (And.intro rfl (And.intro (congrArg (Value.int .i64) (by omega)) H.none))) (fun z1 => ?_)
  refine loadO H 0 rfl rfl ?_
  refine callV ok_szByteS (laws_szByteS (n := text.length) (A := A2) (by omega) (by omega) (by omega)) H fun w H => ?_
  refine ifB (fun z2 => Exists.intro _ (And.intro rfl (And.intro (congrArg (Value.int .i64) (by omega)) H.none))) (fun z2 => ?_)
  refine loadO H 0 rfl rfl ?_
  refine callV ok_szIntS (laws_szIntS (n := units.length) (A := A3) (by omega) (by omega) (by omega)) H fun w H => ?_
  refine ifB (fun z3 => Exists.intro _ (And.intro rfl (And.intro (congrArg (Value.int .i64) (by omega)) H.none))) (fun z3 => ?_)
  refine loadO H 0 rfl rfl ?_
  refine callV ok_szCommentS (laws_szCommentS (by omega) (by omega) (hk.2.2.2.2.ext H.below) (by omega) ss4) H fun w H => ?_
  refine ifB (fun z4 => Exists.intro _ (And.intro rfl (And.intro (congrArg (Value.int .i64) (by omega)) H.none))) (fun z4 => ?_)
  exact Exists.intro _ (And.intro rfl (And.intro (congrArg (Value.int .i64) (by omega)) H.none))
theorem ok_szNodeS : callOK Try.prog 26 = true := by kernel_rfl
theorem laws_szNodeS {fs : List NodeG} {A : Option Addr} {n c : Nat} {l0 : Int} {W : World} (hl0 : 0 ≤ l0) (hl1 : l0 ≤ 1048576) (hx : RdNode W (.slice A n c) n fs) (hl : n ≤ 9223372036854775807) (hs : ∀ f ∈ fs, LenNode f) : GivesV Try.prog 26 [.slice A n c, .int .i64 l0] W (.int .i64 (szI l0 (sizeNode fs))) := by
  have H := St.enter W
  obtain rfl := hx.len
  refine calls_of_vcV (args := [.slice A fs.length c, .int .i64 l0]) Try.func26 rfl (by kernel_rfl) (Nat.le_of_ble_eq_true rfl) ?_
  have bad : ∀ {w : World}, St W.heap.size W w [] → l0 - sizeNode fs < 0 → ∃ v, Ending.returned (.int .i64 (-1)) = .returned v ∧ v = .int .i64 (szI l0 (sizeNode fs)) ∧ St W.heap.size W w [] := fun H h => ⟨_, rfl, by unfold szI; rw [if_pos h], H.none⟩
  refine ar64 (by omega) (by omega) ?_
  refine ifB (fun c1 => ?_) (fun c1 => ?_)
  · exact bad H (by unfold sizeNode; omega)
  · refine loopV (by kernel_rfl) (fun m e w => e 0 = .slice A fs.length c ∧ ∃ (j : Nat) (l : Int), e 5 = .int .i64 j ∧ e 1 = .int .i64 l ∧ j + m = fs.length ∧ 0 ≤ l ∧ l = l0 - (fs.length + ((fs.take j).map NodeG.size).sum : Nat) ∧ St W.heap.size W w []) fs.length
      ⟨rfl, 0, _, rfl, rfl, by omega, by omega, by simp, H⟩ ?_
    rintro m e w ⟨h0, j, l, h5, h1, hj, hl0, hle, H⟩
    rw [Env.three h0 h5 h1]
    refine ifB (fun h => ?_) (fun h => ?_)
    case refine_2 =>
      rw [show j = fs.length by omega, List.take_length] at hle
      exact Exists.intro _ (And.intro rfl (And.intro (congrArg (Value.int .i64) (show l = szI l0 (sizeNode fs) by unfold szI sizeNode; rw [if_neg (by omega), hle])) H.none))
    have hjl : j < fs.length := by omega
    obtain ⟨f, hf⟩ : ∃ f, fs[j]? = some f := ⟨_, List.getElem?_eq_getElem hjl⟩
    have hfm : f ∈ fs := List.mem_of_getElem? hf
    have hst := sizeNode_take hf
    have hle2 := sizeNode_le fs (j + 1)
    have hkf := hx.kids f hfm
    have hsf := hs f hfm
    have qf : (l - f.size < 0 → szI l f.size = -1) ∧ (¬ l - f.size < 0 → szI l f.size = l - f.size) := ⟨fun h => if_pos h, fun h => if_neg h⟩
    refine JoinV.mk ?_
    refine idxC (cells := NodeG.cells) NodeG.cells_len (hx.ext H.below).row hf hjl fun b off hc => ?_
    refine loadS (hc 0 _ rfl) ?_
    refine loadS (hc 1 _ rfl) ?_
    refine loadS (hc 2 _ rfl) ?_
    refine loadS (hc 3 _ rfl) ?_
    refine loadS (hc 4 _ rfl) ?_
    refine loadS (hc 5 _ rfl) ?_
    refine loadS (hc 6 _ rfl) ?_
    refine loadS (hc 7 _ rfl) ?_
    refine callV ok_szNode (laws_szNode (by omega) (by omega) (hkf.ext H.below) hsf) H fun w H => ?_
    refine ifB (fun c6 => ?_) (fun c6 => ?_)
    · exact bad H (by unfold sizeNode; omega)
    · refine arN (by omega) ?_
      exact Exists.intro (m - 1) (And.intro (by omega) ⟨rfl, j + 1, l - f.size, rfl, congrArg (Value.int .i64) (by omega), by omega, by omega, by omega, H⟩)
theorem ok_eqNode : callOK Try.prog 75 = true := by kernel_rfl
theorem laws_eqNode {f g : NodeG} {W : World} (h : f.Rd W) (h' : g.Rd W) (he : f.p = g.p) (s : SmallNode f) : GivesV Try.prog 75 [.agg f.cells.toArray, .agg g.cells.toArray] W (.bool true) := by
  have H := St.enter W
  have s0 := s.lead
  have ss0 := s.leads
  have s1 := s.key
  have s2 := s.text
  have s3 := s.units
  have s4 := s.tail
  have ss4 := s.tails
  clear s
  obtain ⟨A0, c0, A1, c1, A2, c2, A3, c3, A4, c4, e0, e1, e2, e3, e4⟩ := NodeG.shape h
  obtain ⟨leadV, keyV, textV, unitsV, tailV, kind, lead, member, key, text, units, count, tail⟩ := f
  dsimp only at *
  subst e0 e1 e2 e3 e4
  obtain ⟨A0', c0', A1', c1', A2', c2', A3', c3', A4', c4', e0', e1', e2', e3', e4'⟩ := NodeG.shape h'
  obtain ⟨leadV', keyV', textV', unitsV', tailV', kind', lead', member', key', text', units', count', tail'⟩ := g
  dsimp only at *
  subst e0' e1' e2' e3' e4'
  have hk : RdComment W (.slice A0 lead.length c0) lead.length lead ∧ RdI W (.slice A1 key.length c1) key ∧ RdB W (.slice A2 text.length c2) text ∧ RdI W (.slice A3 units.length c3) units ∧ RdComment W (.slice A4 tail.length c4) tail.length tail := h
  have hk' : RdComment W (.slice A0' lead'.length c0') lead'.length lead' ∧ RdI W (.slice A1' key'.length c1') key' ∧ RdB W (.slice A2' text'.length c2') text' ∧ RdI W (.slice A3' units'.length c3') units' ∧ RdComment W (.slice A4' tail'.length c4') tail'.length tail' := h'
  clear h h'
  simp only [NodeG.p, NodeP.mk.injEq] at he
  obtain ⟨rfl, he_lead, rfl, rfl, rfl, rfl, rfl, he_tail⟩ := he
  have l_lead : lead'.length = lead.length := by have := congrArg List.length he_lead; simpa using this.symm
  have l_tail : tail'.length = tail.length := by have := congrArg List.length he_tail; simpa using this.symm
  show GivesV Try.prog 75 [.agg #[.int .i64 kind, .slice A0 lead.length c0, .bool member, .slice A1 key.length c1, .slice A2 text.length c2, .slice A3 units.length c3, .int .i64 count, .slice A4 tail.length c4], .agg #[.int .i64 kind, .slice A0' lead'.length c0', .bool member, .slice A1' key.length c1', .slice A2' text.length c2', .slice A3' units.length c3', .int .i64 count, .slice A4' tail'.length c4']] W _
  refine calls_of_vcV (args := [.agg #[.int .i64 kind, .slice A0 lead.length c0, .bool member, .slice A1 key.length c1, .slice A2 text.length c2, .slice A3 units.length c3, .int .i64 count, .slice A4 tail.length c4], .agg #[.int .i64 kind, .slice A0' lead'.length c0', .bool member, .slice A1' key.length c1', .slice A2' text.length c2', .slice A3' units.length c3', .int .i64 count, .slice A4' tail'.length c4']]) Try.func75 rfl (by kernel_rfl) (Nat.le_of_ble_eq_true rfl) ?_
  refine newR (o := .cells #[.int .i64 kind, .slice A0 lead.length c0, .bool member, .slice A1 key.length c1, .slice A2 text.length c2, .slice A3 units.length c3, .int .i64 count, .slice A4 tail.length c4] _) H fun g w H => ?_
  refine newR (o := .cells #[.int .i64 kind, .slice A0' lead'.length c0', .bool member, .slice A1' key.length c1', .slice A2' text.length c2', .slice A3' units.length c3', .int .i64 count, .slice A4' tail'.length c4'] _) H fun g w H => ?_
  refine loadO H 1 rfl rfl ?_
  refine loadO H 0 rfl rfl ?_
  refine ifB (fun c => absurd rfl c) (fun _ => ?_)
  refine loadO H 1 rfl rfl ?_
  refine loadO H 0 rfl rfl ?_
  refine callV ok_eqCommentS (eqRComment (hk.1.ext H.below) (hk'.1.ext H.below) he_lead (by omega) ss0) H fun w H => ?_
  refine ifNot (ifT ?_)
  refine loadO H 1 rfl rfl ?_
  refine loadO H 0 rfl rfl ?_
  refine ifNot ?_
  refine ifB (fun _ => ?_) (fun c => absurd rfl c)
  refine loadO H 1 rfl rfl ?_
  refine loadO H 0 rfl rfl ?_
  refine callV ok_eqIntS (eqI2 (hk.2.1.ext H.below) (hk'.2.1.ext H.below) (by omega)) H fun w H => ?_
  refine ifNot (ifT ?_)
  refine loadO H 1 rfl rfl ?_
  refine loadO H 0 rfl rfl ?_
  refine callV ok_eqByteS (eqB2 (hk.2.2.1.ext H.below) (hk'.2.2.1.ext H.below) (by omega)) H fun w H => ?_
  refine ifNot (ifT ?_)
  refine loadO H 1 rfl rfl ?_
  refine loadO H 0 rfl rfl ?_
  refine callV ok_eqIntS (eqI2 (hk.2.2.2.1.ext H.below) (hk'.2.2.2.1.ext H.below) (by omega)) H fun w H => ?_
  refine ifNot (ifT ?_)
  refine loadO H 1 rfl rfl ?_
  refine loadO H 0 rfl rfl ?_
  refine ifB (fun c => absurd rfl c) (fun _ => ?_)
  refine loadO H 1 rfl rfl ?_
  refine loadO H 0 rfl rfl ?_
  refine callV ok_eqCommentS (eqRComment (hk.2.2.2.2.ext H.below) (hk'.2.2.2.2.ext H.below) he_tail (by omega) ss4) H fun w H => ?_
  refine ifNot (ifT ?_)
  exact Exists.intro _ (And.intro rfl (And.intro rfl H.none))
theorem ok_eqNodeS : callOK Try.prog 38 = true := by kernel_rfl
theorem laws_eqNodeS {fs gs : List NodeG} {A A' : Option Addr} {n c c' : Nat} {W : World} (hx : RdNode W (.slice A n c) n fs) (hy : RdNode W (.slice A' n c') n gs) (he : fs.map NodeG.p = gs.map NodeG.p) (hl : n ≤ 4294967296) (hs : ∀ f ∈ fs, SmallNode f) : GivesV Try.prog 38 [.slice A n c, .slice A' n c'] W (.bool true) := by
  have H := St.enter W
  obtain rfl := hx.len
  have hlen := hy.len
  refine calls_of_vcV (args := [.slice A fs.length c, .slice A' fs.length c']) Try.func38 rfl (by kernel_rfl) (Nat.le_of_ble_eq_true rfl) ?_
  refine ifB (fun c0 => absurd c0 (by omega)) (fun c0 => ?_)
  refine loopV (by kernel_rfl) (fun m e w => e 0 = .slice A fs.length c ∧ e 1 = .slice A' fs.length c' ∧ ∃ j : Nat, e 5 = .int .i64 j ∧ j + m = fs.length ∧ St W.heap.size W w []) fs.length ⟨rfl, rfl, 0, rfl, by omega, H⟩ ?_
  rintro m e w ⟨h0, h1, j, h5, hj, H⟩
  rw [Env.three h0 h1 h5]
  refine ifB (fun h => ?_) (fun h => ?_)
  case refine_2 => exact Exists.intro _ (And.intro rfl (And.intro rfl H.none))
  have hjl : j < fs.length := by omega
  obtain ⟨f, hf⟩ : ∃ f, fs[j]? = some f := ⟨_, List.getElem?_eq_getElem hjl⟩
  obtain ⟨g, hg⟩ : ∃ g, gs[j]? = some g := ⟨_, List.getElem?_eq_getElem (by omega)⟩
  have hfg : f.p = g.p := by
    have := congrArg (fun l => l[j]?) he
    simp only [List.getElem?_map, hf, hg, Option.map_some, Option.some.injEq] at this
    exact this
  have hfm : f ∈ fs := List.mem_of_getElem? hf
  have hgm : g ∈ gs := List.mem_of_getElem? hg
  have hss := hs f hfm
  have k1 := hx.kids f hfm
  have k2 := hy.kids g hgm
  refine JoinV.mk ?_
  refine drawR H fun w H => ?_
  refine idxC (cells := NodeG.cells) NodeG.cells_len (hx.ext H.below).row hf hjl fun b off hc => ?_
  refine loadS (hc 0 _ rfl) ?_
  refine loadS (hc 1 _ rfl) ?_
  refine loadS (hc 2 _ rfl) ?_
  refine loadS (hc 3 _ rfl) ?_
  refine loadS (hc 4 _ rfl) ?_
  refine loadS (hc 5 _ rfl) ?_
  refine loadS (hc 6 _ rfl) ?_
  refine loadS (hc 7 _ rfl) ?_
  refine idxC (cells := NodeG.cells) NodeG.cells_len (hy.ext H.below).row hg (by omega) fun b' off' hd => ?_
  refine loadS (hd 0 _ rfl) ?_
  refine loadS (hd 1 _ rfl) ?_
  refine loadS (hd 2 _ rfl) ?_
  refine loadS (hd 3 _ rfl) ?_
  refine loadS (hd 4 _ rfl) ?_
  refine loadS (hd 5 _ rfl) ?_
  refine loadS (hd 6 _ rfl) ?_
  refine loadS (hd 7 _ rfl) ?_
  refine callV ok_eqNode (laws_eqNode (k1.ext H.below) (k2.ext H.below) hfg hss) H fun w H => ?_
  refine ifNot ?_
  refine ifT ?_
  refine arN (by omega) ?_
  exact Exists.intro (m - 1) (And.intro (by omega) ⟨rfl, rfl, j + 1, rfl, by omega, H⟩)
theorem eqRNode {fs gs : List NodeG} {A A' : Option Addr} {c c' : Nat} {W : World} (hx : RdNode W (.slice A fs.length c) fs.length fs) (hy : RdNode W (.slice A' gs.length c') gs.length gs) (he : fs.map NodeG.p = gs.map NodeG.p) (hl : fs.length ≤ 4294967296) (hs : ∀ f ∈ fs, SmallNode f) : GivesV Try.prog 38 [.slice A fs.length c, .slice A' gs.length c'] W (.bool true) := by
  have l : gs.length = fs.length := by have := congrArg List.length he; simpa using this.symm
  rw [l] at hy ⊢
  exact laws_eqNodeS hx hy he hl hs
def markNode1 (f : NodeG) (k : Int) : NodeG := ⟨f.leadV, f.keyV, f.textV, f.unitsV, f.tailV, k, markCommentL f.lead (k + 1), decide ((endCommentL f.lead (k + 1)) % 3 = 0), cnt id ((endCommentL f.lead (k + 1)) + 1) f.key.length, cnt (· % 256) (((endCommentL f.lead (k + 1)) + 1) + f.key.length) f.text.length, cnt id ((((endCommentL f.lead (k + 1)) + 1) + f.key.length) + f.text.length) f.units.length, (((((endCommentL f.lead (k + 1)) + 1) + f.key.length) + f.text.length) + f.units.length), markCommentL f.tail ((((((endCommentL f.lead (k + 1)) + 1) + f.key.length) + f.text.length) + f.units.length) + 1)⟩
def nextNode (f : NodeG) (k : Int) : Int := (endCommentL f.tail ((((((endCommentL f.lead (k + 1)) + 1) + f.key.length) + f.text.length) + f.units.length) + 1))
def markNodeL : List NodeG → Int → List NodeG
  | [], _ => []
  | f :: fs, k => markNode1 f k :: markNodeL fs (nextNode f k)
def endNodeL : List NodeG → Int → Int
  | [], k => k
  | f :: fs, k => endNodeL fs (nextNode f k)
theorem markNodeL_len : ∀ (fs : List NodeG) (k : Int), (markNodeL fs k).length = fs.length
  | [], _ => rfl
  | f :: fs, k => by simp [markNodeL, markNodeL_len fs]
def stepsNode (f : NodeG) : Nat := 1 + (f.lead.map stepsComment).sum + 1 + f.key.length + f.text.length + f.units.length + 1 + (f.tail.map stepsComment).sum
theorem nextNode_eq (f : NodeG) (k : Int) : nextNode f k = k + stepsNode f := by
  simp only [nextNode, stepsNode, endCommentL_eq, endCommentL_eq]; omega
theorem endNodeL_eq : ∀ (fs : List NodeG) (k : Int), endNodeL fs k = k + ((fs.map stepsNode).sum : Nat)
  | [], k => by simp [endNodeL]
  | f :: fs, k => by rw [endNodeL, endNodeL_eq fs, nextNode_eq, List.map_cons, List.sum_cons]; omega
theorem markNodeL_app : ∀ (a b : List NodeG) (k : Int), markNodeL (a ++ b) k = markNodeL a k ++ markNodeL b (endNodeL a k)
  | [], b, k => rfl
  | f :: a, b, k => by simp only [List.cons_append, markNodeL, endNodeL, markNodeL_app a b]
theorem endNodeL_snoc : ∀ (fs : List NodeG) (f : NodeG) (k : Int), endNodeL (fs ++ [f]) k = nextNode f (endNodeL fs k)
  | [], f, k => rfl
  | g :: fs, f, k => by simp [endNodeL, endNodeL_snoc fs]
theorem stepsNode_len : ∀ fs : List NodeG, fs.length ≤ (fs.map stepsNode).sum
  | [] => Nat.le_refl _
  | f :: fs => by have := stepsNode_len fs; simp only [List.length_cons, List.map_cons, List.sum_cons, stepsNode]; omega
theorem ok_markNodeS : callOK Try.prog 58 = true := by kernel_rfl
theorem laws_markNodeS {fs : List NodeG} {A : Option Addr} {n c : Nat} {k : Int} (hk : 0 ≤ k) (hb : k + ((fs.map stepsNode).sum : Nat) ≤ 1099511627776) {B : Nat} {W0 w : World} {L : List It} (hn : n = fs.length) (H : St B W0 w (.rowNode (.slice A n c) n fs :: (fs.flatMap NodeG.own ++ L))) :
    Calls Try.prog 58 #[.slice A n c, .int .i64 k] w fun e w' => e = .returned (.int .i64 (endNodeL fs k)) ∧ St B W0 w' (.rowNode (.slice A n c) n (markNodeL fs k) :: ((markNodeL fs k).flatMap NodeG.own ++ L)) := by
  subst hn
  have hlen := stepsNode_len fs
  refine calls_of_vcV (args := [.slice A fs.length c, .int .i64 k]) Try.func58 rfl (by kernel_rfl) (Nat.le_of_ble_eq_true rfl) ?_
  refine loopV (by kernel_rfl) (fun m e w => e 0 = .slice A fs.length c ∧ ∃ (j : Nat) (done rest : List NodeG), e 5 = .int .i64 j ∧ e 1 = .int .i64 (endNodeL done k) ∧ fs = done ++ rest ∧ done.length = j ∧ rest.length = m ∧ St B W0 w (.rowNode (.slice A fs.length c) fs.length (markNodeL done k ++ rest) :: ((markNodeL done k).flatMap NodeG.own ++ (rest.flatMap NodeG.own ++ L)))) fs.length
    ⟨rfl, 0, [], fs, rfl, rfl, rfl, rfl, rfl, H⟩ ?_
  rintro m e w ⟨h0, j, done, rest, h5, h1, hfs, hd, hr, H⟩
  rw [Env.three h0 h5 h1]
  have hfl : fs.length = j + m := by rw [hfs, List.length_append]; omega
  refine ifB (fun h => ?_) (fun h => ?_)
  case refine_2 =>
    obtain rfl : rest = [] := List.length_eq_zero_iff.1 (by omega)
    rw [List.append_nil] at hfs
    subst hfs
    simp only [List.append_nil, List.flatMap_nil, List.nil_append] at H
    exact And.intro rfl H
  cases rest with
  | nil => simp only [List.length_nil] at hr; omega
  | cons f rest =>
    have hes : (fs.map stepsNode).sum = (done.map stepsNode).sum + stepsNode f + (rest.map stepsNode).sum := by
      rw [hfs]; simp only [List.map_append, List.map_cons, List.sum_append, List.sum_cons]; omega
    have hend := endNodeL_eq done k
    obtain ⟨k0, hk0⟩ : ∃ k0, endNodeL done k = k0 := ⟨_, rfl⟩
    have hnx := nextNode_eq f k0
    have hx : (markNodeL done k ++ f :: rest)[j]? = some f := by rw [List.getElem?_append_right (by rw [markNodeL_len]; omega), markNodeL_len, hd, Nat.sub_self]; rfl
    have hsn := endNodeL_snoc done f k
    have hlast : markNodeL (done ++ [f]) k = markNodeL done k ++ [markNode1 f (endNodeL done k)] := by rw [markNodeL_app]; rfl
    rw [hk0] at hend hsn hlast ⊢
    have hf0 : f.Rd w := NodeG.rdo (f := f) H (fun it hit => by simp [hit])
    obtain ⟨b0, rfl, _⟩ := own_cells (H.own 0 rfl) (by omega)
    have hml : (markNodeL done k).length = j := by rw [markNodeL_len, hd]
    obtain ⟨D, hD⟩ : ∃ D, markNodeL done k = D := ⟨_, rfl⟩
    rw [hD] at H hml hlast
    obtain ⟨f1, hf1⟩ : ∃ f1, markNode1 f k0 = f1 := ⟨_, rfl⟩
    rw [hf1] at hlast
    have hfs2 : fs = (done ++ [f]) ++ rest := by rw [hfs]; simp
    obtain ⟨f0, hf00⟩ : ∃ f0, f = f0 := ⟨_, rfl⟩
    rw [hf00] at hfs2 hlast hsn
    obtain ⟨A0, c0, A1, c1, A2, c2, A3, c3, A4, c4, e0, e1, e2, e3, e4⟩ := NodeG.shape hf0
    obtain ⟨leadV, keyV, textV, unitsV, tailV, kind, lead, member, key, text, units, count, tail⟩ := f
    dsimp only at *
    subst e0 e1 e2 e3 e4
    simp only [stepsNode] at hes hnx
    simp only [markNode1] at hf1
    have H : St B W0 w (.rowNode (.slice (some ⟨b0, 0, none⟩) fs.length c) fs.length (D ++ ⟨.slice A0 lead.length c0, .slice A1 key.length c1, .slice A2 text.length c2, .slice A3 units.length c3, .slice A4 tail.length c4, kind, lead, member, key, text, units, count, tail⟩ :: rest) :: ((It.rowComment (.slice A0 lead.length c0) lead.length (lead) :: (lead).flatMap CommentG.own) ++ ([It.row (.slice A1 key.length c1) 3 1 key.length ((key).map (.int .i64))] ++ ([It.row (.slice A2 text.length c2) 5 1 text.length ((text).map (.int .u8))] ++ ([It.row (.slice A3 units.length c3) 3 1 units.length ((units).map (.int .i64))] ++ ((It.rowComment (.slice A4 tail.length c4) tail.length (tail) :: (tail).flatMap CommentG.own) ++ (D.flatMap NodeG.own ++ (rest.flatMap NodeG.own ++ L)))))))) := H.sel (fun q => by simp only [cntL_append, cntL, List.cons_append, List.nil_append, List.set_cons_zero, List.set_cons_succ, List.flatMap_append, List.flatMap_cons, List.flatMap_nil, It.rowB, It.rowI, It.roB, It.roI, NodeG.own, It.rowNode, It.rowComment, It.rowComment]; omega)
    refine idxRow H 0 rfl (by omega) (by omega) fun b1 hA _ => ?_
    cases hA
    refine storeRowN H 0 rfl (j * 8 + 0) (by show 0 + (j : Int).toNat * 8 = _; omega) (by omega) rfl fun w H => ?_
    have H : St B W0 w (.row (.slice (some ⟨b0, 0, none⟩) fs.length c) 67 8 fs.length (((D ++ ⟨.slice A0 lead.length c0, .slice A1 key.length c1, .slice A2 text.length c2, .slice A3 units.length c3, .slice A4 tail.length c4, kind, lead, member, key, text, units, count, tail⟩ :: rest).flatMap NodeG.cells).set (j * 8 + 0) (.int .i64 k0)) :: ((It.rowComment (.slice A0 lead.length c0) lead.length (lead) :: (lead).flatMap CommentG.own) ++ ([It.row (.slice A1 key.length c1) 3 1 key.length ((key).map (.int .i64))] ++ ([It.row (.slice A2 text.length c2) 5 1 text.length ((text).map (.int .u8))] ++ ([It.row (.slice A3 units.length c3) 3 1 units.length ((units).map (.int .i64))] ++ ((It.rowComment (.slice A4 tail.length c4) tail.length (tail) :: (tail).flatMap CommentG.own) ++ (D.flatMap NodeG.own ++ (rest.flatMap NodeG.own ++ L)))))))) := H
    rw [flat_set (v := .int .i64 k0) (x' := ⟨.slice A0 lead.length c0, .slice A1 key.length c1, .slice A2 text.length c2, .slice A3 units.length c3, .slice A4 tail.length c4, k0, lead, member, key, text, units, count, tail⟩) NodeG.cells_len (D ++ ⟨.slice A0 lead.length c0, .slice A1 key.length c1, .slice A2 text.length c2, .slice A3 units.length c3, .slice A4 tail.length c4, kind, lead, member, key, text, units, count, tail⟩ :: rest) j 0 ⟨.slice A0 lead.length c0, .slice A1 key.length c1, .slice A2 text.length c2, .slice A3 units.length c3, .slice A4 tail.length c4, kind, lead, member, key, text, units, count, tail⟩ (get_mid (a := D) (r := rest) (x := ⟨.slice A0 lead.length c0, .slice A1 key.length c1, .slice A2 text.length c2, .slice A3 units.length c3, .slice A4 tail.length c4, kind, lead, member, key, text, units, count, tail⟩) hml) (by decide) rfl, set_mid2 hml] at H
    refine ar64 (by omega) (by omega) ?_
    refine idxC (cells := NodeG.cells) NodeG.cells_len (H.rd 0 rfl) (get_mid (a := D) (r := rest) (x := ⟨.slice A0 lead.length c0, .slice A1 key.length c1, .slice A2 text.length c2, .slice A3 units.length c3, .slice A4 tail.length c4, k0, lead, member, key, text, units, count, tail⟩) hml) (by omega) fun b off hc => ?_
    refine loadS (v := .slice A0 lead.length c0) (hc 1 _ rfl) ?_
    have H : St B W0 w (.rowComment (.slice A0 lead.length c0) lead.length lead :: (lead.flatMap CommentG.own ++ (.rowNode (.slice (some ⟨b0, 0, none⟩) fs.length c) fs.length (D ++ ⟨.slice A0 lead.length c0, .slice A1 key.length c1, .slice A2 text.length c2, .slice A3 units.length c3, .slice A4 tail.length c4, k0, lead, member, key, text, units, count, tail⟩ :: rest) :: ([It.row (.slice A1 key.length c1) 3 1 key.length ((key).map (.int .i64))] ++ ([It.row (.slice A2 text.length c2) 5 1 text.length ((text).map (.int .u8))] ++ ([It.row (.slice A3 units.length c3) 3 1 units.length ((units).map (.int .i64))] ++ ((It.rowComment (.slice A4 tail.length c4) tail.length (tail) :: (tail).flatMap CommentG.own) ++ (D.flatMap NodeG.own ++ (rest.flatMap NodeG.own ++ L))))))))) := H.sel (fun q => by simp only [cntL_append, cntL, List.cons_append, List.nil_append, List.set_cons_zero, List.set_cons_succ, List.flatMap_append, List.flatMap_cons, List.flatMap_nil, It.rowB, It.rowI, It.roB, It.roI, NodeG.own, It.rowNode, It.rowComment, It.rowComment]; omega)
    refine CallS.mk ok_markCommentS ((laws_markCommentS (by omega) (by omega) rfl H).mono ?_)
    rintro _ w1 ⟨rfl, H⟩
    have z1 := endCommentL_eq lead (k0 + 1)
    have ec : (D ++ ⟨.slice A0 lead.length c0, .slice A1 key.length c1, .slice A2 text.length c2, .slice A3 units.length c3, .slice A4 tail.length c4, k0, lead, member, key, text, units, count, tail⟩ :: rest).flatMap NodeG.cells = (D ++ ⟨.slice A0 lead.length c0, .slice A1 key.length c1, .slice A2 text.length c2, .slice A3 units.length c3, .slice A4 tail.length c4, k0, markCommentL lead (k0 + 1), member, key, text, units, count, tail⟩ :: rest).flatMap NodeG.cells := by simp only [List.flatMap_append, List.flatMap_cons]; rfl
    have H : St B W0 w1 (.rowComment (.slice A0 lead.length c0) lead.length (markCommentL lead (k0 + 1)) :: ((markCommentL lead (k0 + 1)).flatMap CommentG.own ++ (.rowNode (.slice (some ⟨b0, 0, none⟩) fs.length c) fs.length (D ++ ⟨.slice A0 lead.length c0, .slice A1 key.length c1, .slice A2 text.length c2, .slice A3 units.length c3, .slice A4 tail.length c4, k0, lead, member, key, text, units, count, tail⟩ :: rest) :: ([It.row (.slice A1 key.length c1) 3 1 key.length ((key).map (.int .i64))] ++ ([It.row (.slice A2 text.length c2) 5 1 text.length ((text).map (.int .u8))] ++ ([It.row (.slice A3 units.length c3) 3 1 units.length ((units).map (.int .i64))] ++ ((It.rowComment (.slice A4 tail.length c4) tail.length (tail) :: (tail).flatMap CommentG.own) ++ (D.flatMap NodeG.own ++ (rest.flatMap NodeG.own ++ L))))))))) := H
    unfold It.rowNode at H
    rw [ec] at H
    have H : St B W0 w1 (.rowNode (.slice (some ⟨b0, 0, none⟩) fs.length c) fs.length (D ++ ⟨.slice A0 lead.length c0, .slice A1 key.length c1, .slice A2 text.length c2, .slice A3 units.length c3, .slice A4 tail.length c4, k0, markCommentL lead (k0 + 1), member, key, text, units, count, tail⟩ :: rest) :: ((It.rowComment (.slice A0 lead.length c0) lead.length (markCommentL lead (k0 + 1)) :: (markCommentL lead (k0 + 1)).flatMap CommentG.own) ++ ([It.row (.slice A1 key.length c1) 3 1 key.length ((key).map (.int .i64))] ++ ([It.row (.slice A2 text.length c2) 5 1 text.length ((text).map (.int .u8))] ++ ([It.row (.slice A3 units.length c3) 3 1 units.length ((units).map (.int .i64))] ++ ((It.rowComment (.slice A4 tail.length c4) tail.length (tail) :: (tail).flatMap CommentG.own) ++ (D.flatMap NodeG.own ++ (rest.flatMap NodeG.own ++ L)))))))) := H.sel (fun q => by simp only [cntL_append, cntL, List.cons_append, List.nil_append, List.set_cons_zero, List.set_cons_succ, List.flatMap_append, List.flatMap_cons, List.flatMap_nil, It.rowB, It.rowI, It.roB, It.roI, NodeG.own, It.rowNode, It.rowComment, It.rowComment]; omega)
    refine rem0 (by omega) (by omega) ?_
    refine idxRow H 0 rfl (by omega) (by omega) fun b1 hA _ => ?_
    cases hA
    refine storeRowN H 0 rfl (j * 8 + 2) (by show 0 + (j : Int).toNat * 8 + 2 = _; omega) (by omega) rfl fun w H => ?_
    have H : St B W0 w (.row (.slice (some ⟨b0, 0, none⟩) fs.length c) 67 8 fs.length (((D ++ ⟨.slice A0 lead.length c0, .slice A1 key.length c1, .slice A2 text.length c2, .slice A3 units.length c3, .slice A4 tail.length c4, k0, markCommentL lead (k0 + 1), member, key, text, units, count, tail⟩ :: rest).flatMap NodeG.cells).set (j * 8 + 2) (.bool (decide ((endCommentL lead (k0 + 1)) % 3 = 0)))) :: ((It.rowComment (.slice A0 lead.length c0) lead.length (markCommentL lead (k0 + 1)) :: (markCommentL lead (k0 + 1)).flatMap CommentG.own) ++ ([It.row (.slice A1 key.length c1) 3 1 key.length ((key).map (.int .i64))] ++ ([It.row (.slice A2 text.length c2) 5 1 text.length ((text).map (.int .u8))] ++ ([It.row (.slice A3 units.length c3) 3 1 units.length ((units).map (.int .i64))] ++ ((It.rowComment (.slice A4 tail.length c4) tail.length (tail) :: (tail).flatMap CommentG.own) ++ (D.flatMap NodeG.own ++ (rest.flatMap NodeG.own ++ L)))))))) := H
    rw [flat_set (v := .bool (decide ((endCommentL lead (k0 + 1)) % 3 = 0))) (x' := ⟨.slice A0 lead.length c0, .slice A1 key.length c1, .slice A2 text.length c2, .slice A3 units.length c3, .slice A4 tail.length c4, k0, markCommentL lead (k0 + 1), (decide ((endCommentL lead (k0 + 1)) % 3 = 0)), key, text, units, count, tail⟩) NodeG.cells_len (D ++ ⟨.slice A0 lead.length c0, .slice A1 key.length c1, .slice A2 text.length c2, .slice A3 units.length c3, .slice A4 tail.length c4, k0, markCommentL lead (k0 + 1), member, key, text, units, count, tail⟩ :: rest) j 2 ⟨.slice A0 lead.length c0, .slice A1 key.length c1, .slice A2 text.length c2, .slice A3 units.length c3, .slice A4 tail.length c4, k0, markCommentL lead (k0 + 1), member, key, text, units, count, tail⟩ (get_mid (a := D) (r := rest) (x := ⟨.slice A0 lead.length c0, .slice A1 key.length c1, .slice A2 text.length c2, .slice A3 units.length c3, .slice A4 tail.length c4, k0, markCommentL lead (k0 + 1), member, key, text, units, count, tail⟩) hml) (by decide) rfl, set_mid2 hml] at H
    refine ar64 (by omega) (by omega) ?_
    refine idxC (cells := NodeG.cells) NodeG.cells_len (H.rd 0 rfl) (get_mid (a := D) (r := rest) (x := ⟨.slice A0 lead.length c0, .slice A1 key.length c1, .slice A2 text.length c2, .slice A3 units.length c3, .slice A4 tail.length c4, k0, markCommentL lead (k0 + 1), (decide ((endCommentL lead (k0 + 1)) % 3 = 0)), key, text, units, count, tail⟩) hml) (by omega) fun b off hc => ?_
    refine loadS (v := .slice A1 key.length c1) (hc 3 _ rfl) ?_
    have H : St B W0 w (.rowI (.slice A1 key.length c1) key :: (.rowNode (.slice (some ⟨b0, 0, none⟩) fs.length c) fs.length (D ++ ⟨.slice A0 lead.length c0, .slice A1 key.length c1, .slice A2 text.length c2, .slice A3 units.length c3, .slice A4 tail.length c4, k0, markCommentL lead (k0 + 1), (decide ((endCommentL lead (k0 + 1)) % 3 = 0)), key, text, units, count, tail⟩ :: rest) :: ((It.rowComment (.slice A0 lead.length c0) lead.length (markCommentL lead (k0 + 1)) :: (markCommentL lead (k0 + 1)).flatMap CommentG.own) ++ ([It.row (.slice A2 text.length c2) 5 1 text.length ((text).map (.int .u8))] ++ ([It.row (.slice A3 units.length c3) 3 1 units.length ((units).map (.int .i64))] ++ ((It.rowComment (.slice A4 tail.length c4) tail.length (tail) :: (tail).flatMap CommentG.own) ++ (D.flatMap NodeG.own ++ (rest.flatMap NodeG.own ++ L)))))))) := H.sel (fun q => by simp only [cntL_append, cntL, List.cons_append, List.nil_append, List.set_cons_zero, List.set_cons_succ, List.flatMap_append, List.flatMap_cons, List.flatMap_nil, It.rowB, It.rowI, It.roB, It.roI, NodeG.own, It.rowNode, It.rowComment, It.rowComment]; omega)
    refine markI_call H rfl (by omega) (by omega) fun w H => ?_
    have ec : (D ++ ⟨.slice A0 lead.length c0, .slice A1 key.length c1, .slice A2 text.length c2, .slice A3 units.length c3, .slice A4 tail.length c4, k0, markCommentL lead (k0 + 1), (decide ((endCommentL lead (k0 + 1)) % 3 = 0)), key, text, units, count, tail⟩ :: rest).flatMap NodeG.cells = (D ++ ⟨.slice A0 lead.length c0, .slice A1 key.length c1, .slice A2 text.length c2, .slice A3 units.length c3, .slice A4 tail.length c4, k0, markCommentL lead (k0 + 1), (decide ((endCommentL lead (k0 + 1)) % 3 = 0)), cnt id ((endCommentL lead (k0 + 1)) + 1) key.length, text, units, count, tail⟩ :: rest).flatMap NodeG.cells := by simp only [List.flatMap_append, List.flatMap_cons]; rfl
    have H : St B W0 w (.rowI (.slice A1 key.length c1) (cnt id ((endCommentL lead (k0 + 1)) + 1) key.length) :: (.rowNode (.slice (some ⟨b0, 0, none⟩) fs.length c) fs.length (D ++ ⟨.slice A0 lead.length c0, .slice A1 key.length c1, .slice A2 text.length c2, .slice A3 units.length c3, .slice A4 tail.length c4, k0, markCommentL lead (k0 + 1), (decide ((endCommentL lead (k0 + 1)) % 3 = 0)), key, text, units, count, tail⟩ :: rest) :: ((It.rowComment (.slice A0 lead.length c0) lead.length (markCommentL lead (k0 + 1)) :: (markCommentL lead (k0 + 1)).flatMap CommentG.own) ++ ([It.row (.slice A2 text.length c2) 5 1 text.length ((text).map (.int .u8))] ++ ([It.row (.slice A3 units.length c3) 3 1 units.length ((units).map (.int .i64))] ++ ((It.rowComment (.slice A4 tail.length c4) tail.length (tail) :: (tail).flatMap CommentG.own) ++ (D.flatMap NodeG.own ++ (rest.flatMap NodeG.own ++ L)))))))) := H
    unfold It.rowI It.rowNode at H
    rw [cnt_len, ec] at H
    have H : St B W0 w (.rowNode (.slice (some ⟨b0, 0, none⟩) fs.length c) fs.length (D ++ ⟨.slice A0 lead.length c0, .slice A1 key.length c1, .slice A2 text.length c2, .slice A3 units.length c3, .slice A4 tail.length c4, k0, markCommentL lead (k0 + 1), (decide ((endCommentL lead (k0 + 1)) % 3 = 0)), cnt id ((endCommentL lead (k0 + 1)) + 1) key.length, text, units, count, tail⟩ :: rest) :: ((It.rowComment (.slice A0 lead.length c0) lead.length (markCommentL lead (k0 + 1)) :: (markCommentL lead (k0 + 1)).flatMap CommentG.own) ++ ([It.row (.slice A1 key.length c1) 3 1 key.length ((cnt id ((endCommentL lead (k0 + 1)) + 1) key.length).map (.int .i64))] ++ ([It.row (.slice A2 text.length c2) 5 1 text.length ((text).map (.int .u8))] ++ ([It.row (.slice A3 units.length c3) 3 1 units.length ((units).map (.int .i64))] ++ ((It.rowComment (.slice A4 tail.length c4) tail.length (tail) :: (tail).flatMap CommentG.own) ++ (D.flatMap NodeG.own ++ (rest.flatMap NodeG.own ++ L)))))))) := H.sel (fun q => by simp only [cntL_append, cntL, List.cons_append, List.nil_append, List.set_cons_zero, List.set_cons_succ, List.flatMap_append, List.flatMap_cons, List.flatMap_nil, It.rowB, It.rowI, It.roB, It.roI, NodeG.own, It.rowNode, It.rowComment, It.rowComment]; omega)
    refine idxC (cells := NodeG.cells) NodeG.cells_len (H.rd 0 rfl) (get_mid (a := D) (r := rest) (x := ⟨.slice A0 lead.length c0, .slice A1 key.length c1, .slice A2 text.length c2, .slice A3 units.length c3, .slice A4 tail.length c4, k0, markCommentL lead (k0 + 1), (decide ((endCommentL lead (k0 + 1)) % 3 = 0)), cnt id ((endCommentL lead (k0 + 1)) + 1) key.length, text, units, count, tail⟩) hml) (by omega) fun b off hc => ?_
    refine loadS (v := .slice A2 text.length c2) (hc 4 _ rfl) ?_
    have H : St B W0 w (.rowB (.slice A2 text.length c2) text :: (.rowNode (.slice (some ⟨b0, 0, none⟩) fs.length c) fs.length (D ++ ⟨.slice A0 lead.length c0, .slice A1 key.length c1, .slice A2 text.length c2, .slice A3 units.length c3, .slice A4 tail.length c4, k0, markCommentL lead (k0 + 1), (decide ((endCommentL lead (k0 + 1)) % 3 = 0)), cnt id ((endCommentL lead (k0 + 1)) + 1) key.length, text, units, count, tail⟩ :: rest) :: ((It.rowComment (.slice A0 lead.length c0) lead.length (markCommentL lead (k0 + 1)) :: (markCommentL lead (k0 + 1)).flatMap CommentG.own) ++ ([It.row (.slice A1 key.length c1) 3 1 key.length ((cnt id ((endCommentL lead (k0 + 1)) + 1) key.length).map (.int .i64))] ++ ([It.row (.slice A3 units.length c3) 3 1 units.length ((units).map (.int .i64))] ++ ((It.rowComment (.slice A4 tail.length c4) tail.length (tail) :: (tail).flatMap CommentG.own) ++ (D.flatMap NodeG.own ++ (rest.flatMap NodeG.own ++ L)))))))) := H.sel (fun q => by simp only [cntL_append, cntL, List.cons_append, List.nil_append, List.set_cons_zero, List.set_cons_succ, List.flatMap_append, List.flatMap_cons, List.flatMap_nil, It.rowB, It.rowI, It.roB, It.roI, NodeG.own, It.rowNode, It.rowComment, It.rowComment]; omega)
    refine markB_call H rfl (by omega) (by omega) fun w H => ?_
    have ec : (D ++ ⟨.slice A0 lead.length c0, .slice A1 key.length c1, .slice A2 text.length c2, .slice A3 units.length c3, .slice A4 tail.length c4, k0, markCommentL lead (k0 + 1), (decide ((endCommentL lead (k0 + 1)) % 3 = 0)), cnt id ((endCommentL lead (k0 + 1)) + 1) key.length, text, units, count, tail⟩ :: rest).flatMap NodeG.cells = (D ++ ⟨.slice A0 lead.length c0, .slice A1 key.length c1, .slice A2 text.length c2, .slice A3 units.length c3, .slice A4 tail.length c4, k0, markCommentL lead (k0 + 1), (decide ((endCommentL lead (k0 + 1)) % 3 = 0)), cnt id ((endCommentL lead (k0 + 1)) + 1) key.length, cnt (· % 256) (((endCommentL lead (k0 + 1)) + 1) + key.length) text.length, units, count, tail⟩ :: rest).flatMap NodeG.cells := by simp only [List.flatMap_append, List.flatMap_cons]; rfl
    have H : St B W0 w (.rowB (.slice A2 text.length c2) (cnt (· % 256) (((endCommentL lead (k0 + 1)) + 1) + key.length) text.length) :: (.rowNode (.slice (some ⟨b0, 0, none⟩) fs.length c) fs.length (D ++ ⟨.slice A0 lead.length c0, .slice A1 key.length c1, .slice A2 text.length c2, .slice A3 units.length c3, .slice A4 tail.length c4, k0, markCommentL lead (k0 + 1), (decide ((endCommentL lead (k0 + 1)) % 3 = 0)), cnt id ((endCommentL lead (k0 + 1)) + 1) key.length, text, units, count, tail⟩ :: rest) :: ((It.rowComment (.slice A0 lead.length c0) lead.length (markCommentL lead (k0 + 1)) :: (markCommentL lead (k0 + 1)).flatMap CommentG.own) ++ ([It.row (.slice A1 key.length c1) 3 1 key.length ((cnt id ((endCommentL lead (k0 + 1)) + 1) key.length).map (.int .i64))] ++ ([It.row (.slice A3 units.length c3) 3 1 units.length ((units).map (.int .i64))] ++ ((It.rowComment (.slice A4 tail.length c4) tail.length (tail) :: (tail).flatMap CommentG.own) ++ (D.flatMap NodeG.own ++ (rest.flatMap NodeG.own ++ L)))))))) := H
    unfold It.rowB It.rowNode at H
    rw [cnt_len, ec] at H
    have H : St B W0 w (.rowNode (.slice (some ⟨b0, 0, none⟩) fs.length c) fs.length (D ++ ⟨.slice A0 lead.length c0, .slice A1 key.length c1, .slice A2 text.length c2, .slice A3 units.length c3, .slice A4 tail.length c4, k0, markCommentL lead (k0 + 1), (decide ((endCommentL lead (k0 + 1)) % 3 = 0)), cnt id ((endCommentL lead (k0 + 1)) + 1) key.length, cnt (· % 256) (((endCommentL lead (k0 + 1)) + 1) + key.length) text.length, units, count, tail⟩ :: rest) :: ((It.rowComment (.slice A0 lead.length c0) lead.length (markCommentL lead (k0 + 1)) :: (markCommentL lead (k0 + 1)).flatMap CommentG.own) ++ ([It.row (.slice A1 key.length c1) 3 1 key.length ((cnt id ((endCommentL lead (k0 + 1)) + 1) key.length).map (.int .i64))] ++ ([It.row (.slice A2 text.length c2) 5 1 text.length ((cnt (· % 256) (((endCommentL lead (k0 + 1)) + 1) + key.length) text.length).map (.int .u8))] ++ ([It.row (.slice A3 units.length c3) 3 1 units.length ((units).map (.int .i64))] ++ ((It.rowComment (.slice A4 tail.length c4) tail.length (tail) :: (tail).flatMap CommentG.own) ++ (D.flatMap NodeG.own ++ (rest.flatMap NodeG.own ++ L)))))))) := H.sel (fun q => by simp only [cntL_append, cntL, List.cons_append, List.nil_append, List.set_cons_zero, List.set_cons_succ, List.flatMap_append, List.flatMap_cons, List.flatMap_nil, It.rowB, It.rowI, It.roB, It.roI, NodeG.own, It.rowNode, It.rowComment, It.rowComment]; omega)
    refine idxC (cells := NodeG.cells) NodeG.cells_len (H.rd 0 rfl) (get_mid (a := D) (r := rest) (x := ⟨.slice A0 lead.length c0, .slice A1 key.length c1, .slice A2 text.length c2, .slice A3 units.length c3, .slice A4 tail.length c4, k0, markCommentL lead (k0 + 1), (decide ((endCommentL lead (k0 + 1)) % 3 = 0)), cnt id ((endCommentL lead (k0 + 1)) + 1) key.length, cnt (· % 256) (((endCommentL lead (k0 + 1)) + 1) + key.length) text.length, units, count, tail⟩) hml) (by omega) fun b off hc => ?_
    refine loadS (v := .slice A3 units.length c3) (hc 5 _ rfl) ?_
    have H : St B W0 w (.rowI (.slice A3 units.length c3) units :: (.rowNode (.slice (some ⟨b0, 0, none⟩) fs.length c) fs.length (D ++ ⟨.slice A0 lead.length c0, .slice A1 key.length c1, .slice A2 text.length c2, .slice A3 units.length c3, .slice A4 tail.length c4, k0, markCommentL lead (k0 + 1), (decide ((endCommentL lead (k0 + 1)) % 3 = 0)), cnt id ((endCommentL lead (k0 + 1)) + 1) key.length, cnt (· % 256) (((endCommentL lead (k0 + 1)) + 1) + key.length) text.length, units, count, tail⟩ :: rest) :: ((It.rowComment (.slice A0 lead.length c0) lead.length (markCommentL lead (k0 + 1)) :: (markCommentL lead (k0 + 1)).flatMap CommentG.own) ++ ([It.row (.slice A1 key.length c1) 3 1 key.length ((cnt id ((endCommentL lead (k0 + 1)) + 1) key.length).map (.int .i64))] ++ ([It.row (.slice A2 text.length c2) 5 1 text.length ((cnt (· % 256) (((endCommentL lead (k0 + 1)) + 1) + key.length) text.length).map (.int .u8))] ++ ((It.rowComment (.slice A4 tail.length c4) tail.length (tail) :: (tail).flatMap CommentG.own) ++ (D.flatMap NodeG.own ++ (rest.flatMap NodeG.own ++ L)))))))) := H.sel (fun q => by simp only [cntL_append, cntL, List.cons_append, List.nil_append, List.set_cons_zero, List.set_cons_succ, List.flatMap_append, List.flatMap_cons, List.flatMap_nil, It.rowB, It.rowI, It.roB, It.roI, NodeG.own, It.rowNode, It.rowComment, It.rowComment]; omega)
    refine markI_call H rfl (by omega) (by omega) fun w H => ?_
    have ec : (D ++ ⟨.slice A0 lead.length c0, .slice A1 key.length c1, .slice A2 text.length c2, .slice A3 units.length c3, .slice A4 tail.length c4, k0, markCommentL lead (k0 + 1), (decide ((endCommentL lead (k0 + 1)) % 3 = 0)), cnt id ((endCommentL lead (k0 + 1)) + 1) key.length, cnt (· % 256) (((endCommentL lead (k0 + 1)) + 1) + key.length) text.length, units, count, tail⟩ :: rest).flatMap NodeG.cells = (D ++ ⟨.slice A0 lead.length c0, .slice A1 key.length c1, .slice A2 text.length c2, .slice A3 units.length c3, .slice A4 tail.length c4, k0, markCommentL lead (k0 + 1), (decide ((endCommentL lead (k0 + 1)) % 3 = 0)), cnt id ((endCommentL lead (k0 + 1)) + 1) key.length, cnt (· % 256) (((endCommentL lead (k0 + 1)) + 1) + key.length) text.length, cnt id ((((endCommentL lead (k0 + 1)) + 1) + key.length) + text.length) units.length, count, tail⟩ :: rest).flatMap NodeG.cells := by simp only [List.flatMap_append, List.flatMap_cons]; rfl
    have H : St B W0 w (.rowI (.slice A3 units.length c3) (cnt id ((((endCommentL lead (k0 + 1)) + 1) + key.length) + text.length) units.length) :: (.rowNode (.slice (some ⟨b0, 0, none⟩) fs.length c) fs.length (D ++ ⟨.slice A0 lead.length c0, .slice A1 key.length c1, .slice A2 text.length c2, .slice A3 units.length c3, .slice A4 tail.length c4, k0, markCommentL lead (k0 + 1), (decide ((endCommentL lead (k0 + 1)) % 3 = 0)), cnt id ((endCommentL lead (k0 + 1)) + 1) key.length, cnt (· % 256) (((endCommentL lead (k0 + 1)) + 1) + key.length) text.length, units, count, tail⟩ :: rest) :: ((It.rowComment (.slice A0 lead.length c0) lead.length (markCommentL lead (k0 + 1)) :: (markCommentL lead (k0 + 1)).flatMap CommentG.own) ++ ([It.row (.slice A1 key.length c1) 3 1 key.length ((cnt id ((endCommentL lead (k0 + 1)) + 1) key.length).map (.int .i64))] ++ ([It.row (.slice A2 text.length c2) 5 1 text.length ((cnt (· % 256) (((endCommentL lead (k0 + 1)) + 1) + key.length) text.length).map (.int .u8))] ++ ((It.rowComment (.slice A4 tail.length c4) tail.length (tail) :: (tail).flatMap CommentG.own) ++ (D.flatMap NodeG.own ++ (rest.flatMap NodeG.own ++ L)))))))) := H
    unfold It.rowI It.rowNode at H
    rw [cnt_len, ec] at H
    have H : St B W0 w (.rowNode (.slice (some ⟨b0, 0, none⟩) fs.length c) fs.length (D ++ ⟨.slice A0 lead.length c0, .slice A1 key.length c1, .slice A2 text.length c2, .slice A3 units.length c3, .slice A4 tail.length c4, k0, markCommentL lead (k0 + 1), (decide ((endCommentL lead (k0 + 1)) % 3 = 0)), cnt id ((endCommentL lead (k0 + 1)) + 1) key.length, cnt (· % 256) (((endCommentL lead (k0 + 1)) + 1) + key.length) text.length, cnt id ((((endCommentL lead (k0 + 1)) + 1) + key.length) + text.length) units.length, count, tail⟩ :: rest) :: ((It.rowComment (.slice A0 lead.length c0) lead.length (markCommentL lead (k0 + 1)) :: (markCommentL lead (k0 + 1)).flatMap CommentG.own) ++ ([It.row (.slice A1 key.length c1) 3 1 key.length ((cnt id ((endCommentL lead (k0 + 1)) + 1) key.length).map (.int .i64))] ++ ([It.row (.slice A2 text.length c2) 5 1 text.length ((cnt (· % 256) (((endCommentL lead (k0 + 1)) + 1) + key.length) text.length).map (.int .u8))] ++ ([It.row (.slice A3 units.length c3) 3 1 units.length ((cnt id ((((endCommentL lead (k0 + 1)) + 1) + key.length) + text.length) units.length).map (.int .i64))] ++ ((It.rowComment (.slice A4 tail.length c4) tail.length (tail) :: (tail).flatMap CommentG.own) ++ (D.flatMap NodeG.own ++ (rest.flatMap NodeG.own ++ L)))))))) := H.sel (fun q => by simp only [cntL_append, cntL, List.cons_append, List.nil_append, List.set_cons_zero, List.set_cons_succ, List.flatMap_append, List.flatMap_cons, List.flatMap_nil, It.rowB, It.rowI, It.roB, It.roI, NodeG.own, It.rowNode, It.rowComment, It.rowComment]; omega)
    refine idxRow H 0 rfl (by omega) (by omega) fun b1 hA _ => ?_
    cases hA
    refine storeRowN H 0 rfl (j * 8 + 6) (by show 0 + (j : Int).toNat * 8 + 6 = _; omega) (by omega) rfl fun w H => ?_
    have H : St B W0 w (.row (.slice (some ⟨b0, 0, none⟩) fs.length c) 67 8 fs.length (((D ++ ⟨.slice A0 lead.length c0, .slice A1 key.length c1, .slice A2 text.length c2, .slice A3 units.length c3, .slice A4 tail.length c4, k0, markCommentL lead (k0 + 1), (decide ((endCommentL lead (k0 + 1)) % 3 = 0)), cnt id ((endCommentL lead (k0 + 1)) + 1) key.length, cnt (· % 256) (((endCommentL lead (k0 + 1)) + 1) + key.length) text.length, cnt id ((((endCommentL lead (k0 + 1)) + 1) + key.length) + text.length) units.length, count, tail⟩ :: rest).flatMap NodeG.cells).set (j * 8 + 6) (.int .i64 (((((endCommentL lead (k0 + 1)) + 1) + key.length) + text.length) + units.length))) :: ((It.rowComment (.slice A0 lead.length c0) lead.length (markCommentL lead (k0 + 1)) :: (markCommentL lead (k0 + 1)).flatMap CommentG.own) ++ ([It.row (.slice A1 key.length c1) 3 1 key.length ((cnt id ((endCommentL lead (k0 + 1)) + 1) key.length).map (.int .i64))] ++ ([It.row (.slice A2 text.length c2) 5 1 text.length ((cnt (· % 256) (((endCommentL lead (k0 + 1)) + 1) + key.length) text.length).map (.int .u8))] ++ ([It.row (.slice A3 units.length c3) 3 1 units.length ((cnt id ((((endCommentL lead (k0 + 1)) + 1) + key.length) + text.length) units.length).map (.int .i64))] ++ ((It.rowComment (.slice A4 tail.length c4) tail.length (tail) :: (tail).flatMap CommentG.own) ++ (D.flatMap NodeG.own ++ (rest.flatMap NodeG.own ++ L)))))))) := H
    rw [flat_set (v := .int .i64 (((((endCommentL lead (k0 + 1)) + 1) + key.length) + text.length) + units.length)) (x' := ⟨.slice A0 lead.length c0, .slice A1 key.length c1, .slice A2 text.length c2, .slice A3 units.length c3, .slice A4 tail.length c4, k0, markCommentL lead (k0 + 1), (decide ((endCommentL lead (k0 + 1)) % 3 = 0)), cnt id ((endCommentL lead (k0 + 1)) + 1) key.length, cnt (· % 256) (((endCommentL lead (k0 + 1)) + 1) + key.length) text.length, cnt id ((((endCommentL lead (k0 + 1)) + 1) + key.length) + text.length) units.length, (((((endCommentL lead (k0 + 1)) + 1) + key.length) + text.length) + units.length), tail⟩) NodeG.cells_len (D ++ ⟨.slice A0 lead.length c0, .slice A1 key.length c1, .slice A2 text.length c2, .slice A3 units.length c3, .slice A4 tail.length c4, k0, markCommentL lead (k0 + 1), (decide ((endCommentL lead (k0 + 1)) % 3 = 0)), cnt id ((endCommentL lead (k0 + 1)) + 1) key.length, cnt (· % 256) (((endCommentL lead (k0 + 1)) + 1) + key.length) text.length, cnt id ((((endCommentL lead (k0 + 1)) + 1) + key.length) + text.length) units.length, count, tail⟩ :: rest) j 6 ⟨.slice A0 lead.length c0, .slice A1 key.length c1, .slice A2 text.length c2, .slice A3 units.length c3, .slice A4 tail.length c4, k0, markCommentL lead (k0 + 1), (decide ((endCommentL lead (k0 + 1)) % 3 = 0)), cnt id ((endCommentL lead (k0 + 1)) + 1) key.length, cnt (· % 256) (((endCommentL lead (k0 + 1)) + 1) + key.length) text.length, cnt id ((((endCommentL lead (k0 + 1)) + 1) + key.length) + text.length) units.length, count, tail⟩ (get_mid (a := D) (r := rest) (x := ⟨.slice A0 lead.length c0, .slice A1 key.length c1, .slice A2 text.length c2, .slice A3 units.length c3, .slice A4 tail.length c4, k0, markCommentL lead (k0 + 1), (decide ((endCommentL lead (k0 + 1)) % 3 = 0)), cnt id ((endCommentL lead (k0 + 1)) + 1) key.length, cnt (· % 256) (((endCommentL lead (k0 + 1)) + 1) + key.length) text.length, cnt id ((((endCommentL lead (k0 + 1)) + 1) + key.length) + text.length) units.length, count, tail⟩) hml) (by decide) rfl, set_mid2 hml] at H
    refine ar64 (by omega) (by omega) ?_
    refine idxC (cells := NodeG.cells) NodeG.cells_len (H.rd 0 rfl) (get_mid (a := D) (r := rest) (x := ⟨.slice A0 lead.length c0, .slice A1 key.length c1, .slice A2 text.length c2, .slice A3 units.length c3, .slice A4 tail.length c4, k0, markCommentL lead (k0 + 1), (decide ((endCommentL lead (k0 + 1)) % 3 = 0)), cnt id ((endCommentL lead (k0 + 1)) + 1) key.length, cnt (· % 256) (((endCommentL lead (k0 + 1)) + 1) + key.length) text.length, cnt id ((((endCommentL lead (k0 + 1)) + 1) + key.length) + text.length) units.length, (((((endCommentL lead (k0 + 1)) + 1) + key.length) + text.length) + units.length), tail⟩) hml) (by omega) fun b off hc => ?_
    refine loadS (v := .slice A4 tail.length c4) (hc 7 _ rfl) ?_
    have H : St B W0 w (.rowComment (.slice A4 tail.length c4) tail.length tail :: (tail.flatMap CommentG.own ++ (.rowNode (.slice (some ⟨b0, 0, none⟩) fs.length c) fs.length (D ++ ⟨.slice A0 lead.length c0, .slice A1 key.length c1, .slice A2 text.length c2, .slice A3 units.length c3, .slice A4 tail.length c4, k0, markCommentL lead (k0 + 1), (decide ((endCommentL lead (k0 + 1)) % 3 = 0)), cnt id ((endCommentL lead (k0 + 1)) + 1) key.length, cnt (· % 256) (((endCommentL lead (k0 + 1)) + 1) + key.length) text.length, cnt id ((((endCommentL lead (k0 + 1)) + 1) + key.length) + text.length) units.length, (((((endCommentL lead (k0 + 1)) + 1) + key.length) + text.length) + units.length), tail⟩ :: rest) :: ((It.rowComment (.slice A0 lead.length c0) lead.length (markCommentL lead (k0 + 1)) :: (markCommentL lead (k0 + 1)).flatMap CommentG.own) ++ ([It.row (.slice A1 key.length c1) 3 1 key.length ((cnt id ((endCommentL lead (k0 + 1)) + 1) key.length).map (.int .i64))] ++ ([It.row (.slice A2 text.length c2) 5 1 text.length ((cnt (· % 256) (((endCommentL lead (k0 + 1)) + 1) + key.length) text.length).map (.int .u8))] ++ ([It.row (.slice A3 units.length c3) 3 1 units.length ((cnt id ((((endCommentL lead (k0 + 1)) + 1) + key.length) + text.length) units.length).map (.int .i64))] ++ (D.flatMap NodeG.own ++ (rest.flatMap NodeG.own ++ L))))))))) := H.sel (fun q => by simp only [cntL_append, cntL, List.cons_append, List.nil_append, List.set_cons_zero, List.set_cons_succ, List.flatMap_append, List.flatMap_cons, List.flatMap_nil, It.rowB, It.rowI, It.roB, It.roI, NodeG.own, It.rowNode, It.rowComment, It.rowComment]; omega)
    refine CallS.mk ok_markCommentS ((laws_markCommentS (by omega) (by omega) rfl H).mono ?_)
    rintro _ w7 ⟨rfl, H⟩
    have z7 := endCommentL_eq tail ((((((endCommentL lead (k0 + 1)) + 1) + key.length) + text.length) + units.length) + 1)
    have ec : (D ++ ⟨.slice A0 lead.length c0, .slice A1 key.length c1, .slice A2 text.length c2, .slice A3 units.length c3, .slice A4 tail.length c4, k0, markCommentL lead (k0 + 1), (decide ((endCommentL lead (k0 + 1)) % 3 = 0)), cnt id ((endCommentL lead (k0 + 1)) + 1) key.length, cnt (· % 256) (((endCommentL lead (k0 + 1)) + 1) + key.length) text.length, cnt id ((((endCommentL lead (k0 + 1)) + 1) + key.length) + text.length) units.length, (((((endCommentL lead (k0 + 1)) + 1) + key.length) + text.length) + units.length), tail⟩ :: rest).flatMap NodeG.cells = (D ++ ⟨.slice A0 lead.length c0, .slice A1 key.length c1, .slice A2 text.length c2, .slice A3 units.length c3, .slice A4 tail.length c4, k0, markCommentL lead (k0 + 1), (decide ((endCommentL lead (k0 + 1)) % 3 = 0)), cnt id ((endCommentL lead (k0 + 1)) + 1) key.length, cnt (· % 256) (((endCommentL lead (k0 + 1)) + 1) + key.length) text.length, cnt id ((((endCommentL lead (k0 + 1)) + 1) + key.length) + text.length) units.length, (((((endCommentL lead (k0 + 1)) + 1) + key.length) + text.length) + units.length), markCommentL tail ((((((endCommentL lead (k0 + 1)) + 1) + key.length) + text.length) + units.length) + 1)⟩ :: rest).flatMap NodeG.cells := by simp only [List.flatMap_append, List.flatMap_cons]; rfl
    have H : St B W0 w7 (.rowComment (.slice A4 tail.length c4) tail.length (markCommentL tail ((((((endCommentL lead (k0 + 1)) + 1) + key.length) + text.length) + units.length) + 1)) :: ((markCommentL tail ((((((endCommentL lead (k0 + 1)) + 1) + key.length) + text.length) + units.length) + 1)).flatMap CommentG.own ++ (.rowNode (.slice (some ⟨b0, 0, none⟩) fs.length c) fs.length (D ++ ⟨.slice A0 lead.length c0, .slice A1 key.length c1, .slice A2 text.length c2, .slice A3 units.length c3, .slice A4 tail.length c4, k0, markCommentL lead (k0 + 1), (decide ((endCommentL lead (k0 + 1)) % 3 = 0)), cnt id ((endCommentL lead (k0 + 1)) + 1) key.length, cnt (· % 256) (((endCommentL lead (k0 + 1)) + 1) + key.length) text.length, cnt id ((((endCommentL lead (k0 + 1)) + 1) + key.length) + text.length) units.length, (((((endCommentL lead (k0 + 1)) + 1) + key.length) + text.length) + units.length), tail⟩ :: rest) :: ((It.rowComment (.slice A0 lead.length c0) lead.length (markCommentL lead (k0 + 1)) :: (markCommentL lead (k0 + 1)).flatMap CommentG.own) ++ ([It.row (.slice A1 key.length c1) 3 1 key.length ((cnt id ((endCommentL lead (k0 + 1)) + 1) key.length).map (.int .i64))] ++ ([It.row (.slice A2 text.length c2) 5 1 text.length ((cnt (· % 256) (((endCommentL lead (k0 + 1)) + 1) + key.length) text.length).map (.int .u8))] ++ ([It.row (.slice A3 units.length c3) 3 1 units.length ((cnt id ((((endCommentL lead (k0 + 1)) + 1) + key.length) + text.length) units.length).map (.int .i64))] ++ (D.flatMap NodeG.own ++ (rest.flatMap NodeG.own ++ L))))))))) := H
    unfold It.rowNode at H
    rw [ec] at H
    have H : St B W0 w7 (.rowNode (.slice (some ⟨b0, 0, none⟩) fs.length c) fs.length (D ++ ⟨.slice A0 lead.length c0, .slice A1 key.length c1, .slice A2 text.length c2, .slice A3 units.length c3, .slice A4 tail.length c4, k0, markCommentL lead (k0 + 1), (decide ((endCommentL lead (k0 + 1)) % 3 = 0)), cnt id ((endCommentL lead (k0 + 1)) + 1) key.length, cnt (· % 256) (((endCommentL lead (k0 + 1)) + 1) + key.length) text.length, cnt id ((((endCommentL lead (k0 + 1)) + 1) + key.length) + text.length) units.length, (((((endCommentL lead (k0 + 1)) + 1) + key.length) + text.length) + units.length), markCommentL tail ((((((endCommentL lead (k0 + 1)) + 1) + key.length) + text.length) + units.length) + 1)⟩ :: rest) :: ((It.rowComment (.slice A0 lead.length c0) lead.length (markCommentL lead (k0 + 1)) :: (markCommentL lead (k0 + 1)).flatMap CommentG.own) ++ ([It.row (.slice A1 key.length c1) 3 1 key.length ((cnt id ((endCommentL lead (k0 + 1)) + 1) key.length).map (.int .i64))] ++ ([It.row (.slice A2 text.length c2) 5 1 text.length ((cnt (· % 256) (((endCommentL lead (k0 + 1)) + 1) + key.length) text.length).map (.int .u8))] ++ ([It.row (.slice A3 units.length c3) 3 1 units.length ((cnt id ((((endCommentL lead (k0 + 1)) + 1) + key.length) + text.length) units.length).map (.int .i64))] ++ ((It.rowComment (.slice A4 tail.length c4) tail.length (markCommentL tail ((((((endCommentL lead (k0 + 1)) + 1) + key.length) + text.length) + units.length) + 1)) :: (markCommentL tail ((((((endCommentL lead (k0 + 1)) + 1) + key.length) + text.length) + units.length) + 1)).flatMap CommentG.own) ++ (D.flatMap NodeG.own ++ (rest.flatMap NodeG.own ++ L)))))))) := H.sel (fun q => by simp only [cntL_append, cntL, List.cons_append, List.nil_append, List.set_cons_zero, List.set_cons_succ, List.flatMap_append, List.flatMap_cons, List.flatMap_nil, It.rowB, It.rowI, It.roB, It.roI, NodeG.own, It.rowNode, It.rowComment, It.rowComment]; omega)
    refine arN (by omega) ?_
    have ef : f1 = ⟨.slice A0 lead.length c0, .slice A1 key.length c1, .slice A2 text.length c2, .slice A3 units.length c3, .slice A4 tail.length c4, k0, markCommentL lead (k0 + 1), (decide ((endCommentL lead (k0 + 1)) % 3 = 0)), cnt id ((endCommentL lead (k0 + 1)) + 1) key.length, cnt (· % 256) (((endCommentL lead (k0 + 1)) + 1) + key.length) text.length, cnt id ((((endCommentL lead (k0 + 1)) + 1) + key.length) + text.length) units.length, (((((endCommentL lead (k0 + 1)) + 1) + key.length) + text.length) + units.length), markCommentL tail ((((((endCommentL lead (k0 + 1)) + 1) + key.length) + text.length) + units.length) + 1)⟩ := hf1.symm
    have ek : (endCommentL tail ((((((endCommentL lead (k0 + 1)) + 1) + key.length) + text.length) + units.length) + 1)) = endNodeL (done ++ [f0]) k := by rw [hsn, ← hf00]; rfl
    refine Exists.intro (m - 1) (And.intro (by omega) ⟨rfl, j + 1, done ++ [f0], rest, rfl, congrArg (Value.int .i64) ek, hfs2, by simp [hd], by simp only [List.length_cons] at hr; omega, ?_⟩)
    rw [hlast, ef]
    refine H.sel (fun q => ?_)
    simp only [cntL_append, cntL, List.append_assoc, List.cons_append, List.nil_append, List.flatMap_append, List.flatMap_cons, List.flatMap_nil, It.rowB, It.rowI, NodeG.own, It.rowNode, cnt_len, It.rowComment, markCommentL_len]; omega

theorem ok_heldNodeS : callOK Try.prog 60 = true := by kernel_rfl
theorem laws_heldNodeS {fs : List NodeG} {A : Option Addr} {n c : Nat} {k : Int} (hk : 0 ≤ k) (hb : k + ((fs.map stepsNode).sum : Nat) ≤ 1099511627776) {W : World} (hx : RdNode W (.slice A n c) n (markNodeL fs k)) : GivesV Try.prog 60 [.slice A n c, .int .i64 k] W (.int .i64 (endNodeL fs k)) := by
  have H := St.enter W
  have hn := hx.len
  rw [markNodeL_len] at hn
  subst hn
  have hlen := stepsNode_len fs
  refine calls_of_vcV (args := [.slice A fs.length c, .int .i64 k]) Try.func60 rfl (by kernel_rfl) (Nat.le_of_ble_eq_true rfl) ?_
  refine loopV (by kernel_rfl) (fun m e w => e 0 = .slice A fs.length c ∧ ∃ (j : Nat) (done rest : List NodeG), e 5 = .int .i64 j ∧ e 1 = .int .i64 (endNodeL done k) ∧ fs = done ++ rest ∧ done.length = j ∧ rest.length = m ∧ St W.heap.size W w []) fs.length
    ⟨rfl, 0, [], fs, rfl, rfl, rfl, rfl, rfl, H⟩ ?_
  rintro m e w ⟨h0, j, done, rest, h5, h1, hfs, hd, hr, H⟩
  rw [Env.three h0 h5 h1]
  have hfl : fs.length = j + m := by rw [hfs, List.length_append]; omega
  refine ifB (fun h => ?_) (fun h => ?_)
  case refine_2 =>
    obtain rfl : rest = [] := List.length_eq_zero_iff.1 (by omega)
    rw [List.append_nil] at hfs
    subst hfs
    exact Exists.intro _ (And.intro rfl (And.intro rfl H.none))
  cases rest with
  | nil => simp only [List.length_nil] at hr; omega
  | cons f rest =>
    have hes : (fs.map stepsNode).sum = (done.map stepsNode).sum + stepsNode f + (rest.map stepsNode).sum := by
      rw [hfs]; simp only [List.map_append, List.map_cons, List.sum_append, List.sum_cons]; omega
    have hend := endNodeL_eq done k
    have hsn := endNodeL_snoc done f k
    obtain ⟨k0, hk0⟩ : ∃ k0, endNodeL done k = k0 := ⟨_, rfl⟩
    rw [hk0] at hend hsn ⊢
    have hm : (markNodeL fs k)[j]? = some (markNode1 f k0) := by
      rw [hfs, markNodeL_app, List.getElem?_append_right (by rw [markNodeL_len]; omega), markNodeL_len, hd, Nat.sub_self, hk0]; rfl
    have hfs2 : fs = (done ++ [f]) ++ rest := by rw [hfs]; simp
    have hkm := hx.kids _ (List.mem_of_getElem? hm)
    obtain ⟨f1, hf1⟩ : ∃ f1, markNode1 f k0 = f1 := ⟨_, rfl⟩
    rw [hf1] at hm hkm
    have hsh := NodeG.shape hkm
    have hnx : nextNode f k0 = nextNode f k0 := rfl
    simp only [stepsNode] at hes
    obtain ⟨A0, c0, A1, c1, A2, c2, A3, c3, A4, c4, e0, e1, e2, e3, e4⟩ := hsh
    have v_kind : f1.kind = k0 := by rw [← hf1]; rfl
    have v_lead : f1.lead = markCommentL f.lead (k0 + 1) := by rw [← hf1]; rfl
    have v_member : f1.member = decide ((endCommentL f.lead (k0 + 1)) % 3 = 0) := by rw [← hf1]; rfl
    have v_key : f1.key = cnt id ((endCommentL f.lead (k0 + 1)) + 1) f.key.length := by rw [← hf1]; rfl
    have v_text : f1.text = cnt (· % 256) (((endCommentL f.lead (k0 + 1)) + 1) + f.key.length) f.text.length := by rw [← hf1]; rfl
    have v_units : f1.units = cnt id ((((endCommentL f.lead (k0 + 1)) + 1) + f.key.length) + f.text.length) f.units.length := by rw [← hf1]; rfl
    have v_count : f1.count = (((((endCommentL f.lead (k0 + 1)) + 1) + f.key.length) + f.text.length) + f.units.length) := by rw [← hf1]; rfl
    have v_tail : f1.tail = markCommentL f.tail ((((((endCommentL f.lead (k0 + 1)) + 1) + f.key.length) + f.text.length) + f.units.length) + 1) := by rw [← hf1]; rfl
    rw [v_lead, markCommentL_len] at e0
    rw [v_key, cnt_len] at e1
    rw [v_text, cnt_len] at e2
    rw [v_units, cnt_len] at e3
    rw [v_tail, markCommentL_len] at e4
    have kk0 : RdComment W (.slice A0 f.lead.length c0) f.lead.length (markCommentL f.lead (k0 + 1)) := by have q : RdComment W f1.leadV f1.lead.length f1.lead := hkm.1; rw [e0, v_lead, markCommentL_len] at q; exact q
    have kk1 : Rd W (.slice A1 f.key.length c1) 1 f.key.length ((cnt id ((endCommentL f.lead (k0 + 1)) + 1) f.key.length).map (.int .i64)) := by have q : RdI W f1.keyV f1.key := hkm.2.1; rw [e1, v_key] at q; simpa only [RdI, cnt_len] using q
    have kk2 : Rd W (.slice A2 f.text.length c2) 1 f.text.length ((cnt (· % 256) (((endCommentL f.lead (k0 + 1)) + 1) + f.key.length) f.text.length).map (.int .u8)) := by have q : RdB W f1.textV f1.text := hkm.2.2.1; rw [e2, v_text] at q; simpa only [RdB, cnt_len] using q
    have kk3 : Rd W (.slice A3 f.units.length c3) 1 f.units.length ((cnt id ((((endCommentL f.lead (k0 + 1)) + 1) + f.key.length) + f.text.length) f.units.length).map (.int .i64)) := by have q : RdI W f1.unitsV f1.units := hkm.2.2.2.1; rw [e3, v_units] at q; simpa only [RdI, cnt_len] using q
    have kk4 : RdComment W (.slice A4 f.tail.length c4) f.tail.length (markCommentL f.tail ((((((endCommentL f.lead (k0 + 1)) + 1) + f.key.length) + f.text.length) + f.units.length) + 1)) := by have q : RdComment W f1.tailV f1.tail.length f1.tail := hkm.2.2.2.2; rw [e4, v_tail, markCommentL_len] at q; exact q
    refine JoinV.mk ?_
    refine idxC (cells := NodeG.cells) NodeG.cells_len (hx.ext H.below).row hm (by omega) fun b off hc => ?_
    refine loadS (v := .int .i64 k0) (hc 0 _ (by show some (Value.int .i64 f1.kind) = _; rw [v_kind])) ?_
    refine ifB (fun q => absurd q (by omega)) (fun q => ?_)
    refine ar64 (by omega) (by omega) ?_
    refine idxC (cells := NodeG.cells) NodeG.cells_len (hx.ext H.below).row hm (by omega) fun b off hc => ?_
    refine loadS (v := .slice A0 f.lead.length c0) (hc 1 _ (by show some f1.leadV = _; rw [e0])) ?_
    have z0 := endCommentL_eq f.lead (k0 + 1)
    refine callV ok_heldCommentS (laws_heldCommentS (by omega) (by omega) (kk0.ext H.below)) H fun w H => ?_
    refine ifB (fun q => absurd q (by omega)) (fun q => ?_)
    refine idxC (cells := NodeG.cells) NodeG.cells_len (hx.ext H.below).row hm (by omega) fun b off hc => ?_
    refine loadS (v := .bool (decide ((endCommentL f.lead (k0 + 1)) % 3 = 0))) (hc 2 _ (by show some (Value.bool f1.member) = _; rw [v_member])) ?_
    refine rem0 (by omega) (by omega) ?_
    refine ifNot ?_
    refine ifB (fun _ => ?_) (fun q => absurd rfl q)
    refine ar64 (by omega) (by omega) ?_
    refine idxC (cells := NodeG.cells) NodeG.cells_len (hx.ext H.below).row hm (by omega) fun b off hc => ?_
    refine loadS (v := .slice A1 f.key.length c1) (hc 3 _ (by show some f1.keyV = _; rw [e1])) ?_
    refine callV ok_heldIntS (heldI (kk1.ext H.below) (by omega) (by omega)) H fun w H => ?_
    refine ifB (fun q => absurd q (by omega)) (fun q => ?_)
    refine idxC (cells := NodeG.cells) NodeG.cells_len (hx.ext H.below).row hm (by omega) fun b off hc => ?_
    refine loadS (v := .slice A2 f.text.length c2) (hc 4 _ (by show some f1.textV = _; rw [e2])) ?_
    refine callV ok_heldByteS (heldV (kk2.ext H.below) (by omega) (by omega)) H fun w H => ?_
    refine ifB (fun q => absurd q (by omega)) (fun q => ?_)
    refine idxC (cells := NodeG.cells) NodeG.cells_len (hx.ext H.below).row hm (by omega) fun b off hc => ?_
    refine loadS (v := .slice A3 f.units.length c3) (hc 5 _ (by show some f1.unitsV = _; rw [e3])) ?_
    refine callV ok_heldIntS (heldI (kk3.ext H.below) (by omega) (by omega)) H fun w H => ?_
    refine ifB (fun q => absurd q (by omega)) (fun q => ?_)
    refine idxC (cells := NodeG.cells) NodeG.cells_len (hx.ext H.below).row hm (by omega) fun b off hc => ?_
    refine loadS (v := .int .i64 (((((endCommentL f.lead (k0 + 1)) + 1) + f.key.length) + f.text.length) + f.units.length)) (hc 6 _ (by show some (Value.int .i64 f1.count) = _; rw [v_count])) ?_
    refine ifB (fun q => absurd q (by omega)) (fun q => ?_)
    refine ar64 (by omega) (by omega) ?_
    refine idxC (cells := NodeG.cells) NodeG.cells_len (hx.ext H.below).row hm (by omega) fun b off hc => ?_
    refine loadS (v := .slice A4 f.tail.length c4) (hc 7 _ (by show some f1.tailV = _; rw [e4])) ?_
    have z4 := endCommentL_eq f.tail ((((((endCommentL f.lead (k0 + 1)) + 1) + f.key.length) + f.text.length) + f.units.length) + 1)
    refine callV ok_heldCommentS (laws_heldCommentS (by omega) (by omega) (kk4.ext H.below)) H fun w H => ?_
    refine ifB (fun q => absurd q (by omega)) (fun q => ?_)
    refine arN (by omega) ?_
    exact Exists.intro (m - 1) (And.intro (by omega) ⟨rfl, j + 1, done ++ [f], rest, rfl, congrArg (Value.int .i64) (show (endCommentL f.tail ((((((endCommentL f.lead (k0 + 1)) + 1) + f.key.length) + f.text.length) + f.units.length) + 1)) = _ by rw [hsn]; rfl), hfs2, by simp [hd], by simp only [List.length_cons] at hr; omega, H⟩)

end Go.Proofs.YtpaklalfopfilaaE
