/- The record Tree and lists of it in the memory, and what the laws' helpers do with them (printed by genrec.py). -/
import Derived.Test.YtpaklalfopfilaaTNode
namespace Go.Proofs.YtpaklalfopfilaaE
open Go Go.RowKit
set_option linter.unusedVariables false
set_option linter.unusedSimpArgs false
set_option maxRecDepth 100000
set_option maxHeartbeats 2000000

structure TreeG where
  nodesV : Value
  tailV : Value
  nodes : List NodeG
  tail : List CommentG
def TreeG.p (f : TreeG) : TreeP := ⟨f.nodes.map NodeG.p, f.tail.map CommentG.p⟩
def TreeG.cells (f : TreeG) : List Value := [f.nodesV, f.tailV]
def TreeG.own (f : TreeG) : List It := (It.rowNode f.nodesV f.nodes.length f.nodes :: f.nodes.flatMap NodeG.own) ++ (It.rowComment f.tailV f.tail.length f.tail :: f.tail.flatMap CommentG.own)
def TreeG.Rd (w : World) (f : TreeG) : Prop := RdNode w f.nodesV f.nodes.length f.nodes ∧ RdComment w f.tailV f.tail.length f.tail
theorem TreeG.cells_len (f : TreeG) : f.cells.length = 2 := rfl
theorem TreeG.Rd.ext {w w' : World} {f : TreeG} (h : f.Rd w) (k : Below w.heap.size w w') : f.Rd w' := by
  obtain ⟨h0, h1⟩ := h
  exact ⟨h0.ext k, h1.ext k⟩
theorem TreeG.rdo {B : Nat} {W0 w : World} {L : List It} {f : TreeG} (H : St B W0 w L) (h : ∀ it ∈ f.own, it ∈ L) : f.Rd w := ⟨rdNodeo H (h _ (by simp [TreeG.own])) (fun it hit => h it (by simp [TreeG.own, hit])), rdCommento H (h _ (by simp [TreeG.own])) (fun it hit => h it (by simp [TreeG.own, hit]))⟩
theorem TreeG.shape {w : World} {f : TreeG} (h : f.Rd w) : ∃ A0 c0 A1 c1, f.nodesV = .slice A0 f.nodes.length c0 ∧ f.tailV = .slice A1 f.tail.length c1 := by
  obtain ⟨h0, h1⟩ := h
  obtain ⟨_, A0, c0, e0, _⟩ := h0.row
  obtain ⟨_, A1, c1, e1, _⟩ := h1.row
  exact ⟨A0, c0, A1, c1, e0, e1⟩
theorem TreeG.ownAll (f : TreeG) : f.own.all It.isOwn = true := by
  simp only [TreeG.own, List.all_append, List.all_cons, List.all_nil, It.isOwn, Bool.true_and, Bool.and_true, Bool.and_eq_true]
  exact ⟨ownNodeAll f.nodes, ownCommentAll f.tail⟩
structure SmallTree (f : TreeG) : Prop where
  nodes : f.nodes.length ≤ 4294967296
  nodess : ∀ g ∈ f.nodes, SmallNode g
  tail : f.tail.length ≤ 4294967296
  tails : ∀ g ∈ f.tail, SmallComment g
theorem TreeG.one {W w : World} {g : TreeG} (H : St W.heap.size W w g.own) : ∀ (i : Nat) (v : Value), g.cells[i]? = some v → v.oneCell' = true := by
  obtain ⟨A0, c0, A1, c1, e0, e1⟩ := TreeG.shape (TreeG.rdo H fun it hit => hit)
  intro i v hv
  have : v ∈ g.cells := List.mem_of_getElem? hv
  simp only [TreeG.cells, List.mem_cons, List.not_mem_nil, or_false] at this
  rcases this with rfl | rfl
  · rw [e0]; rfl
  · rw [e1]; rfl
theorem ok_toTree : callOK Try.prog 8 = true := by kernel_rfl
theorem laws_toTree {f : TreeG} {W : World} (h : f.Rd W) (s : SmallTree f) : Calls Try.prog 8 #[.agg f.cells.toArray] W fun e w => ∃ g : TreeG, e = .returned (.agg g.cells.toArray) ∧ g.p = f.p ∧ St W.heap.size W w g.own := by
  have H := St.enter W
  have s0 := s.nodes
  have ss0 := s.nodess
  have s1 := s.tail
  have ss1 := s.tails
  clear s
  obtain ⟨A0, c0, A1, c1, e0, e1⟩ := TreeG.shape h
  obtain ⟨nodesV, tailV, nodes, tail⟩ := f
  dsimp only at *
  subst e0 e1
  have hk : RdNode W (.slice A0 nodes.length c0) nodes.length nodes ∧ RdComment W (.slice A1 tail.length c1) tail.length tail := h
  show Calls Try.prog 8 #[.agg #[.slice A0 nodes.length c0, .slice A1 tail.length c1]] W _
  refine calls_of_vcV (args := [.agg #[.slice A0 nodes.length c0, .slice A1 tail.length c1]]) Try.func8 rfl (by kernel_rfl) (Nat.le_of_ble_eq_true rfl) ?_
  refine newR (o := .cells #[.slice A0 nodes.length c0, .slice A1 tail.length c1] _) H fun g0 w H => ?_
  refine newR (o := .cells #[.slice none 0 0, .slice none 0 0] _) H fun g1 w H => ?_
  refine newR (o := .cells #[.slice none 0 0, .slice none 0 0] _) H fun g2 w H => ?_
  refine loadO H 2 rfl rfl ?_
  refine CallS.mk ok_toNodeS ((laws_toNodeS (hk.1.ext H.below) (by omega) ss0).mono ?_)
  rintro _ w ⟨B0, d0, q0, rfl, hq0, H0⟩
  have H := H.joinL H0 (rowNodeAll _ _ _)
  have lq0 : q0.length = nodes.length := by have := congrArg List.length hq0; simpa using this
  refine storeO H 0 rfl rfl rfl fun w H => ?_
  have H : St W.heap.size W w (.obj g2 (.cells #[.slice B0 nodes.length d0, .slice none 0 0] 31) :: .obj g1 (.cells #[.slice none 0 0, .slice none 0 0] 31) :: .obj g0 (.cells #[.slice A0 nodes.length c0, .slice A1 tail.length c1] 25) :: (.rowNode (.slice B0 nodes.length d0) nodes.length q0 :: q0.flatMap NodeG.own)) := H
  refine loadO H 2 rfl rfl ?_
  refine CallS.mk ok_toCommentS ((laws_toCommentS (hk.2.ext H.below) (by omega) ss1).mono ?_)
  rintro _ w ⟨B1, d1, q1, rfl, hq1, H1⟩
  have H := H.joinL H1 (rowCommentAll _ _ _)
  have lq1 : q1.length = tail.length := by have := congrArg List.length hq1; simpa using this
  refine storeO H 0 rfl rfl rfl fun w H => ?_
  have H : St W.heap.size W w (.obj g2 (.cells #[.slice B0 nodes.length d0, .slice B1 tail.length d1] 31) :: .obj g1 (.cells #[.slice none 0 0, .slice none 0 0] 31) :: .obj g0 (.cells #[.slice A0 nodes.length c0, .slice A1 tail.length c1] 25) :: ((.rowNode (.slice B0 nodes.length d0) nodes.length q0 :: q0.flatMap NodeG.own) ++ (.rowComment (.slice B1 tail.length d1) tail.length q1 :: q1.flatMap CommentG.own))) := H
  refine loadO H 0 rfl rfl ?_
  refine loadO H 0 rfl rfl ?_
  refine storeO H 1 rfl rfl rfl fun w H => ?_
  have H : St W.heap.size W w (.obj g2 (.cells #[.slice B0 nodes.length d0, .slice B1 tail.length d1] 31) :: .obj g1 (.cells #[.slice B0 nodes.length d0, .slice none 0 0] 31) :: .obj g0 (.cells #[.slice A0 nodes.length c0, .slice A1 tail.length c1] 25) :: ((.rowNode (.slice B0 nodes.length d0) nodes.length q0 :: q0.flatMap NodeG.own) ++ (.rowComment (.slice B1 tail.length d1) tail.length q1 :: q1.flatMap CommentG.own))) := H
  refine storeO H 1 rfl rfl rfl fun w H => ?_
  have H : St W.heap.size W w (.obj g2 (.cells #[.slice B0 nodes.length d0, .slice B1 tail.length d1] 31) :: .obj g1 (.cells #[.slice B0 nodes.length d0, .slice B1 tail.length d1] 31) :: .obj g0 (.cells #[.slice A0 nodes.length c0, .slice A1 tail.length c1] 25) :: ((.rowNode (.slice B0 nodes.length d0) nodes.length q0 :: q0.flatMap NodeG.own) ++ (.rowComment (.slice B1 tail.length d1) tail.length q1 :: q1.flatMap CommentG.own))) := H
  refine loadO H 1 rfl rfl ?_
  refine loadO H 1 rfl rfl ?_
  exact Exists.intro (⟨.slice B0 nodes.length d0, .slice B1 tail.length d1, q0, q1⟩ : TreeG) (And.intro rfl (And.intro (by simp only [TreeG.p, hq0, hq1]) (H.sel (fun q => by simp only [cntL_append, cntL, List.cons_append, List.nil_append, List.set_cons_zero, List.set_cons_succ, List.flatMap_append, List.flatMap_cons, List.flatMap_nil, It.rowB, It.rowI, It.roB, It.roI, TreeG.own, It.rowNode, It.rowComment, lq0, lq1]; omega))))
def TreeG.size (f : TreeG) : Nat := (f.nodes.length + (f.nodes.map NodeG.size).sum) + (f.tail.length + (f.tail.map CommentG.size).sum)
theorem ok_szTree : callOK Try.prog 6 = true := by kernel_rfl
structure LenTree (f : TreeG) : Prop where
  nodes : f.nodes.length ≤ 9223372036854775807
  nodess : ∀ g ∈ f.nodes, LenNode g
  tail : f.tail.length ≤ 9223372036854775807
  tails : ∀ g ∈ f.tail, LenComment g
theorem laws_szTree {f : TreeG} {l : Int} (h0 : 0 ≤ l) (h1 : l ≤ 1048576) {W : World} (h : f.Rd W) (hs : LenTree f) : GivesV Try.prog 6 [.agg f.cells.toArray, .int .i64 l] W (.int .i64 (szI l f.size)) := by
  have H := St.enter W
  have s0 := hs.nodes
  have ss0 := hs.nodess
  have s1 := hs.tail
  have ss1 := hs.tails
  clear hs
  obtain ⟨A0, c0, A1, c1, e0, e1⟩ := TreeG.shape h
  obtain ⟨nodesV, tailV, nodes, tail⟩ := f
  dsimp only at *
  subst e0 e1
  have hk : RdNode W (.slice A0 nodes.length c0) nodes.length nodes ∧ RdComment W (.slice A1 tail.length c1) tail.length tail := h
  obtain ⟨T, hT⟩ : ∃ T : Nat, TreeG.size ⟨.slice A0 nodes.length c0, .slice A1 tail.length c1, nodes, tail⟩ = T := ⟨_, rfl⟩
  have hT2 : (T : Int) = ((sizeNode nodes : Nat) : Int) + ((sizeComment tail : Nat) : Int) := by rw [← hT]; simp only [TreeG.size, sizeNode, sizeComment] <;> omega
  rw [hT]
  have q0 : (l - (sizeNode nodes : Nat) < 0 → szI (l) ((sizeNode nodes : Nat)) = -1) ∧ (¬ l - (sizeNode nodes : Nat) < 0 → szI (l) ((sizeNode nodes : Nat)) = l - (sizeNode nodes : Nat)) := ⟨fun h => if_pos h, fun h => if_neg h⟩
  have q1 : (szI (l) ((sizeNode nodes : Nat)) - (sizeComment tail : Nat) < 0 → szI (szI (l) ((sizeNode nodes : Nat))) ((sizeComment tail : Nat)) = -1) ∧ (¬ szI (l) ((sizeNode nodes : Nat)) - (sizeComment tail : Nat) < 0 → szI (szI (l) ((sizeNode nodes : Nat))) ((sizeComment tail : Nat)) = szI (l) ((sizeNode nodes : Nat)) - (sizeComment tail : Nat)) := ⟨fun h => if_pos h, fun h => if_neg h⟩
  have qT : (l - T < 0 → szI l T = -1) ∧ (¬ l - T < 0 → szI l T = l - T) := ⟨fun h => if_pos h, fun h => if_neg h⟩
  show GivesV Try.prog 6 [.agg #[.slice A0 nodes.length c0, .slice A1 tail.length c1], .int .i64 l] W _
  refine calls_of_vcV (args := [.agg #[.slice A0 nodes.length c0, .slice A1 tail.length c1], .int .i64 l]) Try.func6 rfl (by kernel_rfl) (Nat.le_of_ble_eq_true rfl) ?_
  refine newR (o := .cells #[.slice A0 nodes.length c0, .slice A1 tail.length c1] _) H fun g0 w H => ?_
  refine loadO H 0 rfl rfl ?_
  refine callV ok_szNodeS (laws_szNodeS (by omega) (by omega) (hk.1.ext H.below) (by omega) ss0) H fun w H => ?_
  refine ifB (fun z0 => Exists.intro _ (And.intro rfl (And.intro (congrArg (Value.int .i64) (by omega)) H.none))) (fun z0 => ?_)
  refine loadO H 0 rfl rfl ?_
  refine callV ok_szCommentS (laws_szCommentS (by omega) (by omega) (hk.2.ext H.below) (by omega) ss1) H fun w H => ?_
  refine ifB (fun z1 => Exists.intro _ (And.intro rfl (And.intro (congrArg (Value.int .i64) (by omega)) H.none))) (fun z1 => ?_)
  exact Exists.intro _ (And.intro rfl (And.intro (congrArg (Value.int .i64) (by omega)) H.none))
theorem ok_eqTree : callOK Try.prog 10 = true := by kernel_rfl
theorem laws_eqTree {f g : TreeG} {W : World} (h : f.Rd W) (h' : g.Rd W) (he : f.p = g.p) (s : SmallTree f) : GivesV Try.prog 10 [.agg f.cells.toArray, .agg g.cells.toArray] W (.bool true) := by
  have H := St.enter W
  have s0 := s.nodes
  have ss0 := s.nodess
  have s1 := s.tail
  have ss1 := s.tails
  clear s
  obtain ⟨A0, c0, A1, c1, e0, e1⟩ := TreeG.shape h
  obtain ⟨nodesV, tailV, nodes, tail⟩ := f
  dsimp only at *
  subst e0 e1
  obtain ⟨A0', c0', A1', c1', e0', e1'⟩ := TreeG.shape h'
  obtain ⟨nodesV', tailV', nodes', tail'⟩ := g
  dsimp only at *
  subst e0' e1'
  have hk : RdNode W (.slice A0 nodes.length c0) nodes.length nodes ∧ RdComment W (.slice A1 tail.length c1) tail.length tail := h
  have hk' : RdNode W (.slice A0' nodes'.length c0') nodes'.length nodes' ∧ RdComment W (.slice A1' tail'.length c1') tail'.length tail' := h'
  clear h h'
  simp only [TreeG.p, TreeP.mk.injEq] at he
  obtain ⟨he_nodes, he_tail⟩ := he
  have l_nodes : nodes'.length = nodes.length := by have := congrArg List.length he_nodes; simpa using this.symm
  have l_tail : tail'.length = tail.length := by have := congrArg List.length he_tail; simpa using this.symm
  show GivesV Try.prog 10 [.agg #[.slice A0 nodes.length c0, .slice A1 tail.length c1], .agg #[.slice A0' nodes'.length c0', .slice A1' tail'.length c1']] W _
  refine calls_of_vcV (args := [.agg #[.slice A0 nodes.length c0, .slice A1 tail.length c1], .agg #[.slice A0' nodes'.length c0', .slice A1' tail'.length c1']]) Try.func10 rfl (by kernel_rfl) (Nat.le_of_ble_eq_true rfl) ?_
  refine newR (o := .cells #[.slice A0 nodes.length c0, .slice A1 tail.length c1] _) H fun g w H => ?_
  refine newR (o := .cells #[.slice A0' nodes'.length c0', .slice A1' tail'.length c1'] _) H fun g w H => ?_
  refine loadO H 1 rfl rfl ?_
  refine loadO H 0 rfl rfl ?_
  refine callV ok_eqNodeS (eqRNode (hk.1.ext H.below) (hk'.1.ext H.below) he_nodes (by omega) ss0) H fun w H => ?_
  refine ifNot (ifT ?_)
  refine loadO H 1 rfl rfl ?_
  refine loadO H 0 rfl rfl ?_
  refine callV ok_eqCommentS (eqRComment (hk.2.ext H.below) (hk'.2.ext H.below) he_tail (by omega) ss1) H fun w H => ?_
  refine ifNot (ifT ?_)
  exact Exists.intro _ (And.intro rfl (And.intro rfl H.none))

end Go.Proofs.YtpaklalfopfilaaE
