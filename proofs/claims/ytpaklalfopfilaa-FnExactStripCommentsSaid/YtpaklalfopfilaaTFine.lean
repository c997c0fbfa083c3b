/- Trees as a law's arguments hold them, and their sizes. -/
import Derived.Test.YtpaklalfopfilaaTTree
namespace Go.Proofs.YtpaklalfopfilaaE
open Go Go.RowKit
set_option linter.unusedVariables false
set_option maxRecDepth 100000

structure FineC (f : CommentG) : Prop where
  l : LenComment f
  b : byteOK f.text
structure FineN (f : NodeG) : Prop where
  l : LenNode f
  b : byteOK f.text
  lead : ∀ g ∈ f.lead, FineC g
  tail : ∀ g ∈ f.tail, FineC g
  kind : -9223372036854775808 ≤ f.kind ∧ f.kind ≤ 9223372036854775807
  count : -9223372036854775808 ≤ f.count ∧ f.count ≤ 9223372036854775807
structure FineT (f : TreeG) : Prop where
  l : LenTree f
  nodes : ∀ g ∈ f.nodes, FineN g
  tail : ∀ g ∈ f.tail, FineC g
theorem small_comments {fs : List CommentG} {m : Nat} (h : (fs.map CommentG.size).sum ≤ m) (hm : m ≤ 4294967296) : ∀ f ∈ fs, SmallComment f := fun f hf => by
  have := sizeComment_mem hf
  have e : f.size = f.text.length := rfl
  exact ⟨by omega⟩
theorem small_nodes {fs : List NodeG} {m : Nat} (h : (fs.map NodeG.size).sum ≤ m) (hm : m ≤ 4294967296) : ∀ f ∈ fs, SmallNode f := fun f hf => by
  have := sizeNode_mem hf
  have e : f.size = (f.lead.length + (f.lead.map CommentG.size).sum) + f.key.length + f.text.length + f.units.length + (f.tail.length + (f.tail.map CommentG.size).sum) := rfl
  exact ⟨by omega, small_comments (m := m) (by omega) hm, by omega, by omega, by omega, by omega, small_comments (m := m) (by omega) hm⟩
theorem small_tree {f : TreeG} {m : Nat} (h : f.size ≤ m) (hm : m ≤ 4294967296) : SmallTree f := by
  unfold TreeG.size at h
  exact ⟨by omega, small_nodes (m := m) (by omega) hm, by omega, small_comments (m := m) (by omega) hm⟩
/-- what a tree's texts hold -/
structure ByteN (n : NodeP) : Prop where
  b : byteOK n.text
  lead : ∀ c ∈ n.lead, byteOK c.text
  tail : ∀ c ∈ n.tail, byteOK c.text
structure ByteT (t : TreeP) : Prop where
  nodes : ∀ n ∈ t.nodes, ByteN n
  tail : ∀ c ∈ t.tail, byteOK c.text
theorem byteC_of {l : List CommentG} (h : ∀ g ∈ l, FineC g) : ∀ c ∈ l.map CommentG.p, byteOK c.text := fun c hc => by
  obtain ⟨g, hg, rfl⟩ := List.mem_map.1 hc
  exact (h g hg).b
theorem byteT_of {f : TreeG} (h : FineT f) : ByteT f.p := ⟨fun n hn => by
  obtain ⟨g, hg, rfl⟩ := List.mem_map.1 hn
  have hf := h.nodes g hg
  exact ⟨hf.b, byteC_of hf.lead, byteC_of hf.tail⟩, byteC_of h.tail⟩
end Go.Proofs.YtpaklalfopfilaaE
