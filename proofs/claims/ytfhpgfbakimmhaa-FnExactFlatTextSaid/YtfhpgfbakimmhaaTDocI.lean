/- The program's documents as trees in the memory. -/
import Derived.Test.YtfhpgfbakimmhaaTPiece
import Derived.Test.YtfhpgfbakimmhaaPLoc
import Derived.Test.YtfhpgfbakimmhaaTRow
namespace Go.Proofs.YtfhpgfbakimmhaaE
open Go Go.RowKit
set_option linter.unusedVariables false
set_option linter.unusedSimpArgs false
set_option maxRecDepth 100000
set_option maxHeartbeats 2000000

inductive DocG where
  | nil (a : Nat)
  | text (a : Nat) (tv : Value) (t : List Int)
  | line (a : Nat) (k : Int)
  | cat (a : Nat) (l r : DocG)
  | alt (a : Nat) (l r : DocG)
  | nest (a : Nat) (d : DocG) (n : Int)
  | group (a : Nat) (d : DocG) (k : Nat)
def DocG.d : DocG → DocT
  | .nil _ => .nil
  | .text _ _ t => .text t
  | .line _ k => .line k
  | .cat _ l r => .cat l.d r.d
  | .alt _ l r => .alt l.d r.d
  | .nest _ d n => .nest d.d n
  | .group _ d k => .group d.d k
def DocG.v : DocG → Value
  | .nil a => .iface 148 (.pointer (some ⟨a, 0, none⟩))
  | .text a _ _ => .iface 154 (.pointer (some ⟨a, 0, none⟩))
  | .line a _ => .iface 157 (.pointer (some ⟨a, 0, none⟩))
  | .cat a _ _ => .iface 160 (.pointer (some ⟨a, 0, none⟩))
  | .alt a _ _ => .iface 165 (.pointer (some ⟨a, 0, none⟩))
  | .nest a _ _ => .iface 167 (.pointer (some ⟨a, 0, none⟩))
  | .group a _ _ => .iface 115 (.pointer (some ⟨a, 0, none⟩))
def DocG.own : DocG → List It
  | .nil a => [.obj a (.cells #[] 152)]
  | .text a tv t => [.obj a (.cells #[tv, .int .i64 (tw t)] 156)]
  | .line a k => [.obj a (.cells #[.int .i64 k] 159)]
  | .cat a l r => .obj a (.cells #[l.v, r.v] 164) :: (l.own ++ r.own)
  | .alt a l r => .obj a (.cells #[l.v, r.v] 166) :: (l.own ++ r.own)
  | .nest a d n => .obj a (.cells #[d.v, .int .i64 n] 169) :: d.own
  | .group a d k => .obj a (.cells #[d.v, .int .i64 k] 119) :: d.own
/-- the texts of a tree may be read -/
def DocG.Txt (w : World) : DocG → Prop
  | .text _ tv t => RdB w tv t
  | .cat _ l r => l.Txt w ∧ r.Txt w
  | .alt _ l r => l.Txt w ∧ r.Txt w
  | .nest _ d _ => d.Txt w
  | .group _ d _ => d.Txt w
  | _ => True
def CellsAt (w : World) (a : Nat) (cs : List Value) : Prop := ∀ i v, cs[i]? = some v → w.cell? ⟨a, i, none⟩ = some v
/-- a tree stands in the memory -/
def DocAt (w : World) : DocG → Prop
  | .nil _ => True
  | .text a tv t => CellsAt w a [tv, .int .i64 (tw t)] ∧ RdB w tv t
  | .line a k => CellsAt w a [.int .i64 k]
  | .cat a l r => CellsAt w a [l.v, r.v] ∧ DocAt w l ∧ DocAt w r
  | .alt a l r => CellsAt w a [l.v, r.v] ∧ DocAt w l ∧ DocAt w r
  | .nest a d n => CellsAt w a [d.v, .int .i64 n] ∧ DocAt w d
  | .group a d k => CellsAt w a [d.v, .int .i64 k] ∧ DocAt w d
theorem CellsAt.ext {w w' : World} {a : Nat} {cs : List Value} (h : CellsAt w a cs) (hb : Below w.heap.size w w') : CellsAt w' a cs := fun i v hv => (HeldW.ofBelow hb).cell (h i v hv)
theorem DocAt.ext {w w' : World} (hb : Below w.heap.size w w') : ∀ {D : DocG}, DocAt w D → DocAt w' D
  | .nil _, _ => trivial
  | .text _ _ _, h => ⟨h.1.ext hb, Go.Proofs.YtfhpgfbakimmhaaE.Rd.ext h.2 hb⟩
  | .line _ _, h => CellsAt.ext h hb
  | .cat _ _ _, h => ⟨h.1.ext hb, h.2.1.ext hb, h.2.2.ext hb⟩
  | .alt _ _ _, h => ⟨h.1.ext hb, h.2.1.ext hb, h.2.2.ext hb⟩
  | .nest _ _ _, h => ⟨h.1.ext hb, h.2.ext hb⟩
  | .group _ _ _, h => ⟨h.1.ext hb, h.2.ext hb⟩
theorem DocG.Txt.ext {w w' : World} (hb : Below w.heap.size w w') : ∀ {D : DocG}, D.Txt w → D.Txt w'
  | .nil _, _ => trivial
  | .text _ _ _, h => Go.Proofs.YtfhpgfbakimmhaaE.Rd.ext (h : RdB w _ _) hb
  | .line _ _, _ => trivial
  | .cat _ _ _, h => ⟨h.1.ext hb, h.2.ext hb⟩
  | .alt _ _ _, h => ⟨h.1.ext hb, h.2.ext hb⟩
  | .nest _ d _, h => DocG.Txt.ext hb (D := d) h
  | .group _ d _, h => DocG.Txt.ext hb (D := d) h
theorem objCell {B : Nat} {W0 w : World} {L : List It} {g off : Nat} {cs : List Value} {t : TypeId} {z : Nat × Nat} {v : Value} (H : St B W0 w L) (hm : .obj g (.cells cs.toArray t z) ∈ L) (hv : cs[off]? = some v) : w.cell? ⟨g, off, none⟩ = some v := by
  obtain ⟨i, hi⟩ := List.mem_iff_getElem?.1 hm
  have := (H.obj i hi).2
  simp only [World.cell?, this, Option.isSome_none, Bool.false_eq_true, if_false]
  simpa using hv
theorem cellsAt {B : Nat} {W0 w : World} {L : List It} {a : Nat} {cs : List Value} {t : TypeId} {z : Nat × Nat} (H : St B W0 w L) (hm : .obj a (.cells cs.toArray t z) ∈ L) : CellsAt w a cs := fun i v hv => objCell H hm hv
theorem docAt {B : Nat} {W0 w : World} {L : List It} (H : St B W0 w L) : ∀ {D : DocG}, (∀ it ∈ D.own, it ∈ L) → D.Txt w → DocAt w D
  | .nil _, _, _ => trivial
  | .text _ _ _, h, k => ⟨cellsAt H (h _ List.mem_cons_self), k⟩
  | .line _ _, h, _ => cellsAt H (h _ List.mem_cons_self)
  | .cat _ _ _, h, k => ⟨cellsAt H (h _ List.mem_cons_self), docAt H (fun it hi => h it (by simp [DocG.own, hi])) k.1, docAt H (fun it hi => h it (by simp [DocG.own, hi])) k.2⟩
  | .alt _ _ _, h, k => ⟨cellsAt H (h _ List.mem_cons_self), docAt H (fun it hi => h it (by simp [DocG.own, hi])) k.1, docAt H (fun it hi => h it (by simp [DocG.own, hi])) k.2⟩
  | .nest _ _ _, h, k => ⟨cellsAt H (h _ List.mem_cons_self), docAt H (fun it hi => h it (by simp [DocG.own, hi])) k⟩
  | .group _ _ _, h, k => ⟨cellsAt H (h _ List.mem_cons_self), docAt H (fun it hi => h it (by simp [DocG.own, hi])) k⟩
theorem DocG.ownAll : ∀ D : DocG, D.own.all It.isOwn = true
  | .nil _ => rfl
  | .text _ _ _ => rfl
  | .line _ _ => rfl
  | .cat _ l r => by simp only [DocG.own, List.all_cons, List.all_append, l.ownAll, r.ownAll]; rfl
  | .alt _ l r => by simp only [DocG.own, List.all_cons, List.all_append, l.ownAll, r.ownAll]; rfl
  | .nest _ d _ => by simp only [DocG.own, List.all_cons, d.ownAll]; rfl
  | .group _ d _ => by simp only [DocG.own, List.all_cons, d.ownAll]; rfl
/-! ## which of the documents a value is -/
structure IsPtr (T : TypeId) : Prop where
  und : ∃ e, Try.prog.underlying T = some (.pointer e)
  zero : (Try.prog.info? T).map (·.zero) = some (some (.pointer none))
theorem pt_text : IsPtr 154 := ⟨⟨156, by kernel_rfl⟩, by kernel_rfl⟩
theorem pt_line : IsPtr 157 := ⟨⟨159, by kernel_rfl⟩, by kernel_rfl⟩
theorem pt_cat : IsPtr 160 := ⟨⟨164, by kernel_rfl⟩, by kernel_rfl⟩
theorem pt_alt : IsPtr 165 := ⟨⟨166, by kernel_rfl⟩, by kernel_rfl⟩
theorem pt_nest : IsPtr 167 := ⟨⟨169, by kernel_rfl⟩, by kernel_rfl⟩
theorem pt_group : IsPtr 115 := ⟨⟨119, by kernel_rfl⟩, by kernel_rfl⟩
theorem run_asY {T xT : TypeId} {v : Value} (p : IsPtr T) (w : World) : (Instr.typeAssert (.iface T v) xT T true).run Try.prog w = .ok (.tuple #[v, .bool true]) w := by
  obtain ⟨⟨e, hu⟩, hz⟩ := p
  simp [Instr.typeAssert, run_underlying hu]
theorem run_asN {T T' xT : TypeId} {v : Value} (p : IsPtr T') (h : (Nat.beq T T') = false) (w : World) : (Instr.typeAssert (.iface T v) xT T' true).run Try.prog w = .ok (.tuple #[.pointer none, .bool false]) w := by
  obtain ⟨⟨e, hu⟩, hz⟩ := p
  obtain ⟨j, hj, hz'⟩ := Option.map_eq_some_iff.1 hz
  have hne : ¬ T = T' := fun e => by rw [e] at h; simp at h
  simp [Instr.typeAssert, run_underlying hu, typeInfo, zeroValue, hj, hz', hne]
theorem asY {T xT : TypeId} {v : Value} {w : World} {K : Value → World → Prop} (p : IsPtr T) (k : K (.tuple #[v, .bool true]) w) : RunS Try.prog (Instr.typeAssert (.iface T v) xT T true) w K := ⟨_, _, run_asY p w, k⟩
theorem asN {T T' xT : TypeId} {v : Value} {w : World} {K : Value → World → Prop} (p : IsPtr T') (h : (Nat.beq T T') = false) (k : K (.tuple #[.pointer none, .bool false]) w) : RunS Try.prog (Instr.typeAssert (.iface T v) xT T' true) w K := ⟨_, _, run_asN p h w, k⟩
theorem asYQ {T xT : TypeId} {v : Value} {w : World} {K : Value → Prop} (p : IsPtr T) (k : K (.tuple #[v, .bool true])) : RunQ Try.prog (Instr.typeAssert (.iface T v) xT T true) w K := ⟨_, run_asY p w, k⟩
theorem asNQ {T T' xT : TypeId} {v : Value} {w : World} {K : Value → Prop} (p : IsPtr T') (h : (Nat.beq T T') = false) (k : K (.tuple #[.pointer none, .bool false])) : RunQ Try.prog (Instr.typeAssert (.iface T v) xT T' true) w K := ⟨_, run_asN p h w, k⟩
end Go.Proofs.YtfhpgfbakimmhaaE
