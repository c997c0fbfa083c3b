/- What stands where in a valid document, in plain lists. No program stands here. -/
import Derived.Test.YtfhpgfbakimmhaaPStart
import Derived.Test.YtfhpgfbakimmhaaTPiece
import Derived.Test.YtfhpgfbakimmhaaTRow
import Derived.Test.YtfhpgfbakimmhaaEngG
namespace Go.Proofs.YtfhpgfbakimmhaaE
set_option linter.unusedVariables false

theorem leafGood {p : PieceP} (hp : OkPiece p) (ha : arK p.kind = 0) : GoodD (leafD p) ∧ ∀ k, GrD k (leafD p) := by
  have h0 := hp.kind
  unfold leafD
  split
  · exact ⟨trivial, fun _ => trivial⟩
  · split
    · rename_i h; exact ⟨(hp.text h).2, fun _ => trivial⟩
    · have : p.kind ≠ 6 ∧ p.kind ≠ 7 ∧ p.kind ≠ 8 ∧ p.kind ≠ 9 := by
        refine ⟨?_, ?_, ?_, ?_⟩ <;> (intro e; rw [e] at ha; exact absurd ha (by decide))
      exact ⟨⟨by omega, by omega⟩, fun _ => trivial⟩
theorem Loc.good {ps : List PieceP} (hok : ∀ p ∈ ps, OkPiece p) {d : DocT} {to : Nat} (h : Loc ps d to) : GoodD d := by
  induction h with
  | leaf h a => exact (leafGood (hok _ (List.mem_of_getElem? h)) a).1
  | nest h a k ih => exact ⟨(hok _ (List.mem_of_getElem? h)).nest a, ih⟩
  | group h a k ih => exact ih
  | cat h a kr hp kl ihr ihl => exact ⟨ihl, ihr⟩
  | alt h a kr hp kl ihr ihl => exact ⟨ihl, ihr⟩
theorem cntG_mono (ps : List PieceP) (i : Nat) : cntG (ps.take i) ≤ cntG ps := by
  have h : cntG ps = cntG (ps.take i) + cntG (ps.drop i) := by unfold cntG; rw [← List.length_append, ← List.filter_append, List.take_append_drop]
  omega
theorem Loc.gr {ps : List PieceP} (hok : ∀ p ∈ ps, OkPiece p) {d : DocT} {to : Nat} (h : Loc ps d to) : GrD (cntG ps) d := by
  induction h with
  | leaf h a => exact (leafGood (hok _ (List.mem_of_getElem? h)) a).2 _
  | nest h a k ih => exact ih
  | @group to p d h a k ih =>
    refine ⟨?_, ih⟩
    have h1 := cntG_snoc h
    rw [if_pos a] at h1
    have h2 := cntG_mono ps (to + 1)
    omega
  | cat h a kr hp kl ihr ihl => exact ⟨ihl, ihr⟩
  | alt h a kr hp kl ihr ihl => exact ⟨ihl, ihr⟩
def tlS (st : List Ent) : Nat := (st.map fun e => e.d.tl).sum
def szS (st : List Ent) : Nat := (st.map fun e => e.d.size).sum
theorem leaf_tl {p : PieceP} (hp : OkPiece p) : (leafD p).tl = p.text.length + 1 ∧ (leafD p).size = 1 := by
  unfold leafD
  split
  · rename_i h; rw [hp.empty (by omega)]; exact ⟨rfl, rfl⟩
  · split
    · exact ⟨rfl, rfl⟩
    · rename_i h; rw [hp.empty h]; exact ⟨rfl, rfl⟩
theorem step_tl {p : PieceP} {i g g' : Nat} {st st' : List Ent} (hp : OkPiece p) (h : stepM p i g st = some (g', st')) : tlS st' = tlS st + p.text.length + 1 ∧ szS st' = szS st + 1 := by
  unfold stepM at h
  by_cases ha : arK p.kind = 0
  · rw [if_pos ha] at h
    simp only [Option.some.injEq, Prod.mk.injEq] at h
    obtain ⟨rfl, rfl⟩ := h
    have := leaf_tl hp
    simp only [tlS, szS, List.map_cons, List.sum_cons]; omega
  · have hne : p.kind ≠ 1 := fun e => by rw [e] at ha; exact ha (by decide)
    rw [if_neg ha] at h
    rw [hp.empty hne]
    by_cases ha1 : arK p.kind = 1
    · rw [if_pos ha1] at h
      cases st with
      | nil => cases h
      | cons e r =>
        simp only at h
        split at h <;> (simp only [Option.some.injEq, Prod.mk.injEq] at h; obtain ⟨rfl, rfl⟩ := h; simp only [tlS, szS, List.map_cons, List.sum_cons, DocT.tl, DocT.size]; omega)
    · rw [if_neg ha1] at h
      cases st with
      | nil => cases h
      | cons r q0 =>
        cases q0 with
        | nil => cases h
        | cons l q =>
          simp only [Option.some.injEq, Prod.mk.injEq] at h
          obtain ⟨rfl, rfl⟩ := h
          simp only [tlS, szS, List.map_cons, List.sum_cons]
          split <;> (simp only [DocT.tl, DocT.size]; omega)
theorem run_tl : ∀ {ps : List PieceP} {i g g' : Nat} {st st' : List Ent}, (∀ p ∈ ps, OkPiece p) → runM ps i g st = some (g', st') → tlS st' = tlS st + totalD ps + ps.length ∧ szS st' = szS st + ps.length
  | [], i, g, g', st, st', _, h => by
    simp only [runM, Option.some.injEq, Prod.mk.injEq] at h
    obtain ⟨rfl, rfl⟩ := h
    exact ⟨rfl, rfl⟩
  | p :: ps, i, g, g', st, st', hp, h => by
    simp only [runM] at h
    cases hq : stepM p i g st with
    | none => rw [hq] at h; cases h
    | some q =>
      obtain ⟨g1, st1⟩ := q
      rw [hq] at h
      have a := step_tl (hp p (by simp)) hq
      have b := run_tl (fun x hx => hp x (by simp [hx])) h
      have e : totalD (p :: ps) = p.text.length + totalD ps := by simp [totalD]
      rw [e, List.length_cons]; omega
structure ValidOf (ps : List PieceP) (d : DocT) (g : Nat) : Prop where
  len : 1 ≤ ps.length ∧ ps.length ≤ 40000
  ok : ∀ p ∈ ps, OkPiece p
  loc : Loc ps d ps.length
  good : GoodD d
  gr : GrD g d
  tl : d.tl ≤ 140000
  size : d.size ≤ 40000
  nest : d.nestD ≤ 4000
  groups : g = cntG ps
  starts : ∀ xs, StartsOk ps xs → xs = startsL ps ps.length
  total : totalD ps ≤ 100000
theorem validOf {ps : List PieceP} {d : DocT} {g : Nat} (h : validD ps = some (d, g)) : ValidOf ps d g := by
  obtain ⟨hl, hok, ht, hn, s, hr⟩ := validD_inv h
  obtain ⟨h1, h2, h3⟩ := run_loc hr
  have h4 := run_tl hok hr
  simp only [tlS, szS, List.map_cons, List.map_nil, List.sum_cons, List.sum_nil] at h4
  exact ⟨hl, hok, h1, h1.good hok, h3 ▸ h1.gr hok, by omega, by omega, hn, h3, fun xs hx => hx.1 _ _ hr, ht⟩
end Go.Proofs.YtfhpgfbakimmhaaE
/- The program's documents as trees in the memory. -/
namespace Go.Proofs.YtfhpgfbakimmhaaE
open Go Go.RowKit
set_option linter.unusedVariables false
set_option linter.unusedSimpArgs false
set_option maxRecDepth 100000
set_option maxHeartbeats 2000000

inductive DocG where
  | nil (a : Nat)
  | text (a : Nat) (tv : Value) (t : List Int)
  | line (a : Nat) (k : Int)
  | cat (a : Nat) (l r : DocG)
  | alt (a : Nat) (l r : DocG)
  | nest (a : Nat) (d : DocG) (n : Int)
  | group (a : Nat) (d : DocG) (k : Nat)
def DocG.d : DocG → DocT
  | .nil _ => .nil
  | .text _ _ t => .text t
  | .line _ k => .line k
  | .cat _ l r => .cat l.d r.d
  | .alt _ l r => .alt l.d r.d
  | .nest _ d n => .nest d.d n
  | .group _ d k => .group d.d k
def DocG.v : DocG → Value
  | .nil a => .iface 148 (.pointer (some ⟨a, 0, none⟩))
  | .text a _ _ => .iface 154 (.pointer (some ⟨a, 0, none⟩))
  | .line a _ => .iface 157 (.pointer (some ⟨a, 0, none⟩))
  | .cat a _ _ => .iface 160 (.pointer (some ⟨a, 0, none⟩))
  | .alt a _ _ => .iface 165 (.pointer (some ⟨a, 0, none⟩))
  | .nest a _ _ => .iface 167 (.pointer (some ⟨a, 0, none⟩))
  | .group a _ _ => .iface 115 (.pointer (some ⟨a, 0, none⟩))
def DocG.own : DocG → List It
  | .nil a => [.obj a (.cells #[] 152)]
  | .text a tv t => [.obj a (.cells #[tv, .int .i64 (tw t)] 156)]
  | .line a k => [.obj a (.cells #[.int .i64 k] 159)]
  | .cat a l r => .obj a (.cells #[l.v, r.v] 164) :: (l.own ++ r.own)
  | .alt a l r => .obj a (.cells #[l.v, r.v] 166) :: (l.own ++ r.own)
  | .nest a d n => .obj a (.cells #[d.v, .int .i64 n] 169) :: d.own
  | .group a d k => .obj a (.cells #[d.v, .int .i64 k] 119) :: d.own
/-- the texts of a tree may be read -/
def DocG.Txt (w : World) : DocG → Prop
  | .text _ tv t => RdB w tv t
  | .cat _ l r => l.Txt w ∧ r.Txt w
  | .alt _ l r => l.Txt w ∧ r.Txt w
  | .nest _ d _ => d.Txt w
  | .group _ d _ => d.Txt w
  | _ => True
def CellsAt (w : World) (a : Nat) (cs : List Value) : Prop := ∀ i v, cs[i]? = some v → w.cell? ⟨a, i, none⟩ = some v
/-- a tree stands in the memory -/
def DocAt (w : World) : DocG → Prop
  | .nil _ => True
  | .text a tv t => CellsAt w a [tv, .int .i64 (tw t)] ∧ RdB w tv t
  | .line a k => CellsAt w a [.int .i64 k]
  | .cat a l r => CellsAt w a [l.v, r.v] ∧ DocAt w l ∧ DocAt w r
  | .alt a l r => CellsAt w a [l.v, r.v] ∧ DocAt w l ∧ DocAt w r
  | .nest a d n => CellsAt w a [d.v, .int .i64 n] ∧ DocAt w d
  | .group a d k => CellsAt w a [d.v, .int .i64 k] ∧ DocAt w d
theorem CellsAt.ext {w w' : World} {a : Nat} {cs : List Value} (h : CellsAt w a cs) (hb : Below w.heap.size w w') : CellsAt w' a cs := fun i v hv => (HeldW.ofBelow hb).cell (h i v hv)
theorem DocAt.ext {w w' : World} (hb : Below w.heap.size w w') : ∀ {D : DocG}, DocAt w D → DocAt w' D
  | .nil _, _ => trivial
  | .text _ _ _, h => ⟨h.1.ext hb, Go.Proofs.YtfhpgfbakimmhaaE.Rd.ext h.2 hb⟩
  | .line _ _, h => CellsAt.ext h hb
  | .cat _ _ _, h => ⟨h.1.ext hb, h.2.1.ext hb, h.2.2.ext hb⟩
  | .alt _ _ _, h => ⟨h.1.ext hb, h.2.1.ext hb, h.2.2.ext hb⟩
  | .nest _ _ _, h => ⟨h.1.ext hb, h.2.ext hb⟩
  | .group _ _ _, h => ⟨h.1.ext hb, h.2.ext hb⟩
theorem DocG.Txt.ext {w w' : World} (hb : Below w.heap.size w w') : ∀ {D : DocG}, D.Txt w → D.Txt w'
  | .nil _, _ => trivial
  | .text _ _ _, h => Go.Proofs.YtfhpgfbakimmhaaE.Rd.ext (h : RdB w _ _) hb
  | .line _ _, _ => trivial
  | .cat _ _ _, h => ⟨h.1.ext hb, h.2.ext hb⟩
  | .alt _ _ _, h => ⟨h.1.ext hb, h.2.ext hb⟩
  | .nest _ d _, h => DocG.Txt.ext hb (D := d) h
  | .group _ d _, h => DocG.Txt.ext hb (D := d) h
theorem objCell {B : Nat} {W0 w : World} {L : List It} {g off : Nat} {cs : List Value} {t : TypeId} {z : Nat × Nat} {v : Value} (H : St B W0 w L) (hm : .obj g (.cells cs.toArray t z) ∈ L) (hv : cs[off]? = some v) : w.cell? ⟨g, off, none⟩ = some v := by
  obtain ⟨i, hi⟩ := List.mem_iff_getElem?.1 hm
  have := (H.obj i hi).2
  simp only [World.cell?, this, Option.isSome_none, Bool.false_eq_true, if_false]
  simpa using hv
theorem cellsAt {B : Nat} {W0 w : World} {L : List It} {a : Nat} {cs : List Value} {t : TypeId} {z : Nat × Nat} (H : St B W0 w L) (hm : .obj a (.cells cs.toArray t z) ∈ L) : CellsAt w a cs := fun i v hv => objCell H hm hv
theorem docAt {B : Nat} {W0 w : World} {L : List It} (H : St B W0 w L) : ∀ {D : DocG}, (∀ it ∈ D.own, it ∈ L) → D.Txt w → DocAt w D
  | .nil _, _, _ => trivial
  | .text _ _ _, h, k => ⟨cellsAt H (h _ List.mem_cons_self), k⟩
  | .line _ _, h, _ => cellsAt H (h _ List.mem_cons_self)
  | .cat _ _ _, h, k => ⟨cellsAt H (h _ List.mem_cons_self), docAt H (fun it hi => h it (by simp [DocG.own, hi])) k.1, docAt H (fun it hi => h it (by simp [DocG.own, hi])) k.2⟩
  | .alt _ _ _, h, k => ⟨cellsAt H (h _ List.mem_cons_self), docAt H (fun it hi => h it (by simp [DocG.own, hi])) k.1, docAt H (fun it hi => h it (by simp [DocG.own, hi])) k.2⟩
  | .nest _ _ _, h, k => ⟨cellsAt H (h _ List.mem_cons_self), docAt H (fun it hi => h it (by simp [DocG.own, hi])) k⟩
  | .group _ _ _, h, k => ⟨cellsAt H (h _ List.mem_cons_self), docAt H (fun it hi => h it (by simp [DocG.own, hi])) k⟩
theorem DocG.ownAll : ∀ D : DocG, D.own.all It.isOwn = true
  | .nil _ => rfl
  | .text _ _ _ => rfl
  | .line _ _ => rfl
  | .cat _ l r => by simp only [DocG.own, List.all_cons, List.all_append, l.ownAll, r.ownAll]; rfl
  | .alt _ l r => by simp only [DocG.own, List.all_cons, List.all_append, l.ownAll, r.ownAll]; rfl
  | .nest _ d _ => by simp only [DocG.own, List.all_cons, d.ownAll]; rfl
  | .group _ d _ => by simp only [DocG.own, List.all_cons, d.ownAll]; rfl
/-! ## which of the documents a value is -/
structure IsPtr (T : TypeId) : Prop where
  und : ∃ e, Try.prog.underlying T = some (.pointer e)
  zero : (Try.prog.info? T).map (·.zero) = some (some (.pointer none))
theorem pt_text : IsPtr 154 := ⟨⟨156, by kernel_rfl⟩, by kernel_rfl⟩
theorem pt_line : IsPtr 157 := ⟨⟨159, by kernel_rfl⟩, by kernel_rfl⟩
theorem pt_cat : IsPtr 160 := ⟨⟨164, by kernel_rfl⟩, by kernel_rfl⟩
theorem pt_alt : IsPtr 165 := ⟨⟨166, by kernel_rfl⟩, by kernel_rfl⟩
theorem pt_nest : IsPtr 167 := ⟨⟨169, by kernel_rfl⟩, by kernel_rfl⟩
theorem pt_group : IsPtr 115 := ⟨⟨119, by kernel_rfl⟩, by kernel_rfl⟩
theorem run_asY {T xT : TypeId} {v : Value} (p : IsPtr T) (w : World) : (Instr.typeAssert (.iface T v) xT T true).run Try.prog w = .ok (.tuple #[v, .bool true]) w := by
  obtain ⟨⟨e, hu⟩, hz⟩ := p
  simp [Instr.typeAssert, run_underlying hu]
theorem run_asN {T T' xT : TypeId} {v : Value} (p : IsPtr T') (h : (Nat.beq T T') = false) (w : World) : (Instr.typeAssert (.iface T v) xT T' true).run Try.prog w = .ok (.tuple #[.pointer none, .bool false]) w := by
  obtain ⟨⟨e, hu⟩, hz⟩ := p
  obtain ⟨j, hj, hz'⟩ := Option.map_eq_some_iff.1 hz
  have hne : ¬ T = T' := fun e => by rw [e] at h; simp at h
  simp [Instr.typeAssert, run_underlying hu, typeInfo, zeroValue, hj, hz', hne]
theorem asY {T xT : TypeId} {v : Value} {w : World} {K : Value → World → Prop} (p : IsPtr T) (k : K (.tuple #[v, .bool true]) w) : RunS Try.prog (Instr.typeAssert (.iface T v) xT T true) w K := ⟨_, _, run_asY p w, k⟩
theorem asN {T T' xT : TypeId} {v : Value} {w : World} {K : Value → World → Prop} (p : IsPtr T') (h : (Nat.beq T T') = false) (k : K (.tuple #[.pointer none, .bool false]) w) : RunS Try.prog (Instr.typeAssert (.iface T v) xT T' true) w K := ⟨_, _, run_asN p h w, k⟩
theorem asYQ {T xT : TypeId} {v : Value} {w : World} {K : Value → Prop} (p : IsPtr T) (k : K (.tuple #[v, .bool true])) : RunQ Try.prog (Instr.typeAssert (.iface T v) xT T true) w K := ⟨_, run_asY p w, k⟩
theorem asNQ {T T' xT : TypeId} {v : Value} {w : World} {K : Value → Prop} (p : IsPtr T') (h : (Nat.beq T T') = false) (k : K (.tuple #[.pointer none, .bool false])) : RunQ Try.prog (Instr.typeAssert (.iface T v) xT T' true) w K := ⟨_, run_asN p h w, k⟩
end Go.Proofs.YtfhpgfbakimmhaaE
/- Drawn regions told as a tree of orders: where two operations that do something may come in either order, both are told. No condition of the laws stands here. -/
namespace Go.Proofs.YtfhpgfbakimmhaaE
open Go Go.RowKit
set_option linter.unusedVariables false
set_option maxRecDepth 100000
set_option linter.unusedSimpArgs false

inductive PT where
  | nil
  | one (i : Nat) (r : PT)
  | fork (a b : PT)
def PT.heads : PT → List Nat
  | .nil => []
  | .one i _ => [i]
  | .fork a b => a.heads ++ b.heads
def PT.len : PT → Nat
  | .nil => 0
  | .one _ r => r.len + 1
  | .fork a _ => a.len
def PT.of : List Nat → PT → PT
  | [], p => p
  | i :: r, p => .one i (PT.of r p)
structure ForkS (X Y : Prop) : Prop where
  both : X ∧ Y
noncomputable def vopsT (P : Program) (ops : List Oper) (now keep : List Nat) (w0 : World) (K : Env → World → Prop) (p : PT) : Env → World → Prop :=
  PT.rec (motive := fun _ => Env → World → Prop) (fun e w => K e w)
    (fun i _ ih e w => Option.rec (motive := fun _ => Prop) False (fun o => stepG P ops now keep w0 i ih e w o) (nthO ops i))
    (fun _ _ ia ib e w => ForkS (ia e w) (ib e w)) p
def planT (ops : Array Oper) (now keep loads : List Nat) : PT → Bool → Bool → Array Bool → Bool
  | .nil, _, fk, listed => !fk && (Region.ready .any ops listed).isEmpty
  | .one i r, s, fk, listed =>
    match ops[i]? with
    | none => false
    | some o =>
      (bif has i now then (fk || decide (Region.ready .any ops listed = [i])) && (has i keep || loads.all fun h => reachN ops ops.size i h)
       else !fk && ((Region.ready .any ops listed).contains i && Region.free .any ops listed i && (!isLoad o || (s && has i loads)))) &&
      planT ops now keep loads r (s && (!has i now || has i keep)) false (listed.setIfInBounds i true)
  | .fork a b, s, fk, listed => (fk || decide (Region.ready .any ops listed = a.heads ++ b.heads)) && Nat.beq a.len b.len && planT ops now keep loads a s true listed && planT ops now keep loads b s true listed
def okT (N : Nat) (P : Program) (ops : Array Oper) (now keep loads : List Nat) (p : PT) : Bool :=
  P.follows .mixedOrders && Region.noSelect ops && (ops.toList.all fun o => dstOK N o) && Nat.beq p.len ops.size &&
  (now.all fun j => has j keep || loads.all fun h => reachN ops ops.size j h) && planT ops now keep loads p true false (Array.replicate ops.size false)
theorem vopsT_sound {N : Nat} {P : Program} {ops : Array Oper} {now keep loads : List Nat} {w0 : World} {K : Env → World → Prop} {Q : Exit → Act → World → Prop} (hsel : Region.noSelect ops = true)
    (hall : ∀ o ∈ ops.toList, dstOK N o = true) (hnow : ∀ j ∈ now, has j keep = true ∨ ∀ h ∈ loads, reachN ops ops.size j h = true)
    (hK : ∀ e w a, K e w → Rel N e a → Q .normal a w) (hX : ∀ c a w, Q (.panic c) a w = False) :
    ∀ (p : PT) (s fk : Bool) (listed : Array Bool) (e : Env) (a : Act) (w : World), HeadInv .any ops ops.size listed → planT ops now keep loads p s fk listed = true → (s = true → HeldW w0 w) →
      vopsT P ops.toList now keep w0 K p e w → Rel N e a →
      (fk = false → wpAnyG P ops Q (HeldW w0) (fun j => has j now && !has j keep) p.len listed a w) ∧
      (fk = true → 0 < p.len ∧ ∀ i ∈ p.heads, i ∈ Region.ready .any ops listed → wpOp P ops Q i (fun a' w' => ((has i now && !has i keep) = false → HeldW w0 w → HeldW w0 w') ∧ wpAnyG P ops Q (HeldW w0) (fun j => has j now && !has j keep) (p.len - 1) (listed.setIfInBounds i true) a' w') a w) := by
  intro p
  induction p with
  | nil =>
    intro s fk listed e a w inv hp _ h hr
    cases fk with
    | true => simp [planT] at hp
    | false => exact ⟨fun _ => ⟨by simpa [planT] using hp, hK _ _ _ h hr⟩, fun q => by cases q⟩
  | fork x y ihx ihy =>
    intro s fk listed e a w inv hp hs h hr
    simp only [planT, Bool.and_eq_true] at hp
    obtain ⟨⟨⟨hrd, hlen⟩, hpx⟩, hpy⟩ := hp
    have hlen := Nat.eq_of_beq_eq_true hlen
    have h : ForkS (vopsT P ops.toList now keep w0 K x e w) (vopsT P ops.toList now keep w0 K y e w) := h
    have hx := (ihx s true listed e a w inv hpx hs h.both.1 hr).2 rfl
    have hy := (ihy s true listed e a w inv hpy hs h.both.2 hr).2 rfl
    have both : ∀ i ∈ x.heads ++ y.heads, i ∈ Region.ready .any ops listed → wpOp P ops Q i (fun a' w' => ((has i now && !has i keep) = false → HeldW w0 w → HeldW w0 w') ∧ wpAnyG P ops Q (HeldW w0) (fun j => has j now && !has j keep) (x.len - 1) (listed.setIfInBounds i true) a' w') a w := by
      intro i hi hir
      rcases List.mem_append.1 hi with q | q
      · exact hx.2 i q hir
      · have := hy.2 i q hir
        rw [← hlen] at this; exact this
    refine ⟨fun hf => ?_, fun _ => ⟨hx.1, both⟩⟩
    subst hf
    simp only [Bool.false_or, decide_eq_true_eq] at hrd
    have e1 : (PT.fork x y).len = x.len - 1 + 1 := by show x.len = _; have := hx.1; omega
    rw [e1]
    refine ⟨fun q => ?_, fun j hj => both j (hrd ▸ hj) hj⟩
    exfalso
    have hne : x.heads ++ y.heads = [] := hrd.symm.trans q
    obtain ⟨hxe, _⟩ := List.append_eq_nil_iff.1 hne
    have gen : ∀ p : PT, 0 < p.len → p.heads ≠ [] := by
      intro p
      induction p with
      | nil => intro h; cases h
      | one i r _ => intro _ h; cases h
      | fork a b iha _ => intro h q; exact iha h (List.append_eq_nil_iff.1 q).1
    exact gen x hx.1 hxe
  | one i r ih =>
    intro s fk listed e a w inv hp hs h hr
    cases ho : ops[i]? with
    | none => simp [planT, ho] at hp
    | some o =>
      simp only [planT, ho, Bool.and_eq_true] at hp
      obtain ⟨hp1, hp2⟩ := hp
      have hn : nthO ops.toList i = some o := by rw [nthO_eq]; simpa using ho
      have him : o ∈ ops.toList := List.mem_of_getElem? (l := ops.toList) (i := i) (a := o) (by simpa using ho)
      have hd := hall o him
      have his : i < ops.size := (Array.getElem?_eq_some_iff.1 ho).1
      have h : Option.rec (motive := fun _ => Prop) False (fun o => stepG P ops.toList now keep w0 i (vopsT P ops.toList now keep w0 K r) e w o) (nthO ops.toList i) := h
      rw [hn] at h
      have h : stepG P ops.toList now keep w0 i (vopsT P ops.toList now keep w0 K r) e w o := h
      have hseln := Region.noSelect_spec hsel
      have ih' : ∀ {s'} {e a w}, planT ops now keep loads r s' false (listed.setIfInBounds i true) = true → (s' = true → HeldW w0 w) → i ∈ Region.ready .any ops listed → vopsT P ops.toList now keep w0 K r e w → Rel N e a → wpAnyG P ops Q (HeldW w0) (fun j => has j now && !has j keep) r.len (listed.setIfInBounds i true) a w :=
        fun hp2 hs' hri h hr => (ih _ false _ _ _ _ (inv.set hri his) hp2 hs' h hr).1 rfl
      cases hin : has i now with
      | false =>
        rw [hin] at hp1 hp2
        simp only [cond_false, Bool.and_eq_true, Bool.or_eq_true, Bool.not_eq_true'] at hp1
        obtain ⟨hfk, ⟨hrd, hfr⟩, hld⟩ := hp1
        subst hfk
        have hri : i ∈ Region.ready .any ops listed := by simpa using hrd
        refine ⟨fun _ => ?_, fun q => by cases q⟩
        have done : ∀ e : Env, Rel N e a → Region.wanted o (yielded ops a.tmps) = true → doG P now keep w0 i o (vopsT P ops.toList now keep w0 K r) e w → wpAnyG P ops Q (HeldW w0) (fun j => has j now && !has j keep) (r.len + 1) listed a w := by
          intro e hr hwt h
          unfold doG at h
          have h : vopG P o e w0 fun v => vopsT P ops.toList now keep w0 K r (e.putO o.dst v) w := by simpa only [hin] using h
          obtain ⟨v, hk, hrun⟩ := vopG_run h
          refine wpAnyG_first (b := isLoad o) (n := ops.size) (v := v) ho hseln (fun c a w q => by rw [hX] at q; exact q.elim) ?_ r.len listed a w inv (Region.free_spec ho hfr) hri ?_ ?_ ?_
          · intro hb j hj
            simp only [Bool.and_eq_true, Bool.not_eq_true'] at hj
            rcases hld with hld | hld
            · rw [hb] at hld; cases hld
            · rcases hnow j (has_mem hj.1) with q | q
              · rw [hj.2] at q; cases q
              · exact q i (has_mem hld.2)
          · intro hb
            rcases hld with hld | hld
            · rw [hb] at hld; cases hld
            · exact hs hld.1
          · exact .inl ⟨hwt, fun w' hw' => by rw [hr.eval]; exact hrun w' hw'⟩
          · refine ih' hp2 (fun q => hs ?_) hri hk (hr.put hd v)
            simp only [Bool.and_eq_true] at q
            exact q.1
        have left : ∀ e : Env, Rel N e a → Region.wanted o (yielded ops a.tmps) = false → vopsT P ops.toList now keep w0 K r (e.putO o.dst undef) w → wpAnyG P ops Q (HeldW w0) (fun j => has j now && !has j keep) (r.len + 1) listed a w := by
          intro e hr hwt h
          refine wpAnyG_first (b := false) (n := ops.size) (v := undef) ho hseln (fun c a w q => by rw [hX] at q; exact q.elim) (fun q => by cases q) r.len listed a w inv (Region.free_spec ho hfr) hri (fun q => by cases q) (.inr ⟨hwt, rfl⟩) ?_
          refine ih' hp2 (fun q => hs ?_) hri h (hr.put hd undef)
          simp only [Bool.and_eq_true] at q
          exact q.1
        unfold stepG at h
        cases hg : o.guard with
        | none =>
          rw [hg] at h
          exact done e hr (by simp [Region.wanted, hg]) h
        | some jw =>
          obtain ⟨j, want⟩ := jw
          rw [hg] at h
          cases hsl : slotOf ops.toList j with
          | none => simp only [hsl] at h
          | some g =>
            simp only [hsl] at h
            have hwt := wanted_of (opsA := ops) hr hg hsl
            unfold guardK at h
            split at h
            · rename_i b heg
              rw [heg] at hwt
              by_cases hb : b = want
              · subst hb
                have h := h.all.1 rfl
                rw [Env.put_same heg] at h
                exact done e hr (by simpa using hwt) h
              · have hb' : b = !want := by cases b <;> cases want <;> first | rfl | exact absurd rfl hb
                have h2 := h.all.2 hb'
                clear h
                subst hb'
                rw [Env.put_same heg] at h2
                exact left e hr (by rw [hwt]; simp) h2
            · rename_i hne
              refine left e hr ?_ h
              rw [hwt]
              cases heg : e g <;> first | rfl | exact absurd heg (hne _)
      | true =>
        rw [hin] at hp1 hp2
        simp only [cond_true, Bool.and_eq_true, Bool.or_eq_true, decide_eq_true_eq] at hp1
        obtain ⟨hrd, _⟩ := hp1
        -- the operation itself
        have core : i ∈ Region.ready .any ops listed → wpOp P ops Q i (fun a' w' => ((has i now && !has i keep) = false → HeldW w0 w → HeldW w0 w') ∧ wpAnyG P ops Q (HeldW w0) (fun j => has j now && !has j keep) r.len (listed.setIfInBounds i true) a' w') a w := by
          intro hri
          have done : ∀ e : Env, Rel N e a → Region.wanted o (yielded ops a.tmps) = true → doG P now keep w0 i o (vopsT P ops.toList now keep w0 K r) e w → wpOp P ops Q i (fun a' w' => ((has i now && !has i keep) = false → HeldW w0 w → HeldW w0 w') ∧ wpAnyG P ops Q (HeldW w0) (fun j => has j now && !has j keep) r.len (listed.setIfInBounds i true) a' w') a w := by
            intro e hr hwt h
            unfold doG at h
            have h : vopV P o e w (fun v w' => Bool.rec (motive := fun _ => Prop) (vopsT P ops.toList now keep w0 K r (e.putO o.dst v) w') (KeepS w0 w' (vopsT P ops.toList now keep w0 K r (e.putO o.dst v) w')) (has i keep)) (fun _ _ => False) := by simpa only [hin] using h
            rw [vopV_eq] at h
            unfold wpOp
            simp only [ho, hwt, if_true]
            refine .inl (wp_of_good (vop_sound hr.eval h) ?_ (fun ch w' q => q.elim))
            intro v w' hv
            cases hkp : has i keep with
            | false =>
              rw [hkp] at hv hp2
              refine ⟨fun q => by simp [hin, hkp] at q, ih' hp2 (fun q => by simp at q) hri hv (hr.put hd v)⟩
            | true =>
              rw [hkp] at hv hp2
              have hv : KeepS w0 w' (vopsT P ops.toList now keep w0 K r (e.putO o.dst v) w') := hv
              exact ⟨fun _ _ => hv.ex.1, ih' hp2 (fun _ => hv.ex.1) hri hv.ex.2 (hr.put hd v)⟩
          have left : ∀ e : Env, Rel N e a → Region.wanted o (yielded ops a.tmps) = false → vopsT P ops.toList now keep w0 K r (e.putO o.dst undef) w → wpOp P ops Q i (fun a' w' => ((has i now && !has i keep) = false → HeldW w0 w → HeldW w0 w') ∧ wpAnyG P ops Q (HeldW w0) (fun j => has j now && !has j keep) r.len (listed.setIfInBounds i true) a' w') a w := by
            intro e hr hwt h
            unfold wpOp
            simp only [ho, hwt]
            exact ⟨fun _ q => q, ih' hp2 (fun q => hs (by simp only [Bool.and_eq_true] at q; exact q.1)) hri h (hr.put hd undef)⟩
          unfold stepG at h
          cases hg : o.guard with
          | none =>
            rw [hg] at h
            exact done e hr (by simp [Region.wanted, hg]) h
          | some jw =>
            obtain ⟨j, want⟩ := jw
            rw [hg] at h
            cases hsl : slotOf ops.toList j with
            | none => simp only [hsl] at h
            | some g =>
              simp only [hsl] at h
              have hwt := wanted_of (opsA := ops) hr hg hsl
              unfold guardK at h
              split at h
              · rename_i b heg
                rw [heg] at hwt
                by_cases hb : b = want
                · subst hb
                  have h := h.all.1 rfl
                  rw [Env.put_same heg] at h
                  exact done e hr (by simpa using hwt) h
                · have hb' : b = !want := by cases b <;> cases want <;> first | rfl | exact absurd rfl hb
                  have h2 := h.all.2 hb'
                  clear h
                  subst hb'
                  rw [Env.put_same heg] at h2
                  exact left e hr (by rw [hwt]; simp) h2
              · rename_i hne
                refine left e hr ?_ h
                rw [hwt]
                cases heg : e g <;> first | rfl | exact absurd heg (hne _)
        refine ⟨fun hf => ?_, fun _ => ⟨Nat.succ_pos _, fun j hj hjr => ?_⟩⟩
        · subst hf
          rcases hrd with hrd | hrd
          · cases hrd
          refine ⟨fun q => (by rw [hrd] at q; cases q), fun j hj => ?_⟩
          have hj' := hj
          rw [hrd] at hj'
          obtain rfl : j = i := by simpa using hj'
          exact core hj
        · obtain rfl : j = i := by simpa [PT.heads] using hj
          exact core hjr
theorem regT {N : Nat} {P : Program} {id : Nat} {ops : Array Oper} {K : Exit → Env → World → Prop} {e : Env} {w : World} (now keep loads : List Nat) (p : PT) (hok : okT N P ops now keep loads p = true)
    (h : DrawS w fun w1 => vopsT P ops.toList now keep w1 (K .normal) p e w1) : RegS N P id ops K e w := by
  simp only [okT, Bool.and_eq_true] at hok
  obtain ⟨⟨⟨⟨⟨hm, hsel⟩, hall⟩, hlen⟩, hnow⟩, hplan⟩ := hok
  have hs : SameW w { w with drawn := w.drawn + 1 } := ⟨rfl, rfl, rfl, rfl⟩
  have hlen := Nat.eq_of_beq_eq_true hlen
  refine ⟨fun a hr => ?_⟩
  have inv0 : HeadInv .any ops ops.size (Array.replicate ops.size false) :=
    ⟨by simp, fun j oj _ hl => (by rw [getD_replicate_false] at hl; cases hl), fun t ht ht' => absurd ht' (by omega)⟩
  have H := (vopsT_sound (N := N) (Q := fun ex a' w' => match ex with | .normal => ∃ e', Rel N e' a' ∧ K .normal e' w' | _ => False) hsel
    (fun o ho => List.all_eq_true.1 hall o ho)
    (fun j hj => by
      have := List.all_eq_true.1 hnow j hj
      simp only [Bool.or_eq_true, List.all_eq_true] at this
      exact this)
    (fun e w a hk hr => ⟨e, hr, hk⟩) (fun c a w => rfl) p true false _ e a _ inv0 hplan (fun _ => HeldW.refl _) (h.all _ hs) hr).1 rfl
  rw [hlen] at H
  refine wp_mono (wp_region_any hm (wpAny_of_G _ _ _ _ H)) ?_
  intro ex a' w' q
  cases ex <;> first | exact q | exact q.elim
/-- a drawn region's end, said once -/
theorem cutReg {N : Nat} {P : Program} {id : Nat} {ops : Array Oper} {K : Exit → Env → World → Prop} {e : Env} {w : World} (J : Env → World → Prop) (h : RegS N P id ops (fun ex e w => match ex with | .normal => J e w | ex => K ex e w) e w) (k : ∀ e w, J e w → K .normal e w) : RegS N P id ops K e w :=
  ⟨fun a hr => wp_mono (h.sem a hr) fun ex a' w' ⟨e', hr', hk⟩ => ⟨e', hr', by cases ex <;> first | exact k _ _ hk | exact hk⟩⟩
end Go.Proofs.YtfhpgfbakimmhaaE
/- Steps over rows of whatever elements. No condition of the laws stands here. -/
namespace Go.Proofs.YtfhpgfbakimmhaaE
open Go Go.RowKit
set_option linter.unusedVariables false
set_option maxRecDepth 100000
set_option maxHeartbeats 2000000

/-- append to an own row of whatever elements -/
theorem appRS {P : Program} {B : Nat} {W0 w : World} {L : List It} {t ty e : TypeId} {z : Value} {sz bytes n m : Nat} {v x : Value} {cs ds : List Value} {K : Value → World → Prop} (ht : P.underlying t = some (.slice e))
    (inf : (P.info? e).map (fun i => (i.zero, i.size, i.bytes)) = some (some z, sz, bytes)) (hzs : z.cells.size = sz) (hsz : 0 < sz) (hby : bytes ≤ 128) (H : St B W0 w L) (i : Nat) (hi : L[i]? = some (.row v e sz n cs)) (hx : Rd w x sz m ds) (h1 : ∀ u ∈ ds, u.oneCell' = true)
    (hm : n + m ≤ 1099511627776) (k : ∀ A c w', St B W0 w' (L.set i (.row (.slice A (n + m) c) e sz (n + m) (cs ++ ds))) → K (.slice A (n + m) c) w') : RunS P (Builtin.append_ #[t, t] ty #[v, x]) w K := by
  obtain ⟨i0, q1, q2, q3, q4⟩ := infoOf inf
  refine app_run ht q1 q2 q3 q4 hzs hsz (H.own i hi) hx h1 hm hby H.size fun v' w' ho hg hb => ?_
  have H' := app_turn H i hi ho hg hb
  obtain ⟨A, c, rfl⟩ := H'.mk1 i (get_set hi)
  exact k A c w' H'
theorem HeldW.step {w0 w1 w2 : World} (h : HeldW w0 w1) (hb : Below w1.heap.size w1 w2) : HeldW w0 w2 := ⟨fun k hk => by
  have h1 := h.block k hk
  have h2 : k < w1.heap.size := by
    rcases Nat.lt_or_ge k w1.heap.size with q | q
    · exact q
    · rw [Array.getElem?_eq_none q, Array.getElem?_eq_getElem hk] at h1; cases h1
  rw [hb.block k h2, h1]⟩
theorem callRowB {P : Program} {B : Nat} {W0 w : World} {L : List It} {f : FuncId} {args : List Value} {K : Value → World → Prop} {X : List PanicEntry → World → Prop} {e : TypeId} {sz n : Nat} {cs : List Value} (ok : callOK P f = true)
    (h : Calls P f args.toArray w fun e' w' => ∃ x, e' = .returned x ∧ w'.ownsRow w.heap.size e sz x n cs ∧ Below w.heap.size w w') (H : St B W0 w L) (k : ∀ A c w', Below w.heap.size w w' → St B W0 w' (.row (.slice A n c) e sz n cs :: L) → K (.slice A n c) w') : CallS P f args w K X :=
  CallS.mk ok (h.mono fun e' w' ⟨x, he, ho, hb⟩ => by
    subst he
    obtain ⟨A, c, rfl⟩ := own_val ho
    exact k A c w' hb (newRow H ho hb))
theorem litRB {P : Program} {B : Nat} {W0 w : World} {L : List It} {t e : TypeId} {m n sz : Nat} {parts : Array (Nat × Value)} {cs : List Value} {K : Value → World → Prop} (H : St B W0 w L) (hc : cs.length = n * sz) (hl : n ≤ 1099511627776) (hr : (Instr.buildSlice t m parts).run P w = .ok (.slice (some ⟨w.heap.size, 0, none⟩) n n) (w.alloc (.cells cs.toArray e)))
    (k : ∀ A c w', Below w.heap.size w w' → St B W0 w' (.row (.slice A n c) e sz n cs :: L) → K (.slice A n c) w') : RunS P (Instr.buildSlice t m parts) w K :=
  ⟨_, _, hr, k _ _ _ (alloc_below _ _) (newRow H (own_newR hc hl) (alloc_below _ _))⟩
theorem newRB {B : Nat} {W0 w : World} {L : List It} {o : Obj} {K : Nat → World → Prop} (H : St B W0 w L) (k : ∀ g w', Below w.heap.size w w' → St B W0 w' (.obj g o :: L) → K g w') : NewS w o K :=
  ⟨fun b w' hb hw => k b w' (by subst hw; exact (Below.refl _ _).alloc (Nat.le_refl _) o) (by subst hb hw; exact H.cons ((Below.refl _ _).alloc (Nat.le_refl _) o) ⟨H.size, heap_alloc_new w o⟩ (fun g hg => by cases hg; exact Nat.le_refl _))⟩
theorem Env.seven {e : Env} {a b c d f g h : Nat} {va vb vc vd vf vg vh : Value} (ha : e a = va) (hb : e b = vb) (hc : e c = vc) (hd : e d = vd) (hf : e f = vf) (hg : e g = vg) (hh : e h = vh) : e = (((((((e.put a va).put b vb).put c vc).put d vd).put f vf).put g vg).put h vh) := by rw [Env.put_same ha, Env.put_same hb, Env.put_same hc, Env.put_same hd, Env.put_same hf, Env.put_same hg, Env.put_same hh]
theorem Env.eight {e : Env} {a b c d f g h i : Nat} {va vb vc vd vf vg vh vi : Value} (ha : e a = va) (hb : e b = vb) (hc : e c = vc) (hd : e d = vd) (hf : e f = vf) (hg : e g = vg) (hh : e h = vh) (hi : e i = vi) : e = ((((((((e.put a va).put b vb).put c vc).put d vd).put f vf).put g vg).put h vh).put i vi) := by rw [Env.put_same ha, Env.put_same hb, Env.put_same hc, Env.put_same hd, Env.put_same hf, Env.put_same hg, Env.put_same hh, Env.put_same hi]
theorem Env.nine {e : Env} {a b c d f g h i j : Nat} {va vb vc vd vf vg vh vi vj : Value} (ha : e a = va) (hb : e b = vb) (hc : e c = vc) (hd : e d = vd) (hf : e f = vf) (hg : e g = vg) (hh : e h = vh) (hi : e i = vi) (hj : e j = vj) : e = (((((((((e.put a va).put b vb).put c vc).put d vd).put f vf).put g vg).put h vh).put i vi).put j vj) := by rw [Env.put_same ha, Env.put_same hb, Env.put_same hc, Env.put_same hd, Env.put_same hf, Env.put_same hg, Env.put_same hh, Env.put_same hi, Env.put_same hj]
theorem Env.ten {e : Env} {a b c d f g h i j k : Nat} {va vb vc vd vf vg vh vi vj vk : Value} (ha : e a = va) (hb : e b = vb) (hc : e c = vc) (hd : e d = vd) (hf : e f = vf) (hg : e g = vg) (hh : e h = vh) (hi : e i = vi) (hj : e j = vj) (hk : e k = vk) : e = ((((((((((e.put a va).put b vb).put c vc).put d vd).put f vf).put g vg).put h vh).put i vi).put j vj).put k vk) := by rw [Env.put_same ha, Env.put_same hb, Env.put_same hc, Env.put_same hd, Env.put_same hf, Env.put_same hg, Env.put_same hh, Env.put_same hi, Env.put_same hj, Env.put_same hk]
end Go.Proofs.YtfhpgfbakimmhaaE
