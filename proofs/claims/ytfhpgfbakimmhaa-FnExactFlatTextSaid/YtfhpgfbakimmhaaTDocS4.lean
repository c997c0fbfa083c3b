/- The reference's l2lead. -/
import Derived.Test.YtfhpgfbakimmhaaTDocS3
import Derived.Test.YtfhpgfbakimmhaaPLoc
namespace Go.Proofs.YtfhpgfbakimmhaaE
open Go Go.RowKit
set_option linter.unusedVariables false
set_option linter.unusedSimpArgs false
set_option maxRecDepth 100000
set_option maxHeartbeats 2000000

def leadStep (k : Int) (t : Int) (x y : Int × Bool) : Int × Bool :=
  if k = 0 then (0, false) else if k = 1 then (t, false) else if arK k = 0 then (0, true) else if k = 7 ∨ k = 8 then y else if k = 9 ∨ x.2 = true then x else (x.1 + y.1, y.2)
abbrev vIB (x : Int × Bool) : Value := .tuple #[.int .i64 x.1, .bool x.2]
theorem ok_l2lead : callOK Try.prog 93 = true := by kernel_rfl
theorem l2lead_step {fs : List PieceG} {A As : Option Addr} {n c cs to : Nat} {f : PieceG} {x y : Int × Bool} {W : World} (hl : n ≤ 4294967296) (hf : fs[to]? = some f) (hb : byteOK f.text) (htl : f.text.length ≤ 4294967296) (hx : RdPiece W (.slice A n c) n fs) (hst : RdSt W As n cs (fs.map PieceG.p))
    (hy : arK f.kind ≠ 0 → (0 ≤ y.1 ∧ y.1 ≤ 140000) ∧ ∀ w, Below W.heap.size W w → ∀ t : Int, t = (to : Int) → GivesV Try.prog 93 [.slice A n c, .slice As n cs, .int .i64 t] w (vIB y))
    (hxx : arK f.kind = 2 → (0 ≤ x.1 ∧ x.1 ≤ 140000) ∧ 0 < to ∧ ∀ w, Below W.heap.size W w → ∀ t : Int, t = (startM (fs.map PieceG.p) (to - 1) : Int) → GivesV Try.prog 93 [.slice A n c, .slice As n cs, .int .i64 t] w (vIB x)) :
    GivesV Try.prog 93 [.slice A n c, .slice As n cs, .int .i64 (to + 1 : Nat)] W (vIB (leadStep f.kind (tw f.text) x y)) := by
  have H := St.enter W
  have hnl := hx.len
  have hto := (List.getElem?_eq_some_iff.1 hf).1
  have h2 := arK_le f.kind
  have hk := (hx.kids f (List.mem_of_getElem? hf))
  have h2k : ¬ arK f.kind = 0 → ¬ arK f.kind = 1 → f.kind = 6 ∨ f.kind = 9 := arK_two
  have h1k : arK f.kind = 1 → f.kind = 7 ∨ f.kind = 8 := arK_one
  obtain ⟨A0, c0, e0⟩ := PieceG.shape hk
  obtain ⟨textV, kind, text, nn⟩ := f
  dsimp only at *
  subst e0
  have hk2 : RdB W (.slice A0 text.length c0) text := hk
  refine calls_of_vcV (args := [.slice A n c, .slice As n cs, .int .i64 (to + 1 : Nat)]) Try.func93 rfl (by kernel_rfl) (Nat.le_of_ble_eq_true rfl) ?_
  refine ar64 (by omega) (by omega) ?_
  refine idxCI (cells := PieceG.cells) to (by omega) PieceG.cells_len hx.row hf (by omega) fun b off hc => ?_
  refine loadS (v := .int .i64 kind) (hc 0 _ rfl) ?_
  refine loadS (v := .slice A0 text.length c0) (hc 1 _ rfl) ?_
  refine loadS (v := .int .i64 nn) (hc 2 _ rfl) ?_
  refine newR (o := .cells #[.int .i64 0, .slice none 0 0, .int .i64 0] _) H fun g0 w H => ?_
  refine storeO H 0 rfl rfl rfl fun w H => ?_
  refine storeO H 0 rfl rfl rfl fun w H => ?_
  refine storeO H 0 rfl rfl rfl fun w H => ?_
  refine loadO H 0 rfl rfl ?_
  refine ifB (fun c5 => ?_) (fun c5 => ?_)
  · exact Exists.intro _ (And.intro rfl (And.intro (by show Value.tuple #[.int .i64 0, .bool false] = _; unfold leadStep vIB; rw [if_pos c5]) H.none))
  · refine loadO H 0 rfl rfl ?_
    refine ifB (fun c7 => ?_) (fun c7 => ?_)
    · refine loadO H 0 rfl rfl ?_
      have H1 : St W.heap.size W w [.obj g0 (.cells #[.int .i64 kind, .slice A0 text.length c0, .int .i64 nn] 96)] := H
      have H := H1
      refine callV ok_spec_TextWidth (spec_TextWidth hb htl (hk2.ext H.below)) H fun w H => ?_
      exact Exists.intro _ (And.intro rfl (And.intro (by show Value.tuple #[.int .i64 (tw text), .bool false] = _; unfold leadStep vIB; rw [if_neg c5, if_pos c7]) H.none))
    · refine loadO H 0 rfl rfl ?_
      have H1 : St W.heap.size W w [.obj g0 (.cells #[.int .i64 kind, .slice A0 text.length c0, .int .i64 nn] 96)] := H
      have H := H1
      refine callV ok_l2arity (spec_l2arity kind _) H fun w H => ?_
      refine ifB (fun a0 => ?_) (fun a0 => ?_)
      · exact Exists.intro _ (And.intro rfl (And.intro (by show Value.tuple #[.int .i64 0, .bool true] = _; unfold leadStep vIB; rw [if_neg c5, if_neg c7, if_pos (by omega)]) H.none))
      · obtain ⟨⟨y0, y1⟩, gy⟩ := hy (by omega)
        have e0 : leadStep kind (tw text) x y = if kind = 7 ∨ kind = 8 then y else if kind = 9 ∨ x.2 = true then x else (x.1 + y.1, y.2) := by unfold leadStep; rw [if_neg c5, if_neg c7, if_neg (by omega)]
        rw [e0]
        refine RegV.mk ?_
        refine loadO H 0 rfl rfl ?_
        refine gF (fun c2 => ?_) (fun c2 => ?_)
        · refine loadO H 0 rfl rfl ?_
          refine ifB (fun c4 => ?_) (fun c4 => ?_)
          · refine ar64 (by omega) (by omega) ?_
            refine callV ok_l2lead (gy _ H.below _ (by omega)) H fun w H => ?_
            exact Exists.intro _ (And.intro rfl (And.intro (show vIB y = _ by rw [if_pos (by omega)]) H.none))
          · refine ar64 (by omega) (by omega) ?_
            obtain ⟨⟨x0, x1⟩, hp, gx⟩ := hxx (by omega)
            rw [if_neg (show ¬ (kind = 7 ∨ kind = 8) by omega)]
            refine idxI (hst.ext H.below) (by omega) (by omega) fun b off hc => ?_
            refine loadS hc ?_
            obtain ⟨xw, xe⟩ := x
            cases xe <;>
            (refine callV ok_l2lead (gx _ H.below _ (by rw [show (((to + 1 : Nat) : Int) - 2).toNat = to - 1 by omega]; exact startsL_get (by omega))) H fun w H => ?_)
            · dsimp only at x0 x1
              refine RegV.mk ?_
              refine loadO H 0 rfl rfl ?_
              refine gF (fun c2 => ?_) (fun c2 => ?_)
              · refine ifF ?_
                refine ar64 (by omega) (by omega) ?_
                refine callV ok_l2lead (gy _ H.below _ (by omega)) H fun w H => ?_
                refine ar64 (by omega) (by omega) ?_
                exact Exists.intro _ (And.intro rfl (And.intro (show Value.tuple #[.int .i64 (xw + y.1), .bool y.2] = _ by rw [if_neg (by rintro (q | q); exact c2 q; cases q)]) H.none))
              · refine ifT ?_
                exact Exists.intro _ (And.intro rfl (And.intro (show Value.tuple #[.int .i64 xw, .bool false] = _ by rw [if_pos (.inl c2)]) H.none))
            · refine RegV.mk ?_
              refine loadO H 0 rfl rfl ?_
              refine gF (fun c2 => ?_) (fun c2 => ?_)
              · refine ifT ?_
                exact Exists.intro _ (And.intro rfl (And.intro (show Value.tuple #[.int .i64 xw, .bool true] = _ by rw [if_pos (.inr rfl)]) H.none))
              · refine ifT ?_
                exact Exists.intro _ (And.intro rfl (And.intro (show Value.tuple #[.int .i64 xw, .bool true] = _ by rw [if_pos (.inr rfl)]) H.none))
        · refine ifT ?_
          refine ar64 (by omega) (by omega) ?_
          refine callV ok_l2lead (gy _ H.below _ (by omega)) H fun w H => ?_
          exact Exists.intro _ (And.intro rfl (And.intro (show vIB y = _ by rw [if_pos (by omega)]) H.none))
theorem spec_l2lead {fs : List PieceG} {A As : Option Addr} {n c cs : Nat} (hl : n ≤ 4294967296) (hok : ∀ p ∈ fs.map PieceG.p, OkPiece p) (hb : ∀ f ∈ fs, byteOK f.text ∧ f.text.length ≤ 4294967296) {d : DocT} {to : Nat} (hL : Loc (fs.map PieceG.p) d to) (hT : d.tl ≤ 140000) :
    ∀ {W : World}, RdPiece W (.slice A n c) n fs → RdSt W As n cs (fs.map PieceG.p) → GivesV Try.prog 93 [.slice A n c, .slice As n cs, .int .i64 to] W (vIB (leadD d)) := by
  have hnn := fun {d : DocT} {to : Nat} (h : Loc (fs.map PieceG.p) d to) => lead_bound (h.good hok)
  induction hL with
  | @leaf to p h a =>
    intro W hx hst
    obtain ⟨f, hf, rfl⟩ := piece_of h
    have a : arK f.kind = 0 := a
    have hm := List.mem_of_getElem? hf
    have := l2lead_step (x := (0, false)) (y := (0, false)) hl hf (hb f hm).1 (hb f hm).2 hx hst (fun q => absurd a q) (fun q => by omega)
    have e : leadStep f.kind (tw f.text) (0, false) (0, false) = leadD (leafD f.p) := by
      unfold leadStep leafD
      show _ = leadD (if f.kind = 0 then .nil else if f.kind = 1 then .text f.text else .line f.kind)
      rw [if_pos a]; (repeat' split) <;> rfl
    rw [e] at this; exact this
  | @nest to p d h a k ih =>
    intro W hx hst
    obtain ⟨f, hf, rfl⟩ := piece_of h
    have a : f.kind = 7 := a
    have hm := List.mem_of_getElem? hf
    have hT2 : d.tl ≤ 140000 := by simp only [DocT.tl] at hT; omega
    have hbd := hnn k
    have := l2lead_step (x := (0, false)) (y := leadD d) hl hf (hb f hm).1 (hb f hm).2 hx hst (fun q => ⟨by omega, fun w hb t ht => by subst ht; exact ih hT2 (hx.ext hb) (hst.ext hb)⟩) (fun q => by rw [a] at q; exact absurd q (by decide))
    rw [a] at this; exact this
  | @group to p d h a k ih =>
    intro W hx hst
    obtain ⟨f, hf, rfl⟩ := piece_of h
    have a : f.kind = 8 := a
    have hm := List.mem_of_getElem? hf
    have hT2 : d.tl ≤ 140000 := by simp only [DocT.tl] at hT; omega
    have hbd := hnn k
    have := l2lead_step (x := (0, false)) (y := leadD d) hl hf (hb f hm).1 (hb f hm).2 hx hst (fun q => ⟨by omega, fun w hb t ht => by subst ht; exact ih hT2 (hx.ext hb) (hst.ext hb)⟩) (fun q => by rw [a] at q; exact absurd q (by decide))
    rw [a] at this; exact this
  | @cat to p l r h a kr hp kl ihr ihl =>
    intro W hx hst
    obtain ⟨f, hf, rfl⟩ := piece_of h
    have a : f.kind = 6 := a
    have hm := List.mem_of_getElem? hf
    have hTr : r.tl ≤ 140000 := by simp only [DocT.tl] at hT; omega
    have hTl : l.tl ≤ 140000 := by simp only [DocT.tl] at hT; omega
    have hbr := hnn kr
    have hbl := hnn kl
    have := l2lead_step (x := leadD l) (y := leadD r) hl hf (hb f hm).1 (hb f hm).2 hx hst (fun q => ⟨by omega, fun w hb t ht => by subst ht; exact ihr hTr (hx.ext hb) (hst.ext hb)⟩) (fun q => ⟨by omega, hp, fun w hb t ht => by subst ht; exact ihl hTl (hx.ext hb) (hst.ext hb)⟩)
    rw [a] at this
    have e : leadStep 6 (tw f.text) (leadD l) (leadD r) = leadD (.cat l r) := by
      show (if (6 : Int) = 9 ∨ (leadD l).2 = true then leadD l else _) = _
      simp only [leadD]
      split
      · rename_i q; rw [if_pos (by rcases q with q | q; cases q; exact q)]; rcases q with q | q; cases q; exact Prod.ext rfl q
      · rename_i q; rw [if_neg (fun z => q (.inr z))]
    rw [e] at this; exact this
  | @alt to p l r h a kr hp kl ihr ihl =>
    intro W hx hst
    obtain ⟨f, hf, rfl⟩ := piece_of h
    have a : f.kind = 9 := a
    have hm := List.mem_of_getElem? hf
    have hTr : r.tl ≤ 140000 := by simp only [DocT.tl] at hT; omega
    have hTl : l.tl ≤ 140000 := by simp only [DocT.tl] at hT; omega
    have hbr := hnn kr
    have hbl := hnn kl
    have := l2lead_step (x := leadD l) (y := leadD r) hl hf (hb f hm).1 (hb f hm).2 hx hst (fun q => ⟨by omega, fun w hb t ht => by subst ht; exact ihr hTr (hx.ext hb) (hst.ext hb)⟩) (fun q => ⟨by omega, hp, fun w hb t ht => by subst ht; exact ihl hTl (hx.ext hb) (hst.ext hb)⟩)
    rw [a] at this
    have e : leadStep 9 (tw f.text) (leadD l) (leadD r) = leadD (.alt l r) := by
      show (if (9 : Int) = 9 ∨ (leadD l).2 = true then leadD l else ((leadD l).1 + (leadD r).1, (leadD r).2)) = _
      rw [if_pos (.inl rfl)]; rfl
    rw [e] at this; exact this
end Go.Proofs.YtfhpgfbakimmhaaE
