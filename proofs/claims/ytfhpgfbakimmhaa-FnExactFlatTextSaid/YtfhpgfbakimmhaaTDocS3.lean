/- The reference's walks over a valid document: l2nested, l2flat, l2lead. -/
import Derived.Test.YtfhpgfbakimmhaaTDocS2
namespace Go.Proofs.YtfhpgfbakimmhaaE
open Go Go.RowKit
set_option linter.unusedVariables false
set_option linter.unusedSimpArgs false
set_option maxRecDepth 100000
set_option maxHeartbeats 2000000

theorem Loc.pos {ps : List PieceP} {d : DocT} {to : Nat} (h : Loc ps d to) : 0 < to ∧ to ≤ ps.length := by
  cases h <;> (rename_i h; exact ⟨Nat.succ_pos _, (List.getElem?_eq_some_iff.1 (by assumption)).1⟩)
theorem Loc.nn {ps : List PieceP} (hok : ∀ p ∈ ps, OkPiece p) {d : DocT} {to : Nat} (h : Loc ps d to) : NnD d := by
  induction h with
  | leaf h a => exact leaf_nn _
  | nest h a k ih => exact ⟨(hok _ (List.mem_of_getElem? h)).nest a, ih⟩
  | group h a k ih => exact ih
  | cat h a kr hp kl ihr ihl => exact ⟨ihl, ihr⟩
  | alt h a kr hp kl ihr ihl => exact ⟨ihl, ihr⟩
theorem piece_of {fs : List PieceG} {i : Nat} {p : PieceP} (h : (fs.map PieceG.p)[i]? = some p) : ∃ f, fs[i]? = some f ∧ f.p = p := by
  rw [List.getElem?_map] at h
  cases hf : fs[i]? with
  | none => rw [hf] at h; cases h
  | some f => rw [hf] at h; cases h; exact ⟨f, rfl, rfl⟩
abbrev RdSt (W : World) (As : Option Addr) (n cs : Nat) (ps : List PieceP) : Prop := Rd W (.slice As n cs) 1 n ((startsL ps n).map (.int .i64))
theorem leafNest (p : PieceP) : nestS (leafD p) = 0 := by unfold leafD; (repeat' split) <;> rfl
theorem ok_l2nested : callOK Try.prog 87 = true := by kernel_rfl
theorem l2nested_step {fs : List PieceG} {A As : Option Addr} {n c cs to : Nat} {f : PieceG} {x y : Int} {W : World} (hl : n ≤ 4294967296) (hf : fs[to]? = some f) (hn : arK f.kind = 1 → 0 ≤ f.n) (hx : RdPiece W (.slice A n c) n fs) (hst : RdSt W As n cs (fs.map PieceG.p))
    (hy : arK f.kind ≠ 0 → (0 ≤ y ∧ y ≤ 8000) ∧ ∀ w, Below W.heap.size W w → ∀ t : Int, t = (to : Int) → GivesV Try.prog 87 [.slice A n c, .slice As n cs, .int .i64 t] w (.int .i64 y))
    (hxx : arK f.kind = 2 → 0 < to ∧ ∀ w, Below W.heap.size W w → ∀ t : Int, t = (startM (fs.map PieceG.p) (to - 1) : Int) → GivesV Try.prog 87 [.slice A n c, .slice As n cs, .int .i64 t] w (.int .i64 x)) :
    GivesV Try.prog 87 [.slice A n c, .slice As n cs, .int .i64 (to + 1 : Nat)] W (.int .i64 (if arK f.kind = 0 then 0 else if arK f.kind = 1 then (if y > 4000 ∨ f.n > 4000 then 4001 else f.n + y) else if x > y then x else y)) := by
  have H := St.enter W
  have hnl := hx.len
  have hto := (List.getElem?_eq_some_iff.1 hf).1
  have h2 := arK_le f.kind
  have hk := (hx.kids f (List.mem_of_getElem? hf))
  obtain ⟨A0, c0, e0⟩ := PieceG.shape hk
  obtain ⟨textV, kind, text, nn⟩ := f
  dsimp only at *
  subst e0
  refine calls_of_vcV (args := [.slice A n c, .slice As n cs, .int .i64 (to + 1 : Nat)]) Try.func87 rfl (by kernel_rfl) (Nat.le_of_ble_eq_true rfl) ?_
  refine ar64 (by omega) (by omega) ?_
  refine idxCI (cells := PieceG.cells) to (by omega) PieceG.cells_len hx.row hf (by omega) fun b off hc => ?_
  refine loadS (v := .int .i64 kind) (hc 0 _ rfl) ?_
  refine loadS (v := .slice A0 text.length c0) (hc 1 _ rfl) ?_
  refine loadS (v := .int .i64 nn) (hc 2 _ rfl) ?_
  refine newR (o := .cells #[.int .i64 0, .slice none 0 0, .int .i64 0] _) H fun g0 w H => ?_
  refine storeO H 0 rfl rfl rfl fun w H => ?_
  refine storeO H 0 rfl rfl rfl fun w H => ?_
  refine storeO H 0 rfl rfl rfl fun w H => ?_
  refine loadO H 0 rfl rfl ?_
  have H1 : St W.heap.size W w [.obj g0 (.cells #[.int .i64 kind, .slice A0 text.length c0, .int .i64 nn] 96)] := H
  have H := H1
  refine callV ok_l2arity (spec_l2arity kind _) H fun w H => ?_
  refine ifB (fun a0 => ?_) (fun a0 => ?_)
  · exact Exists.intro _ (And.intro rfl (And.intro (congrArg (Value.int .i64) (by rw [if_pos (by omega)])) H.none))
  · obtain ⟨⟨y0, y1⟩, gy⟩ := hy (by omega)
    rw [if_neg (show ¬ arK kind = 0 by omega)]
    refine ar64 (by omega) (by omega) ?_
    refine callV ok_l2nested (gy _ H.below _ (by omega)) H fun w H => ?_
    refine ifB (fun c2 => ?_) (fun c2 => ?_)
    · refine RegV.mk ?_
      refine gF (fun c4 => ?_) (fun c4 => ?_)
      · refine loadO H 0 rfl rfl ?_
        refine ifB (fun c6 => ?_) (fun c6 => ?_)
        · exact Exists.intro _ (And.intro rfl (And.intro (congrArg (Value.int .i64) (by rw [if_pos (by omega), if_pos (by omega)])) H.none))
        · refine loadO H 0 rfl rfl ?_
          refine ar64 (by omega) (by omega) ?_
          exact Exists.intro _ (And.intro rfl (And.intro (congrArg (Value.int .i64) (by rw [if_pos (by omega), if_neg (by omega)])) H.none))
      · refine ifT ?_
        exact Exists.intro _ (And.intro rfl (And.intro (congrArg (Value.int .i64) (by rw [if_pos (by omega), if_pos (by omega)])) H.none))
    · refine ar64 (by omega) (by omega) ?_
      obtain ⟨hp, gx⟩ := hxx (by omega)
      rw [if_neg (show ¬ arK kind = 1 by omega)]
      refine idxI (hst.ext H.below) (by omega) (by omega) fun b off hc => ?_
      refine loadS hc ?_
      refine callV ok_l2nested (gx _ H.below _ (by rw [show (((to + 1 : Nat) : Int) - 2).toNat = to - 1 by omega]; exact startsL_get (by omega))) H fun w H => ?_
      refine ifB (fun c0 => ?_) (fun c0 => ?_)
      · exact Exists.intro _ (And.intro rfl (And.intro (congrArg (Value.int .i64) (by rw [if_pos (by omega)])) H.none))
      · exact Exists.intro _ (And.intro rfl (And.intro (congrArg (Value.int .i64) (by rw [if_neg (by omega)])) H.none))
theorem spec_l2nested {fs : List PieceG} {A As : Option Addr} {n c cs : Nat} (hl : n ≤ 4294967296) (hok : ∀ p ∈ fs.map PieceG.p, OkPiece p) {d : DocT} {to : Nat} (hL : Loc (fs.map PieceG.p) d to) :
    ∀ {W : World}, RdPiece W (.slice A n c) n fs → RdSt W As n cs (fs.map PieceG.p) → GivesV Try.prog 87 [.slice A n c, .slice As n cs, .int .i64 to] W (.int .i64 (nestS d)) := by
  have hnn := fun {d : DocT} {to : Nat} (h : Loc (fs.map PieceG.p) d to) => nestS_eq (h.nn hok)
  have k1 : ∀ {f : PieceG}, f ∈ fs → arK f.kind = 1 → 0 ≤ f.n := fun {f} hf h => by
    have q := hok _ (List.mem_map_of_mem hf)
    by_cases e : f.kind = 7
    · exact q.nest e
    · exact Int.le_of_eq (q.zero e).symm
  induction hL with
  | @leaf to p h a =>
    intro W hx hst
    obtain ⟨f, hf, rfl⟩ := piece_of h
    have a : arK f.kind = 0 := a
    have := l2nested_step (x := 0) (y := 0) hl hf (k1 (List.mem_of_getElem? hf)) hx hst (fun q => absurd a q) (fun q => by omega)
    rw [if_pos a] at this
    rw [leafNest]; exact this
  | @nest to p d h a k ih =>
    intro W hx hst
    obtain ⟨f, hf, rfl⟩ := piece_of h
    have a : f.kind = 7 := a
    have ar : arK f.kind = 1 := by rw [a]; rfl
    have := l2nested_step (x := 0) (y := nestS d) hl hf (k1 (List.mem_of_getElem? hf)) hx hst (fun q => ⟨⟨(hnn k).1, (hnn k).2.1⟩, fun w hb t ht => by subst ht; exact ih (hx.ext hb) (hst.ext hb)⟩) (fun q => by omega)
    rw [if_neg (by omega), if_pos ar] at this
    exact this
  | @group to p d h a k ih =>
    intro W hx hst
    obtain ⟨f, hf, rfl⟩ := piece_of h
    have a : f.kind = 8 := a
    have ar : arK f.kind = 1 := by rw [a]; rfl
    have hz : f.n = 0 := (hok _ (List.mem_map_of_mem (List.mem_of_getElem? hf))).zero (by show f.kind ≠ 7; omega)
    have := l2nested_step (x := 0) (y := nestS d) hl hf (k1 (List.mem_of_getElem? hf)) hx hst (fun q => ⟨⟨(hnn k).1, (hnn k).2.1⟩, fun w hb t ht => by subst ht; exact ih (hx.ext hb) (hst.ext hb)⟩) (fun q => by omega)
    rw [if_neg (by omega), if_pos ar, hz] at this
    have e : nestS (.group d (cntG ((fs.map PieceG.p).take to))) = if nestS d > 4000 ∨ (0 : Int) > 4000 then 4001 else 0 + nestS d := by simp only [nestS]; (repeat' split) <;> omega
    rw [e]; exact this
  | @cat to p l r h a kr hp kl ihr ihl =>
    intro W hx hst
    obtain ⟨f, hf, rfl⟩ := piece_of h
    have a : f.kind = 6 := a
    have ar : arK f.kind = 2 := by rw [a]; rfl
    have := l2nested_step (x := nestS l) (y := nestS r) hl hf (k1 (List.mem_of_getElem? hf)) hx hst (fun q => ⟨⟨(hnn kr).1, (hnn kr).2.1⟩, fun w hb t ht => by subst ht; exact ihr (hx.ext hb) (hst.ext hb)⟩) (fun q => ⟨hp, fun w hb t ht => by subst ht; exact ihl (hx.ext hb) (hst.ext hb)⟩)
    rw [if_neg (by omega), if_neg (by omega)] at this
    exact this
  | @alt to p l r h a kr hp kl ihr ihl =>
    intro W hx hst
    obtain ⟨f, hf, rfl⟩ := piece_of h
    have a : f.kind = 9 := a
    have ar : arK f.kind = 2 := by rw [a]; rfl
    have := l2nested_step (x := nestS l) (y := nestS r) hl hf (k1 (List.mem_of_getElem? hf)) hx hst (fun q => ⟨⟨(hnn kr).1, (hnn kr).2.1⟩, fun w hb t ht => by subst ht; exact ihr (hx.ext hb) (hst.ext hb)⟩) (fun q => ⟨hp, fun w hb t ht => by subst ht; exact ihl (hx.ext hb) (hst.ext hb)⟩)
    rw [if_neg (by omega), if_neg (by omega)] at this
    exact this
end Go.Proofs.YtfhpgfbakimmhaaE
