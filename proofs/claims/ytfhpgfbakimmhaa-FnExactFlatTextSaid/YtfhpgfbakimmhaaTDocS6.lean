/- The reference's ValidDoc, FlatText, LeadWidth. -/
import Derived.Test.YtfhpgfbakimmhaaTDocS5
namespace Go.Proofs.YtfhpgfbakimmhaaE
open Go Go.RowKit
set_option linter.unusedVariables false
set_option linter.unusedSimpArgs false
set_option maxRecDepth 100000
set_option maxHeartbeats 8000000

theorem validD_none {ps : List PieceP} (h : ∀ g e, run0 ps ≠ some (g, [e])) : validD ps = none := by
  unfold validD
  split
  · unfold doneD
    split
    · rename_i g e heq; exact absurd heq (h g e)
    · rfl
  · rfl
structure DocOK (fs : List PieceG) : Prop where
  b : ∀ f ∈ fs, byteOK f.text ∧ f.text.length ≤ 4294967296
theorem ok_spec_ValidDoc : callOK Try.prog 39 = true := by kernel_rfl
theorem spec_ValidDoc {fs : List PieceG} {A : Option Addr} {n c : Nat} {W : World} (hx : RdPiece W (.slice A n c) n fs) (hl : n ≤ 4294967296) (hb : DocOK fs) : GivesV Try.prog 39 [.slice A n c] W (.bool (validD (fs.map PieceG.p)).isSome) := by
  have H := St.enter W
  obtain rfl := hx.len
  obtain ⟨ps, hps⟩ : ∃ ps, fs.map PieceG.p = ps := ⟨_, rfl⟩
  have hpl : ps.length = fs.length := by rw [← hps, List.length_map]
  rw [hps]
  have no : ∀ {w : World}, St W.heap.size W w [] → validD ps = none → ∃ v, Ending.returned (.bool false) = .returned v ∧ v = .bool (validD ps).isSome ∧ St W.heap.size W w [] := fun H h => ⟨_, rfl, by rw [h]; rfl, H⟩
  refine calls_of_vcV (args := [.slice A fs.length c]) Try.func39 rfl (by kernel_rfl) (Nat.le_of_ble_eq_true rfl) ?_
  refine RegV.mk ?_
  refine gF (fun c1 => ?_) (fun c1 => ?_)
  · refine ifB (fun c2 => ?_) (fun c2 => ?_)
    · exact no H (validD_size (by omega))
    · refine loopV (by kernel_rfl) (fun m e w => e 0 = .slice A fs.length c ∧ ∃ j : Nat, e 3 = .int .i64 (totalD (ps.take j)) ∧ e 4 = .int .i64 j ∧ j + m = fs.length ∧ totalD (ps.take j) ≤ j * 4294967296 ∧ (∀ p ∈ ps.take j, OkPiece p) ∧ St W.heap.size W w []) fs.length
        ⟨rfl, 0, rfl, rfl, by omega, Nat.zero_le _, by simp, H⟩ ?_
      rintro m e w ⟨h0, j, h3, h4, hj, htb, hok, H⟩
      rw [Env.three h0 h3 h4]
      refine ifB (fun c3 => ?_) (fun c3 => ?_)
      · obtain ⟨f, hf⟩ : ∃ f, fs[j]? = some f := ⟨_, List.getElem?_eq_getElem (by omega)⟩
        have hfm := List.mem_of_getElem? hf
        have hp := pieces_take hf
        rw [hps] at hp
        have hts := total_snoc hp
        have hbf := hb.b f hfm
        have hkf := hx.kids f hfm
        have htk : ps.take (j + 1) = ps.take j ++ [f.p] := by rw [List.take_add_one, hp]; rfl
        have hft : f.p.text.length = f.text.length := rfl
        obtain ⟨A0, c0, e0⟩ := PieceG.shape hkf
        obtain ⟨textV, kind, text, nn⟩ := f
        dsimp only at *
        subst e0
        have htb2 : totalD (ps.take (j + 1)) ≤ (j + 1) * 4294967296 := by rw [hts, hft]; omega
        refine JoinV.mk ?_
        refine idxC (cells := PieceG.cells) PieceG.cells_len (hx.ext H.below).row hf (by omega) fun b off hc => ?_
        refine loadS (v := .slice A0 text.length c0) (hc 1 _ rfl) ?_
        refine ar64 (by omega) (by omega) ?_
        refine idxC (cells := PieceG.cells) PieceG.cells_len (hx.ext H.below).row hf (by omega) fun b off hc => ?_
        refine loadS (v := .int .i64 kind) (hc 0 _ rfl) ?_
        refine loadS (v := .slice A0 text.length c0) (hc 1 _ rfl) ?_
        refine loadS (v := .int .i64 nn) (hc 2 _ rfl) ?_
        refine callV ok_l2pieceOK (spec_l2pieceOK (f := ⟨.slice A0 text.length c0, kind, text, nn⟩) (hkf.ext H.below) hbf.2 hbf.1) H fun w H => ?_
        by_cases hq : OkPiece ⟨kind, text, nn⟩
        · rw [show okPiece (PieceG.p ⟨.slice A0 text.length c0, kind, text, nn⟩) = true from okPiece_iff.2 hq]
          refine ifNot ?_
          refine ifT ?_
          refine arN (by omega) ?_
          exact Exists.intro (m - 1) (And.intro (by omega) ⟨rfl, j + 1, congrArg (Value.int .i64) (by rw [hts]; exact (Int.natCast_add _ _).symm), rfl, by omega, htb2, (fun p hp => by rw [htk] at hp; rcases List.mem_append.1 hp with q | q; exact hok p q; exact List.mem_singleton.1 q ▸ hq), H⟩)
        · rw [show okPiece (PieceG.p ⟨.slice A0 text.length c0, kind, text, nn⟩) = false from okPiece_no hq]
          refine ifNot ?_
          refine ifF ?_
          exact no H (validD_piece (List.mem_of_getElem? hp) hq)
      · have hall : ps.take j = ps := List.take_of_length_le (by omega)
        rw [hall] at htb hok ⊢
        refine CallS.mk ok_l2starts ((spec_l2starts (hx.ext H.below) (by omega)).mono ?_)
        rintro _ w2 ⟨A', c', xs, rfl, hxs, H2⟩
        have H := H.joinS H2 rfl
        rw [hps] at hxs
        refine RegV.mk ?_
        refine gF (fun c1 => ?_) (fun c1 => ?_)
        · refine ifB (fun c2 => ?_) (fun c2 => ?_)
          · refine no H.none (validD_none fun g e hr => ?_)
            have := hxs.1 g e hr
            rw [this, startsL_len] at c2; omega
          · by_cases hs : ∃ g e, run0 ps = some (g, [e])
            · obtain ⟨g, e, hr⟩ := hs
              obtain ⟨h1, h2, h3⟩ := run_loc hr
              have hxe := hxs.1 g e hr
              have hxl : xs.length = fs.length := by omega
              have hnn := nestS_eq (h1.nn hok)
              have hst : RdSt w2 A' fs.length c' ps := by have := H.rd 0 rfl; rw [hxl, hxe, hpl] at this; exact this
              rw [hxl]
              refine callV ok_l2nested (u := .int .i64 (nestS e.d)) (by have := spec_l2nested (fs := fs) (A := A) (As := A') (c := c) (cs := c') (by omega) (by rw [hps]; exact hok) (d := e.d) (to := fs.length) (by rw [hps, ← hpl]; exact h1) (hx.ext H.below) (by rw [hps]; exact hst); exact this) H fun w H => ?_
              refine Exists.intro _ (And.intro rfl (And.intro (congrArg Value.bool ?_) H.none))
              show decide (nestS e.d ≤ 4000) = _
              by_cases hd : e.d.nestD ≤ 4000
              · rw [decide_eq_true (by omega), validD_some (by omega) hok (by omega) hr hd]; rfl
              · rw [decide_eq_false (by omega), validD_deep (i := ps.length) (e := e) (by rw [List.take_length]; exact hr) (by simp) (by omega)]; rfl
            · exfalso
              rcases hxs.2 (fun g e h => hs ⟨g, e, h⟩) with q | q
              · omega
              · rw [q] at hpl; simp only [List.length_nil] at hpl; omega
        · refine ifT ?_
          exact no H.none (validD_total ps.length (by rw [List.take_length]; omega))
  · refine ifT ?_
    exact no H (validD_size (by omega))
def flatF (ps : List PieceP) : List Int × Bool := match validD ps with | some (d, _) => (match flatD d with | some t => (t, true) | none => ([], false)) | none => ([], false)
def leadF (ps : List PieceP) : Int := match validD ps with | some (d, _) => (leadD d).1 | none => -1
theorem doc_starts {fs : List PieceG} {d : DocT} {g : Nat} (h : validD (fs.map PieceG.p) = some (d, g)) {n : Nat} (hn : n = fs.length) {A : Option Addr} {c : Nat} {xs : List Int} (hs : StartsOk (fs.map PieceG.p) xs) {B : Nat} {W0 w : World} {L : List It} (H : St B W0 w L) (hm : .rowI (.slice A xs.length c) xs ∈ L) : xs.length = n ∧ RdSt w A n c (fs.map PieceG.p) := by
  have v := validOf h
  have e := v.starts xs hs
  rw [List.length_map] at e
  have e2 : xs.length = n := by rw [e, startsL_len, hn]
  have r := H.rdm hm (v := .slice A xs.length c) (sz := 1) (n := xs.length) (cs := xs.map (.int .i64)) rfl
  rw [e2] at r
  refine ⟨e2, ?_⟩
  rw [e, ← hn] at r
  exact r
theorem ok_spec_LeadWidth : callOK Try.prog 46 = true := by kernel_rfl
theorem spec_LeadWidth {fs : List PieceG} {A : Option Addr} {n c : Nat} {W : World} (hx : RdPiece W (.slice A n c) n fs) (hl : n ≤ 4294967296) (hb : DocOK fs) : GivesV Try.prog 46 [.slice A n c] W (.int .i64 (leadF (fs.map PieceG.p))) := by
  have H := St.enter W
  have hn := hx.len
  obtain ⟨r, hr⟩ : ∃ r, leadF (fs.map PieceG.p) = r := ⟨_, rfl⟩
  rw [hr]
  unfold leadF at hr
  refine calls_of_vcV (args := [.slice A n c]) Try.func46 rfl (by kernel_rfl) (Nat.le_of_ble_eq_true rfl) ?_
  refine callV ok_spec_ValidDoc (spec_ValidDoc hx hl hb) H fun w H => ?_
  cases hv : validD (fs.map PieceG.p) with
  | none =>
    rw [hv] at hr
    have hr : -1 = r := hr
    subst hr
    refine ifNot ?_
    refine ifF ?_
    exact Exists.intro _ (And.intro rfl (And.intro rfl H))
  | some dg =>
    obtain ⟨d, g⟩ := dg
    rw [hv] at hr
    have hr : (leadD d).1 = r := hr
    have v := validOf hv
    refine ifNot ?_
    refine ifT ?_
    refine CallS.mk ok_l2starts ((spec_l2starts (hx.ext H.below) (by omega)).mono ?_)
    rintro _ w2 ⟨A', c', xs, rfl, hxs, H2⟩
    have H := H.joinS H2 rfl
    have hs := doc_starts (A := A') (c := c') hv hn hxs H (by simp)
    rw [hs.1]
    refine callV ok_l2lead (u := vIB (leadD d)) (by have := spec_l2lead (A := A) (As := A') (c := c) (cs := c') hl v.ok hb.b v.loc v.tl (hx.ext H.below) hs.2; rw [List.length_map, ← hn] at this; exact this) H fun w H => ?_
    subst hr
    exact Exists.intro _ (And.intro rfl (And.intro rfl H.none))
theorem ok_spec_FlatText : callOK Try.prog 43 = true := by kernel_rfl
theorem spec_FlatText {fs : List PieceG} {A : Option Addr} {n c : Nat} {W : World} (hx : RdPiece W (.slice A n c) n fs) (hl : n ≤ 4294967296) (hb : DocOK fs) : Calls Try.prog 43 #[.slice A n c] W fun e w => ∃ A' c', e = .returned (.tuple #[.slice A' (flatF (fs.map PieceG.p)).1.length c', .bool (flatF (fs.map PieceG.p)).2]) ∧ St W.heap.size W w [.rowB (.slice A' (flatF (fs.map PieceG.p)).1.length c') (flatF (fs.map PieceG.p)).1] := by
  have H := St.enter W
  have hn := hx.len
  obtain ⟨r, hr⟩ : ∃ r, flatF (fs.map PieceG.p) = r := ⟨_, rfl⟩
  rw [hr]
  unfold flatF at hr
  refine calls_of_vcV (args := [.slice A n c]) Try.func43 rfl (by kernel_rfl) (Nat.le_of_ble_eq_true rfl) ?_
  refine callV ok_spec_ValidDoc (spec_ValidDoc hx hl hb) H fun w H => ?_
  cases hv : validD (fs.map PieceG.p) with
  | none =>
    rw [hv] at hr
    have hr : ([], false) = r := hr
    subst hr
    refine ifNot ?_
    refine ifF ?_
    have H1 : St W.heap.size W w [.rowB (.slice none ([] : List Int).length 0) []] := H.rowNil
    exact Exists.intro none (Exists.intro 0 (And.intro rfl H1))
  | some dg =>
    obtain ⟨d, g⟩ := dg
    rw [hv] at hr
    simp only at hr
    have v := validOf hv
    refine ifNot ?_
    refine ifT ?_
    refine CallS.mk ok_l2starts ((spec_l2starts (hx.ext H.below) (by omega)).mono ?_)
    rintro _ w2 ⟨A', c', xs, rfl, hxs, H2⟩
    have H := H.joinS H2 rfl
    have hs := doc_starts (A := A') (c := c') hv hn hxs H (by simp)
    have H1 : St W.heap.size W w2 (.rowB (.slice none ([] : List Int).length 0) [] :: [.rowI (.slice A' xs.length c') xs]) := H.rowNil
    have hf := spec_l2flat (A := A) (As := A') (c := c) (cs := c') (B := W.heap.size) (W0 := W) (L := [.rowI (.slice A' xs.length c') xs]) hl v.ok (fun w M H _ => hx.ext H.below) (fun w M H h => (doc_starts (A := A') (c := c') hv hn hxs H (h _ (by simp))).2) v.loc v.tl [] none 0 w2 (by have := v.tl; simp only [List.length_nil]; omega) H1 (n : Int) (by rw [List.length_map, hn])
    rw [hs.1]
    refine CallS.mk ok_l2flat (hf.mono ?_)
    rintro e3 w3 hR
    cases hfd : flatD d with
    | none =>
      rw [hfd] at hR hr
      have hr : ([], false) = r := hr
      subst hr
      obtain ⟨rfl, H⟩ := hR
      have H1 : St W.heap.size W w3 (.rowB (.slice none ([] : List Int).length 0) [] :: [.rowI (.slice A' xs.length c') xs]) := H.rowNil
      exact Exists.intro none (Exists.intro 0 (And.intro rfl (H1.sel (fun q => by simp only [cntL_append, cntL, List.cons_append, List.nil_append, List.set_cons_zero, List.set_cons_succ, List.flatMap_append, List.flatMap_cons, List.flatMap_nil, It.rowF, It.rowB, It.rowI, It.roB, It.roI]; omega))))
    | some t =>
      rw [hfd] at hR hr
      have hr : (t, true) = r := hr
      subst hr
      obtain ⟨A3, c3, rfl, H⟩ := hR
      exact Exists.intro A3 (Exists.intro c3 (And.intro rfl (H.sel (fun q => by simp only [cntL_append, cntL, List.cons_append, List.nil_append, List.set_cons_zero, List.set_cons_succ, List.flatMap_append, List.flatMap_cons, List.flatMap_nil, It.rowF, It.rowB, It.rowI, It.roB, It.roI]; omega))))
end Go.Proofs.YtfhpgfbakimmhaaE
