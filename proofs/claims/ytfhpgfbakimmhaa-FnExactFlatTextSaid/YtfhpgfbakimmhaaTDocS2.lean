/- The reference's l2starts. -/
import Derived.Test.YtfhpgfbakimmhaaTDocS
import Derived.Test.YtfhpgfbakimmhaaPStart
namespace Go.Proofs.YtfhpgfbakimmhaaE
open Go Go.RowKit
set_option linter.unusedVariables false
set_option linter.unusedSimpArgs false
set_option maxRecDepth 100000
set_option maxHeartbeats 2000000

theorem St.takeI {B : Nat} {W0 w : World} {L : List It} {A : Option Addr} {c m : Nat} {b : List Int} (hm : m ≤ b.length) (H : St B W0 w (.row (.slice A m c) 3 1 m ((b.map (Value.int .i64)).take (m * 1)) :: L)) : St B W0 w (.rowI (.slice A (b.take m).length c) (b.take m) :: L) := by
  have e : (b.take m).length = m := by rw [List.length_take]; omega
  rw [Nat.mul_one, ← List.map_take] at H
  unfold It.rowI; rw [e]; exact H
theorem pieces_take {fs : List PieceG} {j : Nat} {f : PieceG} (h : fs[j]? = some f) : (fs.map PieceG.p)[j]? = some f.p := by rw [List.getElem?_map, h]; rfl
theorem ok_l2starts : callOK Try.prog 86 = true := by kernel_rfl
theorem spec_l2starts {fs : List PieceG} {A : Option Addr} {n c : Nat} {W : World} (hx : RdPiece W (.slice A n c) n fs) (hl : n ≤ 4294967296) :
    Calls Try.prog 86 #[.slice A n c] W fun e w => ∃ A' c' xs, e = .returned (.slice A' xs.length c') ∧ StartsOk (fs.map PieceG.p) xs ∧ St W.heap.size W w [.rowI (.slice A' xs.length c') xs] := by
  have H := ((St.enter W).rowNil (e := 3) (sz := 1)).rowNil (e := 3) (sz := 1)
  obtain rfl := hx.len
  obtain ⟨ps, hps⟩ : ∃ ps, fs.map PieceG.p = ps := ⟨_, rfl⟩
  have hpl : ps.length = fs.length := by rw [← hps, List.length_map]
  refine calls_of_vcV (args := [.slice A fs.length c]) Try.func86 rfl (by kernel_rfl) (Nat.le_of_ble_eq_true rfl) ?_
  refine loopW (by kernel_rfl) (fun m e w => e 0 = .slice A fs.length c ∧ ∃ (j g : Nat) (st : List Ent) (A3 A4 : Option Addr) (c3 c4 : Nat), e 3 = .slice A3 (startsL ps j).length c3 ∧ e 4 = .slice A4 (opn st).length c4 ∧ e 5 = .int .i64 j ∧ j + m = fs.length ∧ run0 (ps.take j) = some (g, st) ∧ st.length ≤ j ∧ St W.heap.size W w [.rowI (.slice A3 (startsL ps j).length c3) (startsL ps j), .rowI (.slice A4 (opn st).length c4) (opn st)])
    (fun id e w => id = 0 ∧ ∃ (xs os : List Int) (A3 A4 : Option Addr) (c3 c4 : Nat), e 3 = .slice A3 xs.length c3 ∧ e 4 = .slice A4 os.length c4 ∧ os.length ≤ 4294967296 ∧ (os.length = 1 → StartsOk ps xs) ∧ (os.length ≠ 1 → StartsOk ps []) ∧ St W.heap.size W w [.rowI (.slice A3 xs.length c3) xs]) fs.length
    ⟨rfl, 0, 0, [], none, none, 0, 0, rfl, rfl, rfl, by omega, rfl, Nat.le_refl _, H⟩ ?_ ?_
  · rintro m e w ⟨h0, j, g, st, A3, A4, c3, c4, h3, h4, h5, hj, hrun, hst, H⟩
    rw [Env.four h0 h3 h4 h5]
    have hol := opn_len st
    have hsl := startsL_len ps j
    refine ifB (fun c1 => ?_) (fun c1 => ?_)
    · obtain ⟨f, hf⟩ : ∃ f, fs[j]? = some f := ⟨_, List.getElem?_eq_getElem (by omega)⟩
      have hp := pieces_take hf
      rw [hps] at hp
      have hsn := run_snoc hp
      rw [hrun] at hsn
      simp only at hsn
      have h2 := arK_le f.p.kind
      refine JoinV.mk ?_
      refine idxC (cells := PieceG.cells) PieceG.cells_len (hx.ext H.below).row hf (by omega) fun b off hc => ?_
      refine loadS (v := .int .i64 f.kind) (hc 0 _ rfl) ?_
      refine callV ok_l2arity (spec_l2arity f.kind _) H fun w H => ?_
      refine ifB (fun c2 => ?_) (fun c2 => ?_)
      · have hn : run0 ps = none := run_none (i := j + 1) (by rw [hsn]; exact step_none (by show st.length < arK f.kind; omega))
        have hb := starts_break (j := j) hn (by omega)
        exact ⟨rfl, startsL ps j, opn st, A3, A4, c3, c4, rfl, rfl, by omega, fun _ => hb.1, fun _ => hb.2, H.sel (fun q => by simp only [cntL_append, cntL, List.cons_append, List.nil_append, List.set_cons_zero, List.set_cons_succ, List.flatMap_append, List.flatMap_cons, List.flatMap_nil, It.rowF, It.rowB, It.rowI, It.roB, It.roI]; omega)⟩
      · obtain ⟨g', e', r, hs1, hs2, hs3⟩ := step_some (p := f.p) (i := j) (g := g) (st := st) (by show arK f.kind ≤ st.length; omega)
        rw [hs1] at hsn
        have hs2 : opn (e' :: r) = (opn st).take (st.length - arK f.kind) ++ [(e'.s : Int)] := hs2
        have hsm : startM ps j = e'.s := by unfold startM; rw [hsn]
        have hss : startsL ps (j + 1) = startsL ps j ++ [(e'.s : Int)] := by rw [startsL_snoc, hsm]
        have hor := opn_len (e' :: r)
        have hlr : (opn (e' :: r)).length = (opn st).length - arK f.kind + 1 := by rw [hs2, List.length_append, List.length_take, hol]; simp only [List.length_cons, List.length_nil]; omega
        refine joinV (fun e w => e 0 = .slice A fs.length c ∧ e 3 = .slice A3 (startsL ps j).length c3 ∧ e 4 = .slice A4 (opn st).length c4 ∧ e 5 = .int .i64 j ∧ e 6 = .int .i64 (arK f.kind) ∧ e 7 = .int .i64 e'.s ∧ St W.heap.size W w [.rowI (.slice A3 (startsL ps j).length c3) (startsL ps j), .rowI (.slice A4 (opn st).length c4) (opn st)]) rfl ?_ ?_
        · refine ifB (fun c0 => ?_) (fun c0 => ?_)
          · refine ar64 (by omega) (by omega) ?_
            refine idxI (H.rd 1 rfl) (by omega) (by omega) fun b off hc => ?_
            refine loadS hc ?_
            refine ⟨rfl, rfl, rfl, rfl, rfl, congrArg (Value.int .i64) ?_, H⟩
            rw [hs3, if_neg (by show ¬ arK f.kind = 0; omega)]
            show (opn st).getD (((opn st).length : Int) - (arK f.kind : Int)).toNat 0 = _
            congr 1; show _ = st.length - arK f.kind; omega
          · refine ⟨rfl, rfl, rfl, rfl, rfl, congrArg (Value.int .i64) ?_, H⟩
            rw [hs3, if_pos (by show arK f.kind = 0; omega)]
        · rintro e w ⟨h0, h3, h4, h5, h6, h7, H⟩
          rw [Env.six h0 h3 h4 h5 h6 h7]
          refine ar64 (by omega) (by omega) ?_
          refine cutRow (h := st.length - arK f.kind) H 1 rfl rfl (by show (((opn st).length : Int) - (arK f.kind : Int)) = _; omega) (by omega) fun H => ?_
          have H1 : St W.heap.size W w (.row (.slice A4 (st.length - arK f.kind) c4) 3 1 (st.length - arK f.kind) (((opn st).map (Value.int .i64)).take ((st.length - arK f.kind) * 1)) :: [.rowI (.slice A3 (startsL ps j).length c3) (startsL ps j)]) := H.sw2
          have H := H1.takeI (by omega)
          have htl : ((opn st).take (st.length - arK f.kind)).length = st.length - arK f.kind := by rw [List.length_take]; omega
          rw [htl] at H
          refine litI1 H fun v w H => ?_
          refine appIS (xs := (opn st).take (st.length - arK f.kind)) (ys := [(e'.s : Int)]) H 1 rfl (H.rd 0 rfl) (by simp only [List.length_cons, List.length_nil]; omega) fun A6 c6 w H => ?_
          rw [← hs2] at H ⊢
          have H1 : St W.heap.size W w (.rowI (.slice A6 (opn (e' :: r)).length c6) (opn (e' :: r)) :: [.rowI (.slice A3 (startsL ps j).length c3) (startsL ps j)]) := H.tl
          have H := H1
          refine litI1 H fun v w H => ?_
          refine appIS H 2 rfl (H.rd 0 rfl) (by first | omega | (simp; omega)) fun A1 k1 w H => ?_
          refine arN (by omega) ?_
          rw [← hss] at H ⊢
          have H1 : St W.heap.size W w (.rowI (.slice A6 (opn (e' :: r)).length c6) (opn (e' :: r)) :: [.rowI (.slice A1 (startsL ps (j + 1)).length k1) (startsL ps (j + 1))]) := H.tl
          have H := H1.sw2
          have hrl : r.length + 1 ≤ j + 1 := by have := hlr; simp only [List.length_cons] at hor; omega
          exact Exists.intro (m - 1) (And.intro (by omega) ⟨rfl, j + 1, g', e' :: r, A1, A6, k1, c6, rfl, rfl, rfl, by omega, hsn, hrl, H⟩)
    · have he : run0 ps = some (g, st) := by rw [List.take_of_length_le (by omega)] at hrun; exact hrun
      have hb := starts_end he
      refine ⟨rfl, startsL ps j, opn st, A3, A4, c3, c4, rfl, rfl, by omega, fun h => ?_, fun h => hb.2 (by omega), H.sel (fun q => by simp only [cntL_append, cntL, List.cons_append, List.nil_append, List.set_cons_zero, List.set_cons_succ, List.flatMap_append, List.flatMap_cons, List.flatMap_nil, It.rowF, It.rowB, It.rowI, It.roB, It.roI]; omega)⟩
      rw [show j = ps.length by omega]; exact hb.1 (by omega)
  · rintro id e w ⟨rfl, xs, os, A3, A4, c3, c4, h3, h4, hol, hs1, hs2, H⟩
    rw [Env.two h3 h4]
    refine ifB (fun c0 => ?_) (fun c0 => ?_)
    · have H1 : St W.heap.size W w (.rowI (.slice none ([] : List Int).length 0) [] :: [.rowI (.slice A3 xs.length c3) xs]) := H.rowNil
      exact Exists.intro none (Exists.intro 0 (Exists.intro [] (And.intro rfl (And.intro (by rw [hps]; exact hs2 (by omega)) (H1.sel (fun q => by simp only [cntL_append, cntL, List.cons_append, List.nil_append, List.set_cons_zero, List.set_cons_succ, List.flatMap_append, List.flatMap_cons, List.flatMap_nil, It.rowF, It.rowB, It.rowI, It.roB, It.roI]; omega))))))
    · exact Exists.intro A3 (Exists.intro c3 (Exists.intro xs (And.intro rfl (And.intro (by rw [hps]; exact hs1 (by omega)) H))))
end Go.Proofs.YtfhpgfbakimmhaaE
