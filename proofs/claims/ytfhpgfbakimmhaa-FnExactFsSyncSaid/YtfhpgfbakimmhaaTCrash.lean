/- FsCrash: the reference's l7crash. -/
import Derived.Test.YtfhpgfbakimmhaaTCopy
import Derived.Test.YtfhpgfbakimmhaaTFile2
import Derived.Test.YtfhpgfbakimmhaaTChg
import Derived.Test.YtfhpgfbakimmhaaLawFsRead
namespace Go.Proofs.YtfhpgfbakimmhaaE
open Go Go.RowKit
set_option linter.unusedVariables false
set_option maxRecDepth 100000
set_option maxHeartbeats 2000000

def crashN (keep : Int) (f : FileP) : Int := if (f.dt.length : Int) - f.sf > keep then f.sf + keep else f.dt.length
def crash1 (keep : Int) (f : FileP) : FileP := ⟨f.nm, f.dt.take (crashN keep f).toNat, crashN keep f⟩
theorem ok_l7crash : callOK Try.prog 68 = true := by kernel_rfl
theorem spec_l7crash {fs : List FileG} {A : Option Addr} {n c : Nat} {keep : Int} {W : World} (hx : RdF W (.slice A n c) n fs) (hl : n ≤ 4294967296) (hs : ∀ f ∈ fs, SmallF f) (hk : 0 ≤ keep) (hsf : ∀ f ∈ fs, 0 ≤ f.sf ∧ f.sf ≤ f.dt.length) :
    Calls Try.prog 68 #[.agg #[.slice A n c], .int .i64 keep] W fun e w => ∃ A' c' gs, e = .returned (.agg #[.slice A' n c']) ∧ gs.map FileG.p = (fs.map FileG.p).map (crash1 keep) ∧ St W.heap.size W w (.rowF (.slice A' n c') n gs :: gs.flatMap FileG.own) := by
  have H := St.enter W
  have hn := hx.len
  refine calls_of_vcV (args := [.agg #[.slice A n c], .int .i64 keep]) Try.func68 rfl (by kernel_rfl) (Nat.le_of_ble_eq_true rfl) ?_
  refine newR (o := .cells #[.slice A n c] _) H fun g0 w H => ?_
  refine newR (o := .cells #[.slice none 0 0] _) H fun g4 w H => ?_
  refine loadO H 1 rfl rfl ?_
  refine CallS.mk ok_l7copy ((spec_l7copy (hx.ext H.below) hl hs).mono ?_)
  rintro _ w2 ⟨A1, k1, gs, rfl, hg, H2⟩
  have H := H.joinS H2 (own_all _ _ _ _ _)
  refine newR (o := .cells #[.slice none 0 0] _) H fun g5 w H => ?_
  refine storeO H 0 rfl rfl rfl fun w H => ?_
  have ld5 : ∀ {w : World} {L : List It}, St W.heap.size W w L → .obj g5 (.cells #[.slice A1 n k1] 29) ∈ L → w.cell? ⟨g5, 0, none⟩ = some (.slice A1 n k1) := fun H hm => cellM H (cs := [.slice A1 n k1]) hm rfl
  have hgl : gs.length = n := by have := congrArg List.length hg; simp only [List.length_map] at this; omega
  have hgs := small_p hg hs
  have hgf : ∀ f ∈ gs, 0 ≤ f.sf ∧ f.sf ≤ f.dt.length := by
    intro f hf
    obtain ⟨f', hf', e⟩ := mem_p hg hf
    have e1 : f'.sf = f.sf := congrArg FileP.sf e
    have e2 : f'.dt = f.dt := congrArg FileP.dt e
    rw [← e1, ← e2]; exact hsf f' hf'
  have H : St W.heap.size W w (.rowF (.slice A1 n k1) n gs :: (gs.flatMap FileG.own ++ [.obj g5 (.cells #[.slice A1 n k1] 29), .obj g4 (.cells #[.slice none 0 0] 29), .obj g0 (.cells #[.slice A n c] 29)])) :=
    H.perm (List.perm_middle (α := It) (a := .obj g5 (.cells #[.slice A1 n k1] 29)) (l₁ := .rowF (.slice A1 n k1) n gs :: gs.flatMap FileG.own) (l₂ := [.obj g4 (.cells #[.slice none 0 0] 29), .obj g0 (.cells #[.slice A n c] 29)])).symm
  refine loopV (by kernel_rfl) (fun m e w => e 1 = .int .i64 keep ∧ e 4 = .pointer (some ⟨g4, 0, none⟩) ∧ e 5 = .pointer (some ⟨g5, 0, none⟩) ∧ ∃ (j : Nat) (done gd rest : List FileG), e 6 = .int .i64 j ∧ gs = gd ++ rest ∧ done.map FileG.p = (gd.map FileG.p).map (crash1 keep) ∧ done.length = j ∧ rest.length = m ∧
      St W.heap.size W w (.rowF (.slice A1 n k1) n (done ++ rest) :: (done.flatMap FileG.own ++ (rest.flatMap FileG.own ++ [.obj g5 (.cells #[.slice A1 n k1] 29), .obj g4 (.cells #[.slice none 0 0] 29), .obj g0 (.cells #[.slice A n c] 29)])))) n
    ⟨rfl, rfl, rfl, 0, [], [], gs, rfl, rfl, rfl, rfl, hgl, by simpa only [List.nil_append, List.flatMap_nil] using H⟩ ?_
  rintro m e w ⟨h1, h4, h5, j, done, gd, rest, h6, hsplit, hp, hd, hr, H⟩
  rw [Env.four h1 h4 h5 h6]
  have hjm : n = j + m := by
    have := congrArg List.length hsplit
    have h2 := congrArg List.length hp
    simp only [List.length_append, List.length_map] at this h2; omega
  refine loadS (ld5 H (by simp)) ?_
  refine ifB (fun h => ?_) (fun h => ?_)
  case refine_2 =>
    obtain rfl : rest = [] := List.length_eq_zero_iff.1 (by omega)
    simp only [List.append_nil, List.flatMap_nil, List.nil_append] at H hsplit
    subst hsplit
    have H : St W.heap.size W w (.obj g5 (.cells #[.slice A1 n k1] 29) :: .obj g4 (.cells #[.slice none 0 0] 29) :: .obj g0 (.cells #[.slice A n c] 29) :: .rowF (.slice A1 n k1) n done :: done.flatMap FileG.own) := H.perm (List.perm_append_comm (α := It) (l₁ := .rowF (.slice A1 n k1) n done :: done.flatMap FileG.own) (l₂ := [.obj g5 (.cells #[.slice A1 n k1] 29), .obj g4 (.cells #[.slice none 0 0] 29), .obj g0 (.cells #[.slice A n c] 29)]))
    refine loadO H 0 rfl rfl ?_
    refine storeO H 1 rfl rfl rfl fun w H => ?_
    refine loadO H 1 rfl rfl ?_
    exact Exists.intro A1 (Exists.intro k1 (Exists.intro done (And.intro rfl (And.intro (by rw [hp, hg]) H.tl.tl.tl))))
  refine JoinV.mk ?_
  cases rest with
  | nil => simp only [List.length_nil] at hr; omega
  | cons f rest =>
    have H := H.perm (take_own _ _ _ _ _)
    have hx1 : (done ++ f :: rest)[j]? = some f := by rw [List.getElem?_append_right (by omega), hd, Nat.sub_self]; rfl
    have hfm : f ∈ gs := by rw [hsplit]; simp
    have hsm1 := (hgs f hfm).dt
    have hsf1 := hgf f hfm
    obtain ⟨nv, dv, nm, dt, sf⟩ := f
    dsimp only at *
    obtain ⟨A2, c2, rfl⟩ := H.mk1 0 rfl
    obtain ⟨A3, c3, rfl⟩ := H.mk1 1 rfl
    refine loadS (ld5 H (by simp)) ?_
    (refine idxC (cells := FileG.cells) FileG.cells_len (H.rd 2 rfl) hx1 (by omega) fun b off hc => ?_)
    refine loadS (v := .slice A3 dt.length c3) (hc 1 _ rfl) ?_
    obtain ⟨t, ht⟩ : ∃ t, t = crashN keep ⟨nm, dt, sf⟩ := ⟨_, rfl⟩
    have ht2 : t = if (dt.length : Int) - sf > keep then sf + keep else dt.length := ht
    have ht3 : 0 ≤ t ∧ t ≤ dt.length := by rw [ht2]; split <;> omega
    refine joinV (fun e w => e 1 = .int .i64 keep ∧ e 4 = .pointer (some ⟨g4, 0, none⟩) ∧ e 5 = .pointer (some ⟨g5, 0, none⟩) ∧ e 6 = .int .i64 j ∧ e 7 = .int .i64 t ∧ St W.heap.size W w (.rowB (.slice A2 nm.length c2) nm :: .rowB (.slice A3 dt.length c3) dt :: .rowF (.slice A1 n k1) n (done ++ ⟨.slice A2 nm.length c2, .slice A3 dt.length c3, nm, dt, sf⟩ :: rest) :: (done.flatMap FileG.own ++ (rest.flatMap FileG.own ++ [.obj g5 (.cells #[.slice A1 n k1] 29), .obj g4 (.cells #[.slice none 0 0] 29), .obj g0 (.cells #[.slice A n c] 29)])))) rfl ?_ ?_
    · refine loadS (ld5 H (by simp)) ?_
      (refine idxC (cells := FileG.cells) FileG.cells_len (H.rd 2 rfl) hx1 (by omega) fun b off hc => ?_)
      refine loadS (v := .int .i64 sf) (hc 2 _ rfl) ?_
      refine ar64 (by omega) (by omega) ?_
      refine ifB (fun c4 => ?_) (fun c4 => ?_)
      · refine loadS (ld5 H (by simp)) ?_
        (refine idxC (cells := FileG.cells) FileG.cells_len (H.rd 2 rfl) hx1 (by omega) fun b off hc => ?_)
        refine loadS (v := .int .i64 sf) (hc 2 _ rfl) ?_
        refine ar64 (by omega) (by omega) ?_
        exact ⟨rfl, rfl, rfl, rfl, by rw [ht2, if_pos (by assumption)]; rfl, H⟩
      · exact ⟨rfl, rfl, rfl, rfl, by rw [ht2, if_neg (by assumption)]; rfl, H⟩
    rintro e w ⟨h1, h4, h5, h6, h7, H⟩
    rw [Env.five h1 h4 h5 h6 h7]
    refine drawR H fun w H => ?_
    refine loadS (ld5 H (by simp)) ?_
    refine loadS (ld5 H (by simp)) ?_
    (refine idxC (cells := FileG.cells) FileG.cells_len (H.rd 2 rfl) hx1 (by omega) fun b off hc => ?_)
    refine loadS (v := .slice A3 dt.length c3) (hc 1 _ rfl) ?_
    refine cutRow H 1 rfl (h := t.toNat) rfl (show t = (t.toNat : Int) by omega) (by omega) fun H => ?_
    ((refine idxRow H 2 rfl (by omega) (by omega) fun b0 hA _ => ?_; cases hA))
    refine storeRowN H 2 rfl (j * 3 + 1) (by show 0 + (j : Int).toNat * 3 + 1 = _; omega) (by omega) rfl fun w H => ?_
    refine loadS (ld5 H (by simp)) ?_
    ((refine idxRow H 2 rfl (by omega) (by omega) fun b3 hA _ => ?_; cases hA))
    refine storeRowN H 2 rfl (j * 3 + 2) (by show 0 + (j : Int).toNat * 3 + 2 = _; omega) (by omega) rfl fun w H => ?_
    refine arN (by omega) ?_
    have e1 : (dt.take t.toNat).length = t.toNat := by rw [List.length_take]; omega
    have H1 : St W.heap.size W w (.row (.slice A3 t.toNat c3) 5 1 t.toNat ((dt.map (Value.int .u8)).take (t.toNat * 1)) :: .rowB (.slice A2 nm.length c2) nm :: .row (.slice (some ⟨b0, 0, none⟩) n k1) 69 3 n ((((done ++ ⟨.slice A2 nm.length c2, .slice A3 dt.length c3, nm, dt, sf⟩ :: rest).flatMap FileG.cells).set (j * 3 + 1) (.slice A3 t.toNat c3)).set (j * 3 + 2) (.int .i64 t)) ::
        (done.flatMap FileG.own ++ (rest.flatMap FileG.own ++ [.obj g5 (.cells #[.slice (some ⟨b0, 0, none⟩) n k1] 29), .obj g4 (.cells #[.slice none 0 0] 29), .obj g0 (.cells #[.slice A n c] 29)]))) := H.sw2
    have H1 := H1.takeB (by omega)
    rw [e1] at H1
    have H1 := H1.sw2
    rw [flat_set (v := .slice A3 t.toNat c3) (x' := ⟨.slice A2 nm.length c2, .slice A3 t.toNat c3, nm, dt.take t.toNat, sf⟩) FileG.cells_len _ j 1 _ hx1 (by decide) rfl,
      flat_set (v := .int .i64 t) (x' := ⟨.slice A2 nm.length c2, .slice A3 t.toNat c3, nm, dt.take t.toNat, t⟩) FileG.cells_len _ j 2 ⟨.slice A2 nm.length c2, .slice A3 t.toNat c3, nm, dt.take t.toNat, sf⟩ (get_set hx1) (by decide) rfl, List.set_set, ← hd, set_mid] at H1
    refine Exists.intro (m - 1) (And.intro (by simp only [List.length_cons] at hr; omega) ⟨rfl, rfl, rfl, j + 1, done ++ [⟨.slice A2 nm.length c2, .slice A3 t.toNat c3, nm, dt.take t.toNat, t⟩], gd ++ [⟨.slice A2 nm.length c2, .slice A3 dt.length c3, nm, dt, sf⟩], rest, rfl, by rw [hsplit]; simp, ?_, by simp [hd], by simp only [List.length_cons] at hr; omega, H1.perm (put_own _ _ ⟨.slice A2 nm.length c2, .slice A3 t.toNat c3, nm, dt.take t.toNat, t⟩ _ _)⟩)
    rw [List.map_append, List.map_append, List.map_append, hp, List.map_cons, List.map_cons, List.map_cons, ht]; rfl
end Go.Proofs.YtfhpgfbakimmhaaE
