/- The reference's l7without and l7with. -/
import Derived.Test.YtfhpgfbakimmhaaPFs
import Derived.Test.YtfhpgfbakimmhaaTCopy
namespace Go.Proofs.YtfhpgfbakimmhaaE
open Go Go.RowKit
set_option linter.unusedVariables false
set_option maxRecDepth 100000
set_option maxHeartbeats 2000000

theorem RdF.subset {w w' : World} {v v' : Value} {n k : Nat} {fs sub : List FileG} (h : RdF w v n fs) (hb : Below w.heap.size w w') (hs : ∀ f ∈ sub, f ∈ fs) (hr : Rd w' v' 3 k (sub.flatMap FileG.cells)) : RdF w' v' k sub :=
  ⟨hr, fun f hf => (h.ext hb).kids f (hs f hf)⟩
theorem ok_l7without : callOK Try.prog 74 = true := by kernel_rfl
theorem spec_l7without {fs : List FileG} {A : Option Addr} {n c : Nat} {v : Value} {nm : List Int} {W : World} (hx : RdF W (.slice A n c) n fs) (hl : n ≤ 4294967296) (hs : ∀ f ∈ fs, SmallF f) (hb : ∀ f ∈ fs, byteOK f.nm) (hv : RdB W v nm) (hn : byteOK nm) :
    Calls Try.prog 74 #[.agg #[.slice A n c], v] W fun e w => ∃ A' n' c' gs, e = .returned (.agg #[.slice A' n' c']) ∧ n' ≤ n ∧ gs.map FileG.p = withoutP (fs.map FileG.p) nm ∧ St W.heap.size W w (.rowF (.slice A' n' c') n' gs :: gs.flatMap FileG.own) := by
  have H := (St.enter W).rowNil (e := 69) (sz := 3)
  obtain rfl := hx.len
  obtain ⟨_, A0, c0, rfl, _⟩ := id hv
  refine calls_of_vcV (args := [.agg #[.slice A fs.length c], .slice A0 nm.length c0]) Try.func74 rfl (by kernel_rfl) (Nat.le_of_ble_eq_true rfl) ?_
  refine newR (o := .cells #[.slice A fs.length c] _) H fun g0 w H => ?_
  refine newR (o := .cells #[.slice none 0 0] _) H fun g2 w H => ?_
  refine newR (o := .cells #[.slice none 0 0] _) H fun g3 w H => ?_
  refine loopV (by kernel_rfl) (fun m e w => e 1 = .slice A0 nm.length c0 ∧ e 2 = .pointer (some ⟨g0, 0, none⟩) ∧ e 4 = .pointer (some ⟨g2, 0, none⟩) ∧ e 5 = .pointer (some ⟨g3, 0, none⟩) ∧ ∃ (j : Nat) (gs : List FileG) (A1 : Option Addr) (k kk : Nat), e 6 = .int .i64 j ∧ j + m = fs.length ∧ gs.map FileG.p = withoutP ((fs.take j).map FileG.p) nm ∧ (∀ f ∈ gs, f ∈ fs) ∧ k ≤ j ∧
      St W.heap.size W w [.obj g3 (.cells #[.slice A1 k kk] 29), .obj g2 (.cells #[.slice none 0 0] 29), .obj g0 (.cells #[.slice A fs.length c] 29), .rowF (.slice A1 k kk) k gs]) fs.length
    ⟨rfl, rfl, rfl, rfl, 0, [], none, 0, 0, rfl, by omega, rfl, by simp, by omega, H⟩ ?_
  rintro m e w ⟨h1, h2, h4, h5, j, gs, A1, k, kk, h6, hj, hgs, hsub, hkj, H⟩
  rw [Env.five h1 h2 h4 h5 h6]
  have fin : m = 0 → gs.map FileG.p = withoutP (fs.map FileG.p) nm := fun e => by rw [hgs, List.take_of_length_le (by omega)]
  refine loadO H 2 rfl rfl ?_
  refine ifB (fun c1 => ?_) (fun c1 => ?_)
  · have hjl : j < fs.length := by omega
    obtain ⟨f, hf⟩ : ∃ f, fs[j]? = some f := ⟨_, List.getElem?_eq_getElem hjl⟩
    have hfm : f ∈ fs := List.mem_of_getElem? hf
    have hbf := hb f hfm
    have k1 := hx.kids f hfm
    have htk : (fs.take (j + 1)).map FileG.p = (fs.take j).map FileG.p ++ [f.p] := by rw [List.take_add_one, hf, List.map_append]; rfl
    have hw1 : withoutP ((fs.take (j + 1)).map FileG.p) nm = withoutP ((fs.take j).map FileG.p) nm ++ (if f.nm = nm then [] else [f.p]) := by
      rw [htk, withoutP, List.filter_append, withoutP]
      split
      · rename_i e; rw [List.filter_cons_of_neg (by simp [FileG.p, e])]; rfl
      · rename_i e; rw [List.filter_cons_of_pos (by simp [FileG.p, e])]; rfl
    obtain ⟨nv, dv, fm, dt, sf⟩ := f
    obtain ⟨_, A2, c2, e1, _⟩ := id k1.1
    obtain ⟨_, A3, c3, e2, _⟩ := id k1.2
    dsimp only at *
    subst e1 e2
    have ld2 : ∀ {w : World} {L : List It}, St W.heap.size W w L → .obj g0 (.cells #[.slice A fs.length c] 29) ∈ L → w.cell? ⟨g0, 0, none⟩ = some (.slice A fs.length c) := fun H hm => cellM H (cs := [.slice A fs.length c]) hm rfl
    refine joinV (fun e w => e 1 = .slice A0 nm.length c0 ∧ e 2 = .pointer (some ⟨g0, 0, none⟩) ∧ e 4 = .pointer (some ⟨g2, 0, none⟩) ∧ e 5 = .pointer (some ⟨g3, 0, none⟩) ∧ e 6 = .int .i64 j ∧ ∃ (gs : List FileG) (A1 : Option Addr) (k kk : Nat), gs.map FileG.p = withoutP ((fs.take (j + 1)).map FileG.p) nm ∧ (∀ f ∈ gs, f ∈ fs) ∧ k ≤ j + 1 ∧
      St W.heap.size W w [.obj g3 (.cells #[.slice A1 k kk] 29), .obj g2 (.cells #[.slice none 0 0] 29), .obj g0 (.cells #[.slice A fs.length c] 29), .rowF (.slice A1 k kk) k gs]) rfl ?_ ?_
    · (refine drawR H fun w H => ?_; have hw := HeldW.refl w)
      refine loadS (ld2 H (by simp)) ?_
      refine idxC (cells := FileG.cells) FileG.cells_len (hx.ext H.below).row hf hjl fun b off hc => ?_
      refine loadS (v := .slice A2 fm.length c2) (hc 0 _ rfl) ?_
      refine convBQ (k1.1.ext H.below) ?_
      refine convBQ (hv.ext H.below) ?_
      refine strE hbf hn rfl ?_
      refine ifNot ?_
      refine ifB (fun c8 => ?_) (fun c8 => ?_)
      · exact ⟨rfl, rfl, rfl, rfl, rfl, gs, A1, k, kk, by rw [hw1, if_pos c8, List.append_nil]; exact hgs, hsub, by omega, H⟩
      · refine regG [7, 8, 10] [7] [1, 3, 6] [0, 1, 2, 3, 4, 5, 6, 7, 8, 9, 10] (by kernel_rfl) ?_
        (refine drawR H fun w H => ?_; have hw := HeldW.refl w)
        refine loadO H 0 rfl rfl ?_
        refine loadS (ld2 H (by simp)) ?_
        refine idxC (cells := FileG.cells) FileG.cells_len (hx.ext H.below).row hf hjl fun b off hc => ?_
        refine loadS (v := .slice A2 fm.length c2) (hc 0 _ rfl) ?_
        refine loadS (v := .slice A3 dt.length c3) (hc 1 _ rfl) ?_
        refine loadS (v := .int .i64 sf) (hc 2 _ rfl) ?_
        refine litRB (e := 69) (sz := 3) (n := 1) (cs := [.slice A2 fm.length c2, .slice A3 dt.length c3, .int .i64 sf]) H rfl (by decide) (by kernel_rfl) fun A6 k6 w hB H => ?_
        (have hw := HeldW.step hw hB; refine KeepS.mk ⟨hw, ?_⟩)
        refine appF ⟨.slice A2 fm.length c2, .slice A3 dt.length c3, fm, dt, sf⟩ H 4 rfl (H.rd 0 rfl) rfl (by omega) fun A7 k7 w H => ?_
        refine storeO H 1 rfl rfl rfl fun w H => ?_
        have H1 : St W.heap.size W w [.obj g3 (.cells #[.slice A7 (k + 1) k7] 29), .obj g2 (.cells #[.slice none 0 0] 29), .obj g0 (.cells #[.slice A fs.length c] 29), .rowF (.slice A7 (k + 1) k7) (k + 1) (gs ++ [⟨.slice A2 fm.length c2, .slice A3 dt.length c3, fm, dt, sf⟩])] := St.tl H
        exact ⟨rfl, rfl, rfl, rfl, rfl, gs ++ [⟨.slice A2 fm.length c2, .slice A3 dt.length c3, fm, dt, sf⟩], A7, k + 1, k7, by rw [hw1, if_neg c8, List.map_append, hgs]; rfl, (fun f hf => by rcases List.mem_append.1 hf with q | q; exact hsub f q; exact List.mem_singleton.1 q ▸ hfm), by omega, H1⟩
    rintro e w ⟨h1, h2, h4, h5, h6, gs, A1, k, kk, hgs, hsub, hkj, H⟩
    rw [Env.five h1 h2 h4 h5 h6]
    refine arN (by omega) ?_
    exact Exists.intro (m - 1) (And.intro (by omega) ⟨rfl, rfl, rfl, rfl, j + 1, gs, A1, k, kk, rfl, by omega, hgs, hsub, hkj, H⟩)
  · refine loadO H 0 rfl rfl ?_
    have hr : RdF w (.slice A1 k kk) k gs := hx.subset H.below hsub (H.rd 3 rfl)
    refine CallS.mk ok_l7copy ((spec_l7copy hr (by omega) (fun f hf => hs f (hsub f hf))).mono ?_)
    rintro _ w2 ⟨A', c', gs', rfl, hg, H2⟩
    have H := H.joinL H2 (own_all _ _ _ _ _)
    refine storeO H 1 rfl rfl rfl fun w H => ?_
    refine loadO H 1 rfl rfl ?_
    exact Exists.intro A' (Exists.intro k (Exists.intro c' (Exists.intro gs' (And.intro rfl (And.intro (by omega) (And.intro (hg.trans (fin (by omega))) H.tl.tl.tl.tl))))))
theorem insP_snoc (f : FileP) : ∀ (a : List FileP) (g : FileP), (∀ p ∈ a, ¬ cmpB p.nm f.nm > 0) → ∀ r, insP f (a ++ g :: r) = if cmpB g.nm f.nm > 0 then a ++ f :: g :: r else a ++ g :: insP f r
  | [], g, _, r => by rw [List.nil_append, insP]; split <;> rfl
  | p :: a, g, h, r => by
    rw [List.cons_append, insP, if_neg (h p (by simp)), insP_snoc f a g (fun q hq => h q (by simp [hq])) r]
    split <;> rfl
theorem insP_all (f : FileP) : ∀ (a : List FileP), (∀ p ∈ a, ¬ cmpB p.nm f.nm > 0) → insP f a = a ++ [f]
  | [], _ => rfl
  | p :: a, h => by rw [insP, if_neg (h p (by simp)), insP_all f a (fun q hq => h q (by simp [hq]))]; rfl
theorem ok_l7with : callOK Try.prog 77 = true := by kernel_rfl
theorem spec_l7with {fs : List FileG} {A : Option Addr} {n c : Nat} {nv dv : Value} {nm dt : List Int} {sf : Int} {W : World} (hx : RdF W (.slice A n c) n fs) (hl : n ≤ 1048576) (hs : ∀ f ∈ fs, SmallF f) (hb : ∀ f ∈ fs, byteOK f.nm) (hv : RdB W nv nm) (hd : RdB W dv dt) (hn : byteOK nm) (hsm : nm.length ≤ 4294967296 ∧ dt.length ≤ 4294967296) :
    Calls Try.prog 77 #[.agg #[.slice A n c], .agg #[nv, dv, .int .i64 sf]] W fun e w => ∃ A' n' c' gs, e = .returned (.agg #[.slice A' n' c']) ∧ n' ≤ n + 1 ∧ gs.map FileG.p = withP (fs.map FileG.p) ⟨nm, dt, sf⟩ ∧ St W.heap.size W w (.rowF (.slice A' n' c') n' gs :: gs.flatMap FileG.own) := by
  have H := (St.enter W).rowNil (e := 69) (sz := 3)
  obtain rfl := hx.len
  obtain ⟨_, A0, c0, rfl, _⟩ := id hv
  obtain ⟨_, Ad, cd, rfl, _⟩ := id hd
  refine calls_of_vcV (args := [.agg #[.slice A fs.length c], .agg #[.slice A0 nm.length c0, .slice Ad dt.length cd, .int .i64 sf]]) Try.func77 rfl (by kernel_rfl) (Nat.le_of_ble_eq_true rfl) ?_
  refine newR (o := .cells #[.slice A fs.length c] _) H fun g0 w H => ?_
  refine newR (o := .cells #[.slice A0 nm.length c0, .slice Ad dt.length cd, .int .i64 sf] _) H fun g1 w H => ?_
  refine newR (o := .cells #[.slice none 0 0] _) H fun g2 w H => ?_
  refine loadO H 2 rfl rfl ?_
  refine loadO H 1 rfl rfl ?_
  refine CallS.mk ok_l7without ((spec_l7without (hx.ext H.below) (by omega) hs hb (hv.ext H.below) hn).mono ?_)
  rintro _ w1 ⟨A4, n4, k4, gs1, rfl, hn4, hgs1, H1⟩
  have H := H.joinL H1 (own_all _ _ _ _ _)
  refine newR (o := .cells #[.slice none 0 0] _) H fun g4 w H => ?_
  refine storeO H 0 rfl rfl rfl fun w H => ?_
  refine newR (o := .cells #[.slice none 0 0] _) H fun g5 w H => ?_
  have bsm : ∀ g ∈ gs1, SmallF g ∧ byteOK g.nm := fun g hg => by
    have h1 : g.p ∈ withoutP (fs.map FileG.p) nm := hgs1 ▸ List.mem_map_of_mem hg
    obtain ⟨f, hf, e⟩ := List.mem_map.1 (List.mem_filter.1 h1).1
    have e1 : f.nm = g.nm := congrArg FileP.nm e
    have e2 : f.dt = g.dt := congrArg FileP.dt e
    exact ⟨⟨e1 ▸ (hs f hf).nm, e2 ▸ (hs f hf).dt⟩, e1 ▸ hb f hf⟩
  have l4 : n4 = gs1.length := by
    have h := (H.rd 6 rfl).len
    rw [flat_len FileG.cells_len] at h; omega
  have H : St W.heap.size W w (.obj g5 (.cells #[.slice none 0 0] 29) :: .obj g4 (.cells #[.slice A4 n4 k4] 29) :: .obj g2 (.cells #[.slice none 0 0] 29) :: .obj g1 (.cells #[.slice A0 nm.length c0, .slice Ad dt.length cd, .int .i64 sf] 69) :: .obj g0 (.cells #[.slice A fs.length c] 29) :: .rowF (.slice none 0 0) 0 [] :: .rowF (.slice A4 n4 k4) n4 gs1 :: gs1.flatMap FileG.own) := H
  obtain ⟨F, hF⟩ : ∃ F : FileG, F = ⟨.slice A0 nm.length c0, .slice Ad dt.length cd, nm, dt, sf⟩ := ⟨_, rfl⟩
  refine loopV (by kernel_rfl) (fun m e w => e 3 = .pointer (some ⟨g1, 0, none⟩) ∧ e 4 = .pointer (some ⟨g2, 0, none⟩) ∧ e 5 = .pointer (some ⟨g4, 0, none⟩) ∧ e 6 = .pointer (some ⟨g5, 0, none⟩) ∧ ∃ (d : Bool) (j : Nat) (outs : List FileG) (A1 : Option Addr) (k kk : Nat), e 7 = .bool d ∧ e 8 = .int .i64 j ∧ j + m = n4 ∧ (∀ g ∈ outs, g ∈ gs1 ∨ g = F) ∧ k ≤ j + (bif d then 1 else 0) ∧
      insP F.p (gs1.map FileG.p) = outs.map FileG.p ++ (bif d then (gs1.drop j).map FileG.p else insP F.p ((gs1.drop j).map FileG.p)) ∧
      St W.heap.size W w (.obj g5 (.cells #[.slice A1 k kk] 29) :: .obj g4 (.cells #[.slice A4 n4 k4] 29) :: .obj g2 (.cells #[.slice none 0 0] 29) :: .obj g1 (.cells #[.slice A0 nm.length c0, .slice Ad dt.length cd, .int .i64 sf] 69) :: .obj g0 (.cells #[.slice A fs.length c] 29) :: .rowF (.slice A1 k kk) k outs :: .rowF (.slice A4 n4 k4) n4 gs1 :: gs1.flatMap FileG.own)) n4
    ⟨rfl, rfl, rfl, rfl, false, 0, [], none, 0, 0, rfl, rfl, by omega, by simp, by decide, rfl, H⟩ ?_
  rintro m e w ⟨h3, h4, h5, h6, d, j, outs, A1, k, kk, h7, h8, hj, hsub, hk, hins, H⟩
  rw [Env.six h3 h4 h5 h6 h7 h8]
  have fin : ∀ {w : World} {outs : List FileG} {A1 : Option Addr} {k kk : Nat}, St W.heap.size W w (.obj g5 (.cells #[.slice A1 k kk] 29) :: .obj g4 (.cells #[.slice A4 n4 k4] 29) :: .obj g2 (.cells #[.slice none 0 0] 29) :: .obj g1 (.cells #[.slice A0 nm.length c0, .slice Ad dt.length cd, .int .i64 sf] 69) :: .obj g0 (.cells #[.slice A fs.length c] 29) :: .rowF (.slice A1 k kk) k outs :: .rowF (.slice A4 n4 k4) n4 gs1 :: gs1.flatMap FileG.own) → (∀ g ∈ outs, g ∈ gs1 ∨ g = F) → RdF w (.slice A1 k kk) k outs ∧ ∀ g ∈ outs, SmallF g := fun {w outs A1 k kk} H hs2 => by
    have r1 := rdFm H (.slice A4 n4 k4) n4 gs1 (by simp) (fun it hit => by simp [hit])
    refine ⟨⟨H.rd 5 rfl, fun g hg => ?_⟩, fun g hg => ?_⟩
    · rcases hs2 g hg with q | rfl
      · exact r1.kids g q
      · rw [hF]; exact ⟨hv.ext H.below, hd.ext H.below⟩
    · rcases hs2 g hg with q | rfl
      · exact (bsm g q).1
      · rw [hF]; exact ⟨hsm.1, hsm.2⟩
  have rd1 : ∀ {w : World} {L : List It}, St W.heap.size W w L → (∀ it ∈ It.rowF (.slice A4 n4 k4) n4 gs1 :: gs1.flatMap FileG.own, it ∈ L) → RdF w (.slice A4 n4 k4) n4 gs1 := fun H h => rdFm H _ _ _ (h _ (by simp)) (fun it hit => h it (by simp [hit]))
  refine loadO H 1 rfl rfl ?_
  refine ifB (fun c1 => ?_) (fun c1 => ?_)
  · have hjl : j < gs1.length := by omega
    obtain ⟨f, hf⟩ : ∃ f, gs1[j]? = some f := ⟨_, List.getElem?_eq_getElem hjl⟩
    have hfm : f ∈ gs1 := List.mem_of_getElem? hf
    have hbf := (bsm f hfm).2
    have hdr : gs1.drop j = f :: gs1.drop (j + 1) := by rw [List.drop_eq_getElem_cons hjl, (List.getElem?_eq_some_iff.1 hf).2]
    have k1 := (rd1 H (fun it hit => by rcases List.mem_cons.1 hit with rfl | h <;> simp [*])).kids f hfm
    obtain ⟨nv, dv, fm, dt2, sf2⟩ := f
    obtain ⟨_, A2, c2, e1, _⟩ := id k1.1
    obtain ⟨_, A3, c3, e2, _⟩ := id k1.2
    clear k1
    dsimp only at *
    subst e1 e2
    have k1 : ∀ {w : World} {L : List It}, St W.heap.size W w L → (∀ it ∈ It.rowF (.slice A4 n4 k4) n4 gs1 :: gs1.flatMap FileG.own, it ∈ L) → RdB w (.slice A2 fm.length c2) fm := fun H h => ((rd1 H h).kids _ hfm).1
    have ld4 : ∀ {w : World} {L : List It}, St W.heap.size W w L → .obj g4 (.cells #[.slice A4 n4 k4] 29) ∈ L → w.cell? ⟨g4, 0, none⟩ = some (.slice A4 n4 k4) := fun H hm => cellM H (cs := [.slice A4 n4 k4]) hm rfl
    have ld1 : ∀ {w : World} {L : List It}, St W.heap.size W w L → .obj g1 (.cells #[.slice A0 nm.length c0, .slice Ad dt.length cd, .int .i64 sf] 69) ∈ L → w.cell? ⟨g1, 0, none⟩ = some (.slice A0 nm.length c0) ∧ w.cell? ⟨g1, 1, none⟩ = some (.slice Ad dt.length cd) ∧ w.cell? ⟨g1, 2, none⟩ = some (.int .i64 sf) := fun H hm => ⟨cellM H (cs := [.slice A0 nm.length c0, .slice Ad dt.length cd, .int .i64 sf]) hm rfl, cellM H (cs := [.slice A0 nm.length c0, .slice Ad dt.length cd, .int .i64 sf]) hm rfl, cellM H (cs := [.slice A0 nm.length c0, .slice Ad dt.length cd, .int .i64 sf]) hm rfl⟩
    refine JoinV.mk ?_
    have hk2 : k ≤ j + 1 := by cases d <;> simp at hk <;> omega
    refine joinV (fun e w => e 3 = .pointer (some ⟨g1, 0, none⟩) ∧ e 4 = .pointer (some ⟨g2, 0, none⟩) ∧ e 5 = .pointer (some ⟨g4, 0, none⟩) ∧ e 6 = .pointer (some ⟨g5, 0, none⟩) ∧ e 8 = .int .i64 j ∧ ∃ (d : Bool) (outs : List FileG) (A1 : Option Addr) (k kk : Nat), e 7 = .bool d ∧ (d = false → ¬ cmpB fm nm > 0) ∧ (∀ g ∈ outs, g ∈ gs1 ∨ g = F) ∧ k ≤ j + (bif d then 1 else 0) ∧
      insP F.p (gs1.map FileG.p) = outs.map FileG.p ++ (bif d then (gs1.drop j).map FileG.p else insP F.p ((gs1.drop j).map FileG.p)) ∧ St W.heap.size W w (.obj g5 (.cells #[.slice A1 k kk] 29) :: .obj g4 (.cells #[.slice A4 n4 k4] 29) :: .obj g2 (.cells #[.slice none 0 0] 29) :: .obj g1 (.cells #[.slice A0 nm.length c0, .slice Ad dt.length cd, .int .i64 sf] 69) :: .obj g0 (.cells #[.slice A fs.length c] 29) :: .rowF (.slice A1 k kk) k outs :: .rowF (.slice A4 n4 k4) n4 gs1 :: gs1.flatMap FileG.own)) rfl ?_ ?_
    · cases d
      · (refine drawR H fun w H => ?_; have hw := HeldW.refl w)
        refine gNot ?_
        refine gY ?_
        refine loadS (ld4 H (by simp)) ?_
        refine idxC (cells := FileG.cells) FileG.cells_len (H.rd 6 rfl) hf (by omega) fun b off hc => ?_
        refine loadS (v := .slice A2 fm.length c2) (hc 0 _ rfl) ?_
        refine convBQ (k1 H (fun it hit => by rcases List.mem_cons.1 hit with rfl | h <;> simp [*])) ?_
        refine loadS (ld1 H (by simp)).1 ?_
        refine convBQ (hv.ext H.below) ?_
        refine ifNot ?_
        refine ifO (fun c10 => ?_) (fun c10 => ?_)
        · have hc : ¬ cmpB fm nm > 0 := by
            rw [less_str hbf hn, str_eq nm hbf hn rfl] at c10
            simp only [Bool.or_eq_true, decide_eq_true_eq] at c10
            rcases c10 with q | q
            · omega
            · rw [q, cmpB_refl]; omega
          exact ⟨rfl, rfl, rfl, rfl, rfl, false, outs, A1, k, kk, rfl, fun _ => hc, hsub, hk, hins, H⟩
        · refine loadO H 0 rfl rfl ?_
          refine loadS (ld1 H (by simp)).1 ?_
          refine loadS (ld1 H (by simp)).2.1 ?_
          refine loadS (ld1 H (by simp)).2.2 ?_
          refine litRB (e := 69) (sz := 3) (n := 1) (cs := [.slice A0 nm.length c0, .slice Ad dt.length cd, .int .i64 sf]) H rfl (by decide) (by kernel_rfl) fun A6 k6 w hB H => ?_
          refine appF ⟨.slice A0 nm.length c0, .slice Ad dt.length cd, nm, dt, sf⟩ H 6 rfl (H.rd 0 rfl) rfl (by omega) fun A7 k7 w H => ?_
          refine storeO H 1 rfl rfl rfl fun w H => ?_
          have hc : cmpB fm nm > 0 := by
            rw [less_str hbf hn, str_eq nm hbf hn rfl] at c10
            simp only [Bool.or_eq_false_iff, decide_eq_false_iff_not] at c10
            have h2 : cmpB fm nm ≠ 0 := fun e => c10.2 ((cmpB_eq fm nm).1 e)
            omega
          have H1 : St W.heap.size W w (.obj g5 (.cells #[.slice A7 (k + 1) k7] 29) :: .obj g4 (.cells #[.slice A4 n4 k4] 29) :: .obj g2 (.cells #[.slice none 0 0] 29) :: .obj g1 (.cells #[.slice A0 nm.length c0, .slice Ad dt.length cd, .int .i64 sf] 69) :: .obj g0 (.cells #[.slice A fs.length c] 29) :: .rowF (.slice A7 (k + 1) k7) (k + 1) (outs ++ [⟨.slice A0 nm.length c0, .slice Ad dt.length cd, nm, dt, sf⟩]) :: .rowF (.slice A4 n4 k4) n4 gs1 :: gs1.flatMap FileG.own) := St.tl H
          refine ⟨rfl, rfl, rfl, rfl, rfl, true, outs ++ [⟨.slice A0 nm.length c0, .slice Ad dt.length cd, nm, dt, sf⟩], A7, k + 1, k7, rfl, (fun q => by cases q), (fun g hg => by rcases List.mem_append.1 hg with q | q; exact hsub g q; exact .inr ((List.mem_singleton.1 q).trans hF.symm)), by simp at hk ⊢; omega, ?_, H1⟩
          rw [hins, hdr, List.map_append, List.append_assoc, List.map_cons]
          show _ ++ insP F.p (_ :: _) = _
          rw [insP, if_pos (by rw [hF]; exact hc), hF]
          rfl
      · (refine drawR H fun w H => ?_; have hw := HeldW.refl w)
        refine gNot ?_
        refine gNf ?_
        refine ifF ?_
        exact ⟨rfl, rfl, rfl, rfl, rfl, true, outs, A1, k, kk, rfl, (fun q => by cases q), hsub, hk, hins, H⟩
    rintro e w ⟨h3, h4, h5, h6, h8, d, outs, A1, k, kk, h7, hd2, hsub, hk, hins, H⟩
    rw [Env.six h3 h4 h5 h6 h7 h8]
    have hk2 : k ≤ j + 1 := by cases d <;> simp at hk <;> omega
    refine regG [7, 8, 10] [7] [1, 3, 6] [0, 1, 2, 3, 4, 5, 6, 7, 8, 9, 10] (by kernel_rfl) ?_
    (refine drawR H fun w H => ?_; have hw := HeldW.refl w)
    refine loadO H 0 rfl rfl ?_
    refine loadS (ld4 H (by simp)) ?_
    refine idxC (cells := FileG.cells) FileG.cells_len (H.rd 6 rfl) hf (by omega) fun b off hc => ?_
    refine loadS (v := .slice A2 fm.length c2) (hc 0 _ rfl) ?_
    refine loadS (v := .slice A3 dt2.length c3) (hc 1 _ rfl) ?_
    refine loadS (v := .int .i64 sf2) (hc 2 _ rfl) ?_
    refine litRB (e := 69) (sz := 3) (n := 1) (cs := [.slice A2 fm.length c2, .slice A3 dt2.length c3, .int .i64 sf2]) H rfl (by decide) (by kernel_rfl) fun A6 k6 w hB H => ?_
    (have hw := HeldW.step hw hB; refine KeepS.mk ⟨hw, ?_⟩)
    refine appF ⟨.slice A2 fm.length c2, .slice A3 dt2.length c3, fm, dt2, sf2⟩ H 6 rfl (H.rd 0 rfl) rfl (by omega) fun A7 k7 w H => ?_
    refine storeO H 1 rfl rfl rfl fun w H => ?_
    refine arN (by omega) ?_
    have H1 : St W.heap.size W w (.obj g5 (.cells #[.slice A7 (k + 1) k7] 29) :: .obj g4 (.cells #[.slice A4 n4 k4] 29) :: .obj g2 (.cells #[.slice none 0 0] 29) :: .obj g1 (.cells #[.slice A0 nm.length c0, .slice Ad dt.length cd, .int .i64 sf] 69) :: .obj g0 (.cells #[.slice A fs.length c] 29) :: .rowF (.slice A7 (k + 1) k7) (k + 1) (outs ++ [⟨.slice A2 fm.length c2, .slice A3 dt2.length c3, fm, dt2, sf2⟩]) :: .rowF (.slice A4 n4 k4) n4 gs1 :: gs1.flatMap FileG.own) := St.tl H
    refine Exists.intro (m - 1) (And.intro (by omega) ⟨rfl, rfl, rfl, rfl, d, j + 1, outs ++ [⟨.slice A2 fm.length c2, .slice A3 dt2.length c3, fm, dt2, sf2⟩], A7, k + 1, k7, rfl, rfl, by omega, (fun g hg => by rcases List.mem_append.1 hg with q | q; exact hsub g q; exact .inl (List.mem_singleton.1 q ▸ hfm)), (by cases d <;> simp at hk ⊢ <;> omega), ?_, H1⟩)
    rw [hins, hdr, List.map_append, List.append_assoc]
    cases d with
    | true => rfl
    | false =>
      have hc := hd2 rfl
      show _ ++ insP F.p (_ :: _) = _
      rw [insP, if_neg (by rw [hF]; exact hc)]; rfl
  · have hk2 : k ≤ j + 1 := by cases d <;> simp at hk <;> omega
    have hdr : gs1.drop j = [] := List.drop_of_length_le (by omega)
    rw [hdr] at hins
    have last : ∀ {w : World} {outs : List FileG} {A1 : Option Addr} {k kk : Nat}, St W.heap.size W w (.obj g5 (.cells #[.slice A1 k kk] 29) :: .obj g4 (.cells #[.slice A4 n4 k4] 29) :: .obj g2 (.cells #[.slice none 0 0] 29) :: .obj g1 (.cells #[.slice A0 nm.length c0, .slice Ad dt.length cd, .int .i64 sf] 69) :: .obj g0 (.cells #[.slice A fs.length c] 29) :: .rowF (.slice A1 k kk) k outs :: .rowF (.slice A4 n4 k4) n4 gs1 :: gs1.flatMap FileG.own) → (∀ g ∈ outs, g ∈ gs1 ∨ g = F) → k ≤ j + 1 → insP F.p (gs1.map FileG.p) = outs.map FileG.p → Calls Try.prog 73 #[.agg #[.slice A1 k kk]] w fun e w2 => ∃ A' c' gs', e = .returned (.agg #[.slice A' k c']) ∧ gs'.map FileG.p = withP (fs.map FileG.p) ⟨nm, dt, sf⟩ ∧ St w.heap.size w w2 (.rowF (.slice A' k c') k gs' :: gs'.flatMap FileG.own) := fun {w outs A1 k kk} H hs2 hk2 he => by
      obtain ⟨hr, hss⟩ := fin H hs2
      refine (spec_l7copy hr (by omega) hss).mono ?_
      rintro _ w2 ⟨A', c', gs', rfl, hg, H2⟩
      exact ⟨A', c', gs', rfl, by rw [hg, ← he, hgs1, hF]; rfl, H2⟩
    cases d
    · refine JoinV.mk ?_
      refine ifNot ?_
      refine ifF ?_
      refine loadO H 0 rfl rfl ?_
      refine loadO H 3 rfl rfl ?_
      refine loadO H 3 rfl rfl ?_
      refine loadO H 3 rfl rfl ?_
      refine litRB (e := 69) (sz := 3) (n := 1) (cs := [.slice A0 nm.length c0, .slice Ad dt.length cd, .int .i64 sf]) H rfl (by decide) (by kernel_rfl) fun A6 k6 w hB H => ?_
      refine appF ⟨.slice A0 nm.length c0, .slice Ad dt.length cd, nm, dt, sf⟩ H 6 rfl (H.rd 0 rfl) rfl (by omega) fun A7 k7 w H => ?_
      refine storeO H 1 rfl rfl rfl fun w H => ?_
      refine loadO H 1 rfl rfl ?_
      have H1 : St W.heap.size W w (.obj g5 (.cells #[.slice A7 (k + 1) k7] 29) :: .obj g4 (.cells #[.slice A4 n4 k4] 29) :: .obj g2 (.cells #[.slice none 0 0] 29) :: .obj g1 (.cells #[.slice A0 nm.length c0, .slice Ad dt.length cd, .int .i64 sf] 69) :: .obj g0 (.cells #[.slice A fs.length c] 29) :: .rowF (.slice A7 (k + 1) k7) (k + 1) (outs ++ [⟨.slice A0 nm.length c0, .slice Ad dt.length cd, nm, dt, sf⟩]) :: .rowF (.slice A4 n4 k4) n4 gs1 :: gs1.flatMap FileG.own) := St.tl H
      refine CallS.mk ok_l7copy ((last H1 (fun g hg => by rcases List.mem_append.1 hg with q | q; exact hsub g q; exact .inr ((List.mem_singleton.1 q).trans hF.symm)) (by simp at hk ⊢; omega) (by rw [hins, List.map_append, hF]; rfl)).mono ?_)
      rintro _ w2 ⟨A', c', gs', rfl, hg, H2⟩
      have H := H1.joinS H2 (own_all _ _ _ _ _)
      have H : St W.heap.size W w2 (.obj g2 (.cells #[.slice none 0 0] 29) :: .rowF (.slice A' (k + 1) c') (k + 1) gs' :: gs'.flatMap FileG.own) := H.sel (fun q => by simp only [cntL_append, cntL, List.cons_append, List.nil_append, List.set_cons_zero, List.set_cons_succ, List.flatMap_append, List.flatMap_cons, List.flatMap_nil, It.rowF, It.rowB, It.rowI, It.roB, It.roI]; omega)
      refine storeO H 0 rfl rfl rfl fun w H => ?_
      refine loadO H 0 rfl rfl ?_
      exact Exists.intro A' (Exists.intro (k + 1) (Exists.intro c' (Exists.intro gs' (And.intro rfl (And.intro (by simp at hk; omega) (And.intro hg H.tl))))))
    · refine JoinV.mk ?_
      refine ifNot ?_
      refine ifT ?_
      refine loadO H 0 rfl rfl ?_
      refine CallS.mk ok_l7copy ((last H hsub hk2 (by rw [hins]; exact List.append_nil _)).mono ?_)
      rintro _ w2 ⟨A', c', gs', rfl, hg, H2⟩
      have H := H.joinS H2 (own_all _ _ _ _ _)
      have H : St W.heap.size W w2 (.obj g2 (.cells #[.slice none 0 0] 29) :: .rowF (.slice A' k c') k gs' :: gs'.flatMap FileG.own) := H.sel (fun q => by simp only [cntL_append, cntL, List.cons_append, List.nil_append, List.set_cons_zero, List.set_cons_succ, List.flatMap_append, List.flatMap_cons, List.flatMap_nil, It.rowF, It.rowB, It.rowI, It.roB, It.roI]; omega)
      refine storeO H 0 rfl rfl rfl fun w H => ?_
      refine loadO H 0 rfl rfl ?_
      exact Exists.intro A' (Exists.intro k (Exists.intro c' (Exists.intro gs' (And.intro rfl (And.intro (by omega) (And.intro hg H.tl))))))
end Go.Proofs.YtfhpgfbakimmhaaE
