/- FsCrash: the program's crash. -/
import Derived.Test.YtfhpgfbakimmhaaTCrash
namespace Go.Proofs.YtfhpgfbakimmhaaE
open Go Go.RowKit
set_option linter.unusedVariables false
set_option maxRecDepth 100000
set_option maxHeartbeats 2000000

/-- a cell of an own row of structs, by its pointer -/
theorem rowCell {α : Type} {cells : α → List Value} {sz : Nat} {B : Nat} {W0 w : World} {L : List It} {b n c : Nat} {e : TypeId} {xs : List α} {x : α} {j k o : Nat} {v : Value} (hsz : ∀ x, (cells x).length = sz) (H : St B W0 w L) (i : Nat) (hi : L[i]? = some (.row (.slice (some ⟨b, 0, none⟩) n c) e sz n (xs.flatMap cells))) (hx : xs[j]? = some x) (hj : j < n) (hv : (cells x)[k]? = some v) (ho : o = j * sz + k) : w.cell? ⟨b, o, none⟩ = some v := by
  subst ho
  obtain ⟨b', hA, hc⟩ := own_cells (H.own i hi) (by omega)
  cases hA
  have hk : k < sz := by rw [← hsz x]; exact (List.getElem?_eq_some_iff.1 hv).1
  have hg := flat_get hsz xs j k x hx hk
  rw [hc (j * sz + k) (List.getElem?_eq_some_iff.1 (hg.trans hv)).1, hg, hv]
theorem minS {P : Program} {w : World} {k k' : IntKind} {ts : Array TypeId} {ty : TypeId} {x y q : Int} {K : Value → World → Prop} (hq : (if y < x then y else x) = q) (h : K (.int k q) w) : RunS P (Builtin.min_ ts ty #[.int k x, .int k' y]) w K := ⟨_, _, run_min_int2 w ts ty k k' x y, by rw [hq]; exact h⟩
theorem ok_crash : callOK Try.prog 71 = true := by kernel_rfl
theorem impl_crash {gs : List FileG} {g : Nat} {A : Option Addr} {n c : Nat} {keep : Int} {B : Nat} {W0 w : World} {L : List It} (H : St B W0 w (.mem g (.slice A n c) :: .rowF (.slice A n c) n gs :: (gs.flatMap FileG.own ++ L))) (hn : n = gs.length) (hl : n ≤ 4294967296) (hs : ∀ f ∈ gs, SmallF f) (hk : 0 ≤ keep) (hk1 : keep ≤ 9223372036854775807) (hsf : ∀ f ∈ gs, 0 ≤ f.sf ∧ f.sf ≤ f.dt.length) :
    Calls Try.prog 71 #[.pointer (some ⟨g, 0, none⟩), .int .i64 keep] w fun e w' => ∃ gs2, e = .returned (.tuple #[]) ∧ gs2.map FileG.p = (gs.map FileG.p).map (crash1 keep) ∧ St B W0 w' (.mem g (.slice A n c) :: .rowF (.slice A n c) n gs2 :: (gs2.flatMap FileG.own ++ L)) := by
  refine calls_of_vcV (args := [.pointer (some ⟨g, 0, none⟩), .int .i64 keep]) Try.func71 rfl (by kernel_rfl) (Nat.le_of_ble_eq_true rfl) ?_
  refine loadO H 0 rfl rfl ?_
  have H : St B W0 w (.rowF (.slice A n c) n gs :: (gs.flatMap FileG.own ++ (.mem g (.slice A n c) :: L))) := H.perm (List.perm_middle (α := It) (a := .mem g (.slice A n c)) (l₁ := .rowF (.slice A n c) n gs :: gs.flatMap FileG.own) (l₂ := L)).symm
  have ld5 : ∀ {w : World} {M : List It}, St B W0 w M → .mem g (.slice A n c) ∈ M → w.cell? ⟨g, 0, none⟩ = some (.slice A n c) := fun H hm => cellM H (cs := [.slice A n c]) hm rfl
  refine loopV (by kernel_rfl) (fun m e w => e 0 = .pointer (some ⟨g, 0, none⟩) ∧ e 1 = .int .i64 keep ∧ e 10 = .int .i64 n ∧ ∃ (j : Nat) (done gd rest : List FileG), e 11 = .int .i64 j ∧ gs = gd ++ rest ∧ done.map FileG.p = (gd.map FileG.p).map (crash1 keep) ∧ done.length = j ∧ rest.length = m ∧
      St B W0 w (.rowF (.slice A n c) n (done ++ rest) :: (done.flatMap FileG.own ++ (rest.flatMap FileG.own ++ (.mem g (.slice A n c) :: L))))) n
    ⟨rfl, rfl, rfl, 0, [], [], gs, rfl, rfl, rfl, rfl, hn.symm, by simpa only [List.nil_append, List.flatMap_nil] using H⟩ ?_
  rintro m e w ⟨h0, h1, h10, j, done, gd, rest, h11, hsplit, hp, hd, hr, H⟩
  rw [Env.four h0 h1 h10 h11]
  have hjm : n = j + m := by
    have := congrArg List.length hsplit
    have h2 := congrArg List.length hp
    simp only [List.length_append, List.length_map] at this h2; omega
  refine ifB (fun h => ?_) (fun h => ?_)
  case refine_2 =>
    obtain rfl : rest = [] := List.length_eq_zero_iff.1 (by omega)
    simp only [List.append_nil, List.flatMap_nil, List.nil_append] at H hsplit
    subst hsplit
    have H : St B W0 w (.mem g (.slice A n c) :: .rowF (.slice A n c) n done :: (done.flatMap FileG.own ++ L)) := H.perm (List.perm_middle (α := It) (a := .mem g (.slice A n c)) (l₁ := .rowF (.slice A n c) n done :: done.flatMap FileG.own) (l₂ := L))
    exact Exists.intro done (And.intro rfl (And.intro hp H))
  cases rest with
  | nil => simp only [List.length_nil] at hr; omega
  | cons f rest =>
    have H := H.perm (take_own _ _ _ _ _)
    have hx1 : (done ++ f :: rest)[j]? = some f := by rw [List.getElem?_append_right (by omega), hd, Nat.sub_self]; rfl
    have hfm : f ∈ gs := by rw [hsplit]; simp
    have hsm1 := (hs f hfm).dt
    have hsf1 := hsf f hfm
    obtain ⟨nv, dv, nm, dt, sf⟩ := f
    dsimp only at *
    obtain ⟨A2, c2, rfl⟩ := H.mk1 0 rfl
    obtain ⟨A3, c3, rfl⟩ := H.mk1 1 rfl
    obtain ⟨q, hq⟩ : ∃ q, (if (dt.length : Int) - sf < keep then (dt.length : Int) - sf else keep) = q := ⟨_, rfl⟩
    obtain ⟨t, ht⟩ : ∃ t, t = crashN keep ⟨nm, dt, sf⟩ := ⟨_, rfl⟩
    have ht2 : t = if (dt.length : Int) - sf > keep then sf + keep else dt.length := ht
    have ht3 : 0 ≤ t ∧ t ≤ dt.length ∧ sf + q = t := by rw [ht2, ← hq]; (repeat' split) <;> omega
    refine loadS (ld5 H (by simp)) ?_
    (refine idxRow H 2 rfl (by omega) (by omega) fun b0 hA hc => ?_; subst hA)
    (refine regG [20, 25] [20] [4, 8, 13, 18] [0, 1, 2, 3, 4, 5, 6, 7, 8, 9, 10, 11, 12, 13, 14, 15, 16, 17, 18, 19, 20, 21, 22, 23, 24, 25] (by kernel_rfl) ?_)
    refine drawR H fun w H => ?_
    refine loadS (v := .slice A3 dt.length c3) (rowCell (k := 1) FileG.cells_len H 2 rfl hx1 (by omega) rfl (by show 0 + (j : Int).toNat * 3 + 1 = _; omega)) ?_
    refine loadS (v := .int .i64 sf) (rowCell (k := 2) FileG.cells_len H 2 rfl hx1 (by omega) rfl (by show 0 + (j : Int).toNat * 3 + 2 = _; omega)) ?_
    refine loadS (v := .slice A3 dt.length c3) (rowCell (k := 1) FileG.cells_len H 2 rfl hx1 (by omega) rfl (by show 0 + (j : Int).toNat * 3 + 1 = _; omega)) ?_
    refine loadS (v := .int .i64 sf) (rowCell (k := 2) FileG.cells_len H 2 rfl hx1 (by omega) rfl (by show 0 + (j : Int).toNat * 3 + 2 = _; omega)) ?_
    refine ar64 (by omega) (by omega) ?_
    refine minS hq ?_
    refine KeepS.mk ⟨HeldW.refl _, ?_⟩
    refine ar64 (by omega) (by omega) ?_
    refine cutRow H 1 rfl (h := t.toNat) rfl (show sf + q = (t.toNat : Int) by omega) (by omega) fun H => ?_
    refine storeRowN H 2 rfl (j * 3 + 1) (by show 0 + (j : Int).toNat * 3 + 1 = _; omega) (by omega) rfl fun w H => ?_
    have e1 : (dt.take t.toNat).length = t.toNat := by rw [List.length_take]; omega
    have H1 : St B W0 w (.row (.slice A3 t.toNat c3) 5 1 t.toNat ((dt.map (Value.int .u8)).take (t.toNat * 1)) :: .rowB (.slice A2 nm.length c2) nm :: .row (.slice (some ⟨b0, 0, none⟩) n c) 69 3 n ((((done ++ ⟨.slice A2 nm.length c2, .slice A3 dt.length c3, nm, dt, sf⟩ :: rest).flatMap FileG.cells).set (j * 3 + 1) (.slice A3 t.toNat c3))) ::
        (done.flatMap FileG.own ++ (rest.flatMap FileG.own ++ (.mem g (.slice (some ⟨b0, 0, none⟩) n c) :: L)))) := H.sw2
    have H1 := H1.takeB (by omega)
    rw [e1] at H1
    have H := H1.sw2
    rw [flat_set (v := .slice A3 t.toNat c3) (x' := ⟨.slice A2 nm.length c2, .slice A3 t.toNat c3, nm, dt.take t.toNat, sf⟩) FileG.cells_len _ j 1 _ hx1 (by decide) rfl] at H
    have hx2 := get_set (b := (⟨.slice A2 nm.length c2, .slice A3 t.toNat c3, nm, dt.take t.toNat, sf⟩ : FileG)) hx1
    refine loadS (v := .slice A3 t.toNat c3) (rowCell (k := 1) FileG.cells_len H 2 rfl hx2 (by omega) rfl (by show 0 + (j : Int).toNat * 3 + 1 = _; omega)) ?_
    refine storeRowN H 2 rfl (j * 3 + 2) (by show 0 + (j : Int).toNat * 3 + 2 = _; omega) (by omega) rfl fun w H => ?_
    refine arN (by omega) ?_
    have H1 : St B W0 w (.rowB (.slice A2 nm.length c2) nm :: .rowB (.slice A3 t.toNat c3) (dt.take t.toNat) :: .row (.slice (some ⟨b0, 0, none⟩) n c) 69 3 n ((((done ++ ⟨.slice A2 nm.length c2, .slice A3 dt.length c3, nm, dt, sf⟩ :: rest).set j ⟨.slice A2 nm.length c2, .slice A3 t.toNat c3, nm, dt.take t.toNat, sf⟩).flatMap FileG.cells).set (j * 3 + 2) (.int .i64 (t.toNat : Nat))) ::
        (done.flatMap FileG.own ++ (rest.flatMap FileG.own ++ (.mem g (.slice (some ⟨b0, 0, none⟩) n c) :: L)))) := H
    rw [show ((t.toNat : Nat) : Int) = t by omega, flat_set (v := .int .i64 t) (x' := ⟨.slice A2 nm.length c2, .slice A3 t.toNat c3, nm, dt.take t.toNat, t⟩) FileG.cells_len _ j 2 _ hx2 (by decide) rfl, List.set_set, ← hd, set_mid] at H1
    refine Exists.intro (m - 1) (And.intro (by simp only [List.length_cons] at hr; omega) ⟨rfl, rfl, rfl, j + 1, done ++ [⟨.slice A2 nm.length c2, .slice A3 t.toNat c3, nm, dt.take t.toNat, t⟩], gd ++ [⟨.slice A2 nm.length c2, .slice A3 dt.length c3, nm, dt, sf⟩], rest, rfl, by rw [hsplit]; simp, ?_, by simp [hd], by simp only [List.length_cons] at hr; omega, H1.perm (put_own _ _ ⟨.slice A2 nm.length c2, .slice A3 t.toNat c3, nm, dt.take t.toNat, t⟩ _ _)⟩)
    rw [List.map_append, List.map_append, List.map_append, hp, List.map_cons, List.map_cons, List.map_cons, ht]; rfl
def crashF (fs : List FileP) (keep : Int) : List FileP × Int := if validF fs = true ∧ 0 ≤ keep then (fs.map (crash1 keep), 0) else ([], 1)
/-- a contract of a function that answers a list of files and a code -/
abbrev FsOut (F : FuncId) (args : List Value) (w : World) (r : List FileP × Int) : Prop :=
  Calls Try.prog F args.toArray w fun e w' => ∃ A n c gs, e = .returned (.tuple #[.agg #[.slice A n c], .int .i64 r.2]) ∧ gs.map FileG.p = r.1 ∧ St w.heap.size w w' (.rowF (.slice A n c) n gs :: gs.flatMap FileG.own)
theorem St.rowN {B : Nat} {W0 w : World} {L : List It} (H : St B W0 w L) : St B W0 w (.rowF (.slice Option.none 0 0) 0 [] :: ([] : List FileG).flatMap FileG.own) := H.none.rowNil
theorem safe_of {fs : List FileG} (h : validF (fs.map FileG.p) = true) : ∀ f ∈ fs, 0 ≤ f.sf ∧ f.sf ≤ f.dt.length := by
  intro f hf
  obtain ⟨i, hi, rfl⟩ := List.getElem_of_mem hf
  have := (of_decide_eq_true h).2 i (by simpa using hi)
  unfold goodAt okF at this
  rw [List.getD_eq_getElem?_getD, List.getElem?_map, List.getElem?_eq_getElem hi] at this
  exact ⟨this.1.2.1, this.1.2.2⟩
theorem DoC.mono {F : FuncId} {cap : List Value} {W : World} {fs : List FileG} {Q Q' : List FileP → Int → Prop} (h : DoC F cap W fs Q) (k : ∀ ps r, Q ps r → Q' ps r) : DoC F cap W fs Q' := fun w L g A n c gs hg H =>
  (h w L g A n c gs hg H).mono fun e w' ⟨v, r, A2, n2, c2, gs2, he, hv, hq, hS⟩ => ⟨v, r, A2, n2, c2, gs2, he, hv, k _ _ hq, hS⟩
theorem impl_changedO {fs : List FileG} {A : Option Addr} {n c : Nat} {b : Bool} {F : FuncId} {cap : List Value} {r : List FileP × Int} {W : World} (hx : RdF W (.slice A n c) n fs) (hl : n ≤ 4294967296) (hs : ∀ f ∈ fs, SmallF f) (hb : ∀ f ∈ fs, byteOK f.nm) (okF : callOK Try.prog F = true)
    (hgood : b = true → validF (fs.map FileG.p) = true → DoC F cap W fs fun ps c => ps = r.1 ∧ c = r.2) (hbad : ¬ (b = true ∧ validF (fs.map FileG.p) = true) → r = ([], 1)) : FsOut 69 [.agg #[.slice A n c], .bool b, .func (.func F) #[] cap.toArray] W r := by
  by_cases h : b = true ∧ validF (fs.map FileG.p) = true
  · obtain ⟨rfl, hv⟩ := h
    refine (impl_changed hx hl hs hb hv okF (hgood rfl hv)).mono ?_
    rintro _ w ⟨A2, n2, c2, gs2, r2, rfl, ⟨h1, rfl⟩, H⟩
    exact ⟨A2, n2, c2, gs2, rfl, h1, H⟩
  · obtain rfl := hbad h
    refine Calls.mono (impl_changed_bad hx hl hs hb h) ?_
    rintro _ w ⟨_, rfl, rfl, H⟩
    exact ⟨none, 0, 0, [], rfl, rfl, H.rowN⟩
theorem ok_specFsCrash : callOK Try.prog 27 = true := by kernel_rfl
theorem spec_FsCrash {fs : List FileG} {A : Option Addr} {n c : Nat} {keep : Int} {W : World} (hx : RdF W (.slice A n c) n fs) (hl : n ≤ 4294967296) (hs : ∀ f ∈ fs, SmallF f) (hb : ∀ f ∈ fs, byteOK f.nm) (hk1 : keep ≤ 9223372036854775807) :
    FsOut 27 [.agg #[.slice A n c], .int .i64 keep] W (crashF (fs.map FileG.p) keep) := by
  have H := St.enter W
  obtain ⟨r, hr⟩ : ∃ r, crashF (fs.map FileG.p) keep = r := ⟨_, rfl⟩
  rw [hr]
  unfold crashF at hr
  refine calls_of_vcV (args := [.agg #[.slice A n c], .int .i64 keep]) Try.func27 rfl (by kernel_rfl) (Nat.le_of_ble_eq_true rfl) ?_
  refine newR (o := .cells #[.slice A n c] _) H fun g0 w H => ?_
  refine newR (o := .cells #[.slice none 0 0] _) H fun g1 w H => ?_
  refine RegV.mk ?_
  refine loadO H 1 rfl rfl ?_
  refine callV ok_spec_ValidFs (spec_ValidFs (hx.ext H.below) hl hs hb) H fun w H => ?_
  refine gNot ?_
  refine gT (fun c6 => ?_) (fun c6 => ?_)
  · refine ifB (fun c7 => ?_) (fun c7 => ?_)
    · refine RunS.mk ⟨.agg #[.slice none 0 0], w, by kernel_rfl, ?_⟩
      refine storeO H 0 rfl rfl rfl fun w H => ?_
      refine loadO H 0 rfl rfl ?_
      rw [if_neg (fun q => absurd q.2 (by omega))] at hr
      subst hr
      exact Exists.intro none (Exists.intro 0 (Exists.intro 0 (Exists.intro [] (And.intro rfl (And.intro rfl H.rowN)))))
    · refine loadO H 1 rfl rfl ?_
      have hv5 : validF (fs.map FileG.p) = true := decide_eq_true c6
      rw [if_pos ⟨hv5, by omega⟩] at hr
      subst hr
      refine CallS.mk ok_l7crash ((spec_l7crash (hx.ext H.below) hl hs (by omega) (safe_of hv5)).mono ?_)
      rintro _ w2 ⟨A', c', gs, rfl, hg, H2⟩
      have H := H.joinL H2 (own_all _ _ _ _ _)
      refine storeO H 0 rfl rfl rfl fun w H => ?_
      refine loadO H 0 rfl rfl ?_
      exact Exists.intro A' (Exists.intro n (Exists.intro c' (Exists.intro gs (And.intro rfl (And.intro hg H.tl.tl)))))
  · refine ifT ?_
    refine RunS.mk ⟨.agg #[.slice none 0 0], w, by kernel_rfl, ?_⟩
    refine storeO H 0 rfl rfl rfl fun w H => ?_
    refine loadO H 0 rfl rfl ?_
    rw [if_neg (fun q => c6 (of_decide_eq_true q.1))] at hr
    subst hr
    exact Exists.intro none (Exists.intro 0 (Exists.intro 0 (Exists.intro [] (And.intro rfl (And.intro rfl H.rowN)))))
theorem ok_implFsCrash : callOK Try.prog 28 = true := by kernel_rfl
theorem ok_fsCrash1 : callOK Try.prog 70 = true := by kernel_rfl
theorem impl_FsCrash1 {fs : List FileG} {g : Nat} {keep : Int} {W : World} (hg : W.cell? ⟨g, 0, none⟩ = some (.int .i64 keep)) (hl : fs.length ≤ 4294967296) (hs : ∀ f ∈ fs, SmallF f) (hv : validF (fs.map FileG.p) = true) (hk : 0 ≤ keep) (hk1 : keep ≤ 9223372036854775807) :
    DoC 70 [.pointer (some ⟨g, 0, none⟩)] W fs fun ps r => ps = (fs.map FileG.p).map (crash1 keep) ∧ r = 0 := by
  intro w L g2 A n c gs hgs H
  refine calls_of_vcV (args := [.pointer (some ⟨g2, 0, none⟩), .pointer (some ⟨g, 0, none⟩)]) Try.func70 rfl (by kernel_rfl) (Nat.le_of_ble_eq_true rfl) ?_
  have hc := (HeldW.ofBelow H.below).cell hg
  refine loadS hc ?_
  have hgl := congrArg List.length hgs
  have hrl := (H.rd 1 rfl).len
  rw [flat_len FileG.cells_len] at hrl
  simp only [List.length_map] at hgl
  refine CallS.mk ok_crash ((impl_crash H (by omega) (by omega) (small_p hgs hs) hk hk1 (safe_of (by rw [hgs]; exact hv))).mono ?_)
  rintro _ w2 ⟨gs2, rfl, h2, H⟩
  exact Exists.intro _ (Exists.intro 0 (Exists.intro A (Exists.intro n (Exists.intro c (Exists.intro gs2 (And.intro rfl (And.intro (.inl ⟨rfl, rfl⟩) (And.intro ⟨by rw [h2, hgs], rfl⟩ H))))))))
theorem impl_FsCrash {fs : List FileG} {A : Option Addr} {n c : Nat} {keep : Int} {W : World} (hx : RdF W (.slice A n c) n fs) (hl : n ≤ 4294967296) (hs : ∀ f ∈ fs, SmallF f) (hb : ∀ f ∈ fs, byteOK f.nm) (hk1 : keep ≤ 9223372036854775807) :
    FsOut 28 [.agg #[.slice A n c], .int .i64 keep] W (crashF (fs.map FileG.p) keep) := by
  have H := St.enter W
  obtain ⟨r, hr⟩ : ∃ r, crashF (fs.map FileG.p) keep = r := ⟨_, rfl⟩
  rw [hr]
  unfold crashF at hr
  refine calls_of_vcV (args := [.agg #[.slice A n c], .int .i64 keep]) Try.func28 rfl (by kernel_rfl) (Nat.le_of_ble_eq_true rfl) ?_
  refine newR (o := .cells #[.slice A n c] _) H fun g0 w H => ?_
  refine newR (o := .cells #[.int .i64 keep] _) H fun g1 w H => ?_
  refine newR (o := .cells #[.slice none 0 0] _) H fun g2 w H => ?_
  refine loadO H 2 rfl rfl ?_
  refine loadO H 1 rfl rfl ?_
  refine CallS.mk ok_changed ((impl_changedO (r := r) (hx.ext H.below) hl hs hb ok_fsCrash1 (fun h1 h2 => ?_) (fun h => ?_)).mono ?_)
  · have hk : 0 ≤ keep := of_decide_eq_true h1
    rw [if_pos ⟨h2, hk⟩] at hr
    subst hr
    exact impl_FsCrash1 (cell0 H 1 rfl rfl) (by have := hx.len; omega) hs h2 hk hk1
  · rw [if_neg (fun q => h ⟨decide_eq_true q.2, q.1⟩)] at hr
    exact hr.symm
  rintro _ w2 ⟨A', n', c', gs, rfl, hg, H2⟩
  have H := H.joinL H2 (own_all _ _ _ _ _)
  refine storeO H 0 rfl rfl rfl fun w H => ?_
  refine loadO H 0 rfl rfl ?_
  exact Exists.intro A' (Exists.intro n' (Exists.intro c' (Exists.intro gs (And.intro rfl (And.intro hg H.tl.tl.tl)))))
end Go.Proofs.YtfhpgfbakimmhaaE
