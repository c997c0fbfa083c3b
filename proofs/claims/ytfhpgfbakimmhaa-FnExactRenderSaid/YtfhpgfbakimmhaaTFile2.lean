/- What the laws' marking of files and asking for marks do. -/
import Derived.Test.YtfhpgfbakimmhaaTFile
namespace Go.Proofs.YtfhpgfbakimmhaaE
open Go Go.RowKit
set_option linter.unusedVariables false
set_option maxRecDepth 100000
set_option maxHeartbeats 2000000

def markF1 (f : FileG) (k : Int) : FileG := ⟨f.nv, f.dv, cnt (· % 256) k f.nm.length, cnt (· % 256) (k + f.nm.length) f.dt.length, k + f.nm.length + f.dt.length⟩
def nextF (f : FileG) (k : Int) : Int := k + f.nm.length + f.dt.length + 1
def markFL : List FileG → Int → List FileG
  | [], _ => []
  | f :: fs, k => markF1 f k :: markFL fs (nextF f k)
def endFL : List FileG → Int → Int
  | [], k => k
  | f :: fs, k => endFL fs (nextF f k)
theorem markFL_len : ∀ (fs : List FileG) (k : Int), (markFL fs k).length = fs.length
  | [], _ => rfl
  | f :: fs, k => by simp [markFL, markFL_len fs]
theorem endFL_eq : ∀ (fs : List FileG) (k : Int), endFL fs k = k + sizeF fs
  | [], k => by simp [endFL, sizeF, sumF]
  | f :: fs, k => by
    rw [endFL, endFL_eq fs]
    simp only [nextF, sizeF, sumF, List.map_cons, List.sum_cons, List.length_cons]; omega
theorem markFL_snoc : ∀ (fs : List FileG) (f : FileG) (k : Int), markFL (fs ++ [f]) k = markFL fs k ++ [markF1 f (endFL fs k)]
  | [], f, k => rfl
  | g :: fs, f, k => by simp [markFL, endFL, markFL_snoc fs]
theorem endFL_snoc : ∀ (fs : List FileG) (f : FileG) (k : Int), endFL (fs ++ [f]) k = nextF f (endFL fs k)
  | [], f, k => rfl
  | g :: fs, f, k => by simp [endFL, endFL_snoc fs]
theorem markB_call {B : Nat} {W0 w : World} {L : List It} {A : Option Addr} {n c : Nat} {xs : List Int} {m : Int} {K : Value → World → Prop} {X : List PanicEntry → World → Prop} (H : St B W0 w (.rowB (.slice A n c) xs :: L)) (hn : n = xs.length) (hm : 0 ≤ m) (hl : m + xs.length ≤ 1099511627776)
    (k : ∀ w', St B W0 w' (.rowB (.slice A n c) (cnt (· % 256) m xs.length) :: L) → K (.int .i64 (m + xs.length)) w') : CallS Try.prog 25 [.slice A n c, .int .i64 m] w K X := by
  subst hn
  refine CallS.mk ok_markByteS ((laws_markByteS m hm xs A c B w (H.own 0 rfl) hl).mono ?_)
  rintro _ w' ⟨rfl, ho, hg⟩
  exact k w' (H.turn 0 rfl hg ho (fun g h => .inl h))
/-- the rows of the file at hand stand ahead -/
theorem take_own (done rest : List FileG) (f : FileG) (R : It) (L : List It) : (R :: (done.flatMap FileG.own ++ ((f :: rest).flatMap FileG.own ++ L))).Perm (.rowB f.nv f.nm :: .rowB f.dv f.dt :: R :: (done.flatMap FileG.own ++ (rest.flatMap FileG.own ++ L))) := by
  have h : (R :: (done.flatMap FileG.own ++ ((f :: rest).flatMap FileG.own ++ L))).Perm ((f.own) ++ (R :: (done.flatMap FileG.own ++ (rest.flatMap FileG.own ++ L)))) := by
    rw [List.flatMap_cons, List.append_assoc]
    exact List.perm_append_comm_assoc (R :: done.flatMap FileG.own) f.own (rest.flatMap FileG.own ++ L)
  exact h
theorem put_own (done rest : List FileG) (f : FileG) (R : It) (L : List It) : (.rowB f.nv f.nm :: .rowB f.dv f.dt :: R :: (done.flatMap FileG.own ++ (rest.flatMap FileG.own ++ L))).Perm (R :: ((done ++ [f]).flatMap FileG.own ++ (rest.flatMap FileG.own ++ L))) := by
  refine (take_own done rest f R L).symm.trans (List.Perm.cons _ ?_)
  rw [List.flatMap_append, List.flatMap_cons, List.flatMap_cons, List.flatMap_nil, List.append_nil, List.append_assoc, List.append_assoc]
theorem ok_markFsFileS : callOK Try.prog 67 = true := by kernel_rfl
theorem laws_markFsFileS {fs : List FileG} {A : Option Addr} {n c : Nat} {k : Int} (hk : 0 ≤ k) (hb : k + sizeF fs ≤ 1099511627776) {B : Nat} {W0 w : World} {L : List It} (hn : n = fs.length) (H : St B W0 w (.rowF (.slice A n c) n fs :: (fs.flatMap FileG.own ++ L))) :
    Calls Try.prog 67 #[.slice A n c, .int .i64 k] w fun e w' => e = .returned (.int .i64 (k + sizeF fs)) ∧ St B W0 w' (.rowF (.slice A n c) n (markFL fs k) :: ((markFL fs k).flatMap FileG.own ++ L)) := by
  subst hn
  refine calls_of_vcV (args := [.slice A fs.length c, .int .i64 k]) Try.func67 rfl (by kernel_rfl) (Nat.le_of_ble_eq_true rfl) ?_
  refine loopV (by kernel_rfl) (fun m e w => e 0 = .slice A fs.length c ∧ ∃ (j : Nat) (done rest : List FileG), e 5 = .int .i64 j ∧ e 1 = .int .i64 (endFL done k) ∧ fs = done ++ rest ∧ done.length = j ∧ rest.length = m ∧ St B W0 w (.rowF (.slice A fs.length c) fs.length (markFL done k ++ rest) :: ((markFL done k).flatMap FileG.own ++ (rest.flatMap FileG.own ++ L)))) fs.length
    ⟨rfl, 0, [], fs, rfl, rfl, rfl, rfl, rfl, H⟩ ?_
  rintro m e w ⟨h0, j, done, rest, h5, h1, hfs, hd, hr, H⟩
  rw [Env.three h0 h5 h1]
  have hfl : fs.length = j + m := by rw [hfs, List.length_append]; omega
  have hfz : fs.length ≤ sizeF fs := by unfold sizeF; omega
  refine ifB (fun h => ?_) (fun h => ?_)
  case refine_2 =>
    obtain rfl : rest = [] := List.length_eq_zero_iff.1 (by omega)
    rw [List.append_nil] at hfs
    subst hfs
    rw [endFL_eq]
    simp only [List.append_nil, List.flatMap_nil, List.nil_append] at H
    exact And.intro rfl H
  cases rest with
  | nil => simp only [List.length_nil] at hr; omega
  | cons f rest =>
    have H := H.perm (take_own _ _ _ _ _)
    have hes : sizeF fs = sizeF done + (f.nm.length + f.dt.length + 1) + sizeF rest := by
      rw [hfs]; simp only [sizeF, sumF, List.map_append, List.map_cons, List.sum_append, List.sum_cons, List.length_append, List.length_cons]; omega
    have hend := endFL_eq done k
    have hx : (markFL done k ++ f :: rest)[j]? = some f := by rw [List.getElem?_append_right (by rw [markFL_len]; omega), markFL_len, hd, Nat.sub_self]; rfl
    obtain ⟨nv, dv, nm, dt, sf⟩ := f
    dsimp only at *
    obtain ⟨A1, c1, rfl⟩ := H.mk1 0 rfl
    obtain ⟨A2, c2, rfl⟩ := H.mk1 1 rfl
    refine idxC (cells := FileG.cells) FileG.cells_len (H.rd 2 rfl) hx (by omega) fun b off hc => ?_
    refine loadS (v := .slice A1 nm.length c1) (hc 0 _ rfl) ?_
    refine markB_call H rfl (by omega) (by omega) fun w H => ?_
    have H := H.sw2
    refine idxC (cells := FileG.cells) FileG.cells_len (H.rd 2 rfl) hx (by omega) fun b off hc => ?_
    refine loadS (v := .slice A2 dt.length c2) (hc 1 _ rfl) ?_
    refine markB_call H rfl (by omega) (by omega) fun w H => ?_
    have H := H.sw2
    (refine idxRow H 2 rfl (by omega) (by omega) fun b0 hA _ => ?_; subst hA)
    refine storeRowN H 2 rfl (j * 3 + 2) (by show 0 + (j : Int).toNat * 3 + 2 = _; omega) (by omega) rfl fun w H => ?_
    refine ar64 (by omega) (by omega) ?_
    refine arN (by omega) ?_
    refine Exists.intro (m - 1) (And.intro (by omega) ⟨rfl, j + 1, done ++ [⟨.slice A1 nm.length c1, .slice A2 dt.length c2, nm, dt, sf⟩], rest, rfl, congrArg (Value.int .i64) ?_, by rw [hfs]; simp, by simp [hd], by simp only [List.length_cons] at hr; omega, ?_⟩)
    · rw [endFL_snoc]; rfl
    · have H1 : St B W0 w (.rowB (markF1 ⟨.slice A1 nm.length c1, .slice A2 dt.length c2, nm, dt, sf⟩ (endFL done k)).nv (markF1 ⟨.slice A1 nm.length c1, .slice A2 dt.length c2, nm, dt, sf⟩ (endFL done k)).nm :: .rowB (markF1 ⟨.slice A1 nm.length c1, .slice A2 dt.length c2, nm, dt, sf⟩ (endFL done k)).dv (markF1 ⟨.slice A1 nm.length c1, .slice A2 dt.length c2, nm, dt, sf⟩ (endFL done k)).dt ::
          .row (.slice (some ⟨b0, 0, none⟩) fs.length c) 69 3 fs.length (((markFL done k ++ ⟨.slice A1 nm.length c1, .slice A2 dt.length c2, nm, dt, sf⟩ :: rest).flatMap FileG.cells).set (j * 3 + 2) (.int .i64 (endFL done k + nm.length + dt.length))) :: ((markFL done k).flatMap FileG.own ++ (rest.flatMap FileG.own ++ L))) := H
      rw [flat_set (v := .int .i64 (endFL done k + nm.length + dt.length)) (x' := markF1 ⟨.slice A1 nm.length c1, .slice A2 dt.length c2, nm, dt, sf⟩ (endFL done k)) FileG.cells_len _ j 2 _ hx (by decide) rfl] at H1
      have hj' : (markFL done k).length = j := by rw [markFL_len, hd]
      rw [← hj', set_mid] at H1
      rw [markFL_snoc]
      exact H1.perm (put_own _ _ _ _ _)
theorem ok_markFs : callOK Try.prog 24 = true := by kernel_rfl
theorem laws_markFs {fs : List FileG} {A : Option Addr} {n c : Nat} {k : Int} (hk : 0 ≤ k) (hb : k + sizeF fs ≤ 1099511627776) {B : Nat} {W0 w : World} {L : List It} (hn : n = fs.length) (H : St B W0 w (.rowF (.slice A n c) n fs :: (fs.flatMap FileG.own ++ L))) :
    Calls Try.prog 24 #[.agg #[.slice A n c], .int .i64 k] w fun e w' => e = .returned (.int .i64 (k + sizeF fs)) ∧ St B W0 w' (.rowF (.slice A n c) n (markFL fs k) :: ((markFL fs k).flatMap FileG.own ++ L)) := by
  refine calls_of_vcV (args := [.agg #[.slice A n c], .int .i64 k]) Try.func24 rfl (by kernel_rfl) (Nat.le_of_ble_eq_true rfl) ?_
  refine newR (o := .cells #[.slice A n c] _) H fun g0 w H => ?_
  refine loadO H 0 rfl rfl ?_
  have H : St B W0 w (.rowF (.slice A n c) n fs :: (fs.flatMap FileG.own ++ L)) := H.tl
  refine CallS.mk ok_markFsFileS ((laws_markFsFileS hk hb hn H).mono ?_)
  rintro _ w ⟨rfl, H⟩
  exact And.intro rfl H
theorem heldV {A : Option Addr} {n c : Nat} {m : Int} {w : World} (hx : Rd w (.slice A n c) 1 n ((cnt (· % 256) m n).map (.int .u8))) (hm : 0 ≤ m) (hl : m + n ≤ 1099511627776) : GivesV Try.prog 26 [.slice A n c, .int .i64 m] w (.int .i64 (m + n)) :=
  givesV_of ((laws_heldByteS m hm n A c w (by simpa only [RdB, cnt_len] using hx) hl).mono fun e w' ⟨h1, h2⟩ => ⟨_, h1, rfl, h2⟩)
theorem ok_heldFsFileS : callOK Try.prog 72 = true := by kernel_rfl
theorem laws_heldFsFileS {fs : List FileG} {A : Option Addr} {n c : Nat} {k : Int} (hk : 0 ≤ k) (hb : k + sizeF fs ≤ 1099511627776) {W : World} (hx : RdF W (.slice A n c) n (markFL fs k)) : GivesV Try.prog 72 [.slice A n c, .int .i64 k] W (.int .i64 (k + sizeF fs)) := by
  have H := St.enter W
  have hn := hx.len
  rw [markFL_len] at hn
  subst hn
  have hnn : ∀ l : List FileG, 0 ≤ (sizeF l : Int) := fun l => by omega
  refine calls_of_vcV (args := [.slice A fs.length c, .int .i64 k]) Try.func72 rfl (by kernel_rfl) (Nat.le_of_ble_eq_true rfl) ?_
  refine loopV (by kernel_rfl) (fun m e w => e 0 = .slice A fs.length c ∧ ∃ (j : Nat) (done rest : List FileG), e 5 = .int .i64 j ∧ e 1 = .int .i64 (endFL done k) ∧ fs = done ++ rest ∧ done.length = j ∧ rest.length = m ∧ St W.heap.size W w []) fs.length
    ⟨rfl, 0, [], fs, rfl, rfl, rfl, rfl, rfl, H⟩ ?_
  rintro m e w ⟨h0, j, done, rest, h5, h1, hfs, hd, hr, H⟩
  rw [Env.three h0 h5 h1]
  have hfl : fs.length = j + m := by rw [hfs, List.length_append]; omega
  have hfz : fs.length ≤ sizeF fs := by unfold sizeF; omega
  have hend := endFL_eq done k
  refine ifB (fun h => ?_) (fun h => ?_)
  case refine_2 =>
    obtain rfl : rest = [] := List.length_eq_zero_iff.1 (by omega)
    rw [List.append_nil] at hfs
    subst hfs
    exact Exists.intro _ (And.intro rfl (And.intro (congrArg (Value.int .i64) hend) H.none))
  cases rest with
  | nil => simp only [List.length_nil] at hr; omega
  | cons f rest =>
    have hes : sizeF fs = sizeF done + (f.nm.length + f.dt.length + 1) + sizeF rest := by
      rw [hfs]; simp only [sizeF, sumF, List.map_append, List.map_cons, List.sum_append, List.sum_cons, List.length_append, List.length_cons]; omega
    have hm : (markFL fs k)[j]? = some (markF1 f (endFL done k)) := by
      have : fs = (done ++ [f]) ++ rest := by rw [hfs]; simp
      have key : ∀ (a b : List FileG) (k : Int), markFL (a ++ b) k = markFL a k ++ markFL b (endFL a k) := fun a => by
        induction a with
        | nil => intro b k; rfl
        | cons x a ih => intro b k; simp only [List.cons_append, markFL, endFL, ih]
      rw [hfs, key, List.getElem?_append_right (by rw [markFL_len]; omega), markFL_len, hd, Nat.sub_self]; rfl
    have kk := hx.kids _ (List.mem_of_getElem? hm)
    obtain ⟨nv, dv, nm, dt, sf⟩ := f
    simp only [markF1] at hm kk
    dsimp only at *
    have k1 : Rd W nv 1 nm.length ((cnt (· % 256) (endFL done k) nm.length).map (.int .u8)) := by simpa only [RdB, cnt_len] using kk.1
    have k2 : Rd W dv 1 dt.length ((cnt (· % 256) (endFL done k + nm.length) dt.length).map (.int .u8)) := by simpa only [RdB, cnt_len] using kk.2
    obtain ⟨_, A1, c1, rfl, _⟩ := id k1
    obtain ⟨_, A2, c2, rfl, _⟩ := id k2
    clear kk
    refine JoinV.mk ?_
    refine idxC (cells := FileG.cells) FileG.cells_len (hx.ext H.below).row hm (by omega) fun b off hc => ?_
    refine loadS (v := .slice A1 nm.length c1) (hc 0 _ rfl) ?_
    refine callV ok_heldByteS (heldV (by first | exact k1.ext H.below | exact k2.ext H.below) (by omega) (by omega)) H fun w H => ?_
    refine ifB (fun c4 => absurd c4 (by omega)) (fun c4 => ?_)
    refine idxC (cells := FileG.cells) FileG.cells_len (hx.ext H.below).row hm (by omega) fun b off hc => ?_
    refine loadS (v := .slice A2 dt.length c2) (hc 1 _ rfl) ?_
    refine callV ok_heldByteS (heldV (by first | exact k1.ext H.below | exact k2.ext H.below) (by omega) (by omega)) H fun w H => ?_
    refine ifB (fun c8 => absurd c8 (by omega)) (fun c8 => ?_)
    refine idxC (cells := FileG.cells) FileG.cells_len (hx.ext H.below).row hm (by omega) fun b off hc => ?_
    refine loadS (v := .int .i64 (endFL done k + nm.length + dt.length)) (hc 2 _ rfl) ?_
    refine ifB (fun c11 => absurd c11 (by omega)) (fun c11 => ?_)
    refine ar64 (by omega) (by omega) ?_
    refine arN (by omega) ?_
    exact Exists.intro (m - 1) (And.intro (by omega) ⟨rfl, j + 1, done ++ [⟨.slice A1 nm.length c1, .slice A2 dt.length c2, nm, dt, sf⟩], rest, rfl, congrArg (Value.int .i64) (by rw [endFL_snoc]; rfl), by rw [hfs]; simp, by simp [hd], by simp only [List.length_cons] at hr; omega, H⟩)
theorem ok_heldFs : callOK Try.prog 29 = true := by kernel_rfl
theorem laws_heldFs {fs : List FileG} {A : Option Addr} {n c : Nat} {k : Int} (hk : 0 ≤ k) (hb : k + sizeF fs ≤ 1099511627776) {W : World} (hx : RdF W (.slice A n c) n (markFL fs k)) : GivesV Try.prog 29 [.agg #[.slice A n c], .int .i64 k] W (.int .i64 (k + sizeF fs)) := by
  have H := St.enter W
  refine calls_of_vcV (args := [.agg #[.slice A n c], .int .i64 k]) Try.func29 rfl (by kernel_rfl) (Nat.le_of_ble_eq_true rfl) ?_
  refine newR (o := .cells #[.slice A n c] _) H fun g0 w H => ?_
  refine loadO H 0 rfl rfl ?_
  refine callV ok_heldFsFileS (laws_heldFsFileS hk hb (hx.ext H.below)) H fun w H => ?_
  refine ifB (fun c3 => absurd c3 (by omega)) (fun c3 => ?_)
  exact Exists.intro _ (And.intro rfl (And.intro rfl H.none))
end Go.Proofs.YtfhpgfbakimmhaaE
