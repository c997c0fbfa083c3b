/- The program's range over the points of a text: what it yields, and the two functions that count and list them. -/
import Derived.Test.YtjdgcgmhbhfpkaaDoorTDec
namespace Go.Proofs.YtjdgcgmhbhfpkaaDoorE
open Go Go.RowKit Go.Proofs
set_option linter.unusedVariables false
set_option linter.unusedSimpArgs false
set_option maxRecDepth 100000

def ptsF (bs : List Int) : Nat → Nat → List (Int × Int)
  | 0, _ => []
  | f + 1, i => if i < bs.length then (if (dec1 (bs.drop i)).2 = 0 then [((i : Int), -1)] else ((i : Int), (dec1 (bs.drop i)).1) :: ptsF bs f (i + (dec1 (bs.drop i)).2.toNat)) else []
theorem reads_at (xs : List Int) : ∀ (k : Nat) (s : Nat × Bool × Int), (reads xs k s).1 = s.1 + k
  | 0, _ => rfl
  | k + 1, s => by rw [reads, reads_at xs k]; simp only [more]; omega
theorem dec1_ok (xs : List Int) (hb : byteOK xs) (hne : 0 < xs.length) : 0 ≤ (dec1 xs).2 ∧ (dec1 xs).2 ≤ xs.length ∧ (dec1 xs).2 ≤ 4 ∧ ((dec1 xs).2 = 0 → (dec1 xs).1 = 0) ∧ 0 ≤ (dec1 xs).1 ∧ (dec1 xs).1 ≤ 1114111 ∧ ((dec1 xs).2 ≠ 0 → need (dec1 xs).1 ≠ 0) := by
  have hf := formN_ok (xs.getD 0 0) (hb.get 0).1
  unfold dec1
  generalize formN (xs.getD 0 0) = f at *
  simp only
  split
  · simp
  · rename_i h
    have ha := reads_at xs f.1.toNat (1, true, f.2.1)
    split
    · simp
    · rename_i h2
      have hn := need_cases (reads xs f.1.toNat (1, true, f.2.1)).2.2
      simp only at ha ⊢
      omega
theorem dropRd {w : World} {A : Option Addr} {n c l : Nat} {lo : Option Int} {xs : List Int} {K : Nat → Nat → Option Addr → Prop} (h : Rd w (.slice A n c) 1 n (xs.map (.int .u8))) (hl : lo.getD 0 = l) (h1 : l ≤ n)
    (q : ∀ A', Rd w (.slice A' (n - l) (c - l)) 1 (n - l) ((xs.drop l).map (.int .u8)) → K l n A') : CutS n c lo none fun l h => LetS (if c = l then A else A.map (·.add (l * 1))) (K l h) := by
  have hn : n = xs.length := by have := h.len; simpa using this.symm
  subst hn
  refine ⟨⟨l, xs.length, hl, rfl, h1, fun h => (by cases h), ⟨fun A' hA => q A' ?_⟩⟩⟩
  have hc := h.cut l xs.length h1 (Nat.le_refl _)
  rw [List.take_length] at hc
  rw [hA]; exact hc
theorem yieldM {P : Program} {n l : Nat} {args : List Value} {w : World} {K K' : Value → World → Prop} {X X' : List PanicEntry → World → Prop} (h : YieldS P n l args w K X) (hk : ∀ v w', K v w' → K' v w') (hx : ∀ c w', X c w' → X' c w') : YieldS P n l args w K' X' := by
  obtain ⟨fn, tmps, asg, bd, hy, hr⟩ := h.ex
  exact ⟨⟨fn, tmps, asg, bd, hy, hr.mono fun e w' q => by cases e <;> first | exact hk _ _ q | exact hx _ _ q | exact q⟩⟩
theorem ok_points1 : callOK Tryd.prog 44 = true := by kernel_rfl
theorem impl_points1 {bs : List Int} (hb : byteOK bs) {A : Option Addr} {n c g l : Nat} (hl : n ≤ 4294967296) {W : World} (J : List (Int × Int) → World → Prop) (Z : World → Prop)
    (hcell : ∀ its w, J its w → w.cell? ⟨g, 0, none⟩ = some (.slice A n c) ∧ Rd w (.slice A n c) 1 n (bs.map (.int .u8))) (hext : ∀ its w w', J its w → Below w.heap.size w w' → J its w')
    (hround : ∀ i r its w, J ((i, r) :: its) w → YieldS Tryd.prog 0 l [.int .i64 i, .int .i32 r] w (fun v w' => ∃ b, v = .bool b ∧ (b = true → J its w') ∧ (b = false → Z w')) (fun _ _ => False)) (h0 : J (ptsF bs n 0) W) :
    Calls Tryd.prog 44 #[.func (.yield l) #[] #[], .pointer (some ⟨g, 0, none⟩)] W fun e w' => e = .returned (.tuple #[]) ∧ (J [] w' ∨ Z w') := by
  obtain rfl : n = bs.length := by have := (hcell _ _ h0).2.len; simpa using this.symm
  refine calls_of_vcI (n := 0) (args := [.func (.yield l) #[] #[], .pointer (some ⟨g, 0, none⟩)]) Tryd.func44 rfl (by kernel_rfl) (Nat.le_of_ble_eq_true rfl) ?_
  refine loopI (soundY _ _ _) (by kernel_rfl) (fun m e w => e 0 = .func (.yield l) #[] #[] ∧ e 1 = .pointer (some ⟨g, 0, none⟩) ∧ ∃ i : Nat, e 3 = .int .i64 i ∧ i + m = bs.length ∧ ∃ f, m ≤ f ∧ J (ptsF bs f i) w) bs.length
    ⟨rfl, rfl, 0, rfl, by omega, bs.length, Nat.le_refl _, h0⟩ ?_
  rintro m e w ⟨h0, h1, i, h3, hi, f, hf, hJ⟩
  rw [Env.three h0 h1 h3]
  refine loadS (hcell _ _ hJ).1 ?_
  refine ifB (fun h => ?_) (fun h => ?_)
  case refine_2 =>
    have e1 : ptsF bs f i = [] := by cases f with
      | zero => rfl
      | succ f => unfold ptsF; rw [if_neg (by omega)]
    rw [e1] at hJ
    exact And.intro rfl (Or.inl hJ)
  have hil : i < bs.length := by omega
  obtain ⟨f, rfl⟩ : ∃ f', f = f' + 1 := ⟨f - 1, by omega⟩
  have hd := dec1_ok (bs.drop i) (hb.drop i) (by rw [List.length_drop]; omega)
  have hdl : (bs.drop i).length = bs.length - i := List.length_drop
  unfold ptsF at hJ
  rw [if_pos hil] at hJ
  refine loadS (hcell _ _ hJ).1 ?_
  refine dropRd (hcell _ _ hJ).2 rfl (by omega) fun A' hR => ?_
  refine CallS.mk ok_decode ((impl_decode (hb.drop i) (by omega) (by omega) hR).mono ?_)
  rintro _ w1 ⟨v, rfl, rfl, S⟩
  have hJ1 := hext _ _ _ hJ S.below
  generalize dec1 (bs.drop i) = d at *
  refine ifB (fun hz => ?_) (fun hz => ?_)
  · rw [if_pos hz] at hJ1
    refine yieldM (hround _ _ _ _ hJ1) (fun v w' q => ?_) (fun _ _ q => q.elim)
    obtain ⟨b, rfl, h1, h2⟩ := q
    exact And.intro rfl (by cases b with | true => exact Or.inl (h1 rfl) | false => exact Or.inr (h2 rfl))
  · rw [if_neg hz] at hJ1
    refine yieldM (hround _ _ _ _ hJ1) (fun v w' q => ?_) (fun _ _ q => q.elim)
    obtain ⟨b, rfl, h1, h2⟩ := q
    refine ifNot (ifO (fun hbt => ?_) (fun hbt => ?_))
    · refine ar64 (by omega) (by omega) ?_
      have e2 : (i : Int) + d.2 = ((i + d.2.toNat : Nat) : Int) := by omega
      refine Exists.intro (m - d.2.toNat) (And.intro (by omega) (And.intro rfl (And.intro rfl ⟨i + d.2.toNat, vI e2, by omega, f, by omega, h1 hbt⟩)))
    · exact And.intro rfl (Or.inr (h2 hbt))
theorem ok_points : callOK Tryd.prog 30 = true := by kernel_rfl
theorem impl_points {v : Value} {w : World} : Calls Tryd.prog 30 #[v] w fun e w' => e = .returned (.func (.func 44) #[] #[.pointer (some ⟨w.heap.size, 0, none⟩)]) ∧ w' = w.alloc (.cells v.cells 22) := by
  refine calls_of_vcV (args := [v]) Tryd.func30 rfl (by kernel_rfl) (Nat.le_of_ble_eq_true rfl) ?_
  refine NewS.mk fun b w' hb hw => ?_
  subst hb hw
  exact And.intro rfl rfl
theorem callPoints {v : Value} {B : Nat} {W0 w : World} {L : List It} {K : Value → World → Prop} {X : List PanicEntry → World → Prop} (H : St B W0 w L) (k : ∀ g w', St B W0 w' (.obj g (.cells v.cells 22) :: L) → K (.func (.func 44) #[] #[.pointer (some ⟨g, 0, none⟩)]) w') : CallS Tryd.prog 30 [v] w K X :=
  CallS.mk ok_points (impl_points.mono fun e w' ⟨he, hw⟩ => by subst he hw; exact k _ _ (H.allocO _))
/-- how many come before the first that is none, and whether there is such a one -/
def cntP : List (Int × Int) → Int → Int
  | [], k => k
  | (_, r) :: its, k => if r < 0 then -1 else cntP its (k + 1)
theorem ptsF_len (bs : List Int) (hb : byteOK bs) : ∀ f i, (ptsF bs f i).length ≤ bs.length - i
  | 0, i => by simp [ptsF]
  | f + 1, i => by
    unfold ptsF
    split
    · rename_i h
      have hd := dec1_ok (bs.drop i) (hb.drop i) (by rw [List.length_drop]; omega)
      split
      · simp; omega
      · have := ptsF_len bs hb f (i + (dec1 (bs.drop i)).2.toNat)
        simp only [List.length_cons]; omega
    · simp
/-- a range over the points of a text: Φ of what is still to come before each round and behind the last, Ψ where a round leaves the function -/
theorem rangePts {bs : List Int} (hb : byteOK bs) {A : Option Addr} {n c g p q N B : Nat} {G : Operand} {asg bd : Code} {K : Nat → Exit → Env → World → Prop} {e : Env} {W0 w : World} {L : List It} (hl : n ≤ 4294967296) (hp : p < N) (hq : q < N)
    (hG : ev e G = .func (.func 44) #[] #[.pointer (some ⟨g, 0, none⟩)]) (Φ : List (Int × Int) → List It → Prop) (Ψ : List It → Prop)
    (H : St B W0 w (.obj g (.cells #[.slice A n c] 22) :: .ro (.slice A n c) 1 n (bs.map (.int .u8)) :: L)) (h0 : Φ (ptsF bs n 0) L) (hok : (codeOKI N asg && codeOKI N bd) = true)
    (hround : ∀ i r its L l (D : It) (M : List It) w, Φ ((i, r) :: its) L → vcI [] N (some l) 0 Tryd.prog (opV Tryd.prog) asg (fun ex e1 w1 => ex = .normal ∧ w1 = w ∧ ∀ w2, St B W0 w2 (L ++ (D :: M)) →
      vcI [] N (some l) 0 Tryd.prog (opV Tryd.prog) bd (fun ex e3 w3 => match ex with | .normal => ∃ L', Φ its L' ∧ St B W0 w3 (L' ++ (D :: M)) | .ret => ∃ L', Ψ L' ∧ St B W0 w3 (L' ++ (D :: M)) | _ => False) e1 w2) ((e.put p (.int .i64 i)).put q (.int .i32 r)) w)
    (hK : ∀ w4 L', Φ [] L' → St B W0 w4 (.obj w.heap.size (.deferred (some [])) :: L') → K w.heap.size .normal e w4)
    (hR : ∀ w4 L', Ψ L' → St B W0 w4 (.obj w.heap.size (.deferred (some [])) :: L') → K w.heap.size .ret e w4) : RangeP Tryd.prog N G #[p, q] asg bd K e w := by
  obtain rfl : n = bs.length := by have := (H.rd 1 rfl).len; simpa using this.symm
  refine ⟨44, #[.pointer (some ⟨g, 0, none⟩)], hG, ok_points1, fun fn tmps hrel => ?_⟩
  obtain ⟨d, hd⟩ : ∃ d, d = w.heap.size := ⟨_, rfl⟩
  have H2 := (H.allocO (.deferred (some []))).allocO (recOf .ready none fn tmps #[p, q] asg bd w.heap.size)
  have hsz : (w.alloc (.deferred (some []))).heap.size = w.heap.size + 1 := by simp
  rw [hsz, ← hd] at H2
  rw [← hd] at hK hR ⊢
  generalize (w.alloc (.deferred (some []))).alloc (recOf .ready none fn tmps #[p, q] asg bd d) = w1 at *
  let R := fun st pend => It.obj (d + 1) (recOf st pend fn tmps #[p, q] asg bd d)
  let M : List It := [.obj d (.deferred (some [])), .obj g (.cells #[.slice A bs.length c] 22), .ro (.slice A bs.length c) 1 bs.length (bs.map (.int .u8))]
  have at0 : ∀ (L : List It) (D : It), (L ++ D :: M)[L.length]? = some D := fun L D => by simp
  have at2 : ∀ (L : List It) (D : It), (L ++ D :: M)[L.length + 2]? = some (.obj g (.cells #[.slice A bs.length c] 22)) := fun L D => by
    rw [List.getElem?_append_right (by omega)]
    have e : L.length + 2 - L.length = 2 := by omega
    rw [e]; rfl
  have at3 : ∀ (L : List It) (D : It), (L ++ D :: M)[L.length + 3]? = some (.ro (.slice A bs.length c) 1 bs.length (bs.map (.int .u8))) := fun L D => by
    rw [List.getElem?_append_right (by omega)]
    have e : L.length + 3 - L.length = 3 := by omega
    rw [e]; rfl
  have put : ∀ {w : World} {L : List It} {st pend} (st' pend'), St B W0 w (L ++ R st pend :: M) → St B W0 (w.putObj (d + 1) (recOf st' pend' fn tmps #[p, q] asg bd d)) (L ++ R st' pend' :: M) := by
    intro w L st pend st' pend' S
    have h := S.putO L.length (at0 L _) (recOf st' pend' fn tmps #[p, q] asg bd d)
    rw [List.set_append_right _ _ (Nat.le_refl _), Nat.sub_self, List.set_cons_zero] at h
    exact h
  have H3 : St B W0 w1 (L ++ R .ready none :: M) := H2.perm (by
    have := List.perm_append_comm (l₁ := R .ready none :: M) (l₂ := L)
    exact this)
  have fin : ∀ {w : World} {L : List It} {st pend}, St B W0 w (L ++ R st pend :: M) → St B W0 w (.obj d (.deferred (some [])) :: L) := by
    intro w L st pend S
    exact (S.perm (List.perm_append_comm (l₁ := L) (l₂ := R st pend :: M))).sublist (List.Sublist.cons _ (List.Sublist.cons_cons _ (List.Sublist.cons _ (List.Sublist.cons _ (List.Sublist.refl _)))))
  refine (impl_points1 (A := A) (c := c) hb hl (fun its w => ∃ L', Φ its L' ∧ St B W0 w (L' ++ R .ready none :: M)) (fun w => ∃ L', Ψ L' ∧ St B W0 w (L' ++ R .done (some .ret) :: M)) ?_ ?_ ?_ ⟨L, h0, H3⟩).mono ?_
  · rintro its w ⟨L', _, S⟩
    refine ⟨?_, S.rd (L'.length + 3) (by rw [at3]; rfl)⟩
    have := (S.obj _ (at2 L' _)).2
    simp [World.cell?, this]
  · rintro its w w' ⟨L', hΦ, S⟩ hb'
    exact ⟨L', hΦ, S.ext hb'⟩
  · rintro i r its w ⟨L', hΦ, S⟩
    have hrec := (S.obj _ (at0 L' _)).2
    have hy : (Instr.yield (d + 1) #[.int .i64 i, .int .i32 r]).run Tryd.prog w = .ok (.round (d + 1) fn ((tmps.setIfInBounds p (.int .i64 i)).setIfInBounds q (.int .i32 r)) asg bd) w := by
      have h := run_yield (P := Tryd.prog) (args := #[.int .i64 i, .int .i32 r]) hrec rfl
      simpa using h
    refine ⟨⟨fn, (tmps.setIfInBounds p (.int .i64 i)).setIfInBounds q (.int .i32 r), asg, bd, hy, ?_⟩⟩
    refine roundI (relI_put2 hrel hp hq) hok (vcI_mono (monoV _) asg ?_ (hround i r its L' (d + 1) (R .busy none) M w hΦ))
    rintro ex e1 w1 ⟨rfl, rfl, h⟩
    refine ⟨rfl, _, run_beginRound hrec rfl, vcI_mono (monoV _) bd ?_ (h _ (put .busy none S))⟩
    intro ex e3 w3 hq3
    cases ex with
    | normal =>
      obtain ⟨L2, hΦ2, S2⟩ := hq3
      exact ⟨_, _, run_endRound none (S2.obj _ (at0 L2 _)).2, true, rfl, (fun _ => ⟨L2, hΦ2, put .ready none S2⟩), (fun h => by cases h)⟩
    | ret =>
      obtain ⟨L2, hΦ2, S2⟩ := hq3
      exact ⟨_, _, run_endRound (some .ret) (S2.obj _ (at0 L2 _)).2, false, rfl, (fun h => by cases h), (fun _ => ⟨L2, hΦ2, put .done (some .ret) S2⟩)⟩
    | _ => exact hq3.elim
  · rintro e3 w3 ⟨rfl, ⟨L', hΦ, S⟩ | ⟨L', hΨ, S⟩⟩
    · exact ⟨_, _, _, rfl, run_endLoop (S.obj _ (at0 L' _)).2 (by simp), hK _ L' hΦ (fin (put .exhausted none S))⟩
    · exact ⟨_, _, _, rfl, run_endLoop (S.obj _ (at0 L' _)).2 (by simp), rfl, hR _ L' hΨ (fin (put .exhausted (some .ret) S))⟩










































theorem ptsF_max (bs : List Int) (hb : byteOK bs) : ∀ f i, ∀ x ∈ ptsF bs f i, x.2 ≤ 1114111
  | 0, i => by simp [ptsF]
  | f + 1, i => by
    unfold ptsF
    split
    · rename_i h
      have hd := dec1_ok (bs.drop i) (hb.drop i) (by rw [List.length_drop]; omega)
      split
      · simp
      · intro x hx
        rcases List.mem_cons.1 hx with rfl | hx
        · exact hd.2.2.2.2.2.1
        · exact ptsF_max bs hb f _ x hx
    · simp
def decP : List (Int × Int) → List Int → List Int × Int × Int
  | [], acc => (acc, 0, 0)
  | (i, r) :: its, acc => if r < 0 then ([], 2, i) else decP its (acc ++ [r])
end Go.Proofs.YtjdgcgmhbhfpkaaDoorE
