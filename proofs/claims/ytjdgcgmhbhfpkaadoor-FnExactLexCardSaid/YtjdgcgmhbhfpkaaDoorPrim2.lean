/- Appending, literals and new rows, as steps over the heap's items. No condition of the laws stands here. -/
import Derived.Test.YtjdgcgmhbhfpkaaDoorSep
import Derived.Test.YtjdgcgmhbhfpkaaDoorPrim
import Derived.Test.YtjdgcgmhbhfpkaaDoorStr
namespace Go.Proofs.YtjdgcgmhbhfpkaaDoorE
open Go Go.RowKit Go.Proofs
set_option linter.unusedVariables false
set_option maxRecDepth 100000

abbrev It.roI (v : Value) (xs : List Int) : It := .ro v 1 xs.length (xs.map (.int .i64))
abbrev It.roB (v : Value) (xs : List Int) : It := .ro v 1 xs.length (xs.map (.int .u8))
abbrev It.rowI (v : Value) (xs : List Int) : It := .row v 3 1 xs.length (xs.map (.int .i64))
abbrev It.rowB (v : Value) (xs : List Int) : It := .row v 5 1 xs.length (xs.map (.int .u8))
theorem strE {xs ys : List Int} {t : ByteArray} {K : Bool → Prop} (hx : byteOK xs) (hy : byteOK ys) (ht : t = strOfNums ys) (k : K (decide (xs = ys))) : StrE (strOfNums xs) t K := ⟨by rw [str_eq ys hx hy ht]; exact k⟩
theorem St.none {B : Nat} {W0 w : World} {L : List It} (H : St B W0 w L) : St B W0 w [] := H.sub [] List.nodup_nil
theorem strNil {xs : List Int} {t : ByteArray} {K : Bool → Prop} (hx : byteOK xs) (ht : t = strOfNums []) (k : K (decide (xs.length = 0))) : StrE (strOfNums xs) t K := strE hx byteOK.nil ht (by
  have e : decide (xs = []) = decide (xs.length = 0) := by cases xs <;> simp
  rw [e]; exact k)
section
variable {B : Nat} {W0 w : World} {L : List It}
/-- what an append leaves of the row it turns -/
theorem app_turn {v v' : Value} {e : TypeId} {sz n n' : Nat} {cs cs' : List Value} {w' : World} (H : St B W0 w L) (i : Nat) (hi : L[i]? = some (.row v e sz n cs)) (ho : w'.ownsRow B e sz v' n' cs') (hg : w.grownBy w' v.ownBlock) (hb : v'.ownBlock = v.ownBlock ∨ v'.ownBlock = some w.heap.size) :
    St B W0 w' (L.set i (.row v' e sz n' cs')) :=
  H.turn i hi hg ho fun g h => by
    rcases hb with hb | hb
    · exact .inl (hb.symm.trans h)
    · right; have h : v'.ownBlock = some g := h
      rw [hb] at h; cases h; exact Nat.le_refl _
theorem appSI {v x : Value} {xs ys : List Int} {ty : TypeId} {K : Value → World → Prop} (H : St B W0 w L) (i : Nat) (hi : L[i]? = some (.rowI v xs)) (hx : RdI w x ys) (hm : xs.length + ys.length ≤ 1099511627776)
    (k : ∀ v' w', St B W0 w' (L.set i (.rowI v' (xs ++ ys))) → K v' w') : RunS Tryd.prog (Builtin.append_ #[32, 32] ty #[v, x]) w K :=
  appI (H.own i hi) hx hm H.size fun v' w' ho hg hb => k v' w' (app_turn H i hi ho hg hb)
theorem appSB {v x : Value} {xs ys : List Int} {ty : TypeId} {K : Value → World → Prop} (H : St B W0 w L) (i : Nat) (hi : L[i]? = some (.rowB v xs)) (hx : RdB w x ys) (hm : xs.length + ys.length ≤ 1099511627776)
    (k : ∀ v' w', St B W0 w' (L.set i (.rowB v' (xs ++ ys))) → K v' w') : RunS Tryd.prog (Builtin.append_ #[22, 22] ty #[v, x]) w K :=
  appB (H.own i hi) hx hm H.size fun v' w' ho hg hb => k v' w' (app_turn H i hi ho hg hb)
theorem newRow {v : Value} {e : TypeId} {sz n : Nat} {cs : List Value} {w' : World} (H : St B W0 w L) (ho : w'.ownsRow w.heap.size e sz v n cs) (hb : Below w.heap.size w w') : St B W0 w' (.row v e sz n cs :: L) :=
  H.cons hb (own_mono ho H.size) fun g h => (World.ownsRow.lt ho g h).1
theorem litI {m : Nat} {parts : Array (Nat × Value)} {xs : List Int} {K : Value → World → Prop} (H : St B W0 w L) (hl : xs.length ≤ 1099511627776) (hr : (Instr.buildSlice 32 m parts).run Tryd.prog w = .ok (.slice (some ⟨w.heap.size, 0, none⟩) xs.length xs.length) (w.alloc (.cells (xs.map (Value.int .i64)).toArray 3)))
    (k : ∀ v w', St B W0 w' (.rowI v xs :: L) → K v w') : RunS Tryd.prog (Instr.buildSlice 32 m parts) w K :=
  ⟨_, _, hr, k _ _ (newRow H (own_new xs hl) (alloc_below _ _))⟩
theorem litB {m : Nat} {parts : Array (Nat × Value)} {xs : List Int} {K : Value → World → Prop} (H : St B W0 w L) (hl : xs.length ≤ 1099511627776) (hr : (Instr.buildSlice 22 m parts).run Tryd.prog w = .ok (.slice (some ⟨w.heap.size, 0, none⟩) xs.length xs.length) (w.alloc (.cells (xs.map (Value.int .u8)).toArray 5)))
    (k : ∀ v w', St B W0 w' (.rowB v xs :: L) → K v w') : RunS Tryd.prog (Instr.buildSlice 22 m parts) w K :=
  ⟨_, _, hr, k _ _ (newRow H (own_new xs hl) (alloc_below _ _))⟩
theorem litI1 {x : Int} {K : Value → World → Prop} (H : St B W0 w L) (k : ∀ v w', St B W0 w' (.rowI v [x] :: L) → K v w') : RunS Tryd.prog (Instr.buildSlice 32 1 #[(0, .int .i64 x)]) w K := bsI1 fun v w' ho hb _ => k v w' (newRow H ho hb)
theorem litI2 {x y : Int} {K : Value → World → Prop} (H : St B W0 w L) (k : ∀ v w', St B W0 w' (.rowI v [x, y] :: L) → K v w') : RunS Tryd.prog (Instr.buildSlice 32 2 #[(0, .int .i64 x), (1, .int .i64 y)]) w K := bsI2 fun v w' ho hb _ => k v w' (newRow H ho hb)
theorem litB1 {x : Int} {K : Value → World → Prop} (H : St B W0 w L) (k : ∀ v w', St B W0 w' (.rowB v [x] :: L) → K v w') : RunS Tryd.prog (Instr.buildSlice 22 1 #[(0, .int .u8 x)]) w K := bsB1 fun v w' ho hb _ => k v w' (newRow H ho hb)
theorem litB2 {x y : Int} {K : Value → World → Prop} (H : St B W0 w L) (k : ∀ v w', St B W0 w' (.rowB v [x, y] :: L) → K v w') : RunS Tryd.prog (Instr.buildSlice 22 2 #[(0, .int .u8 x), (1, .int .u8 y)]) w K := bsB2 fun v w' ho hb _ => k v w' (newRow H ho hb)
theorem mkI {n : Nat} {K : Value → World → Prop} (H : St B W0 w L) (hn : n ≤ 4294967296) (k : ∀ v w', St B W0 w' (.rowI v (List.replicate n 0) :: L) → K v w') : RunS Tryd.prog (Instr.makeSlice 32 (.int .i64 n) (.int .i64 n)) w K := msI hn fun v w' ho hb => k v w' (newRow H ho hb)
theorem mkB {n : Nat} {K : Value → World → Prop} (H : St B W0 w L) (hn : n ≤ 4294967296) (k : ∀ v w', St B W0 w' (.rowB v (List.replicate n 0) :: L) → K v w') : RunS Tryd.prog (Instr.makeSlice 22 (.int .i64 n) (.int .i64 n)) w K := msB hn fun v w' ho hb => k v w' (newRow H ho hb)
theorem sliceR {A : Option Addr} {n c l h : Nat} {lo hi : Option Int} {k : IntKind} {xs : List Int} {K : Nat → Nat → Option Addr → Prop} (H : St B W0 w L) (i : Nat) (hi' : L[i]? = some (.ro (.slice A n c) 1 n (xs.map (.int k)))) (hl : lo.getD 0 = l) (hh : hi.getD n = h) (h1 : l ≤ h) (h2 : h ≤ n)
    (q : ∀ A', St B W0 w (.ro (.slice A' (h - l) (c - l)) 1 (h - l) (((xs.take h).drop l).map (.int k)) :: L) → K l h A') : CutS n c lo hi fun l h => LetS (if c = l then A else A.map (·.add (l * 1))) (K l h) := by
  have hr : Rd w (.slice A n c) 1 n (xs.map (.int k)) := H.rd i (by rw [hi']; rfl)
  have hn : n = xs.length := by have := hr.len; simpa using this.symm
  subst hn
  refine ⟨⟨l, h, hl, hh, h1, fun _ => Nat.le_trans h2 hr.cap, ⟨fun A' hA => q A' ?_⟩⟩⟩
  have hc := hr.cut l h h1 h2
  rw [hA]
  refine H.part i hi' hc fun g hg => ?_
  rw [leans_ro] at hg ⊢
  split at hg
  · cases hg
  · rename_i hne
    rw [if_neg (fun e => hne (by
      have : xs = [] := by simpa using e
      subst this; simp))]
    by_cases hcl : c = l
    · rw [if_pos hcl] at hg; cases A <;> exact hg
    · rw [if_neg hcl] at hg
      cases A with
      | none => exact hg
      | some a => obtain ⟨b, off, sp⟩ := a; simp only [Option.map_some, Value.ownBlock, Addr.add] at hg ⊢; split at hg <;> simpa using hg
theorem dropR {A : Option Addr} {n c l : Nat} {lo : Option Int} {k : IntKind} {xs : List Int} {K : Nat → Nat → Option Addr → Prop} (H : St B W0 w L) (i : Nat) (hi' : L[i]? = some (.ro (.slice A n c) 1 n (xs.map (.int k)))) (hl : lo.getD 0 = l) (h1 : l ≤ n)
    (q : ∀ A', St B W0 w (.ro (.slice A' (n - l) (c - l)) 1 (n - l) ((xs.drop l).map (.int k)) :: L) → K l n A') : CutS n c lo none fun l h => LetS (if c = l then A else A.map (·.add (l * 1))) (K l h) :=
  sliceR H i hi' hl rfl h1 (Nat.le_refl _) fun A' S => q A' (by
    have hr : Rd w (.slice A n c) 1 n (xs.map (.int k)) := H.rd i (by rw [hi']; rfl)
    have hn : n = xs.length := by have := hr.len; simpa using this.symm
    subst hn
    rwa [List.take_length] at S)
theorem cutStr {xs : List Int} {l h : Nat} {lo hi : Option Int} {K : Nat → Nat → Value → Prop} (hl : lo.getD 0 = l) (hh : hi.getD (xs.length : Nat) = h) (h1 : l ≤ h) (h2 : h ≤ xs.length) (q : K l h (.string (strOfNums ((xs.take h).drop l)))) :
    CutS (strOfNums xs).size (strOfNums xs).size lo hi fun l h => LetV (.string ((strOfNums xs).extract l h)) (K l h) := by
  refine ⟨⟨l, h, hl, by rw [strOfNums_size]; exact hh, h1, fun _ => by rw [strOfNums_size]; exact h2, ⟨fun a ha => ?_⟩⟩⟩
  rw [ha, str_cut]; exact q
theorem dropStr {xs : List Int} {l : Nat} {lo : Option Int} {K : Nat → Nat → Value → Prop} (hl : lo.getD 0 = l) (h1 : l ≤ xs.length) (q : K l xs.length (.string (strOfNums (xs.drop l)))) :
    CutS (strOfNums xs).size (strOfNums xs).size lo none fun l h => LetV (.string ((strOfNums xs).extract l h)) (K l h) :=
  cutStr hl rfl h1 (Nat.le_refl _) (by rw [List.take_length]; exact q)
theorem strN {xs : List Int} {i : Nat} {K : Int → Prop} (hb : byteOK xs) (h1 : i < xs.length) (k : K (xs.getD i 0)) : StrS (strOfNums xs) (i : Int) K := strS hb (by omega) (by omega) k
theorem convB {A : Option Addr} {n c : Nat} {xs : List Int} {K : Value → World → Prop} (hx : Rd w (.slice A n c) 1 n (xs.map (.int .u8))) (k : K (.string (strOfNums xs)) w) : RunS Tryd.prog (convert 22 9 (.slice A n c)) w K := by
  obtain rfl : n = xs.length := by have := hx.len; simpa using this.symm
  exact conv_str hx k
/-- a call that gives a row of its own -/
theorem callRow {P : Program} {f : FuncId} {args : List Value} {K : Value → World → Prop} {X : List PanicEntry → World → Prop} {e : TypeId} {sz n : Nat} {cs : List Value} (ok : callOK P f = true)
    (h : Calls P f args.toArray w fun e' w' => ∃ x, e' = .returned x ∧ w'.ownsRow w.heap.size e sz x n cs ∧ Below w.heap.size w w') (H : St B W0 w L) (k : ∀ A c w', St B W0 w' (.row (.slice A n c) e sz n cs :: L) → K (.slice A n c) w') : CallS P f args w K X :=
  CallS.mk ok (h.mono fun e' w' ⟨x, he, ho, hb⟩ => by
    subst he
    obtain ⟨A, c, rfl⟩ := own_val ho
    exact k A c w' (newRow H ho hb))
/-- a call that gives such a row and something beside it -/
theorem callRow2 {P : Program} {f : FuncId} {args : List Value} {K : Value → World → Prop} {X : List PanicEntry → World → Prop} {e : TypeId} {sz n : Nat} {cs : List Value} {y : Value} (ok : callOK P f = true)
    (h : Calls P f args.toArray w fun e' w' => ∃ x, e' = .returned (.tuple #[x, y]) ∧ w'.ownsRow w.heap.size e sz x n cs ∧ Below w.heap.size w w') (H : St B W0 w L) (k : ∀ A c w', St B W0 w' (.row (.slice A n c) e sz n cs :: L) → K (.tuple #[.slice A n c, y]) w') : CallS P f args w K X :=
  CallS.mk ok (h.mono fun e' w' ⟨x, he, ho, hb⟩ => by
    subst he
    obtain ⟨A, c, rfl⟩ := own_val ho
    exact k A c w' (newRow H ho hb))
theorem callRow3 {P : Program} {f : FuncId} {args : List Value} {K : Value → World → Prop} {X : List PanicEntry → World → Prop} {e : TypeId} {sz n : Nat} {cs : List Value} {y z : Value} (ok : callOK P f = true)
    (h : Calls P f args.toArray w fun e' w' => ∃ x, e' = .returned (.tuple #[x, y, z]) ∧ w'.ownsRow w.heap.size e sz x n cs ∧ Below w.heap.size w w') (H : St B W0 w L) (k : ∀ A c w', St B W0 w' (.row (.slice A n c) e sz n cs :: L) → K (.tuple #[.slice A n c, y, z]) w') : CallS P f args w K X :=
  CallS.mk ok (h.mono fun e' w' ⟨x, he, ho, hb⟩ => by
    subst he
    obtain ⟨A, c, rfl⟩ := own_val ho
    exact k A c w' (newRow H ho hb))
theorem ifNeB {b : Bool} {X Y : Prop} (h : Y) : CondB (!(b == b)) X Y := ⟨⟨fun e => by simp at e, fun _ => h⟩⟩
theorem ifSame {p : Prop} [Decidable p] {X Y : Prop} (hp : ¬ p) (h : Y) : CondB (decide p) X Y := ⟨⟨fun e => absurd (of_decide_eq_true e) hp, fun _ => h⟩⟩
theorem callU {P : Program} {f : FuncId} {args : List Value} {K : Value → World → Prop} {X : List PanicEntry → World → Prop} {u : Value} {L' : List It} (ok : callOK P f = true) (h : Calls P f args.toArray w fun e w' => e = .returned u ∧ St B W0 w' L') (k : ∀ w', St B W0 w' L' → K u w') : CallS P f args w K X :=
  CallS.mk ok (h.mono fun e w' ⟨he, S⟩ => by subst he; exact k w' S)
end
end Go.Proofs.YtjdgcgmhbhfpkaaDoorE
