/- Memory: how slices are read, what a stretch of code leaves alone, what it owns; words for the engine. No condition of the laws stands here. -/
import Derived.Test.YtjdgcgmhbhfpkaaDoorEngR
import Derived.Maps.AppendAt
import Derived.OwnWalk
import Derived.Laws.MakeOwn
import Derived.KernelRfl
namespace Go.Proofs.YtjdgcgmhbhfpkaaDoorE
open Go Go.RowKit
set_option linter.unusedSimpArgs false
set_option linter.unusedVariables false
set_option maxRecDepth 100000

/-! ## frames' shapes -/
theorem Env.one {e : Env} {a : Nat} {va : Value} (h : e a = va) : e = e.put a va := (Env.put_same h).symm
theorem Env.two {e : Env} {a b : Nat} {va vb : Value} (h : e a = va) (k : e b = vb) : e = (e.put a va).put b vb := by rw [Env.put_same h, Env.put_same k]
theorem Env.three {e : Env} {a b c : Nat} {va vb vc : Value} (h : e a = va) (k : e b = vb) (l : e c = vc) : e = ((e.put a va).put b vb).put c vc := by rw [Env.put_same h, Env.put_same k, Env.put_same l]
theorem Env.four {e : Env} {a b c d : Nat} {va vb vc vd : Value} (h : e a = va) (k : e b = vb) (l : e c = vc) (m : e d = vd) : e = (((e.put a va).put b vb).put c vc).put d vd := by
  rw [Env.put_same h, Env.put_same k, Env.put_same l, Env.put_same m]
theorem Env.five {e : Env} {a b c d f : Nat} {va vb vc vd vf : Value} (h : e a = va) (k : e b = vb) (l : e c = vc) (m : e d = vd) (n : e f = vf) : e = ((((e.put a va).put b vb).put c vc).put d vd).put f vf := by
  rw [Env.put_same h, Env.put_same k, Env.put_same l, Env.put_same m, Env.put_same n]
theorem Env.six {e : Env} {a b c d f g : Nat} {va vb vc vd vf vg : Value} (h : e a = va) (k : e b = vb) (l : e c = vc) (m : e d = vd) (n : e f = vf) (o : e g = vg) : e = (((((e.put a va).put b vb).put c vc).put d vd).put f vf).put g vg := by
  rw [Env.put_same h, Env.put_same k, Env.put_same l, Env.put_same m, Env.put_same n, Env.put_same o]
theorem retB {a b : Bool} (h : a = b) : Ending.returned (.bool a) = Ending.returned (.bool b) := by rw [h]
theorem retI {k : IntKind} {a b : Int} (h : a = b) : Ending.returned (.int k a) = Ending.returned (.int k b) := by rw [h]
theorem vI {k : IntKind} {a b : Int} (h : a = b) : Value.int k a = Value.int k b := by rw [h]
theorem w64k (x : Int) (h0 : -9223372036854775808 ≤ x) (h1 : x ≤ 9223372036854775807) : IntKind.i64.wrap x = x := by rw [IntKind.wrap_i64]; omega
theorem w32k (x : Int) (h0 : -2147483648 ≤ x) (h1 : x ≤ 2147483647) : IntKind.i32.wrap x = x := by rw [IntKind.wrap_i32]; omega
theorem w8k (x : Int) : IntKind.u8.wrap x = x % 256 := IntKind.wrap_u8 x

/-! ## steps, as lemmas (the kernel likes them better than the bare constructors) -/
theorem loadS {w : World} {a : Addr} {v : Value} {K : Value → Prop} (h : w.cell? a = some v) (k : K v) : LoadS w a K := ⟨v, h, k⟩
theorem idxS {A : Option Addr} {n : Nat} {i : Int} {b off : Nat} {K : Nat → Nat → Prop} (h0 : 0 ≤ i) (h1 : i < n) (hA : A = some ⟨b, off, none⟩) (k : K b off) : IdxS A n i K := ⟨h0, h1, b, off, hA, k⟩
theorem callS {P : Program} {f : FuncId} {args : List Value} {w : World} {K : Value → World → Prop} {X : List PanicEntry → World → Prop} {Q : Ending → World → Prop} (ok : callOK P f = true) (h : Calls P f args.toArray w Q)
    (k : ∀ e w', Q e w' → match (generalizing := false) e with | .returned v => K v w' | .panicked ch => X ch w' | .outgrown => False) : CallS P f args w K X := CallS.mk ok (h.mono fun e w' q => k e w' q)
theorem callR {P : Program} {f : FuncId} {args : List Value} {w : World} {K : Value → World → Prop} {X : List PanicEntry → World → Prop} {Q : Value → World → Prop} (ok : callOK P f = true) (h : Calls P f args.toArray w fun e w' => ∃ v, e = .returned v ∧ Q v w')
    (k : ∀ v w', Q v w' → K v w') : CallS P f args w K X := CallS.mk ok (h.mono fun e w' ⟨v, he, q⟩ => by subst he; exact k v w' q)


/-! ## tests -/
theorem ifB {p : Prop} [Decidable p] {X Y : Prop} (h : p → X) (k : ¬ p → Y) : CondB (decide p) X Y := ⟨fun e => h (of_decide_eq_true e), fun e => k (of_decide_eq_false e)⟩
theorem ifT {X Y : Prop} (h : X) : CondB true X Y := ⟨fun _ => h, fun e => nomatch e⟩
theorem ifF {X Y : Prop} (h : Y) : CondB false X Y := ⟨fun e => (nomatch e), fun _ => h⟩
theorem gT {p : Prop} [Decidable p] {X Y : Prop} (h : p → X) (k : ¬ p → Y) : GuardB (decide p) true X Y := ⟨fun e => h (of_decide_eq_true e), fun e => k (of_decide_eq_false e)⟩
theorem gF {p : Prop} [Decidable p] {X Y : Prop} (h : ¬ p → X) (k : p → Y) : GuardB (decide p) false X Y := ⟨fun e => h (of_decide_eq_false e), fun e => k (of_decide_eq_true e)⟩
theorem gY {b : Bool} {X Y : Prop} (h : X) : GuardB b b X Y := ⟨⟨fun _ => h, fun e => by cases b <;> cases e⟩⟩
theorem gNt {X Y : Prop} (h : Y) : GuardB false true X Y := ⟨⟨fun e => (nomatch e), fun _ => h⟩⟩
theorem gNf {X Y : Prop} (h : Y) : GuardB true false X Y := ⟨⟨fun e => (nomatch e), fun _ => h⟩⟩
theorem gNe {a : Int} {X Y : Prop} (h : X) : GuardB (a != a) false X Y := ⟨⟨fun _ => h, fun e => absurd e (by simp)⟩⟩
theorem ifNe {a : Int} {X Y : Prop} (h : Y) : CondB (a != a) X Y := ⟨⟨fun e => absurd e (by simp), fun _ => h⟩⟩
theorem gB {b want : Bool} {X Y : Prop} (h : b = want → X) (k : b = !want → Y) : GuardB b want X Y := ⟨h, k⟩

/-! ## worlds -/
theorem SameW.below {w w' : World} (h : SameW w w') (B : Nat) : Below B w w' := ⟨h.os, h.tape, h.output, by rw [h.heap]; exact Nat.le_refl _, fun k _ => by rw [h.heap]⟩
theorem below_trans {a b c : World} (h : Below a.heap.size a b) (k : Below b.heap.size b c) : Below a.heap.size a c := h.trans (k.mono h.size)
theorem cell_lt {w : World} {a : Addr} {v : Value} (h : w.cell? a = some v) : a.block < w.heap.size := by
  unfold World.cell? at h
  cases hb : w.heap[a.block]? with
  | none => rw [hb] at h; cases h
  | some o => exact (Array.getElem?_eq_some_iff.1 hb).1
theorem below_cell {B : Nat} {w w' : World} (h : Below B w w') {a : Addr} {v : Value} (hb : a.block < B) (hc : w.cell? a = some v) : w'.cell? a = some v := by
  have := h.block a.block hb
  unfold World.cell? at hc ⊢
  rw [this]; exact hc
theorem ext_cell {w w' : World} (h : Below w.heap.size w w') {a : Addr} {v : Value} (hc : w.cell? a = some v) : w'.cell? a = some v := below_cell h (cell_lt hc) hc

/-! ## reading a slice: n elements of sz cells each -/
structure Rd (w : World) (v : Value) (sz n : Nat) (cs : List Value) : Prop where
  len : cs.length = n * sz
  ex : ∃ A c, v = .slice A n c ∧ n ≤ c ∧ (n = 0 ∨ ∃ b off, A = some ⟨b, off, none⟩ ∧ ∀ j, j < cs.length → w.cell? ⟨b, off + j, none⟩ = cs[j]?)
theorem Rd.ext {w w' : World} {v : Value} {sz n : Nat} {cs : List Value} (h : Rd w v sz n cs) (k : Below w.heap.size w w') : Rd w' v sz n cs := by
  obtain ⟨hl, A, c, hv, hcap, h⟩ := h
  refine ⟨hl, A, c, hv, hcap, ?_⟩
  rcases h with h | ⟨b, off, ha, h⟩
  · exact .inl h
  · refine .inr ⟨b, off, ha, fun j hj => ?_⟩
    have := h j hj
    rw [List.getElem?_eq_getElem hj] at this ⊢
    exact ext_cell k this
theorem Rd.at {w : World} {A : Option Addr} {n c : Nat} {cs : List Value} (h : Rd w (.slice A n c) 1 n cs) {i : Nat} (hi : i < n) : ∃ b off, A = some ⟨b, off, none⟩ ∧ w.cell? ⟨b, off + i * 1, none⟩ = cs[i]? := by
  obtain ⟨hl, A', c', hv, hcap, h⟩ := h
  cases hv
  rcases h with h | ⟨b, off, rfl, h⟩
  · omega
  · exact ⟨b, off, rfl, by rw [Nat.mul_one]; exact h i (by omega)⟩
theorem Rd.int {w : World} {A : Option Addr} {c : Nat} {k : IntKind} {xs : List Int} (h : Rd w (.slice A xs.length c) 1 xs.length (xs.map (.int k))) {i : Int} (h0 : 0 ≤ i) (h1 : i < (xs.length : Int)) :
    ∃ b off, A = some ⟨b, off, none⟩ ∧ w.cell? ⟨b, off + i.toNat * 1, none⟩ = some (.int k (xs.getD i.toNat 0)) := by
  obtain ⟨b, off, hA, hc⟩ := h.at (i := i.toNat) (by omega)
  refine ⟨b, off, hA, hc.trans ?_⟩
  have : i.toNat < xs.length := by omega
  simp [this]

/-! ## rows of the call's own -/
theorem infoOf {P : Program} {e : TypeId} {z : Value} {size bytes : Nat} (h : (P.info? e).map (fun i => (i.zero, i.size, i.bytes)) = some (some z, size, bytes)) : ∃ i, P.info? e = some i ∧ i.zero = some z ∧ i.size = size ∧ i.bytes = bytes := by
  cases hi : P.info? e with
  | none => rw [hi] at h; cases h
  | some i => rw [hi] at h; simp at h; exact ⟨i, rfl, h.1, h.2.1, h.2.2⟩
theorem own_mono {w : World} {B B' : Nat} {e : TypeId} {sz : Nat} {v : Value} {n : Nat} {cs : List Value} (h : w.ownsRow B' e sz v n cs) (hb : B ≤ B') : w.ownsRow B e sz v n cs := by
  refine ⟨h.1, ?_⟩
  rcases h.2 with h | ⟨g, cap, cur, h1, h2, h3⟩
  · exact .inl h
  · exact .inr ⟨g, cap, cur, h1, Nat.le_trans hb h2, h3⟩
theorem grown_of_below {w w' : World} (h : Below w.heap.size w w') (row : Option Nat) : w.grownBy w' row := ⟨h.os, h.tape, h.output, h.size, fun k hk _ => h.block k hk⟩
theorem own_ext {w w' : World} {B : Nat} {e : TypeId} {sz : Nat} {v : Value} {n : Nat} {cs : List Value} (h : w.ownsRow B e sz v n cs) (k : Below w.heap.size w w') : w'.ownsRow B e sz v n cs :=
  h.kept (grown_of_below k none) (by cases hv : v.ownBlock <;> simp)
theorem own_other {w w' : World} {B : Nat} {e : TypeId} {sz : Nat} {v : Value} {n : Nat} {cs : List Value} {row : Option Nat} (h : w.ownsRow B e sz v n cs) (k : w.grownBy w' row) (hne : v.ownBlock = none ∨ v.ownBlock ≠ row) : w'.ownsRow B e sz v n cs := h.kept k hne
theorem own_rd {w : World} {B : Nat} {e : TypeId} {sz : Nat} {v : Value} {n : Nat} {cs : List Value} (h : w.ownsRow B e sz v n cs) : Rd w v sz n cs := by
  refine ⟨h.1, ?_⟩
  rcases h.2 with ⟨rfl, rfl⟩ | ⟨g, cap, cur, rfl, hb, hg, hn, hc, hs, ht⟩
  · exact ⟨none, 0, rfl, Nat.le_refl _, .inl rfl⟩
  · refine ⟨_, _, rfl, hn, .inr ⟨g, 0, rfl, fun j hj => ?_⟩⟩
    rw [← ht]
    rw [← ht, List.length_take] at hj
    simp only [World.cell?, hg, Nat.zero_add, Option.isSome_none, Bool.false_eq_true, if_false]
    rw [List.getElem?_take, if_pos (by omega)]
    simp
theorem own_val {w : World} {B : Nat} {e : TypeId} {sz : Nat} {v : Value} {n : Nat} {cs : List Value} (h : w.ownsRow B e sz v n cs) : ∃ A c, v = .slice A n c := by
  obtain ⟨A, c, hv, _⟩ := (own_rd h).ex
  exact ⟨A, c, hv⟩
theorem own_below {w0 w w' : World} {B : Nat} {e : TypeId} {sz : Nat} {v : Value} {n : Nat} {cs : List Value} (HB : Below B w0 w) (hB : B ≤ w.heap.size) (h : w.ownsRow B e sz v n cs) (g : w.grownBy w' v.ownBlock) : Below B w0 w' :=
  HB.grown g hB fun k hk => (h.lt k hk).1
theorem app_run {P : Program} {w : World} {t ty e : TypeId} {i : TypeInfo} {z : Value} {sz bytes : Nat} (ht : P.underlying t = some (.slice e)) (hi : P.info? e = some i) (hz : i.zero = some z) (hsize : i.size = sz) (hby : i.bytes = bytes)
    (hzs : z.cells.size = sz) (hsz : 0 < sz) {v x : Value} {n m B : Nat} {cs ds : List Value} {K : Value → World → Prop} (hv : w.ownsRow B e sz v n cs) (hx : Rd w x sz m ds) (h1 : ∀ u ∈ ds, u.oneCell' = true)
    (hm : n + m ≤ 1099511627776) (hb : bytes ≤ 128) (hB : B ≤ w.heap.size) (k : ∀ v' w', w'.ownsRow B e sz v' (n + m) (cs ++ ds) → w.grownBy w' v.ownBlock → (v'.ownBlock = v.ownBlock ∨ v'.ownBlock = some w.heap.size) → K v' w') :
    RunS P (Builtin.append_ #[t, t] ty #[v, x]) w K := by
  obtain ⟨hl, A, c, rfl, hcap, hA⟩ := hx
  have nb : (n + m) * bytes ≤ 140737488355328 := Nat.le_trans (Nat.mul_le_mul hm hb) (by decide)
  cases A with
  | some a =>
    have hnews : ∀ j u, ds[j]? = some u → w.cell? (a.add j) = some u := by
      intro j u hu
      have hj : j < ds.length := (List.getElem?_eq_some_iff.1 hu).1
      rcases hA with rfl | ⟨b, off, ha, hA⟩
      · have : ds.length = 0 := by rw [hl, Nat.zero_mul]
        omega
      · cases ha
        rw [add_plain, hA j hj, hu]
    obtain ⟨v', w', hr, ho, hg, _, hbk⟩ := run_append_own_at w B t ty e i z sz bytes ht hi hz hsize hby hzs hsz v n cs hv a m c ds hl hnews h1 (by unfold maxLen; omega) nb hB
    exact ⟨v', w', hr, k v' w' ho hg hbk⟩
  | none =>
    have hm0 : m = 0 := by
      rcases hA with h | ⟨b, off, ha, _⟩
      · exact h
      · cases ha
    subst hm0
    have hds : ds = [] := List.length_eq_zero_iff.1 (by rw [hl, Nat.zero_mul])
    subst hds
    have hv' : w.ownsRow B e sz v (n + 0) (cs ++ []) := by simpa using hv
    refine ⟨v, w, ?_, k v w hv' (grown_of_below (Below.refl _ _) _) (.inl rfl)⟩
    rcases hv.2 with ⟨rfl, rfl⟩ | ⟨g, cap, cur, rfl, _, _, hn, _⟩
    · simp [Builtin.append_, run_underlying ht, sizeOf, typeInfo, hi, Builtin.lenOf, Builtin.firstCells, loadCells, loadCellsFrom, storeCells]
    · simp [Builtin.append_, run_underlying ht, sizeOf, typeInfo, hi, Builtin.lenOf, Builtin.firstCells, loadCells, loadCellsFrom, storeCells, hn]

theorem own_store {w : World} {B : Nat} {e : TypeId} {A : Option Addr} {n c : Nat} {cs : List Value} (h : w.ownsRow B e 1 (.slice A n c) n cs) {i : Nat} (hi : i < n) : ∃ b off, A = some ⟨b, off, none⟩ ∧ (∃ u, w.cell? ⟨b, off + i * 1, none⟩ = some u) ∧
    w.frozen? ⟨b, off + i * 1, none⟩ = false ∧ ∀ u, (w.setCell ⟨b, off + i * 1, none⟩ u).ownsRow B e 1 (.slice A n c) n (cs.set i u) ∧ w.grownBy (w.setCell ⟨b, off + i * 1, none⟩ u) (Value.slice A n c).ownBlock := by
  obtain ⟨hl, h⟩ := h
  rcases h with ⟨h1, h2⟩ | ⟨g, cap, cur, h1, hb, hg, hn, hc, hs, ht⟩
  · omega
  · cases h1
    have hlt : g < w.heap.size := (Array.getElem?_eq_some_iff.1 hg).1
    refine ⟨g, 0, rfl, ?_, ?_, fun u => ⟨⟨by simpa using hl, .inr ⟨g, _, cur.setIfInBounds i u, rfl, hb, ?_, hn, hc, by simpa using hs, ?_⟩⟩, ⟨rfl, rfl, rfl, by simp [World.setCell], fun k hk hne => Below.heap_setCell _ _ _ _ (fun e => hne (by subst e; rfl))⟩⟩⟩
    · simp only [World.cell?, hg, Nat.zero_add, Nat.mul_one, Option.isSome_none, Bool.false_eq_true, if_false]
      exact ⟨_, Array.getElem?_eq_getElem (by omega)⟩
    · simp [World.frozen?, hg]
    · simp only [World.setCell, Array.getElem?_modify, hg, if_true, Nat.zero_add, Nat.mul_one, Option.isSome_none, Bool.false_eq_true, if_false, Option.map_some]
    · rw [Array.toList_setIfInBounds, List.take_set, ht]
def cnt (f : Int → Int) (m : Int) : Nat → List Int
  | 0 => []
  | n + 1 => f m :: cnt f (m + 1) n
theorem cnt_len (f : Int → Int) : ∀ (n : Nat) (m : Int), (cnt f m n).length = n
  | 0, _ => rfl
  | n + 1, m => by simp [cnt, cnt_len f n]
theorem cnt_get (f : Int → Int) : ∀ (n : Nat) (m : Int) (j : Nat), j < n → (cnt f m n).getD j 0 = f (m + j)
  | 0, _, _, h => by omega
  | n + 1, m, 0, _ => by simp [cnt]
  | n + 1, m, j + 1, h => by
    have := cnt_get f n (m + 1) j (by omega)
    simp only [cnt, List.getD_cons_succ, this]
    congr 1
    omega
theorem cnt_snoc (f : Int → Int) : ∀ (n : Nat) (m : Int), cnt f m (n + 1) = cnt f m n ++ [f (m + n)]
  | 0, m => by simp [cnt]
  | n + 1, m => by
    rw [cnt, cnt_snoc f n (m + 1)]
    have e : m + 1 + (n : Int) = m + ((n + 1 : Nat) : Int) := by omega
    rw [e]; rfl
theorem set_step (l xs : List Int) (j : Nat) (x : Int) (hl : l.length = j) (hj : j < xs.length) : (l ++ xs.drop j).set j x = (l ++ [x]) ++ xs.drop (j + 1) := by
  rw [List.set_append_right _ _ (by omega), hl, Nat.sub_self, List.drop_eq_getElem_cons hj, List.set_cons_zero]
  simp

/-- an answer that is a row of the call's own, its value written out -/
theorem retOwn {e : Ending} {w : World} {B : Nat} {ty : TypeId} {sz n : Nat} {cs : List Value} {Q : Prop} (h : ∃ x, e = .returned x ∧ w.ownsRow B ty sz x n cs ∧ Q) : ∃ A c, e = .returned (.slice A n c) ∧ w.ownsRow B ty sz (.slice A n c) n cs ∧ Q := by
  obtain ⟨x, he, ho, hq⟩ := h
  obtain ⟨A, c, rfl⟩ := own_val ho
  exact ⟨A, c, he, ho, hq⟩
theorem retOwn2 {e : Ending} {w : World} {B : Nat} {ty : TypeId} {sz n : Nat} {cs : List Value} {Q : Prop} {y : Value} (h : ∃ x, e = .returned (.tuple #[x, y]) ∧ w.ownsRow B ty sz x n cs ∧ Q) : ∃ A c, e = .returned (.tuple #[.slice A n c, y]) ∧ w.ownsRow B ty sz (.slice A n c) n cs ∧ Q := by
  obtain ⟨x, he, ho, hq⟩ := h
  obtain ⟨A, c, rfl⟩ := own_val ho
  exact ⟨A, c, he, ho, hq⟩
theorem retOwn3 {e : Ending} {w : World} {B : Nat} {ty : TypeId} {sz n : Nat} {cs : List Value} {Q : Prop} {y z : Value} (h : ∃ x, e = .returned (.tuple #[x, y, z]) ∧ w.ownsRow B ty sz x n cs ∧ Q) : ∃ A c, e = .returned (.tuple #[.slice A n c, y, z]) ∧ w.ownsRow B ty sz (.slice A n c) n cs ∧ Q := by
  obtain ⟨x, he, ho, hq⟩ := h
  obtain ⟨A, c, rfl⟩ := own_val ho
  exact ⟨A, c, he, ho, hq⟩
end Go.Proofs.YtjdgcgmhbhfpkaaDoorE
