/- Further steps: literals and appends whose answer is said as a slice. -/
import Derived.Test.YtjdgcgmhbhfpkaaDoorPrim3
import Derived.Test.YtjdgcgmhbhfpkaaDoorEngG
namespace Go.Proofs.YtjdgcgmhbhfpkaaDoorE
open Go Go.RowKit
set_option linter.unusedVariables false
set_option maxRecDepth 100000

theorem St.rot3 {B : Nat} {W0 w : World} {a b c : It} {L : List It} (H : St B W0 w (a :: b :: c :: L)) : St B W0 w (c :: a :: b :: L) := H.perm (List.perm_middle (l₁ := [a, b]))
theorem St.drop3 {B : Nat} {W0 w : World} {a b c : It} {L : List It} (H : St B W0 w (a :: b :: c :: L)) : St B W0 w (a :: b :: L) := H.sublist (((List.sublist_cons_self c L).cons_cons b).cons_cons a)
theorem St.tl {B : Nat} {W0 w : World} {a : It} {L : List It} (H : St B W0 w (a :: L)) : St B W0 w L := H.sublist (List.sublist_cons_self a L)
theorem idxP {w : World} {A : Option Addr} {n c : Nat} {i : Nat} {k : IntKind} {xs : List Int} {p : Int} {K : Nat → Nat → Prop} (hp : xs.getD i 0 = p) (h : Rd w (.slice A n c) 1 n (xs.map (.int k))) (h1 : (i : Int) < n) (q : ∀ b off, w.cell? ⟨b, off + (i : Int).toNat * 1, none⟩ = some (.int k p) → K b off) : IdxS A n (i : Int) K := idxN h h1 (hp ▸ q)
section
variable {B : Nat} {W0 w : World} {L : List It}
theorem St.mk1 {v : Value} {e : TypeId} {sz n : Nat} {cs : List Value} (H : St B W0 w L) (i : Nat) (hi : L[i]? = some (.row v e sz n cs)) : ∃ A c, v = .slice A n c := own_val (H.own i hi)
theorem litIS {m : Nat} {parts : Array (Nat × Value)} {xs : List Int} {K : Value → World → Prop} (H : St B W0 w L) (hl : xs.length ≤ 1099511627776) (hr : (Instr.buildSlice 32 m parts).run Tryd.prog w = .ok (.slice (some ⟨w.heap.size, 0, none⟩) xs.length xs.length) (w.alloc (.cells (xs.map (Value.int .i64)).toArray 3)))
    (k : ∀ A c w', St B W0 w' (.rowI (.slice A xs.length c) xs :: L) → K (.slice A xs.length c) w') : RunS Tryd.prog (Instr.buildSlice 32 m parts) w K :=
  litI H hl hr fun v w' H' => by obtain ⟨A, c, rfl⟩ := H'.mk1 0 rfl; exact k A c w' H'
theorem litBS {m : Nat} {parts : Array (Nat × Value)} {xs : List Int} {K : Value → World → Prop} (H : St B W0 w L) (hl : xs.length ≤ 1099511627776) (hr : (Instr.buildSlice 22 m parts).run Tryd.prog w = .ok (.slice (some ⟨w.heap.size, 0, none⟩) xs.length xs.length) (w.alloc (.cells (xs.map (Value.int .u8)).toArray 5)))
    (k : ∀ A c w', St B W0 w' (.rowB (.slice A xs.length c) xs :: L) → K (.slice A xs.length c) w') : RunS Tryd.prog (Instr.buildSlice 22 m parts) w K :=
  litB H hl hr fun v w' H' => by obtain ⟨A, c, rfl⟩ := H'.mk1 0 rfl; exact k A c w' H'
theorem callVB {P : Program} {f : FuncId} {args : List Value} {K : Value → World → Prop} {X : List PanicEntry → World → Prop} {u : Value} (ok : callOK P f = true) (h : GivesV P f args w u) (H : St B W0 w L) (k : ∀ w', Below w.heap.size w w' → St B W0 w' L → K u w') : CallS P f args w K X :=
  CallS.mk ok (h.mono fun e w' ⟨v, he, hv, S⟩ => by subst he hv; exact k w' S.below (H.joinS S rfl))
theorem convBQ {A : Option Addr} {n c : Nat} {xs : List Int} {K : Value → Prop} (hx : Rd w (.slice A n c) 1 n (xs.map (.int .u8))) (k : K (.string (strOfNums xs))) : RunQ Tryd.prog (convert 22 9 (.slice A n c)) w K := by
  obtain ⟨v, w', hr, rfl, hk⟩ := (convB hx (K := fun v w' => w' = w ∧ K v) ⟨rfl, k⟩).ex
  exact ⟨v, hr, hk⟩
theorem get_set {α : Type} {L : List α} {i : Nat} {a b : α} (h : L[i]? = some a) : (L.set i b)[i]? = some b := by
  rw [List.getElem?_set_self (List.getElem?_eq_some_iff.1 h).1]
theorem appIS {v x : Value} {xs ys : List Int} {ty : TypeId} {K : Value → World → Prop} (H : St B W0 w L) (i : Nat) (hi : L[i]? = some (.rowI v xs)) (hx : RdI w x ys) (hm : xs.length + ys.length ≤ 1099511627776)
    (k : ∀ A c w', St B W0 w' (L.set i (.rowI (.slice A (xs ++ ys).length c) (xs ++ ys))) → K (.slice A (xs ++ ys).length c) w') : RunS Tryd.prog (Builtin.append_ #[32, 32] ty #[v, x]) w K :=
  appSI H i hi hx hm fun v' w' H' => by obtain ⟨A, c, rfl⟩ := H'.mk1 i (get_set hi); exact k A c w' H'
theorem appBS {v x : Value} {xs ys : List Int} {ty : TypeId} {K : Value → World → Prop} (H : St B W0 w L) (i : Nat) (hi : L[i]? = some (.rowB v xs)) (hx : RdB w x ys) (hm : xs.length + ys.length ≤ 1099511627776)
    (k : ∀ A c w', St B W0 w' (L.set i (.rowB (.slice A (xs ++ ys).length c) (xs ++ ys))) → K (.slice A (xs ++ ys).length c) w') : RunS Tryd.prog (Builtin.append_ #[22, 22] ty #[v, x]) w K :=
  appSB H i hi hx hm fun v' w' H' => by obtain ⟨A, c, rfl⟩ := H'.mk1 i (get_set hi); exact k A c w' H'
theorem St.sw2 {a b : It} (H : St B W0 w (a :: b :: L)) : St B W0 w (b :: a :: L) := H.perm (List.Perm.swap _ _ _)
/-- the first one behind two others, and back -/
theorem St.sink2 {a b c : It} (H : St B W0 w (a :: b :: c :: L)) : St B W0 w (b :: c :: a :: L) := H.perm ((List.perm_middle (l₁ := [b, c])).symm)
theorem own_cells {w : World} {B : Nat} {e : TypeId} {sz : Nat} {A : Option Addr} {n c : Nat} {cs : List Value} (h : w.ownsRow B e sz (.slice A n c) n cs) (hp : 0 < n) : ∃ b, A = some ⟨b, 0, none⟩ ∧ ∀ q, q < cs.length → w.cell? ⟨b, q, none⟩ = cs[q]? := by
  obtain ⟨hl, h⟩ := h
  rcases h with ⟨h1, h2⟩ | ⟨g, cap, cur, h1, hb, hg, hn, hc, hs, ht⟩
  · omega
  · cases h1
    refine ⟨g, rfl, fun q hq => ?_⟩
    have hle : n * sz ≤ c * sz := Nat.mul_le_mul_right _ hn
    simp only [World.cell?, hg, Option.isSome_none, Bool.false_eq_true, if_false]
    rw [← ht, List.getElem?_take, if_pos (by omega)]
    simp
theorem idxRow {e : TypeId} {A : Option Addr} {n c sz : Nat} {j : Int} {cs : List Value} {K : Nat → Nat → Prop} (H : St B W0 w L) (i : Nat) (hi : L[i]? = some (.row (.slice A n c) e sz n cs)) (h0 : 0 ≤ j) (h1 : j < n) (k : ∀ b, A = some ⟨b, 0, none⟩ → (∀ q, q < cs.length → w.cell? ⟨b, q, none⟩ = cs[q]?) → K b 0) : IdxS A n j K := by
  obtain ⟨b, hA, hc⟩ := own_cells (H.own i hi) (by omega)
  exact IdxS.mk ⟨h0, h1, b, 0, hA, k b hA hc⟩
theorem own_set {w : World} {B : Nat} {e : TypeId} {sz : Nat} {A : Option Addr} {n c : Nat} {cs : List Value} (h : w.ownsRow B e sz (.slice A n c) n cs) {q : Nat} (hq : q < n * sz) : ∃ b, A = some ⟨b, 0, none⟩ ∧ (∃ u, w.cell? ⟨b, q, none⟩ = some u) ∧
    w.frozen? ⟨b, q, none⟩ = false ∧ ∀ u, (w.setCell ⟨b, q, none⟩ u).ownsRow B e sz (.slice A n c) n (cs.set q u) ∧ w.grownBy (w.setCell ⟨b, q, none⟩ u) (Value.slice A n c).ownBlock := by
  obtain ⟨hl, h⟩ := h
  rcases h with ⟨h1, h2⟩ | ⟨g, cap, cur, h1, hb, hg, hn, hc, hs, ht⟩
  · subst h2; omega
  · cases h1
    have hlt : g < w.heap.size := (Array.getElem?_eq_some_iff.1 hg).1
    have hle : n * sz ≤ c * sz := Nat.mul_le_mul_right _ hn
    refine ⟨g, rfl, ?_, ?_, fun u => ⟨⟨by simpa using hl, .inr ⟨g, _, cur.setIfInBounds q u, rfl, hb, ?_, hn, hc, by simpa using hs, ?_⟩⟩, ⟨rfl, rfl, rfl, by simp [World.setCell], fun k hk hne => Below.heap_setCell _ _ _ _ (fun e => hne (by subst e; rfl))⟩⟩⟩
    · simp only [World.cell?, hg, Option.isSome_none, Bool.false_eq_true, if_false]
      exact ⟨_, Array.getElem?_eq_getElem (by omega)⟩
    · simp [World.frozen?, hg]
    · simp only [World.setCell, Array.getElem?_modify, hg, if_true, Option.isSome_none, Bool.false_eq_true, if_false, Option.map_some]
    · rw [Array.toList_setIfInBounds, List.take_set, ht]
theorem storeRowN {v : Value} {K : World → Prop} (H : St B W0 w L) (i : Nat) {b : Nat} {e : TypeId} {n c sz o : Nat} {cs : List Value} (hi : L[i]? = some (.row (.slice (some ⟨b, 0, none⟩) n c) e sz n cs)) (q : Nat) (ho : o = q) (hq : q < n * sz) (h1 : v.oneCell' = true) (k : ∀ w', St B W0 w' (L.set i (.row (.slice (some ⟨b, 0, none⟩) n c) e sz n (cs.set q v))) → K w') : StoreS w ⟨b, o, none⟩ v K := by
  subst ho
  obtain ⟨b', hA, hcell, hfr, hset⟩ := own_set (H.own i hi) hq
  cases hA
  refine StoreS.mk ⟨hcell, hfr, ⟨(fun x e => by subst e; cases h1), (fun x e => by subst e; cases h1)⟩, k _ ?_⟩
  obtain ⟨h2, h3⟩ := hset v
  exact H.turn i hi h3 h2 (fun g hg => .inl hg)
theorem own_take {w : World} {B : Nat} {e : TypeId} {sz : Nat} {A : Option Addr} {n c : Nat} {cs : List Value} (h : w.ownsRow B e sz (.slice A n c) n cs) (m : Nat) (hm : m ≤ n) : w.ownsRow B e sz (.slice A m c) m (cs.take (m * sz)) := by
  obtain ⟨hl, h⟩ := h
  have hle : m * sz ≤ n * sz := Nat.mul_le_mul_right _ hm
  refine ⟨by rw [List.length_take, hl]; omega, ?_⟩
  rcases h with ⟨h1, h2⟩ | ⟨g, cap, cur, h1, hb, hg, hn, hc, hs, ht⟩
  · left
    obtain rfl : m = 0 := by omega
    simp only [Value.slice.injEq] at h1
    obtain ⟨rfl, _, rfl⟩ := h1
    exact ⟨rfl, rfl⟩
  · cases h1
    refine .inr ⟨g, _, cur, rfl, hb, hg, by omega, hc, hs, ?_⟩
    rw [← ht, List.take_take, Nat.min_eq_left hle]
theorem St.setB {A : Option Addr} {c i : Nat} {x : Int} {b : List Int} (H : St B W0 w (.row (.slice A b.length c) 5 1 b.length ((b.map (Value.int .u8)).set i (.int .u8 x)) :: L)) : St B W0 w (.rowB (.slice A (b.set i x).length c) (b.set i x) :: L) := by
  rw [← List.map_set] at H
  unfold It.rowB; rw [List.length_set]; exact H
theorem St.setI {A : Option Addr} {c i : Nat} {x : Int} {b : List Int} (H : St B W0 w (.row (.slice A b.length c) 3 1 b.length ((b.map (Value.int .i64)).set i (.int .i64 x)) :: L)) : St B W0 w (.rowI (.slice A (b.set i x).length c) (b.set i x) :: L) := by
  rw [← List.map_set] at H
  unfold It.rowI; rw [List.length_set]; exact H
theorem St.takeB {A : Option Addr} {c m : Nat} {b : List Int} (hm : m ≤ b.length) (H : St B W0 w (.row (.slice A m c) 5 1 m ((b.map (Value.int .u8)).take (m * 1)) :: L)) : St B W0 w (.rowB (.slice A (b.take m).length c) (b.take m) :: L) := by
  have e : (b.take m).length = m := by rw [List.length_take]; omega
  rw [Nat.mul_one, ← List.map_take] at H
  unfold It.rowB; rw [e]; exact H
theorem own_newR {w : World} {e : TypeId} {sz n : Nat} {cs : List Value} (hl : cs.length = n * sz) (hm : n ≤ 1099511627776) : (w.alloc (.cells cs.toArray e)).ownsRow w.heap.size e sz (.slice (some ⟨w.heap.size, 0, none⟩) n n) n cs :=
  ⟨hl, .inr ⟨w.heap.size, n, _, rfl, Nat.le_refl _, heap_alloc_new w _, Nat.le_refl _, by unfold maxLen; omega, by simpa using hl, by simp [← hl]⟩⟩
/-- a literal of whatever elements -/
theorem litR {P : Program} {t e : TypeId} {m n sz : Nat} {parts : Array (Nat × Value)} {cs : List Value} {K : Value → World → Prop} (H : St B W0 w L) (hc : cs.length = n * sz) (hl : n ≤ 1099511627776) (hr : (Instr.buildSlice t m parts).run P w = .ok (.slice (some ⟨w.heap.size, 0, none⟩) n n) (w.alloc (.cells cs.toArray e)))
    (k : ∀ A c w', St B W0 w' (.row (.slice A n c) e sz n cs :: L) → K (.slice A n c) w') : RunS P (Instr.buildSlice t m parts) w K :=
  ⟨_, _, hr, k _ _ _ (newRow H (own_newR hc hl) (alloc_below _ _))⟩
theorem add_zero (a : Addr) : a.add 0 = a := by unfold Addr.add; simp
/-- an own row, cut at its end -/
theorem cutRow {A : Option Addr} {n c sz h : Nat} {lo hi : Option Int} {e : TypeId} {cs : List Value} {K : Nat → Nat → Option Addr → Prop} (H : St B W0 w L) (i : Nat) (hi' : L[i]? = some (.row (.slice A n c) e sz n cs)) (hl : lo.getD 0 = 0) (hh : hi.getD n = h) (h2 : h ≤ n)
    (q : St B W0 w (L.set i (.row (.slice A h c) e sz h (cs.take (h * sz)))) → K 0 h A) : CutS n c lo hi fun l h => LetS (if c = l then A else A.map (·.add (l * sz))) (K l h) := by
  refine ⟨0, h, hl, hh, Nat.zero_le _, fun _ => ?_, ⟨fun A' hA => ?_⟩⟩
  · have := (own_rd (H.own i hi')).cap; omega
  · have : A' = A := by
      rw [hA]
      split
      · rfl
      · cases A with
        | none => rfl
        | some a => simp [add_zero]
    subst this
    refine q (St.turn H i hi' ⟨rfl, rfl, rfl, Nat.le_refl _, fun _ _ _ => rfl⟩ (own_take (H.own i hi') h h2) (fun g hg => .inl ?_))
    cases A' <;> exact hg
end
end Go.Proofs.YtjdgcgmhbhfpkaaDoorE
