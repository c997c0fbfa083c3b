/- Rows of structs: a list of elements, each of some cells; what stands where, and what a store does. No condition of the laws stands here. -/
import Derived.Test.YtjdgcgmhbhfpkaaDoorPrim4
namespace Go.Proofs.YtjdgcgmhbhfpkaaDoorE
open Go Go.RowKit
set_option linter.unusedVariables false
set_option maxRecDepth 100000

section
variable {α : Type} {cells : α → List Value} {sz : Nat}
theorem flat_len (hs : ∀ x, (cells x).length = sz) : ∀ xs : List α, (xs.flatMap cells).length = xs.length * sz
  | [] => by simp
  | x :: xs => by rw [List.flatMap_cons, List.length_append, hs, flat_len hs xs, List.length_cons, Nat.succ_mul, Nat.add_comm]
theorem flat_get (hs : ∀ x, (cells x).length = sz) : ∀ (xs : List α) (i j : Nat) (x : α), xs[i]? = some x → j < sz → (xs.flatMap cells)[i * sz + j]? = (cells x)[j]?
  | [], i, j, x, h, hj => by simp at h
  | y :: xs, 0, j, x, h, hj => by
    simp only [List.getElem?_cons_zero, Option.some.injEq] at h
    subst h
    rw [List.flatMap_cons, Nat.zero_mul, Nat.zero_add, List.getElem?_append_left (by rw [hs]; exact hj)]
  | y :: xs, i + 1, j, x, h, hj => by
    rw [List.getElem?_cons_succ] at h
    have e : (i + 1) * sz + j = sz + (i * sz + j) := by rw [Nat.succ_mul]; omega
    rw [List.flatMap_cons, List.getElem?_append_right (by rw [hs]; omega), hs, e, Nat.add_sub_cancel_left]
    exact flat_get hs xs i j x h hj
theorem flat_set (hs : ∀ x, (cells x).length = sz) {v : Value} {x' : α} : ∀ (xs : List α) (i j : Nat) (x : α), xs[i]? = some x → j < sz → cells x' = (cells x).set j v → (xs.flatMap cells).set (i * sz + j) v = (xs.set i x').flatMap cells
  | [], i, j, x, h, hj, _ => by simp at h
  | y :: xs, 0, j, x, h, hj, he => by
    simp only [List.getElem?_cons_zero, Option.some.injEq] at h
    subst h
    rw [List.flatMap_cons, Nat.zero_mul, Nat.zero_add, List.set_append_left _ _ (by rw [hs]; exact hj), ← he]
    rfl
  | y :: xs, i + 1, j, x, h, hj, he => by
    rw [List.getElem?_cons_succ] at h
    have e : (i + 1) * sz + j = sz + (i * sz + j) := by rw [Nat.succ_mul]; omega
    rw [List.flatMap_cons, List.set_append_right _ _ (by rw [hs]; omega), hs, e, Nat.add_sub_cancel_left, flat_set hs xs i j x h hj he]
    rfl
/-- element i of a row that is read -/
theorem idxC {w : World} {A : Option Addr} {n c : Nat} {xs : List α} {i : Nat} {x : α} {K : Nat → Nat → Prop} (hs : ∀ x, (cells x).length = sz) (h : Rd w (.slice A n c) sz n (xs.flatMap cells)) (hx : xs[i]? = some x) (hn : i < n)
    (k : ∀ b off, (∀ (j : Nat) (v : Value), (cells x)[j]? = some v → w.cell? ⟨b, off + (i : Int).toNat * sz + j, none⟩ = some v) → K b off) : IdxS A n (i : Int) K :=
  idxR h (by omega) (by omega) fun b off hA hc => k b off fun j v hj => by
    have hlt : j < sz := by rw [← hs x]; exact (List.getElem?_eq_some_iff.1 hj).1
    rw [hc j hlt, show (i : Int).toNat = i by omega, flat_get hs xs i j x hx hlt, hj]
theorem idxCI {w : World} {A : Option Addr} {n c : Nat} {xs : List α} {i : Int} {x : α} {K : Nat → Nat → Prop} (k0 : Nat) (hi : i = (k0 : Int)) (hs : ∀ x, (cells x).length = sz) (h : Rd w (.slice A n c) sz n (xs.flatMap cells)) (hx : xs[k0]? = some x) (hn : k0 < n)
    (k : ∀ b off, (∀ (j : Nat) (v : Value), (cells x)[j]? = some v → w.cell? ⟨b, off + i.toNat * sz + j, none⟩ = some v) → K b off) : IdxS A n i K := by
  subst hi; exact idxC hs h hx hn k
end
section
variable {α : Type} {cells : α → List Value} {sz : Nat}
theorem made_flat (hs : ∀ x, (cells x).length = sz) (hsz : 0 < sz) (g : α) (n : Nat) : (madeCells (cells g).toArray (n * sz)).toList = (List.replicate n g).flatMap cells := by
  have hl : ((List.replicate n g).flatMap cells).length = n * sz := by rw [flat_len hs, List.length_replicate]
  apply List.ext_getElem?
  intro q
  by_cases h : q < n * sz
  · have hi : q / sz < n := Nat.div_lt_of_lt_mul (by rw [Nat.mul_comm]; exact h)
    have hj : q % sz < sz := Nat.mod_lt _ hsz
    have e : q = q / sz * sz + q % sz := by rw [Nat.mul_comm]; exact (Nat.div_add_mod q sz).symm
    have hg := flat_get hs (List.replicate n g) (q / sz) (q % sz) g (by rw [List.getElem?_replicate, if_pos hi]) hj
    rw [← e] at hg
    rw [hg, List.getElem?_eq_getElem (by simpa [madeCells] using h)]
    have hj2 : q % (cells g).length < (cells g).length := by rw [hs]; exact hj
    simp only [madeCells, Array.getElem_toList, Array.getElem_map, Array.getElem_range, List.size_toArray]
    rw [getElem!_pos _ _ (by simpa using hj2), List.getElem?_eq_getElem (by rw [hs]; exact hj)]
    simp only [List.getElem_toArray, hs]
  · rw [List.getElem?_eq_none (by simp [madeCells]; omega), List.getElem?_eq_none (by omega)]
theorem mkR {P : Program} {B : Nat} {W0 w : World} {L : List It} {t e : TypeId} {z : Value} {bytes n : Nat} {K : Value → World → Prop} (hs : ∀ x, (cells x).length = sz) (hsz : 0 < sz) (g : α) (ht : P.underlying t = some (.slice e))
    (hi : (P.info? e).map (fun i => (i.zero, i.size, i.bytes)) = some (some z, sz, bytes)) (hz : z.cells = (cells g).toArray) (hb : bytes ≤ 1024) (H : St B W0 w L) (hn : n ≤ 4294967296)
    (k : ∀ A c w', St B W0 w' (.row (.slice A n c) e sz n ((List.replicate n g).flatMap cells) :: L) → K (.slice A n c) w') : RunS P (Instr.makeSlice t (.int .i64 n) (.int .i64 n)) w K := by
  obtain ⟨i0, hi, hz0, hz1, hz2⟩ := infoOf hi
  have hr := run_make (P := P) w t e i0 _ ht hi hz0 .i64 .i64 n n (by omega) (by omega) (by rw [hz2]; have : bytes * n ≤ 1024 * 4294967296 := Nat.mul_le_mul hb hn; omega) (by omega)
  refine ⟨_, _, hr, ?_⟩
  rw [hz1, hz]
  simp only [Int.toNat_natCast]
  have hl : ((List.replicate n g).flatMap cells).length = n * sz := by rw [flat_len hs, List.length_replicate]
  have hm : madeCells (cells g).toArray (n * sz) = ((List.replicate n g).flatMap cells).toArray := by
    apply Array.ext'; rw [made_flat hs hsz g n]
  rw [hm]
  exact k _ _ _ (newRow H (own_newR hl (by omega)) (alloc_below _ _))
end
section
variable {B : Nat} {W0 w : World} {L : List It}
theorem St.enterRo (W : World) (M : List It) (hM : M.all (fun it => !it.isOwn) = true) (h : ∀ it ∈ M, it.on W W.heap.size) : St W.heap.size W W M := by
  have hno : ∀ (i : Nat) (a : It), M[i]? = some a → a.own = Option.none := fun i a ha => by
    have := List.all_eq_true.1 hM a (List.mem_of_getElem? ha)
    cases a <;> first | rfl | simp [It.isOwn] at this
  exact ⟨Below.refl _ _, Nat.le_refl _, fun i it hi => h it (List.mem_of_getElem? hi), fun i j a b _ ha hb => ⟨fun g hg => (by rw [hno i a ha] at hg; cases hg), fun g hg => (by rw [hno j b hb] at hg; cases hg)⟩⟩
/-- what a call owns comes behind what was there -/
theorem St.joinL {M : List It} {w' : World} (H : St B W0 w L) (H2 : St w.heap.size w w' M) (hM : M.all It.isOwn = true) : St B W0 w' (L ++ M) := (H.joinS H2 hM).perm List.perm_append_comm
theorem St.mem (H : St B W0 w L) {it : It} (hm : it ∈ L) : it.on w B := by
  obtain ⟨i, hi, he⟩ := List.getElem_of_mem hm
  exact H.on i it (by rw [List.getElem?_eq_getElem hi, he])
theorem St.rdm (H : St B W0 w L) {it : It} (hm : it ∈ L) {v : Value} {sz n : Nat} {cs : List Value} (h : it.reads = some (v, sz, n, cs)) : Rd w v sz n cs := by
  have ho := H.mem hm
  cases it <;> simp only [It.reads, Option.some.injEq, Prod.mk.injEq, reduceCtorEq] at h
  · obtain ⟨rfl, rfl, rfl, rfl⟩ := h; exact ho
  · obtain ⟨rfl, rfl, rfl, rfl⟩ := h; exact own_rd ho
/-- what is only read may be said once more -/
theorem St.addRo (H : St B W0 w L) (M : List It) (hM : M.all (fun it => !it.isOwn) = true) (h : ∀ it ∈ M, it ∈ L) : St B W0 w (M ++ L) := by
  refine H.ofPw ?_ ?_
  · rw [List.pairwise_append]
    have hno : ∀ a ∈ M, a.own = Option.none := fun a ha => by
      have := List.all_eq_true.1 hM a ha
      cases a <;> first | rfl | simp [It.isOwn] at this
    refine ⟨?_, H.pw, ?_⟩
    · exact List.Pairwise.imp_of_mem (R := fun _ _ => True) (fun {a b} ha hb _ => ⟨fun g hg => (by rw [hno a ha] at hg; cases hg), fun g hg => (by rw [hno b hb] at hg; cases hg)⟩) (List.pairwise_of_forall fun _ _ => trivial)
    · intro a ha b hb
      refine ⟨fun g hg => (by rw [hno a ha] at hg; cases hg), fun g hg e => ?_⟩
      obtain ⟨i, hi, hie⟩ := List.getElem_of_mem hb
      obtain ⟨j, hj, hje⟩ := List.getElem_of_mem (h a ha)
      by_cases hij : i = j
      · subst hij
        rw [hie] at hje; subst hje
        rw [hno _ ha] at hg; cases hg
      · exact (H.apart i j b a hij (by rw [List.getElem?_eq_getElem hi, hie]) (by rw [List.getElem?_eq_getElem hj, hje])).1 g hg e
  · intro it hit
    rcases List.mem_append.1 hit with q | q
    · exact h it q
    · exact q
end
end Go.Proofs.YtjdgcgmhbhfpkaaDoorE
/- Items picked out of the heap's list by counting. No condition of the laws stands here. -/
namespace Go.Proofs.YtjdgcgmhbhfpkaaDoorE
open Go Go.RowKit
set_option linter.unusedVariables false
set_option maxRecDepth 100000

open Classical in
noncomputable def hit1 {α : Type} (b a : α) : Nat := if b = a then 1 else 0
noncomputable def cntL {α : Type} (a : α) : List α → Nat
  | [] => 0
  | b :: l => hit1 b a + cntL a l
theorem cntL_append {α : Type} (a : α) (l m : List α) : cntL a (l ++ m) = cntL a l + cntL a m := by
  induction l with
  | nil => simp [cntL]
  | cons b l ih => rw [List.cons_append, cntL, cntL, ih, Nat.add_assoc]
theorem cntL_pos {α : Type} {a : α} : ∀ {l : List α}, 0 < cntL a l → ∃ r, l.Perm (a :: r) ∧ ∀ b, cntL b l = cntL b (a :: r)
  | [], h => by simp [cntL] at h
  | b :: l, h => by
    by_cases e : b = a
    · subst e; exact ⟨l, List.Perm.refl _, fun _ => rfl⟩
    · rw [cntL, hit1, if_neg e, Nat.zero_add] at h
      obtain ⟨r, hr, hc⟩ := cntL_pos h
      refine ⟨b :: r, (List.Perm.cons b hr).trans (List.Perm.swap _ _ _), fun x => ?_⟩
      rw [cntL, hc x, cntL, cntL, cntL]; omega
theorem sub_of_cnt {α : Type} : ∀ {m l : List α}, (∀ a, cntL a m ≤ cntL a l) → ∃ r, l.Perm (m ++ r)
  | [], l, _ => ⟨l, List.Perm.refl _⟩
  | a :: m, l, h => by
    have h1 : 0 < cntL a l := Nat.lt_of_lt_of_le (by rw [cntL, hit1, if_pos rfl]; omega) (h a)
    obtain ⟨r, hr, hc⟩ := cntL_pos h1
    obtain ⟨q, hq⟩ := sub_of_cnt (m := m) (l := r) fun b => by
      have h2 := h b
      rw [hc b, cntL, cntL] at h2; omega
    exact ⟨q, hr.trans (List.Perm.cons a hq)⟩
theorem St.sel {B : Nat} {W0 w : World} {L M : List It} (H : St B W0 w L) (h : ∀ a, cntL a M ≤ cntL a L) : St B W0 w M := by
  obtain ⟨r, hr⟩ := sub_of_cnt h
  exact (H.perm hr).sublist (List.sublist_append_left _ _)
theorem selTest (a b c : It) (X Y : List It) : ∀ q, cntL q (b :: Y ++ (a :: X)) ≤ cntL q (a :: b :: (X ++ (c :: Y))) := fun q => by simp only [cntL_append, cntL, List.cons_append]; omega
end Go.Proofs.YtjdgcgmhbhfpkaaDoorE
