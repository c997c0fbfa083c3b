/- What the heap holds, as a list of items, and how the engine's steps change it. No condition of the laws stands here. -/
import Derived.Test.YtjdgcgmhbhfpkaaDoorEngV
import Derived.Test.YtjdgcgmhbhfpkaaDoorMem
import Derived.Laws.BitsLemmas
namespace Go.Proofs.YtjdgcgmhbhfpkaaDoorE
open Go Go.RowKit
set_option linter.unusedVariables false
set_option maxRecDepth 100000
set_option linter.unusedSimpArgs false

inductive It where
  | ro (v : Value) (sz n : Nat) (cs : List Value)
  | row (v : Value) (e : TypeId) (sz n : Nat) (cs : List Value)
  | obj (g : Nat) (o : Obj)
def It.on (w : World) (B : Nat) : It → Prop
  | .ro v sz n cs => Rd w v sz n cs
  | .row v e sz n cs => w.ownsRow B e sz v n cs
  | .obj g o => B ≤ g ∧ w.heap[g]? = some o
def It.own : It → Option Nat
  | .ro .. => none
  | .row v .. => v.ownBlock
  | .obj g _ => some g
def It.leans : It → Option Nat
  | .ro v _ _ cs => if cs = [] then none else v.ownBlock
  | i => i.own
def It.isOwn : It → Bool
  | .ro .. => false
  | _ => true
def It.reads : It → Option (Value × Nat × Nat × List Value)
  | .ro v sz n cs => some (v, sz, n, cs)
  | .row v _ sz n cs => some (v, sz, n, cs)
  | .obj .. => none
def Apart (a b : It) : Prop := (∀ g, a.own = some g → b.leans ≠ some g) ∧ (∀ g, b.own = some g → a.leans ≠ some g)
theorem Apart.symm {a b : It} (h : Apart a b) : Apart b a := ⟨h.2, h.1⟩
theorem leans_ro (v : Value) (sz n : Nat) (cs : List Value) : (It.ro v sz n cs).leans = if cs = [] then none else v.ownBlock := rfl
structure St (B : Nat) (W0 w : World) (L : List It) : Prop where
  below : Below B W0 w
  base : B ≤ W0.heap.size
  on : ∀ (i : Nat) (it : It), L[i]? = some it → It.on w B it
  apart : ∀ (i j : Nat) (a b : It), i ≠ j → L[i]? = some a → L[j]? = some b → Apart a b

section
variable {B : Nat} {W0 w w' : World} {L M : List It}
theorem St.size (H : St B W0 w L) : B ≤ w.heap.size := Nat.le_trans H.base H.below.size
theorem St.enter (w : World) : St w.heap.size w w [] := ⟨Below.refl _ _, Nat.le_refl _, fun i it h => by simp at h, fun i j a b _ h => by simp at h⟩
theorem own_is_leans (it : It) (g : Nat) (h : it.own = some g) : it.leans = some g := by cases it <;> first | (cases h; done) | exact h
theorem on_lt {it : It} (h : it.on w B) : ∀ g, it.leans = some g → g < w.heap.size := by
  intro g hg
  cases it with
  | ro v sz n cs =>
    obtain ⟨hl, A, c, rfl, hcap, hc⟩ := h
    rw [leans_ro] at hg
    split at hg
    · cases hg
    · rename_i hn
      have hpos : 0 < cs.length := List.length_pos_iff.2 hn
      rcases hc with hc | ⟨b, off, rfl, hc⟩
      · rw [hc, Nat.zero_mul] at hl; omega
      · cases hg
        have := hc 0 hpos
        rw [List.getElem?_eq_getElem hpos] at this
        exact cell_lt this
  | row v e sz n cs => exact (World.ownsRow.lt h g hg).2
  | obj b o => cases hg; exact (Array.getElem?_eq_some_iff.1 h.2).1
theorem own_ge {it : It} (h : it.on w B) : ∀ g, it.own = some g → B ≤ g := by
  intro g hg
  cases it with
  | ro v sz n cs => cases hg
  | row v e sz n cs => exact (World.ownsRow.lt h g hg).1
  | obj b o => cases hg; exact h.1
theorem rd_kept {v : Value} {sz n : Nat} {cs : List Value} {row : Option Nat} (h : Rd w v sz n cs) (hg : w.grownBy w' row) (hne : ∀ g, row = some g → (It.ro v sz n cs).leans ≠ some g) : Rd w' v sz n cs := by
  obtain ⟨hl, A, c, rfl, hcap, hc⟩ := h
  refine ⟨hl, A, c, rfl, hcap, ?_⟩
  rcases hc with hc | ⟨b, off, rfl, hc⟩
  · exact .inl hc
  · refine .inr ⟨b, off, rfl, fun j hj => ?_⟩
    have := hc j hj
    rw [List.getElem?_eq_getElem hj] at this ⊢
    refine hg.cell this ?_
    intro e
    refine hne b e.symm ?_
    rw [leans_ro, if_neg (by intro h; subst h; simp at hj)]
    rfl
theorem on_kept {it : It} {row : Option Nat} (h : it.on w B) (hg : w.grownBy w' row) (hne : ∀ g, row = some g → it.leans ≠ some g) : it.on w' B := by
  cases it with
  | ro v sz n cs => exact rd_kept h hg hne
  | row v e sz n cs =>
    refine World.ownsRow.kept h hg ?_
    cases hv : v.ownBlock with
    | none => exact .inl rfl
    | some g =>
      right
      intro e1
      exact hne g e1.symm hv
  | obj b o =>
    refine ⟨h.1, ?_⟩
    rw [hg.block b (Array.getElem?_eq_some_iff.1 h.2).1 (fun e1 => hne b e1.symm rfl)]
    exact h.2
theorem grown_below (h : Below w.heap.size w w') : w.grownBy w' none := ⟨h.os, h.tape, h.output, h.size, fun k hk _ => h.block k hk⟩
theorem St.ext (H : St B W0 w L) (h : Below w.heap.size w w') : St B W0 w' L :=
  ⟨H.below.trans (h.mono H.size), H.base, fun i it hi => on_kept (H.on i it hi) (grown_below h) (fun g e => by cases e), H.apart⟩
/-- one item turned; its block alone, and new ones -/
theorem St.turn (H : St B W0 w L) (i : Nat) {it it' : It} (hi : L[i]? = some it) (hg : w.grownBy w' it.own) (hon : it'.on w' B) (hl : ∀ g, it'.leans = some g → it.own = some g ∨ w.heap.size ≤ g) : St B W0 w' (L.set i it') := by
  have hlt : i < L.length := (List.getElem?_eq_some_iff.1 hi).1
  have key : ∀ (k : Nat) (b : It), k ≠ i → L[k]? = some b → Apart it' b := by
    intro k b hk hb
    have ha := H.apart i k it b (fun e => hk e.symm) hi hb
    refine ⟨fun g h1 h2 => ?_, fun g h1 h2 => ?_⟩
    · rcases hl g (own_is_leans _ _ h1) with h3 | h3
      · exact ha.1 g h3 h2
      · have := on_lt (H.on k b hb) g h2; omega
    · rcases hl g h2 with h3 | h3
      · exact ha.1 g h3 (own_is_leans _ _ h1)
      · have := on_lt (H.on k b hb) g (own_is_leans _ _ h1); omega
  refine ⟨H.below.grown hg H.size (fun g hk => own_ge (H.on i it hi) g hk), H.base, ?_, ?_⟩
  · intro k b hb
    rw [List.getElem?_set] at hb
    split at hb
    · cases hb; exact hon
    · rename_i hk
      exact on_kept (H.on k b hb) hg (fun g e1 => (H.apart i k it b hk hi hb).1 g e1)
  · intro k j a b hkj ha hb
    rw [List.getElem?_set] at ha hb
    split at ha
    · rename_i hk
      cases ha
      rw [if_neg (by omega)] at hb
      exact key j b (by omega) hb
    · split at hb
      · cases hb
        exact (key k a (by omega) ha).symm
      · exact H.apart k j a b hkj ha hb
/-- a new item, of blocks that were not there -/
theorem St.cons (H : St B W0 w L) {it : It} (h : Below w.heap.size w w') (hon : it.on w' B) (hl : ∀ g, it.leans = some g → w.heap.size ≤ g) : St B W0 w' (it :: L) := by
  have H' := H.ext h
  have key : ∀ (k : Nat) (b : It), L[k]? = some b → Apart it b := fun k b hb =>
    ⟨fun g h1 h2 => by have := on_lt (H.on k b hb) g h2; have := hl g (own_is_leans _ _ h1); omega,
     fun g h1 h2 => by have := on_lt (H.on k b hb) g (own_is_leans _ _ h1); have := hl g h2; omega⟩
  refine ⟨H'.below, H'.base, ?_, ?_⟩
  · intro k b hb
    cases k with
    | zero => simp at hb; subst hb; exact hon
    | succ k => exact H'.on k b (by simpa using hb)
  · intro k j a b hkj ha hb
    cases k with
    | zero =>
      simp at ha; subst ha
      cases j with
      | zero => omega
      | succ j => exact key j b (by simpa using hb)
    | succ k =>
      cases j with
      | zero => simp at hb; subst hb; exact (key k a (by simpa using ha)).symm
      | succ j => exact H'.apart k j a b (by omega) (by simpa using ha) (by simpa using hb)
/-- items that read alone -/
theorem St.ro (H : St B W0 w L) {v : Value} {sz n : Nat} {cs : List Value} (h : Rd w v sz n cs) (hl : ∀ (i : Nat) (it : It) (g : Nat), L[i]? = some it → it.own = some g → (It.ro v sz n cs).leans ≠ some g) : St B W0 w (.ro v sz n cs :: L) := by
  have key : ∀ (k : Nat) (b : It), L[k]? = some b → Apart (.ro v sz n cs) b := fun k b hb => ⟨fun g h1 => (by cases h1), fun g h1 => hl k b g hb h1⟩
  refine ⟨H.below, H.base, ?_, ?_⟩
  · intro k b hb
    cases k with
    | zero => simp at hb; subst hb; exact h
    | succ k => exact H.on k b (by simpa using hb)
  · intro k j a b hkj ha hb
    cases k with
    | zero =>
      simp at ha; subst ha
      cases j with
      | zero => omega
      | succ j => exact key j b (by simpa using hb)
    | succ k =>
      cases j with
      | zero => simp at hb; subst hb; exact (key k a (by simpa using ha)).symm
      | succ j => exact H.apart k j a b (by omega) (by simpa using ha) (by simpa using hb)
theorem St.ro0 (H : St B W0 w L) (hL : L.all (fun it => !it.isOwn) = true) {v : Value} {sz n : Nat} {cs : List Value} (h : Rd w v sz n cs) : St B W0 w (.ro v sz n cs :: L) := by
  refine H.ro h fun i it g hi hg => ?_
  have := List.all_eq_true.1 hL it (List.mem_of_getElem? hi)
  cases it <;> first | (cases hg; done) | (cases this; done)
theorem St.nil (H : St B W0 w L) {v : Value} {sz c : Nat} {A : Option Addr} : St B W0 w (.ro (.slice A 0 c) sz 0 [] :: L) :=
  H.ro ⟨by simp, A, c, rfl, Nat.zero_le _, .inl rfl⟩ fun i it g hi hg => by simp [It.leans]
theorem St.rowNil (H : St B W0 w L) {e : TypeId} {sz : Nat} : St B W0 w (.row (.slice none 0 0) e sz 0 [] :: L) :=
  H.cons (Below.refl _ _) (World.ownsRow_nil _ _ _ _) (fun g h => by cases h)
/-- a reading that leans on what another item leans on -/
theorem St.sub (H : St B W0 w L) (s : List Nat) (hs : s.Nodup) : St B W0 w (s.filterMap fun i => L[i]?) := by
  have key : ∀ (s : List Nat), s.Nodup → ∀ (k : Nat) (it : It), (s.filterMap fun i => L[i]?)[k]? = some it → ∃ i : Nat, i ∈ s ∧ L[i]? = some it := by
    intro s _ k it h
    have := List.mem_of_getElem? h
    obtain ⟨i, hi, hx⟩ := List.mem_filterMap.1 this
    exact ⟨i, hi, hx⟩
  have key2 : ∀ (s : List Nat), s.Nodup → ∀ (k j : Nat) (a b : It), k ≠ j → (s.filterMap fun i => L[i]?)[k]? = some a → (s.filterMap fun i => L[i]?)[j]? = some b → Apart a b := by
    intro s
    induction s with
    | nil => intro _ k j a b _ h; simp at h
    | cons x s ih =>
      intro hn k j a b hkj ha hb
      obtain ⟨hx, hn'⟩ := List.nodup_cons.1 hn
      rw [List.filterMap_cons] at ha hb
      cases hL : L[x]? with
      | none =>
        rw [hL] at ha hb
        exact ih hn' k j a b hkj ha hb
      | some y =>
        rw [hL] at ha hb
        simp only at ha hb
        cases k with
        | zero =>
          simp at ha; subst ha
          cases j with
          | zero => omega
          | succ j =>
            obtain ⟨i, hi, hix⟩ := key s hn' j b (by simpa using hb)
            exact H.apart x i _ _ (fun e => hx (e ▸ hi)) hL hix
        | succ k =>
          cases j with
          | zero =>
            simp at hb; subst hb
            obtain ⟨i, hi, hix⟩ := key s hn' k a (by simpa using ha)
            exact (H.apart x i _ _ (fun e => hx (e ▸ hi)) hL hix).symm
          | succ j => exact ih hn' k j a b (by omega) (by simpa using ha) (by simpa using hb)
  exact ⟨H.below, H.base, fun k it h => by obtain ⟨i, _, hi⟩ := key s hs k it h; exact H.on i it hi, key2 s hs⟩
theorem St.pw (H : St B W0 w L) : L.Pairwise Apart := by
  rw [List.pairwise_iff_getElem]
  intro i j hi hj hij
  exact H.apart i j _ _ (by omega) (List.getElem?_eq_getElem hi) (List.getElem?_eq_getElem hj)
theorem St.ofPw (H : St B W0 w L) (hq : M.Pairwise Apart) (hm : ∀ it ∈ M, it ∈ L) : St B W0 w M := by
  rw [List.pairwise_iff_getElem] at hq
  refine ⟨H.below, H.base, fun i it hi => ?_, fun i j a b hij ha hb => ?_⟩
  · obtain ⟨k, hk⟩ := List.getElem?_of_mem (hm it (List.mem_of_getElem? hi))
    exact H.on k it hk
  · obtain ⟨hi, rfl⟩ := List.getElem?_eq_some_iff.1 ha
    obtain ⟨hj, rfl⟩ := List.getElem?_eq_some_iff.1 hb
    rcases Nat.lt_or_gt_of_ne hij with h1 | h1
    · exact hq i j hi hj h1
    · exact (hq j i hj hi h1).symm
theorem St.perm (H : St B W0 w L) (h : L.Perm M) : St B W0 w M := H.ofPw ((h.pairwise_iff (fun h => Apart.symm h)).1 H.pw) fun it hi => h.mem_iff.2 hi
theorem St.sublist (H : St B W0 w L) (h : M.Sublist L) : St B W0 w M := H.ofPw (H.pw.sublist h) fun it hi => h.subset hi
theorem St.joinS (H : St B W0 w L) (H2 : St w.heap.size w w' M) (hM : M.all It.isOwn = true) : St B W0 w' (M ++ L) := by
  have H' := H.ext H2.below
  have cross : ∀ (k j : Nat) (a b : It), M[k]? = some a → L[j]? = some b → Apart a b := by
    intro k j a b ha hb
    have ho := List.all_eq_true.1 hM a (List.mem_of_getElem? ha)
    have hla : ∀ g, a.leans = some g → w.heap.size ≤ g := by
      intro g hg
      refine own_ge (H2.on k a ha) g ?_
      cases a <;> first | (cases ho; done) | exact hg
    exact ⟨fun g h1 h2 => by have := on_lt (H.on j b hb) g h2; have := hla g (own_is_leans _ _ h1); omega,
      fun g h1 h2 => by have := on_lt (H.on j b hb) g (own_is_leans _ _ h1); have := hla g h2; omega⟩
  refine ⟨H'.below, H'.base, ?_, ?_⟩
  · intro k b hb
    rw [List.getElem?_append] at hb
    split at hb
    · have ho := H2.on k b hb
      have hw := H.size
      cases b with
      | ro v sz n cs => exact ho
      | row v e sz n cs => exact own_mono ho hw
      | obj g o => exact ⟨Nat.le_trans hw ho.1, ho.2⟩
    · exact H'.on _ b hb
  · intro k j a b hkj ha hb
    rw [List.getElem?_append] at ha hb
    split at ha <;> split at hb
    · exact H2.apart k j a b hkj ha hb
    · exact cross _ _ _ _ ha hb
    · exact (cross _ _ _ _ hb ha).symm
    · exact H'.apart _ _ a b (by omega) ha hb
theorem St.rd (H : St B W0 w L) (i : Nat) {v : Value} {sz n : Nat} {cs : List Value} (h : (L[i]?).bind It.reads = some (v, sz, n, cs)) : Rd w v sz n cs := by
  obtain ⟨it, hi, hr⟩ := Option.bind_eq_some_iff.1 h
  have ho := H.on i it hi
  cases it with
  | ro => cases hr; exact ho
  | row => cases hr; exact own_rd ho
  | obj => cases hr
theorem St.own (H : St B W0 w L) (i : Nat) {v : Value} {e : TypeId} {sz n : Nat} {cs : List Value} (h : L[i]? = some (.row v e sz n cs)) : w.ownsRow B e sz v n cs := H.on i _ h
theorem St.obj (H : St B W0 w L) (i : Nat) {g : Nat} {o : Obj} (h : L[i]? = some (.obj g o)) : B ≤ g ∧ w.heap[g]? = some o := H.on i _ h
/-- a part of a reading, beside it -/
theorem St.part (H : St B W0 w L) (i : Nat) {v v' : Value} {sz n n' : Nat} {cs cs' : List Value} (hi : L[i]? = some (.ro v sz n cs)) (h : Rd w v' sz n' cs') (hl : ∀ g, (It.ro v' sz n' cs').leans = some g → (It.ro v sz n cs).leans = some g) : St B W0 w (.ro v' sz n' cs' :: L) := by
  refine H.ro h fun k it g hk hg => ?_
  intro e
  by_cases hik : k = i
  · subst hik
    rw [hi] at hk; cases hk; cases hg
  · exact (H.apart k i it _ hik hk hi).1 g hg (hl g e)
end

/-! ## steps -/
section
variable {P : Program} {B : Nat} {W0 w : World} {L : List It}
theorem drawR {K : World → Prop} (H : St B W0 w L) (k : ∀ w', St B W0 w' L → K w') : DrawS w K := ⟨fun w' hs => k w' (H.ext (hs.below _))⟩
theorem askR {q : Question} {K : Nat → World → Prop} (H : St B W0 w L) (k : ∀ n w', St B W0 w' L → K n w') : AskS w q K := ⟨fun n w' hs => k n w' (H.ext (hs.below _))⟩
theorem newR {o : Obj} {K : Nat → World → Prop} (H : St B W0 w L) (k : ∀ g w', St B W0 w' (.obj g o :: L) → K g w') : NewS w o K :=
  ⟨fun b w' hb hw => k b w' (by subst hb hw; exact H.cons ((Below.refl _ _).alloc (Nat.le_refl _) o) ⟨H.size, heap_alloc_new w o⟩ (fun g hg => by cases hg; exact Nat.le_refl _))⟩
theorem idxR {A : Option Addr} {n c sz : Nat} {i : Int} {cs : List Value} {K : Nat → Nat → Prop} (h : Rd w (.slice A n c) sz n cs) (h0 : 0 ≤ i) (h1 : i < n) (k : ∀ b off, A = some ⟨b, off, none⟩ → (∀ j, j < sz → w.cell? ⟨b, off + i.toNat * sz + j, none⟩ = cs[i.toNat * sz + j]?) → K b off) : IdxS A n i K := by
  obtain ⟨hl, A', c', hv, hcap, hc⟩ := h
  cases hv
  rcases hc with hc | ⟨b, off, rfl, hc⟩
  · omega
  · refine ⟨h0, h1, b, off, rfl, k b off rfl fun j hj => ?_⟩
    have h2 : i.toNat * sz + j < n * sz := by
      have h3 : i.toNat + 1 ≤ n := by omega
      have := Nat.mul_le_mul_right sz h3
      rw [Nat.add_mul] at this; omega
    rw [Nat.add_assoc]; exact hc _ (by omega)
theorem idxN {A : Option Addr} {n c : Nat} {i : Nat} {k : IntKind} {xs : List Int} {K : Nat → Nat → Prop} (h : Rd w (.slice A n c) 1 n (xs.map (.int k))) (h1 : (i : Int) < n) (q : ∀ b off, w.cell? ⟨b, off + (i : Int).toNat * 1, none⟩ = some (.int k (xs.getD i 0)) → K b off) : IdxS A n (i : Int) K :=
  idxR h (by omega) h1 fun b off hA hc => q b off (by
    have := hc 0 (by omega)
    have hl := h.len
    rw [List.length_map] at hl
    simpa [List.getElem?_map, List.getElem?_eq_getElem (show i < xs.length by omega), List.getD_eq_getElem?_getD] using this)
theorem idxI {A : Option Addr} {n c : Nat} {i : Int} {k : IntKind} {xs : List Int} {K : Nat → Nat → Prop} (h : Rd w (.slice A n c) 1 n (xs.map (.int k))) (h0 : 0 ≤ i) (h1 : i < n) (q : ∀ b off, w.cell? ⟨b, off + i.toNat * 1, none⟩ = some (.int k (xs.getD i.toNat 0)) → K b off) : IdxS A n i K :=
  idxR h h0 h1 fun b off hA hc => q b off (by
    have := hc 0 (by omega)
    have hl := h.len
    rw [List.length_map] at hl
    simpa [List.getElem?_map, List.getElem?_eq_getElem (show i.toNat < xs.length by omega), List.getD_eq_getElem?_getD] using this)
theorem loadO {K : Value → Prop} (H : St B W0 w L) (i : Nat) {g off : Nat} {cs : List Value} {t : TypeId} {z : Nat × Nat} {v : Value} (hi : L[i]? = some (.obj g (.cells cs.toArray t z))) (hv : cs[off]? = some v) (k : K v) : LoadS w ⟨g, off, none⟩ K :=
  ⟨v, by
    have := (H.obj i hi).2
    simp only [World.cell?, this, Option.isSome_none, Bool.false_eq_true, if_false]
    simpa using hv, k⟩
theorem storeO {v : Value} {K : World → Prop} (H : St B W0 w L) (i : Nat) {g off : Nat} {cs : List Value} {t : TypeId} (hi : L[i]? = some (.obj g (.cells cs.toArray t (0, 0)))) (ho : Nat.blt off cs.length = true) (h1 : v.oneCell' = true) (k : ∀ w', St B W0 w' (L.set i (.obj g (.cells (cs.set off v).toArray t (0, 0)))) → K w') : StoreS w ⟨g, off, none⟩ v K := by
  have ho : off < cs.length := by simpa using ho
  have hg := (H.obj i hi).2
  have hlt : g < w.heap.size := (Array.getElem?_eq_some_iff.1 hg).1
  refine StoreS.mk ⟨⟨cs[off], ?_⟩, ?_, ⟨(fun x e => by subst e; cases h1), (fun x e => by subst e; cases h1)⟩, k _ ?_⟩
  · simp [World.cell?, hg, ho]
  · simp [World.frozen?, hg]
  · refine H.turn i hi ⟨rfl, rfl, rfl, by simp [World.setCell], fun k hk hne => Below.heap_setCell _ _ _ _ (fun e => hne (by subst e; rfl))⟩ ⟨(H.obj i hi).1, ?_⟩ (fun g' hg' => .inl hg')
    simp only [World.setCell, Array.getElem?_modify, hg, if_true, Option.isSome_none, Bool.false_eq_true, if_false, Option.map_some]
    simp
theorem storeRow {v : Value} {K : World → Prop} (H : St B W0 w L) (i : Nat) {b : Nat} {e : TypeId} {n c j : Nat} {cs : List Value} (hi : L[i]? = some (.row (.slice (some ⟨b, 0, none⟩) n c) e 1 n cs)) (hj : j < n) (h1 : v.oneCell' = true) (k : ∀ w', St B W0 w' (L.set i (.row (.slice (some ⟨b, 0, none⟩) n c) e 1 n (cs.set j v))) → K w') : StoreS w ⟨b, 0 + j * 1, none⟩ v K := by
  obtain ⟨b', off', hA, hcell, hfr, hset⟩ := own_store (H.own i hi) hj
  cases hA
  refine StoreS.mk ⟨hcell, hfr, ⟨(fun x e => by subst e; cases h1), (fun x e => by subst e; cases h1)⟩, k _ ?_⟩
  obtain ⟨h2, h3⟩ := hset v
  exact H.turn i hi h3 h2 (fun g hg => .inl hg)
theorem callJ {f : FuncId} {args : List Value} {K : Value → World → Prop} {X : List PanicEntry → World → Prop} {Q : Value → List It → Prop} (H : St B W0 w L) (ok : callOK P f = true)
    (h : Calls P f args.toArray w fun e w' => ∃ v M, e = .returned v ∧ Q v M ∧ M.all It.isOwn = true ∧ St w.heap.size w w' M) (k : ∀ v w' M, Q v M → St B W0 w' (M ++ L) → K v w') : CallS P f args w K X :=
  CallS.mk ok (h.mono fun e w' ⟨v, M, he, q, hM, S⟩ => by subst he; exact k v w' M q (H.joinS S hM))
/-- a contract: what it gives, and what it owns -/
abbrev Gives (P : Program) (f : FuncId) (args : List Value) (w : World) (Q : Value → List It → Prop) : Prop :=
  Calls P f args.toArray w fun e w' => ∃ v M, e = .returned v ∧ Q v M ∧ M.all It.isOwn = true ∧ St w.heap.size w w' M
/-- a contract that gives a value alone -/
abbrev GivesV (P : Program) (f : FuncId) (args : List Value) (w : World) (u : Value) : Prop :=
  Calls P f args.toArray w fun e w' => ∃ v, e = .returned v ∧ v = u ∧ St w.heap.size w w' []
theorem callV {f : FuncId} {args : List Value} {K : Value → World → Prop} {X : List PanicEntry → World → Prop} {u : Value} (ok : callOK P f = true) (h : GivesV P f args w u) (H : St B W0 w L) (k : ∀ w', St B W0 w' L → K u w') : CallS P f args w K X :=
  CallS.mk ok (h.mono fun e w' ⟨v, he, hv, S⟩ => by subst he hv; exact k w' (H.joinS S rfl))
theorem callG {f : FuncId} {args : List Value} {K : Value → World → Prop} {X : List PanicEntry → World → Prop} {Q : Value → List It → Prop} (ok : callOK P f = true) (h : Gives P f args w Q) (H : St B W0 w L) (k : ∀ v w' M, Q v M → St B W0 w' (M ++ L) → K v w') : CallS P f args w K X := callJ H ok h k
end

theorem St.ofBelow {w w' : World} (h : Below w.heap.size w w') : St w.heap.size w w' [] := ⟨h, Nat.le_refl _, fun i it h => by simp at h, fun i j a b _ h => by simp at h⟩
theorem givesV_of {P : Program} {f : FuncId} {args : List Value} {w : World} {u : Value} (h : Calls P f args.toArray w fun e w' => ∃ v, e = .returned v ∧ v = u ∧ Below w.heap.size w w') : GivesV P f args w u :=
  h.mono fun e w' ⟨v, h1, h2, h3⟩ => ⟨v, h1, h2, St.ofBelow h3⟩
/-! ## numbers -/
theorem ar64 {x : Int} {K : Int → Prop} (h0 : -9223372036854775808 ≤ x) (h1 : x ≤ 9223372036854775807) (k : K x) : ArS .i64 x K := ⟨by rw [w64k x h0 h1]; exact k⟩
theorem ar32 {x : Int} {K : Int → Prop} (h0 : -2147483648 ≤ x) (h1 : x ≤ 2147483647) (k : K x) : ArS .i32 x K := ⟨by rw [w32k x h0 h1]; exact k⟩
theorem ar8 {x : Int} {K : Int → Prop} (h0 : 0 ≤ x) (h1 : x ≤ 255) (k : K x) : ArS .u8 x K := ⟨by
  have h : x % 256 = x := by omega
  rw [w8k, h]; exact k⟩
theorem arU8 {x : Int} {K : Int → Prop} (k : K (x % 256)) : ArS .u8 x K := ⟨by rw [w8k]; exact k⟩
theorem aru32 {x : Int} {K : Int → Prop} (h0 : 0 ≤ x) (h1 : x ≤ 4294967295) (k : K x) : ArS .u32 x K := ⟨by
  have h : x % 4294967296 = x := by omega
  rw [IntKind.wrap_u32, h]; exact k⟩
/-- a counter's step -/
theorem arN {x : Nat} {K : Int → Prop} (h1 : (x : Int) + 1 ≤ 9223372036854775807) (k : K ((x + 1 : Nat) : Int)) : ArS .i64 ((x : Int) + 1) K := ⟨by rw [w64k _ (by omega) (by omega)]; exact k⟩
theorem div64 {x y : Int} {K : Int → Prop} (h0 : 0 ≤ x) (h1 : x ≤ 9223372036854775807) (hy : 0 < y) (k : K (x / y)) : DivS .i64 x y K := ⟨by omega, by
  rw [Int.tdiv_eq_ediv_of_nonneg h0, w64k _ (Int.le_trans (by decide) (Int.ediv_nonneg h0 (by omega))) (Int.le_trans (Int.ediv_le_self _ h0) h1)]; exact k⟩
theorem rem0 {x y : Int} {K : Int → Prop} (h0 : 0 ≤ x) (hy : 0 < y) (k : K (x % y)) : RemS x y K := ⟨by omega, by rw [Int.tmod_eq_emod_of_nonneg h0]; exact k⟩
theorem bitR {op : BinOp} {k : IntKind} {x y z : Int} {K : Int → Prop} (h : bits op k x y = z) (q : K z) : BitS op k x y K := ⟨by rw [h]; exact q⟩
theorem and63S {x : Int} {K : Int → Prop} (h0 : 0 ≤ x) (h1 : x < 256) (q : K (x % 64)) : BitS .and .u8 x 63 K := bitR (u8_and63 x h0 h1) q
theorem and31S {x : Int} {K : Int → Prop} (h0 : 0 ≤ x) (h1 : x < 256) (q : K (x % 32)) : BitS .and .u8 x 31 K := bitR (u8_and31 x h0 h1) q
theorem and15S {x : Int} {K : Int → Prop} (h0 : 0 ≤ x) (h1 : x < 256) (q : K (x % 16)) : BitS .and .u8 x 15 K := bitR (u8_and15 x h0 h1) q
theorem and7S {x : Int} {K : Int → Prop} (h0 : 0 ≤ x) (h1 : x < 256) (q : K (x % 8)) : BitS .and .u8 x 7 K := bitR (u8_and7 x h0 h1) q
theorem wraps_i64 (n : Int) (h₀ : 0 ≤ n) (h₁ : n < 2 ^ 63) : IntKind.i64.wrap n = n := by rw [IntKind.wrap_i64]; omega
theorem and1023S {x : Int} {K : Int → Prop} (h0 : 0 ≤ x) (h1 : x < 9223372036854775808) (q : K (x % 1024)) : BitS .and .i64 x 1023 K := bitR (bits_mask .i64 63 (by decide) wraps_i64 10 (by decide) x h0 h1) q
theorem and15I {x : Int} {K : Int → Prop} (h0 : 0 ≤ x) (h1 : x < 9223372036854775808) (q : K (x % 16)) : BitS .and .i64 x 15 K := bitR (bits_mask .i64 63 (by decide) wraps_i64 4 (by decide) x h0 h1) q
theorem shrR {k : IntKind} {x y d : Int} {K : Int → Prop} (hd : (2 : Int) ^ (min y.toNat k.bits) = d) (hy : 0 ≤ y) (q : K (x / d)) : ShrS k x y K := ⟨hy, by
  have hp : (0 : Int) ≤ 2 ^ (min y.toNat k.bits) := Int.le_of_lt (Int.pow_pos (by decide))
  rw [Int.fdiv_eq_ediv_of_nonneg _ hp, hd]; exact q⟩
theorem shlR {k : IntKind} {x y d : Int} {K : Int → Prop} (hd : (2 : Int) ^ (min y.toNat k.bits) = d) (hy : 0 ≤ y) (q : ArS k (x * d) K) : ShlS k x y K := ⟨hy, by rw [hd]; exact q.all⟩
theorem ifNot {b : Bool} {X Y : Prop} (h : CondB b Y X) : CondB (!b) X Y := ⟨⟨fun e => h.all.2 (by simpa using e), fun e => h.all.1 (by simpa using e)⟩⟩
theorem gNot {b c : Bool} {X Y : Prop} (h : GuardB b (!c) X Y) : GuardB (!b) c X Y := ⟨⟨fun e => h.all.1 (by cases b <;> cases c <;> first | rfl | cases e), fun e => h.all.2 (by cases b <;> cases c <;> first | rfl | cases e)⟩⟩
theorem ifO {b : Bool} {X Y : Prop} (h : b = true → X) (k : b = false → Y) : CondB b X Y := ⟨⟨h, k⟩⟩
theorem gO {b want : Bool} {X Y : Prop} (h : b = want → X) (k : b = !want → Y) : GuardB b want X Y := ⟨⟨h, k⟩⟩
end Go.Proofs.YtjdgcgmhbhfpkaaDoorE
