/- The reference's l2flat. -/
import Derived.Test.YtfhpgfbakimmhaaTDocS4
namespace Go.Proofs.YtfhpgfbakimmhaaE
open Go Go.RowKit
set_option linter.unusedVariables false
set_option linter.unusedSimpArgs false
set_option maxRecDepth 100000
set_option maxHeartbeats 8000000

/-- what may be read as long as what stands in L stands -/
def KeepL (B : Nat) (W0 : World) (L : List It) (R : World → Prop) : Prop := ∀ (w : World) (M : List It), St B W0 w M → (∀ it ∈ L, it ∈ M) → R w
def FlatR (B : Nat) (W0 : World) (L : List It) (acc : List Int) (r : Option (List Int)) (e : Ending) (w' : World) : Prop :=
  match r with
  | some t => ∃ A' c', e = .returned (.tuple #[.slice A' (acc ++ t).length c', .bool true]) ∧ St B W0 w' (.rowB (.slice A' (acc ++ t).length c') (acc ++ t) :: L)
  | none => e = .returned (.tuple #[.slice none 0 0, .bool false]) ∧ St B W0 w' L
theorem FlatR.nil {B : Nat} {W0 w : World} {L : List It} {acc : List Int} {Ao : Option Addr} {co : Nat} (H : St B W0 w (.rowB (.slice Ao acc.length co) acc :: L)) : FlatR B W0 L acc (some []) (.returned (.tuple #[.slice Ao acc.length co, .bool true])) w := ⟨Ao, co, by rw [List.append_nil], by rw [List.append_nil]; exact H⟩
def flatStep (p : PieceP) (x y : Option (List Int)) : Option (List Int) :=
  if p.kind = 0 ∨ p.kind = 3 then some [] else if p.kind = 1 then some p.text else if p.kind = 2 then some [32] else if p.kind = 4 ∨ p.kind = 5 then none
  else if p.kind = 6 then x.bind fun a => y.map fun b => a ++ b else y
abbrev FlatCall (v s : Value) (to : Int) (T : Nat) (B : Nat) (W0 : World) (L : List It) (r : Option (List Int)) : Prop :=
  ∀ (acc : List Int) (Ao : Option Addr) (co : Nat) (w : World), acc.length + T ≤ 4294967296 → St B W0 w (.rowB (.slice Ao acc.length co) acc :: L) → ∀ t : Int, t = to → Calls Try.prog 91 #[v, s, .int .i64 t, .slice Ao acc.length co] w (FlatR B W0 L acc r)
theorem ok_l2flat : callOK Try.prog 91 = true := by kernel_rfl
theorem l2flat_step {fs : List PieceG} {A As : Option Addr} {n c cs to T : Nat} {f : PieceG} {x y : Option (List Int)} {B : Nat} {W0 : World} {L : List It} (hl : n ≤ 4294967296) (hf : fs[to]? = some f) (ht : f.text.length ≤ 4294967295) (hT : f.text.length + 1 ≤ T)
    (hx : KeepL B W0 L fun w => RdPiece w (.slice A n c) n fs) (hst : KeepL B W0 L fun w => RdSt w As n cs (fs.map PieceG.p)) (hK : 0 ≤ f.kind ∧ f.kind ≤ 9) (ha : ∀ t, x = some t → f.kind = 6 → ∃ T2 : Nat, t.length + T2 ≤ T ∧ FlatCall (.slice A n c) (.slice As n cs) to T2 B W0 L y)
    (hy : 6 ≤ f.kind → f.kind ≠ 6 → FlatCall (.slice A n c) (.slice As n cs) to T B W0 L y)
    (hxx : f.kind = 6 → 0 < to ∧ FlatCall (.slice A n c) (.slice As n cs) (startM (fs.map PieceG.p) (to - 1)) T B W0 L x) :
    FlatCall (.slice A n c) (.slice As n cs) (to + 1 : Nat) T B W0 L (flatStep f.p x y) := by
  intro acc Ao co w hacc H t0 e0
  subst e0
  have hx0 := hx _ _ H (fun it h => by simp [h])
  have hnl := hx0.len
  have hto := (List.getElem?_eq_some_iff.1 hf).1
  have hk := (hx0.kids f (List.mem_of_getElem? hf))
  obtain ⟨A0, c0, e0⟩ := PieceG.shape hk
  obtain ⟨textV, kind, text, nn⟩ := f
  dsimp only at *
  subst e0
  show Calls Try.prog 91 #[.slice A n c, .slice As n cs, .int .i64 (to + 1 : Nat), .slice Ao acc.length co] w (FlatR B W0 L acc (flatStep ⟨kind, text, nn⟩ x y))
  obtain ⟨r, hr⟩ : ∃ r, flatStep ⟨kind, text, nn⟩ x y = r := ⟨_, rfl⟩
  rw [hr]
  unfold flatStep at hr
  simp only at hr
  refine calls_of_vcV (args := [.slice A n c, .slice As n cs, .int .i64 (to + 1 : Nat), .slice Ao acc.length co]) Try.func91 rfl (by kernel_rfl) (Nat.le_of_ble_eq_true rfl) ?_
  refine ar64 (by omega) (by omega) ?_
  refine idxCI (cells := PieceG.cells) to (by omega) PieceG.cells_len hx0.row hf (by omega) fun b off hc => ?_
  refine loadS (v := .int .i64 kind) (hc 0 _ rfl) ?_
  refine loadS (v := .slice A0 text.length c0) (hc 1 _ rfl) ?_
  refine loadS (v := .int .i64 nn) (hc 2 _ rfl) ?_
  refine newR (o := .cells #[.int .i64 0, .slice none 0 0, .int .i64 0] _) H fun g0 w H => ?_
  refine storeO H 0 rfl rfl rfl fun w H => ?_
  refine storeO H 0 rfl rfl rfl fun w H => ?_
  refine storeO H 0 rfl rfl rfl fun w H => ?_
  refine RegV.mk ?_
  refine loadO H 0 rfl rfl ?_
  refine gF (fun c6 => ?_) (fun c6 => ?_)
  · refine loadO H 0 rfl rfl ?_
    refine ifB (fun c8 => ?_) (fun c8 => ?_)
    · rw [if_pos (.inr c8)] at hr
      subst hr
      exact FlatR.nil H.tl
    · refine loadO H 0 rfl rfl ?_
      refine ifB (fun c10 => ?_) (fun c10 => ?_)
      · refine loadO H 0 rfl rfl ?_
        rw [if_neg (by omega), if_pos c10] at hr
        subst hr
        have H1 : St B W0 w (.obj g0 (.cells #[.int .i64 kind, .slice A0 text.length c0, .int .i64 nn] 96) :: .rowB (.slice Ao acc.length co) acc :: L) := H
        have hx1 := hx _ _ H1 (fun it h => by simp [h])
        have hk1 : RdB w (.slice A0 text.length c0) text := hx1.kids _ (List.mem_of_getElem? hf)
        refine appBS (xs := acc) (ys := text) H1 1 rfl hk1 (by omega) fun A6 c6 w H => ?_
        exact ⟨A6, c6, rfl, H.tl⟩
      · refine loadO H 0 rfl rfl ?_
        refine ifB (fun c13 => ?_) (fun c13 => ?_)
        · refine litBS (xs := [32]) H (by simp) (by kernel_rfl) fun A14 k14 w H => ?_
          refine appBS H 2 rfl (H.rd 0 rfl) (by first | omega | (simp; omega)) fun A15 k15 w H => ?_
          rw [if_neg (by omega), if_neg c10, if_pos c13] at hr
          subst hr
          exact ⟨A15, k15, rfl, H.tl.tl⟩
        · refine RegV.mk ?_
          refine loadO H 0 rfl rfl ?_
          refine gF (fun c18 => ?_) (fun c18 => ?_)
          · refine loadO H 0 rfl rfl ?_
            refine ifB (fun c20 => ?_) (fun c20 => ?_)
            · rw [if_neg (by omega), if_neg c10, if_neg c13, if_pos (.inr c20)] at hr
              subst hr
              exact And.intro rfl H.tl.tl
            · rw [if_neg (by omega), if_neg c10, if_neg c13, if_neg (by omega)] at hr
              have H1 : St B W0 w (.obj g0 (.cells #[.int .i64 kind, .slice A0 text.length c0, .int .i64 nn] 96) :: .rowB (.slice Ao acc.length co) acc :: L) := H
              have H := H1
              have hst1 := hst _ _ H1 (fun it h => by simp [h])
              refine JoinV.mk ?_
              refine loadO H 0 rfl rfl ?_
              refine ifB (fun c22 => ?_) (fun c22 => ?_)
              · rw [if_pos c22] at hr
                obtain ⟨hp, gx⟩ := hxx c22
                refine ar64 (by omega) (by omega) ?_
                refine idxI hst1 (by omega) (by omega) fun b off hc => ?_
                refine loadS hc ?_
                refine CallS.mk ok_l2flat ((gx acc Ao co _ hacc H.tl _ (by rw [show (((to + 1 : Nat) : Int) - 2).toNat = to - 1 by omega]; exact startsL_get (by omega))).mono ?_)
                rintro e2 w2 hR
                cases hxe : x with
                | none =>
                  rw [hxe] at hR
                  obtain ⟨rfl, H⟩ := hR
                  rw [hxe] at hr
                  have hr : none = r := hr
                  subst hr
                  refine ifNot ?_
                  refine ifF ?_
                  exact And.intro rfl H
                | some a =>
                  rw [hxe] at hR
                  obtain ⟨A2, c2, rfl, H⟩ := hR
                  rw [hxe] at hr
                  obtain ⟨T2, hT2, gy⟩ := ha a hxe c22
                  refine ifNot ?_
                  refine ifT ?_
                  refine ar64 (by omega) (by omega) ?_
                  refine CallS.mk ok_l2flat ((gy (acc ++ a) A2 c2 _ (by rw [List.length_append]; omega) H _ (by omega)).mono ?_)
                  rintro e3 w3 hR
                  cases hye : y with
                  | none =>
                    rw [hye] at hR
                    obtain ⟨rfl, H⟩ := hR
                    rw [hye] at hr
                    have hr : none = r := hr
                    subst hr
                    exact And.intro rfl H
                  | some b2 =>
                    rw [hye] at hR
                    obtain ⟨A3, c3, rfl, H⟩ := hR
                    rw [hye] at hr
                    have hr : some (a ++ b2) = r := hr
                    subst hr
                    have q : FlatR B W0 L acc (some (a ++ b2)) (.returned (.tuple #[.slice A3 (acc ++ a ++ b2).length c3, .bool true])) w3 := ⟨A3, c3, by rw [List.append_assoc], by rw [← List.append_assoc]; exact H⟩
                    exact q
              · rw [if_neg c22] at hr
                subst hr
                refine ar64 (by omega) (by omega) ?_
                refine CallS.mk ok_l2flat ((hy (by omega) c22 acc Ao co _ hacc H.tl _ (by omega)).mono ?_)
                rintro e3 w3 hR
                cases hye : y with
                | none =>
                  rw [hye] at hR
                  obtain ⟨rfl, H⟩ := hR
                  exact And.intro rfl H
                | some b2 =>
                  rw [hye] at hR
                  obtain ⟨A3, c3, rfl, H⟩ := hR
                  exact ⟨A3, c3, rfl, H⟩
          · refine ifT ?_
            rw [if_neg (by omega), if_neg c10, if_neg c13, if_pos (.inl c18)] at hr
            subst hr
            exact And.intro rfl H.tl.tl
  · refine ifT ?_
    rw [if_pos (.inl c6)] at hr
    subst hr
    exact FlatR.nil H.tl
theorem FlatCall.more {v s : Value} {to : Int} {T T' B : Nat} {W0 : World} {L : List It} {r : Option (List Int)} (h : FlatCall v s to T' B W0 L r) (hT : T' ≤ T) : FlatCall v s to T B W0 L r := fun acc Ao co w ha H t ht => h acc Ao co w (by omega) H t ht
theorem flatLeaf {p : PieceP} (hp : OkPiece p) (ha : arK p.kind = 0) (x y : Option (List Int)) : flatStep p x y = flatD (leafD p) := by
  have h0 := hp.kind
  have h6 : p.kind ≠ 6 ∧ p.kind ≠ 7 ∧ p.kind ≠ 8 ∧ p.kind ≠ 9 := by
    refine ⟨?_, ?_, ?_, ?_⟩ <;> (intro e; rw [e] at ha; exact absurd ha (by decide))
  unfold flatStep leafD
  by_cases e0 : p.kind = 0
  · rw [if_pos (.inl e0), if_pos e0]; rfl
  · rw [if_neg e0]
    by_cases e1 : p.kind = 1
    · rw [if_neg (by omega), if_pos e1, if_pos e1]; rfl
    · rw [if_neg e1, if_neg e1]
      simp only [flatD]
      by_cases e3 : p.kind = 3
      · rw [if_pos (.inr e3), if_neg (by omega), if_pos e3]
      · rw [if_neg (by omega), if_neg e3]
        by_cases e2 : p.kind = 2
        · rw [if_pos e2, if_pos e2]
        · rw [if_neg e2, if_neg e2, if_pos (by omega)]
theorem spec_l2flat {fs : List PieceG} {A As : Option Addr} {n c cs B : Nat} {W0 : World} {L : List It} (hl : n ≤ 4294967296) (hok : ∀ p ∈ fs.map PieceG.p, OkPiece p)
    (hx : KeepL B W0 L fun w => RdPiece w (.slice A n c) n fs) (hst : KeepL B W0 L fun w => RdSt w As n cs (fs.map PieceG.p)) {d : DocT} {to : Nat} (hL : Loc (fs.map PieceG.p) d to) (hT : d.tl ≤ 140000) :
    FlatCall (.slice A n c) (.slice As n cs) to d.tl B W0 L (flatD d) := by
  have kd : ∀ {f : PieceG}, f ∈ fs → 0 ≤ f.kind ∧ f.kind ≤ 9 := fun hf => (hok _ (List.mem_map_of_mem hf)).kind
  have z : ∀ {f : PieceG}, f ∈ fs → f.kind ≠ 1 → f.text.length = 0 := fun hf h => (hok _ (List.mem_map_of_mem hf)).empty h
  induction hL with
  | @leaf to p h a =>
    obtain ⟨f, hf, rfl⟩ := piece_of h
    have hm := List.mem_of_getElem? hf
    have htl := (leaf_tl (hok _ (List.mem_map_of_mem hm))).1
    have htl : (leafD f.p).tl = f.text.length + 1 := htl
    have ak : arK f.kind = 0 := a
    have h6 : f.kind ≠ 6 ∧ f.kind ≠ 7 ∧ f.kind ≠ 8 ∧ f.kind ≠ 9 := by
      refine ⟨?_, ?_, ?_, ?_⟩ <;> (intro e; rw [e] at ak; exact absurd ak (by decide))
    have k := kd hm
    have := l2flat_step (x := none) (y := none) (T := (leafD f.p).tl) hl hf (by omega) (by omega) hx hst k (fun t e => by cases e) (fun q q2 => by omega) (fun q => by omega)
    rw [flatLeaf (hok _ (List.mem_map_of_mem hm)) a] at this
    exact this
  | @nest to p d h a k ih =>
    obtain ⟨f, hf, rfl⟩ := piece_of h
    have hm := List.mem_of_getElem? hf
    have a : f.kind = 7 := a
    have z := z hm (by omega)
    simp only [DocT.tl] at hT ⊢
    have := l2flat_step (x := none) (y := flatD d) (T := d.tl + 1) hl hf (by omega) (by omega) hx hst (kd hm) (fun t e => by cases e) (fun _ _ => (ih (by omega)).more (by omega)) (fun q => by omega)
    have e : flatStep f.p none (flatD d) = flatD d := by unfold flatStep; rw [show f.p.kind = 7 from a]; rfl
    rw [e] at this; exact this
  | @group to p d h a k ih =>
    obtain ⟨f, hf, rfl⟩ := piece_of h
    have hm := List.mem_of_getElem? hf
    have a : f.kind = 8 := a
    have z := z hm (by omega)
    simp only [DocT.tl] at hT ⊢
    have := l2flat_step (x := none) (y := flatD d) (T := d.tl + 1) hl hf (by omega) (by omega) hx hst (kd hm) (fun t e => by cases e) (fun _ _ => (ih (by omega)).more (by omega)) (fun q => by omega)
    have e : flatStep f.p none (flatD d) = flatD d := by unfold flatStep; rw [show f.p.kind = 8 from a]; rfl
    rw [e] at this; exact this
  | @cat to p l r h a kr hp kl ihr ihl =>
    obtain ⟨f, hf, rfl⟩ := piece_of h
    have hm := List.mem_of_getElem? hf
    have a : f.kind = 6 := a
    have z := z hm (by omega)
    simp only [DocT.tl] at hT ⊢
    have := l2flat_step (x := flatD l) (y := flatD r) (T := l.tl + r.tl + 1) hl hf (by omega) (by omega) hx hst (kd hm) (fun t e _ => ⟨r.tl, by have := flat_len_le e; omega, ihr (by omega)⟩) (fun _ q => absurd a q) (fun _ => ⟨hp, (ihl (by omega)).more (by omega)⟩)
    have e : flatStep f.p (flatD l) (flatD r) = flatD (.cat l r) := by unfold flatStep; rw [show f.p.kind = 6 from a]; rfl
    rw [e] at this; exact this
  | @alt to p l r h a kr hp kl ihr ihl =>
    obtain ⟨f, hf, rfl⟩ := piece_of h
    have hm := List.mem_of_getElem? hf
    have a : f.kind = 9 := a
    have z := z hm (by omega)
    simp only [DocT.tl] at hT ⊢
    have := l2flat_step (x := none) (y := flatD r) (T := l.tl + r.tl + 1) hl hf (by omega) (by omega) hx hst (kd hm) (fun t e => by cases e) (fun _ _ => (ihr (by omega)).more (by omega)) (fun q => by omega)
    have e : flatStep f.p none (flatD r) = flatD (.alt l r) := by unfold flatStep; rw [show f.p.kind = 9 from a]; rfl
    rw [e] at this; exact this
end Go.Proofs.YtfhpgfbakimmhaaE
