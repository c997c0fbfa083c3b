/- Steps over rows of whatever elements. No condition of the laws stands here. -/
import Derived.Test.YtfhpgfbakimmhaaTRow
import Derived.Test.YtfhpgfbakimmhaaEngT
namespace Go.Proofs.YtfhpgfbakimmhaaE
open Go Go.RowKit
set_option linter.unusedVariables false
set_option maxRecDepth 100000
set_option maxHeartbeats 2000000

/-- append to an own row of whatever elements -/
theorem appRS {P : Program} {B : Nat} {W0 w : World} {L : List It} {t ty e : TypeId} {z : Value} {sz bytes n m : Nat} {v x : Value} {cs ds : List Value} {K : Value → World → Prop} (ht : P.underlying t = some (.slice e))
    (inf : (P.info? e).map (fun i => (i.zero, i.size, i.bytes)) = some (some z, sz, bytes)) (hzs : z.cells.size = sz) (hsz : 0 < sz) (hby : bytes ≤ 128) (H : St B W0 w L) (i : Nat) (hi : L[i]? = some (.row v e sz n cs)) (hx : Rd w x sz m ds) (h1 : ∀ u ∈ ds, u.oneCell' = true)
    (hm : n + m ≤ 1099511627776) (k : ∀ A c w', St B W0 w' (L.set i (.row (.slice A (n + m) c) e sz (n + m) (cs ++ ds))) → K (.slice A (n + m) c) w') : RunS P (Builtin.append_ #[t, t] ty #[v, x]) w K := by
  obtain ⟨i0, q1, q2, q3, q4⟩ := infoOf inf
  refine app_run ht q1 q2 q3 q4 hzs hsz (H.own i hi) hx h1 hm hby H.size fun v' w' ho hg hb => ?_
  have H' := app_turn H i hi ho hg hb
  obtain ⟨A, c, rfl⟩ := H'.mk1 i (get_set hi)
  exact k A c w' H'
theorem HeldW.step {w0 w1 w2 : World} (h : HeldW w0 w1) (hb : Below w1.heap.size w1 w2) : HeldW w0 w2 := ⟨fun k hk => by
  have h1 := h.block k hk
  have h2 : k < w1.heap.size := by
    rcases Nat.lt_or_ge k w1.heap.size with q | q
    · exact q
    · rw [Array.getElem?_eq_none q, Array.getElem?_eq_getElem hk] at h1; cases h1
  rw [hb.block k h2, h1]⟩
theorem callRowB {P : Program} {B : Nat} {W0 w : World} {L : List It} {f : FuncId} {args : List Value} {K : Value → World → Prop} {X : List PanicEntry → World → Prop} {e : TypeId} {sz n : Nat} {cs : List Value} (ok : callOK P f = true)
    (h : Calls P f args.toArray w fun e' w' => ∃ x, e' = .returned x ∧ w'.ownsRow w.heap.size e sz x n cs ∧ Below w.heap.size w w') (H : St B W0 w L) (k : ∀ A c w', Below w.heap.size w w' → St B W0 w' (.row (.slice A n c) e sz n cs :: L) → K (.slice A n c) w') : CallS P f args w K X :=
  CallS.mk ok (h.mono fun e' w' ⟨x, he, ho, hb⟩ => by
    subst he
    obtain ⟨A, c, rfl⟩ := own_val ho
    exact k A c w' hb (newRow H ho hb))
theorem litRB {P : Program} {B : Nat} {W0 w : World} {L : List It} {t e : TypeId} {m n sz : Nat} {parts : Array (Nat × Value)} {cs : List Value} {K : Value → World → Prop} (H : St B W0 w L) (hc : cs.length = n * sz) (hl : n ≤ 1099511627776) (hr : (Instr.buildSlice t m parts).run P w = .ok (.slice (some ⟨w.heap.size, 0, none⟩) n n) (w.alloc (.cells cs.toArray e)))
    (k : ∀ A c w', Below w.heap.size w w' → St B W0 w' (.row (.slice A n c) e sz n cs :: L) → K (.slice A n c) w') : RunS P (Instr.buildSlice t m parts) w K :=
  ⟨_, _, hr, k _ _ _ (alloc_below _ _) (newRow H (own_newR hc hl) (alloc_below _ _))⟩
theorem newRB {B : Nat} {W0 w : World} {L : List It} {o : Obj} {K : Nat → World → Prop} (H : St B W0 w L) (k : ∀ g w', Below w.heap.size w w' → St B W0 w' (.obj g o :: L) → K g w') : NewS w o K :=
  ⟨fun b w' hb hw => k b w' (by subst hw; exact (Below.refl _ _).alloc (Nat.le_refl _) o) (by subst hb hw; exact H.cons ((Below.refl _ _).alloc (Nat.le_refl _) o) ⟨H.size, heap_alloc_new w o⟩ (fun g hg => by cases hg; exact Nat.le_refl _))⟩
theorem Env.seven {e : Env} {a b c d f g h : Nat} {va vb vc vd vf vg vh : Value} (ha : e a = va) (hb : e b = vb) (hc : e c = vc) (hd : e d = vd) (hf : e f = vf) (hg : e g = vg) (hh : e h = vh) : e = (((((((e.put a va).put b vb).put c vc).put d vd).put f vf).put g vg).put h vh) := by rw [Env.put_same ha, Env.put_same hb, Env.put_same hc, Env.put_same hd, Env.put_same hf, Env.put_same hg, Env.put_same hh]
theorem Env.eight {e : Env} {a b c d f g h i : Nat} {va vb vc vd vf vg vh vi : Value} (ha : e a = va) (hb : e b = vb) (hc : e c = vc) (hd : e d = vd) (hf : e f = vf) (hg : e g = vg) (hh : e h = vh) (hi : e i = vi) : e = ((((((((e.put a va).put b vb).put c vc).put d vd).put f vf).put g vg).put h vh).put i vi) := by rw [Env.put_same ha, Env.put_same hb, Env.put_same hc, Env.put_same hd, Env.put_same hf, Env.put_same hg, Env.put_same hh, Env.put_same hi]
theorem Env.nine {e : Env} {a b c d f g h i j : Nat} {va vb vc vd vf vg vh vi vj : Value} (ha : e a = va) (hb : e b = vb) (hc : e c = vc) (hd : e d = vd) (hf : e f = vf) (hg : e g = vg) (hh : e h = vh) (hi : e i = vi) (hj : e j = vj) : e = (((((((((e.put a va).put b vb).put c vc).put d vd).put f vf).put g vg).put h vh).put i vi).put j vj) := by rw [Env.put_same ha, Env.put_same hb, Env.put_same hc, Env.put_same hd, Env.put_same hf, Env.put_same hg, Env.put_same hh, Env.put_same hi, Env.put_same hj]
theorem Env.ten {e : Env} {a b c d f g h i j k : Nat} {va vb vc vd vf vg vh vi vj vk : Value} (ha : e a = va) (hb : e b = vb) (hc : e c = vc) (hd : e d = vd) (hf : e f = vf) (hg : e g = vg) (hh : e h = vh) (hi : e i = vi) (hj : e j = vj) (hk : e k = vk) : e = ((((((((((e.put a va).put b vb).put c vc).put d vd).put f vf).put g vg).put h vh).put i vi).put j vj).put k vk) := by rw [Env.put_same ha, Env.put_same hb, Env.put_same hc, Env.put_same hd, Env.put_same hf, Env.put_same hg, Env.put_same hh, Env.put_same hi, Env.put_same hj, Env.put_same hk]
end Go.Proofs.YtfhpgfbakimmhaaE
