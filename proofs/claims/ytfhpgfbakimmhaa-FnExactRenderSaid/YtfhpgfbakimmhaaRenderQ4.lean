/- A map whose keys are documents: asking and setting. -/
import Derived.Test.YtfhpgfbakimmhaaRenderQ3
import Derived.MapKept
import Derived.LaidEql
namespace Go.Proofs.YtfhpgfbakimmhaaE
open Go Go.RowKit
set_option linter.unusedVariables false
set_option linter.unusedSimpArgs false
set_option maxRecDepth 100000
set_option maxHeartbeats 4000000

/-! ## the trees' tops -/
def DocG.t : DocG → TypeId
  | .nil _ => 148
  | .text .. => 154
  | .line .. => 157
  | .cat .. => 160
  | .alt .. => 165
  | .nest .. => 167
  | .group .. => 115
def DocG.a : DocG → Nat
  | .nil a => a
  | .text a _ _ => a
  | .line a _ => a
  | .cat a _ _ => a
  | .alt a _ _ => a
  | .nest a _ _ => a
  | .group a _ _ => a
def DocG.o : DocG → Obj
  | .nil _ => .cells #[] 152
  | .text _ tv t => .cells #[tv, .int .i64 (tw t)] 156
  | .line _ k => .cells #[.int .i64 k] 159
  | .cat _ l r => .cells #[l.v, r.v] 164
  | .alt _ l r => .cells #[l.v, r.v] 166
  | .nest _ d n => .cells #[d.v, .int .i64 n] 169
  | .group _ d k => .cells #[d.v, .int .i64 k] 119
theorem DocG.v_eq (D : DocG) : D.v = .iface D.t (.pointer (some ⟨D.a, 0, none⟩)) := by cases D <;> rfl
theorem DocG.o_own (D : DocG) : It.obj D.a D.o ∈ D.own := by cases D <;> exact List.mem_cons_self
theorem DocG.o_cells (D : DocG) : ∃ cs t, D.o = .cells cs t (0, 0) := by cases D <;> exact ⟨_, _, rfl⟩
/-- the tree's tops stand where they are said to stand -/
def TopAt (w : World) (D : DocG) : Prop := w.heap[D.a]? = some D.o
theorem TopAt.same {w w' : World} {D : DocG} (h : TopAt w D) (k : SameW w w') : TopAt w' D := by unfold TopAt; rw [k.heap]; exact h
theorem topAt {B : Nat} {W0 w : World} {L : List It} (H : St B W0 w L) {D : DocG} (h : ∀ it ∈ D.own, it ∈ L) : TopAt w D := by
  obtain ⟨i, hi⟩ := List.mem_iff_getElem?.1 (h _ D.o_own)
  exact (H.obj i hi).2
theorem v_inj {D E : DocG} (h : D.v = E.v) : D.t = E.t ∧ D.a = E.a := by
  rw [D.v_eq, E.v_eq] at h
  simp only [Value.iface.injEq, Value.pointer.injEq, Option.some.injEq, Addr.mk.injEq, and_true] at h
  exact h
theorem fw_same {B : Nat} {W0 w : World} {L : List It} (H : St B W0 w L) : ∀ {D E : DocG}, (∀ it ∈ D.own, it ∈ L) → (∀ it ∈ E.own, it ∈ L) → D.v = E.v → fwD D.d = fwD E.d := by
  intro D
  induction D with
  | nil a => intro E hD hE h; have := (v_inj h).1; cases E <;> first | rfl | (simp [DocG.t] at this; done)
  | text a tv t =>
    intro E hD hE h
    have ho := v_inj h
    have h1 := topAt H hD
    have h2 := topAt H hE
    unfold TopAt at h1 h2
    rw [← ho.2, h1] at h2
    have ht := ho.1
    cases E <;> first | (simp [DocG.t] at ht; done) | skip
    simp only [DocG.o, Option.some.injEq, Obj.cells.injEq, Array.mk.injEq, List.cons.injEq, Value.int.injEq] at h2
    exact h2.1.2.1.2
  | line a k =>
    intro E hD hE h
    have ho := v_inj h
    have h1 := topAt H hD
    have h2 := topAt H hE
    unfold TopAt at h1 h2
    rw [← ho.2, h1] at h2
    have ht := ho.1
    cases E <;> first | (simp [DocG.t] at ht; done) | skip
    simp only [DocG.o, Option.some.injEq, Obj.cells.injEq, Array.mk.injEq, List.cons.injEq, Value.int.injEq] at h2
    rw [DocG.d, DocG.d, h2.1.1.2]
  | cat a l r ihl ihr =>
    intro E hD hE h
    have ho := v_inj h
    have h1 := topAt H hD
    have h2 := topAt H hE
    unfold TopAt at h1 h2
    rw [← ho.2, h1] at h2
    have ht := ho.1
    cases E <;> first | (simp [DocG.t] at ht; done) | skip
    simp only [DocG.o, Option.some.injEq, Obj.cells.injEq, Array.mk.injEq, List.cons.injEq] at h2
    simp only [DocG.d, fwD]
    rw [ihl (fun it h => hD it (by simp [DocG.own, h])) (fun it h => hE it (by simp [DocG.own, h])) h2.1.1, ihr (fun it h => hD it (by simp [DocG.own, h])) (fun it h => hE it (by simp [DocG.own, h])) h2.1.2.1]
  | alt a l r ihl ihr =>
    intro E hD hE h
    have ho := v_inj h
    have h1 := topAt H hD
    have h2 := topAt H hE
    unfold TopAt at h1 h2
    rw [← ho.2, h1] at h2
    have ht := ho.1
    cases E <;> first | (simp [DocG.t] at ht; done) | skip
    simp only [DocG.o, Option.some.injEq, Obj.cells.injEq, Array.mk.injEq, List.cons.injEq] at h2
    simp only [DocG.d, fwD]
    exact ihr (fun it h => hD it (by simp [DocG.own, h])) (fun it h => hE it (by simp [DocG.own, h])) h2.1.2.1
  | nest a d n ih =>
    intro E hD hE h
    have ho := v_inj h
    have h1 := topAt H hD
    have h2 := topAt H hE
    unfold TopAt at h1 h2
    rw [← ho.2, h1] at h2
    have ht := ho.1
    cases E <;> first | (simp [DocG.t] at ht; done) | skip
    simp only [DocG.o, Option.some.injEq, Obj.cells.injEq, Array.mk.injEq, List.cons.injEq] at h2
    simp only [DocG.d, fwD]
    exact ih (fun it h => hD it (by simp [DocG.own, h])) (fun it h => hE it (by simp [DocG.own, h])) h2.1.1
  | group a d n ih =>
    intro E hD hE h
    have ho := v_inj h
    have h1 := topAt H hD
    have h2 := topAt H hE
    unfold TopAt at h1 h2
    rw [← ho.2, h1] at h2
    have ht := ho.1
    cases E <;> first | (simp [DocG.t] at ht; done) | skip
    simp only [DocG.o, Option.some.injEq, Obj.cells.injEq, Array.mk.injEq, List.cons.injEq] at h2
    simp only [DocG.d, fwD]
    exact ih (fun it h => hD it (by simp [DocG.own, h])) (fun it h => hE it (by simp [DocG.own, h])) h2.1.1
/-! ## keys that are the same -/
structure KeyT (T : TypeId) (z : Bool) : Prop where
  und : ∃ te, Try.prog.underlying T = some (.pointer te) ∧ (Try.prog.info? te).map (fun j => Nat.beq j.size 0) = some z
  cmp : (Try.prog.info? T).map (·.comparable) = some true
def DocG.z : DocG → Bool
  | .nil _ => true
  | _ => false
theorem DocG.key (D : DocG) : KeyT D.t D.z := by
  cases D
  · exact ⟨⟨152, by kernel_rfl, by kernel_rfl⟩, by kernel_rfl⟩
  · exact ⟨⟨156, by kernel_rfl, by kernel_rfl⟩, by kernel_rfl⟩
  · exact ⟨⟨159, by kernel_rfl, by kernel_rfl⟩, by kernel_rfl⟩
  · exact ⟨⟨164, by kernel_rfl, by kernel_rfl⟩, by kernel_rfl⟩
  · exact ⟨⟨166, by kernel_rfl, by kernel_rfl⟩, by kernel_rfl⟩
  · exact ⟨⟨169, by kernel_rfl, by kernel_rfl⟩, by kernel_rfl⟩
  · exact ⟨⟨119, by kernel_rfl, by kernel_rfl⟩, by kernel_rfl⟩
theorem run_choose_same (P : Program) (q : Question) (w : World) : ∃ n w', (choose q).run P w = .ok n w' ∧ SameW w w' := by
  rw [run_choose]
  split
  · exact ⟨_, _, rfl, SameW.refl w⟩
  · exact ⟨_, _, rfl, ⟨rfl, rfl, rfl, rfl⟩⟩
def isIf : Option TypeDesc → Bool
  | some (.interface _) => true
  | _ => false
theorem und_doc : ∃ ms, Try.prog.underlying 102 = some (.interface ms) := by
  have h : isIf (Try.prog.underlying 102) = true := by kernel_rfl
  unfold isIf at h
  split at h
  · rename_i ms hms; exact ⟨ms, hms⟩
  · cases h
theorem run_equalIn_zero {P : Program} (d : Nat) {ti tp te : TypeId} {ms : Array (String × TypeId)} {i j : TypeInfo} {a b : Addr} {w w' : World} {n : Nat} (hi : P.underlying ti = some (.interface ms)) (hp : P.underlying tp = some (.pointer te)) (hinfo : P.info? tp = some i) (hcomp : i.comparable = true) (hte : P.info? te = some j) (hsz : j.size = 0) (hne : ¬ a = b)
    (hr : (choose .zeroSizeEq).run P w = .ok n w') : (Op.equalIn (d + 2) ti (.iface tp (.pointer (some a))) (.iface tp (.pointer (some b)))).run P w = .ok (decide (n = 1)) w' := by
  simp [Op.equalIn, run_underlying hi, run_underlying hp, typeInfo, hinfo, hcomp, sizeOf, hte, hsz, hne, -run_choose]
  rw [run_choose_drew] at hr
  split at hr
  · rename_i hf; cases hr; rw [if_pos hf]; rfl
  · rename_i hf; cases hr; rw [if_neg hf]
theorem run_equalIn_differ {P : Program} (d : Nat) {ti tp tq : TypeId} {ms : Array (String × TypeId)} {u v : Value} {w : World} (hi : P.underlying ti = some (.interface ms)) (h : ¬ tp = tq) : (Op.equalIn (d + 2) ti (.iface tp u) (.iface tq v)).run P w = .ok false w := by
  simp [Op.equalIn, run_underlying hi, h]
theorem run_checkIn {P : Program} (b : Bool) (d : Nat) {ti tp te : TypeId} {ms : Array (String × TypeId)} {i : TypeInfo} {a : Option Addr} {w : World} (hi : P.underlying ti = some (.interface ms)) (hp : P.underlying tp = some (.pointer te)) (hinfo : P.info? tp = some i) (hcomp : i.comparable = true) : (Instr.checkKey b (d + 2) ti (.iface tp (.pointer a))).run P w = .ok () w := by
  simp [Instr.checkKey, run_underlying hi, run_underlying hp, typeInfo, hinfo, hcomp]
/-- two documents' tops: the same, or both nothing -/
def OneKey (D E : DocG) : Prop := D.v = E.v ∨ (D.z = true ∧ E.z = true)
theorem run_eqDoc {w : World} {D E : DocG} (hD : TopAt w D) (hE : TopAt w E) : ∃ b w', (Op.equal 102 D.v E.v).run Try.prog w = .ok b w' ∧ SameW w w' ∧ (b = true → OneKey D E) := by
  obtain ⟨ms, hms⟩ := und_doc
  obtain ⟨⟨te, hu, hz⟩, hc⟩ := D.key
  obtain ⟨i, hi, hic⟩ := Option.map_eq_some_iff.1 hc
  obtain ⟨j, hj, hjz⟩ := Option.map_eq_some_iff.1 hz
  rw [D.v_eq, E.v_eq]
  by_cases ht : D.t = E.t
  · rw [← ht]
    by_cases ha : D.a = E.a
    · refine ⟨true, w, ?_, SameW.refl w, fun _ => .inl (by rw [D.v_eq, E.v_eq, ht, ha])⟩
      rw [← ha]
      unfold Op.equal Op.maxDepth
      exact run_equalIn_iface_ptr_same w 9998 _ hms hu hi hic hj
    · by_cases hs : j.size = 0
      · obtain ⟨n, w', hr, hw⟩ := run_choose_same Try.prog .zeroSizeEq w
        refine ⟨decide (n = 1), w', ?_, hw, fun _ => .inr ?_⟩
        · unfold Op.equal Op.maxDepth
          exact run_equalIn_zero 9998 hms hu hi hic hj hs (fun e => ha (by injection e)) hr
        · have e1 : D.z = true := by rw [← hjz, hs]; rfl
          refine ⟨e1, ?_⟩
          cases D <;> first | cases e1; done | skip
          cases E <;> first | rfl | (simp [DocG.t] at ht; done)
      · refine ⟨false, w, ?_, SameW.refl w, fun h => by cases h⟩
        obtain ⟨c1, t1, e1⟩ := D.o_cells
        obtain ⟨c2, t2, e2⟩ := E.o_cells
        unfold Op.equal Op.maxDepth
        exact run_equalIn_iface_ptr_other w 9998 (a := ⟨D.a, 0, none⟩) (b := ⟨E.a, 0, none⟩) hms hu hi hic hj hs (fun e => ha (by injection e)) (by rw [← e1]; exact hD) (by rw [← e2]; exact hE)
  · refine ⟨false, w, ?_, SameW.refl w, fun h => by cases h⟩
    unfold Op.equal Op.maxDepth
    exact run_equalIn_differ 9998 hms ht
theorem run_findDoc {D : DocG} : ∀ (es : List MapEntry) (i0 : Nat) (w : World), TopAt w D → (∀ en ∈ es, ∃ E : DocG, en.key = E.v ∧ TopAt w E) →
    ∃ r w', (Instr.findAsking 102 D.v es i0).run Try.prog w = .ok r w' ∧ SameW w w' ∧ ∀ i v, r = some (i, v) → ∃ en, i0 ≤ i ∧ es[i - i0]? = some en ∧ v = en.val ∧ ∃ E : DocG, en.key = E.v ∧ OneKey D E
  | [], i0, w, _, _ => ⟨none, w, rfl, SameW.refl w, fun _ _ h => by cases h⟩
  | e :: es, i0, w, hD, h => by
    obtain ⟨E, hk, hE⟩ := h e (by simp)
    obtain ⟨b, w1, hr, hs, hb⟩ := run_eqDoc hD hE
    cases b with
    | true =>
      refine ⟨some (i0, e.val), w1, ?_, hs, fun i v q => ?_⟩
      · simp only [Instr.findAsking, Sem.run_bind, hk, hr, Result.andThen_ok]; rfl
      · cases q; exact ⟨e, Nat.le_refl _, by simp, rfl, E, hk, hb rfl⟩
    | false =>
      obtain ⟨r, w2, hr2, hs2, hq⟩ := run_findDoc es (i0 + 1) w1 (hD.same hs) fun en hen => by
        obtain ⟨E, h1, h2⟩ := h en (by simp [hen])
        exact ⟨E, h1, h2.same hs⟩
      refine ⟨r, w2, ?_, hs.trans hs2, fun i v q => ?_⟩
      · simp only [Instr.findAsking, Sem.run_bind, hk, hr, Result.andThen_ok]; exact hr2
      · obtain ⟨en, h1, h2, h3, h4⟩ := hq i v q
        refine ⟨en, by omega, ?_, h3, h4⟩
        rw [show i - i0 = (i - (i0 + 1)) + 1 by omega, List.getElem?_cons_succ]; exact h2
theorem run_findKeyDoc {D : DocG} {w : World} (es : List MapEntry) (hD : TopAt w D) (h : ∀ en ∈ es, ∃ E : DocG, en.key = E.v ∧ TopAt w E) :
    ∃ r w', (Instr.findKey 102 D.v es).run Try.prog w = .ok r w' ∧ SameW w w' ∧ ∀ i v, r = some (i, v) → ∃ en, es[i]? = some en ∧ v = en.val ∧ ∃ E : DocG, en.key = E.v ∧ OneKey D E := by
  obtain ⟨ms, hms⟩ := und_doc
  cases es with
  | nil => exact ⟨none, w, by simp [Instr.findKey, run_underlying hms, Instr.findNow], SameW.refl w, fun _ _ q => by cases q⟩
  | cons e es =>
    obtain ⟨r, w', hr, hs, hq⟩ := run_findDoc (e :: es) 0 w hD h
    refine ⟨r, w', ?_, hs, fun i v q => ?_⟩
    · have hn : Instr.findNow (.interface ms) D.v (e :: es) 0 = none := by
        rw [D.v_eq]; rfl
      simp only [Instr.findKey, Sem.run_bind, run_underlying hms, Result.andThen_ok, hn]
      exact hr
    · obtain ⟨en, _, h2, h3, h4⟩ := hq i v q
      exact ⟨en, h2, h3, h4⟩
theorem run_checkDoc (b : Bool) (D : DocG) (w : World) : (Instr.checkKey b 10000 102 D.v).run Try.prog w = .ok () w := by
  obtain ⟨ms, hms⟩ := und_doc
  obtain ⟨⟨te, hu, hz⟩, hc⟩ := D.key
  obtain ⟨i, hi, hic⟩ := Option.map_eq_some_iff.1 hc
  rw [D.v_eq]
  exact run_checkIn b 9998 hms hu hi hic
/-! ## the map -/
def MapOk (R : DocG → Prop) (es : List MapEntry) : Prop := ∀ en ∈ es, ∃ E : DocG, R E ∧ en.key = E.v ∧ en.val = .int .i64 (fwD E.d)
theorem und_map : Try.prog.underlying 124 = some (.map 102 3) := by kernel_rfl
theorem zero_int : (Try.prog.info? 3).map (·.zero) = some (some (.int .i64 0)) := by kernel_rfl
abbrev OwnIn (M : List It) (D : DocG) : Prop := ∀ it ∈ D.own, it ∈ M
theorem oneKey_fw {B : Nat} {W0 w : World} {L : List It} (H : St B W0 w L) {D E : DocG} (hD : OwnIn L D) (hE : OwnIn L E) (h : OneKey D E) : fwD D.d = fwD E.d := by
  rcases h with h | ⟨h1, h2⟩
  · exact fw_same H hD hE h
  · cases D <;> first | cases h1; done | skip
    cases E <;> first | rfl | cases h2
theorem lookupD {B : Nat} {W0 w : World} {L M : List It} {K : Value → World → Prop} {D : DocG} {gm clock : Nat} {es : List MapEntry} (H : St B W0 w L) (i : Nat) (hi : L[i]? = some (.obj gm (.map es.toArray clock))) (hM : ∀ it ∈ M, it ∈ L) (hes : MapOk (OwnIn M) es) (hD : OwnIn M D)
    (k1 : ∀ w', St B W0 w' L → K (.tuple #[.int .i64 (fwD D.d), .bool true]) w') (k2 : ∀ w', St B W0 w' L → K (.tuple #[.int .i64 0, .bool false]) w') : RunS Try.prog (Instr.lookup 124 (.map (some gm)) D.v true) w K := by
  have ho := (H.obj i hi).2
  have tD := topAt H fun it h => hM it (hD it h)
  obtain ⟨r, w', hr, hs, hq⟩ := run_findKeyDoc es tD fun en hen => by
    obtain ⟨E, hE, hk, _⟩ := hes en hen
    exact ⟨E, hk, topAt H fun it h => hM it (hE it h)⟩
  have H' := H.ext (hs.below _)
  obtain ⟨ii, hii, hz⟩ := Option.map_eq_some_iff.1 zero_int
  cases r with
  | none =>
    refine ⟨_, w', ?_, k2 w' H'⟩
    simp [Instr.lookup, run_underlying und_map, MapKept.run_getObj_map ho, run_checkDoc, hr, Result.andThen, zeroValue, typeInfo, hii, hz]
  | some q =>
    obtain ⟨i, v⟩ := q
    obtain ⟨en, hen, hv, E, hkE, hone⟩ := hq i v rfl
    obtain ⟨E2, hE2, hk2, hv2⟩ := hes en (List.mem_of_getElem? hen)
    have hone2 : OneKey D E2 := by
      rw [hk2] at hkE
      rcases hone with h | ⟨h1, h2⟩
      · exact .inl (h.trans hkE.symm)
      · refine .inr ⟨h1, ?_⟩
        have := (v_inj hkE).1
        cases E <;> first | cases h2; done | skip
        cases E2 <;> first | rfl | (simp [DocG.t] at this; done)
    have hf := oneKey_fw H (fun it h => hM it (hD it h)) (fun it h => hM it (hE2 it h)) hone2
    rw [← hf] at hv2
    refine ⟨_, w', ?_, k1 w' H'⟩
    rw [hv2] at hv
    subst hv
    simp [Instr.lookup, run_underlying und_map, MapKept.run_getObj_map ho, run_checkDoc, hr, Result.andThen]
theorem updateD {B : Nat} {W0 w : World} {L M : List It} {K : Value → World → Prop} {D : DocG} {gm clock : Nat} {es : List MapEntry} (H : St B W0 w L) (i : Nat) (hi : L[i]? = some (.obj gm (.map es.toArray clock))) (hM : ∀ it ∈ M, it ∈ L) (hes : MapOk (OwnIn M) es) (hD : OwnIn M D)
    (k : ∀ (es' : List MapEntry) (clock' : Nat) w', MapOk (OwnIn M) es' → St B W0 w' (L.set i (.obj gm (.map es'.toArray clock'))) → K undef w') : RunS Try.prog (do Instr.mapUpdate 124 (.map (some gm)) D.v (.int .i64 (fwD D.d)); pure undef) w K := by
  have ho := (H.obj i hi).2
  have tD := topAt H fun it h => hM it (hD it h)
  obtain ⟨r, w', hr, hs, hq⟩ := run_findKeyDoc es tD fun en hen => by
    obtain ⟨E, hE, hk, _⟩ := hes en hen
    exact ⟨E, hk, topAt H fun it h => hM it (hE it h)⟩
  have H' := H.ext (hs.below _)
  have ho' := (H'.obj i hi).2
  cases r with
  | none =>
    have hk := k (es ++ [⟨D.v, .int .i64 (fwD D.d), clock⟩]) (clock + 1) _ (fun en hen => by
      rcases List.mem_append.1 hen with h | h
      · exact hes en h
      · cases List.mem_singleton.1 h; exact ⟨D, hD, rfl, rfl⟩) (H'.putO i hi _)
    refine ⟨_, _, ?_, hk⟩
    simp [Instr.mapUpdate, run_underlying und_map, MapKept.run_getObj_map ho, run_checkDoc, hr, Result.andThen, MapKept.run_setObj_map _ ho', World.putObj, List.push_toArray]
  | some q =>
    obtain ⟨j, v⟩ := q
    obtain ⟨en, hen, hv, E, hkE, hone⟩ := hq j v rfl
    have hlt : j < es.length := (List.getElem?_eq_some_iff.1 hen).1
    obtain ⟨E2, hE2, hk2, hv2⟩ := hes en (List.mem_of_getElem? hen)
    have hone2 : OneKey D E2 := by
      rw [hk2] at hkE
      rcases hone with h | ⟨h1, h2⟩
      · exact .inl (h.trans hkE.symm)
      · refine .inr ⟨h1, ?_⟩
        have := (v_inj hkE).1
        cases E <;> first | cases h2; done | skip
        cases E2 <;> first | rfl | (simp [DocG.t] at this; done)
    have hf := oneKey_fw H (fun it h => hM it (hD it h)) (fun it h => hM it (hE2 it h)) hone2
    have stays : ∃ key w2, (Instr.keyThatStays en.key D.v).run Try.prog w' = .ok key w2 ∧ SameW w' w2 ∧ (key = D.v ∨ key = en.key) := by
      unfold Instr.keyThatStays
      split
      · exact ⟨_, w', rfl, SameW.refl _, .inl rfl⟩
      · obtain ⟨n, w2, h1, h2⟩ := run_choose_same Try.prog (.extern "map.whichKeyStays" 2) w'
        refine ⟨if n = 0 then D.v else en.key, w2, ?_, h2, ?_⟩
        · rw [Sem.run_bind, h1]; rfl
        · split
          · exact .inl rfl
          · exact .inr rfl
    obtain ⟨key, w2, hkr, hs2, hkey⟩ := stays
    have H2 := H'.ext (hs2.below _)
    have ho2 := (H2.obj i hi).2
    have hk := k (es.modify j fun e => { e with key := key, val := .int .i64 (fwD D.d) }) clock _ (fun x hx => by
      obtain ⟨q, hq⟩ := List.mem_iff_getElem?.1 hx
      rw [List.getElem?_modify] at hq
      cases he : es[q]? with
      | none => rw [he] at hq; cases hq
      | some y =>
        rw [he] at hq
        have hq : (if j = q then (fun e : MapEntry => { e with key := key, val := .int .i64 (fwD D.d) }) y else y) = x := by simpa using hq
        split at hq
        · subst hq
          rcases hkey with rfl | rfl
          · exact ⟨D, hD, rfl, rfl⟩
          · exact ⟨E2, hE2, hk2, by rw [hf]⟩
        · subst hq; exact hes y (List.mem_of_getElem? he)) (H2.putO i hi _)
    refine ⟨_, _, ?_, hk⟩
    have hgd : (es.toArray[j]?.map (·.key)).getD D.v = en.key := by simp [hen]
    simp only [Instr.mapUpdate, Sem.run_bind, run_underlying und_map, MapKept.run_getObj_map ho, run_checkDoc, hr, Result.andThen_ok, hgd, hkr, MapKept.run_setObj_map _ ho2, Sem.run_pure, World.putObj, List.modify_toArray]
theorem updateV {B : Nat} {W0 w : World} {L M : List It} {K : Value → World → Prop} {D : DocG} {gm clock : Nat} {es : List MapEntry} {x : Int} (hx : fwD D.d = x) (H : St B W0 w L) (i : Nat) (hi : L[i]? = some (.obj gm (.map es.toArray clock))) (hM : ∀ it ∈ M, it ∈ L) (hes : MapOk (OwnIn M) es) (hD : OwnIn M D)
    (k : ∀ (es' : List MapEntry) (clock' : Nat) w', MapOk (OwnIn M) es' → St B W0 w' (L.set i (.obj gm (.map es'.toArray clock'))) → K undef w') : RunS Try.prog (do Instr.mapUpdate 124 (.map (some gm)) D.v (.int .i64 x); pure undef) w K := by
  subst hx
  exact updateD H i hi hM hes hD k
end Go.Proofs.YtfhpgfbakimmhaaE
/- The program's layouter: its stack, the marks, what is behind, the flat width. -/
namespace Go.Proofs.YtfhpgfbakimmhaaE
open Go Go.RowKit
set_option linter.unusedVariables false
set_option linter.unusedSimpArgs false
set_option maxRecDepth 100000
set_option maxHeartbeats 8000000

abbrev It.lay (g : Nat) (out : Value) (col : Int) (rest met : Value) (gm : Nat) (ch : Value) : It := .obj g (.cells #[out, .int .i64 col, rest, met, .map (some gm), ch] 126)
abbrev ptrAt (g i : Nat) : Value := .pointer (some ⟨g, i, none⟩)
abbrev noRes : Value := .tuple #[]
theorem und_parts : Try.prog.underlying 122 = some (.slice 178) := by kernel_rfl
theorem und_stack : Try.prog.underlying 123 = some (.slice 178) := by kernel_rfl
theorem inf_part : (Try.prog.info? 178).map (fun i => (i.zero, i.size, i.bytes)) = some (some (.agg #[.nilIface, .int .i64 0]), 2, 24) := by kernel_rfl
theorem run_append_types {P : Program} {t t' ty e e' : TypeId} {args : Array Value} {w : World} (ht : P.underlying t = some (.slice e)) (ht' : P.underlying t' = some (.slice e')) : (Builtin.append_ #[t, t'] ty args).run P w = (Builtin.append_ #[t, t] ty args).run P w := by
  unfold Builtin.append_
  have e0 : (#[t, t'] : Array TypeId)[0]? = some t := rfl
  have e1 : (#[t, t'] : Array TypeId)[1]? = some t' := rfl
  have f0 : (#[t, t] : Array TypeId)[0]? = some t := rfl
  have f1 : (#[t, t] : Array TypeId)[1]? = some t := rfl
  rw [e0, e1, f0, f1]
  cases args[0]? with
  | none => rfl
  | some a =>
    cases args[1]? with
    | none => rfl
    | some b => cases a <;> simp only [Sem.run_bind, run_underlying ht, run_underlying ht', Result.andThen_ok, Sem.run_pure]
theorem appRS2 {P : Program} {B : Nat} {W0 w : World} {L : List It} {t t' ty e : TypeId} {z : Value} {sz bytes n m : Nat} {v x : Value} {cs ds : List Value} {K : Value → World → Prop} (ht : P.underlying t = some (.slice e)) (ht' : P.underlying t' = some (.slice e))
    (inf : (P.info? e).map (fun i => (i.zero, i.size, i.bytes)) = some (some z, sz, bytes)) (hzs : z.cells.size = sz) (hsz : 0 < sz) (hby : bytes ≤ 128) (H : St B W0 w L) (i : Nat) (hi : L[i]? = some (.row v e sz n cs)) (hx : Rd w x sz m ds) (h1 : ∀ u ∈ ds, u.oneCell' = true)
    (hm : n + m ≤ 1099511627776) (k : ∀ A c w', St B W0 w' (L.set i (.row (.slice A (n + m) c) e sz (n + m) (cs ++ ds))) → K (.slice A (n + m) c) w') : RunS P (Builtin.append_ #[t, t'] ty #[v, x]) w K := by
  obtain ⟨u, w', hr, hk⟩ := (appRS (K := K) (ty := ty) ht inf hzs hsz hby H i hi hx h1 hm k).ex
  exact ⟨u, w', by rw [run_append_types ht ht']; exact hr, hk⟩
theorem ok_push : callOK Try.prog 121 = true := by kernel_rfl
theorem impl_push {B : Nat} {W0 w : World} {L : List It} {gl gm n m c : Nat} {A : Option Addr} {out met ch x : Value} {col : Int} {cs ds : List Value} (H : St B W0 w (.lay gl out col (.slice A n c) met gm ch :: .row (.slice A n c) 178 2 n cs :: L)) (hx : Rd w x 2 m ds) (h1 : ∀ u ∈ ds, u.oneCell' = true) (hm : n + m ≤ 1099511627776) :
    Calls Try.prog 121 #[ptrAt gl 2, x] w fun e w' => e = .returned noRes ∧ ∃ A' c', St B W0 w' (.lay gl out col (.slice A' (n + m) c') met gm ch :: .row (.slice A' (n + m) c') 178 2 (n + m) (cs ++ ds) :: L) := by
  refine calls_of_vcV (args := [ptrAt gl 2, x]) Try.func121 rfl (by kernel_rfl) (Nat.le_of_ble_eq_true rfl) ?_
  refine loadO H 0 rfl rfl ?_
  refine appRS2 und_stack und_parts inf_part rfl (by decide) (by decide) H 1 rfl hx h1 hm fun A1 c1 w H => ?_
  refine storeO H 0 rfl rfl rfl fun w H => ?_
  exact And.intro rfl (Exists.intro _ (Exists.intro _ H))
theorem ok_pop : callOK Try.prog 123 = true := by kernel_rfl
theorem impl_pop0 {B : Nat} {W0 w : World} {L : List It} {gl gm c : Nat} {A : Option Addr} {out met ch : Value} {col : Int} {cs : List Value} (H : St B W0 w (.lay gl out col (.slice A 0 c) met gm ch :: L)) :
    Calls Try.prog 123 #[ptrAt gl 2] w fun e w' => e = .returned (.tuple #[.agg #[.nilIface, .int .i64 0], .bool false]) ∧ St B W0 w' (.lay gl out col (.slice A 0 c) met gm ch :: L) := by
  refine calls_of_vcV (args := [ptrAt gl 2]) Try.func123 rfl (by kernel_rfl) (Nat.le_of_ble_eq_true rfl) ?_
  refine newR (o := .cells #[.nilIface, .int .i64 0] _) H fun g0 w H => ?_
  refine loadO H 1 rfl rfl ?_
  refine ar64 (by omega) (by omega) ?_
  refine ifB (fun c3 => ?_) (fun c3 => absurd c3 (by omega))
  refine newR (o := .cells #[.nilIface, .int .i64 0] _) H fun g4 w H => ?_
  refine loadO H 0 rfl rfl ?_
  refine loadO H 0 rfl rfl ?_
  refine storeO H 1 rfl rfl rfl fun w H => ?_
  refine storeO H 1 rfl rfl rfl fun w H => ?_
  refine loadO H 1 rfl rfl ?_
  refine loadO H 1 rfl rfl ?_
  exact And.intro rfl (H.sel (fun q => by simp only [cntL_append, cntL, List.cons_append, List.nil_append, List.set_cons_zero, List.set_cons_succ, List.flatMap_append, List.flatMap_cons, List.flatMap_nil, It.rowF, It.rowB, It.rowI, It.roB, It.roI]; omega))
theorem impl_pop1 {B : Nat} {W0 w : World} {L : List It} {gl gm c n : Nat} {A : Option Addr} {out met ch u v : Value} {col : Int} {cs : List Value} (hn : n ≤ 1099511627776) (hcs : cs.length = n * 2) (hu : u.oneCell' = true) (hv : v.oneCell' = true) (H : St B W0 w (.lay gl out col (.slice A (n + 1) c) met gm ch :: .row (.slice A (n + 1) c) 178 2 (n + 1) (cs ++ [u, v]) :: L)) :
    Calls Try.prog 123 #[ptrAt gl 2] w fun e w' => e = .returned (.tuple #[.agg #[u, v], .bool true]) ∧ ∃ A' c', St B W0 w' (.lay gl out col (.slice A' n c') met gm ch :: .row (.slice A' n c') 178 2 n cs :: L) := by
  refine calls_of_vcV (args := [ptrAt gl 2]) Try.func123 rfl (by kernel_rfl) (Nat.le_of_ble_eq_true rfl) ?_
  refine newR (o := .cells #[.nilIface, .int .i64 0] _) H fun g0 w H => ?_
  refine loadO H 1 rfl rfl ?_
  refine ar64 (by omega) (by omega) ?_
  refine ifB (fun c3 => absurd c3 (by omega)) (fun c3 => ?_)
  refine loadO H 1 rfl rfl ?_
  refine idxR (H.rd 2 rfl) (by omega) (by omega) fun b off hA hc => ?_
  have hi : ((n + 1 : Nat) - 1 : Int).toNat = n := by omega
  have hc0 := hc 0 (by decide)
  have hc1 := hc 1 (by decide)
  rw [hi, List.getElem?_append_right (by omega), show n * 2 + 0 - cs.length = 0 by omega] at hc0
  rw [hi, List.getElem?_append_right (by omega), show n * 2 + 1 - cs.length = 1 by omega] at hc1
  rw [hi]
  refine loadS hc0 ?_
  refine loadS hc1 ?_
  refine newR (o := .cells #[.nilIface, .int .i64 0] _) H fun g2 w H => ?_
  refine storeO H 0 rfl rfl hu fun w H => ?_
  refine storeO H 0 rfl rfl hv fun w H => ?_
  refine loadO H 2 rfl rfl ?_
  refine cutRow (sz := 2) (h := n) H 3 rfl rfl (by show ((n + 1 : Nat) - 1 : Int) = _; omega) (by omega) fun H => ?_
  rw [show (cs ++ [u, v]).take (n * 2) = cs by rw [← hcs, List.take_left']; rfl] at H
  refine storeO H 2 rfl rfl rfl fun w H => ?_
  refine loadO H 0 rfl rfl ?_
  refine loadO H 0 rfl rfl ?_
  refine storeO H 1 rfl rfl hu fun w H => ?_
  refine storeO H 1 rfl rfl hv fun w H => ?_
  refine loadO H 1 rfl rfl ?_
  refine loadO H 1 rfl rfl ?_
  exact And.intro rfl (Exists.intro _ (Exists.intro _ H.tl.tl))
/-! ## groups, marks -/
theorem ok_plainGroup : callOK Try.prog 162 = true := by kernel_rfl
theorem plain_group {W : World} : GivesV Try.prog 162 [.agg #[]] W (.int .i64 (-1)) := by
  have H := St.enter W
  refine calls_of_vcV (args := [.agg #[]]) Try.func162 rfl (by kernel_rfl) (Nat.le_of_ble_eq_true rfl) ?_
  refine newR (o := .cells #[] _) H fun g0 w H => ?_
  exact Exists.intro _ (And.intro rfl (And.intro rfl H.none))
theorem ok_groupGroup : callOK Try.prog 160 = true := by kernel_rfl
theorem group_group {W : World} {a k : Nat} {v : Value} (h : CellsAt W a [v, .int .i64 k]) : GivesV Try.prog 160 [ptrAt a 0] W (.int .i64 k) := by
  have H := St.enter W
  refine calls_of_vcV (args := [ptrAt a 0]) Try.func160 rfl (by kernel_rfl) (Nat.le_of_ble_eq_true rfl) ?_
  refine loadS (v := .int .i64 k) (h.ext H.below 1 _ rfl) ?_
  exact Exists.intro _ (And.intro rfl (And.intro rfl H.none))
def DocG.gno : DocG → Int
  | .group _ _ k => k
  | _ => -1
noncomputable def shP (P : Program) (a : Nat) (sh : TypeId × Nat) {α : Type} (s : Sem α) : (α → Prop) → Prop :=
  Sem.rec (motive := fun _ => (α → Prop) → Prop) (fun v K => K v) (fun _ _ _ _ _ => False) (fun _ _ _ _ _ _ => False) (fun _ _ _ _ => False)
    (fun r _ ih K => r = a ∧ ih (some sh) K) (fun _ _ _ _ _ => False) (fun _ _ _ _ => False) (fun _ _ _ _ => False) (fun _ _ _ _ _ => False) (fun _ _ _ _ => False) (fun _ _ _ _ => False)
    (fun _ ih K => ih P K) (fun _ _ ih K => ih K) (fun _ _ => False) s
theorem shP_run {P : Program} {a : Nat} {sh : TypeId × Nat} {w : World} (hw : w.shape? a = some sh) {α : Type} (s : Sem α) : ∀ K : α → Prop, shP P a sh s K → ∃ v, s.run P w = .ok v w ∧ K v := by
  induction s with
  | pure v => intro K h; exact ⟨v, rfl, h⟩
  | shape r k ih =>
    intro K h
    have h : r = a ∧ shP P a sh (k (some sh)) K := h
    obtain ⟨rfl, h⟩ := h
    obtain ⟨v, hr, hk⟩ := ih (some sh) K h
    exact ⟨v, by simp only [Sem.run, hw]; exact hr, hk⟩
  | program k ih => intro K h; exact ih P K h
  | mark m k ih => intro K h; exact ih K h
  | _ => intro K h; exact h.elim
theorem shR {P : Program} {a : Nat} {sh : TypeId × Nat} {w : World} {α : Type} {s : Sem α} {v : α} (h : shP P a sh s fun r => r = v) (hw : w.shape? a = some sh) : s.run P w = .ok v w := by
  obtain ⟨u, hr, rfl⟩ := shP_run hw s _ h
  exact hr
theorem shp {w : World} {g : Nat} {cs : Array Value} {t : TypeId} {z : Nat × Nat} (h : w.heap[g]? = some (.cells cs t z)) : w.shape? g = some (t, cs.size) := by
  simp [World.shape?, h]
theorem meth_group {D : DocG} {B : Nat} {W0 w : World} {L : List It} (H : St B W0 w L) (hO : OwnIn L D) {K : Value → World → Prop} {X : List PanicEntry → World → Prop} (k : ∀ w', St B W0 w' L → K (.int .i64 D.gno) w') : MethS Try.prog D.t (ptrAt D.a 0) "loop.example/s02863/impl.group" [] w K X := by
  cases D with
  | nil a =>
    have h : shP Try.prog a (152, 0) (method (Try.prog.types.size + Made.depth) (148) (ptrAt a 0) "loop.example/s02863/impl.group") (fun r => r = (162, .agg #[])) = (a = a ∧ a = a ∧ a = a ∧ a = a ∧ ((162, Value.agg #[]) : Nat × Value) = (162, .agg #[])) := by kernel_rfl
    exact MethS.mk ⟨162, .agg #[], shR (sh := (152, 0)) (h ▸ ⟨rfl, rfl, rfl, rfl, rfl⟩) (shp (topAt H hO)), callV ok_plainGroup plain_group H k⟩
  | text a tv t =>
    have h : shP Try.prog a (156, 2) (method (Try.prog.types.size + Made.depth) (154) (ptrAt a 0) "loop.example/s02863/impl.group") (fun r => r = (162, .agg #[])) = (a = a ∧ a = a ∧ a = a ∧ a = a ∧ ((162, Value.agg #[]) : Nat × Value) = (162, .agg #[])) := by kernel_rfl
    exact MethS.mk ⟨162, .agg #[], shR (sh := (156, 2)) (h ▸ ⟨rfl, rfl, rfl, rfl, rfl⟩) (shp (topAt H hO)), callV ok_plainGroup plain_group H k⟩
  | line a t =>
    have h : shP Try.prog a (159, 1) (method (Try.prog.types.size + Made.depth) (157) (ptrAt a 0) "loop.example/s02863/impl.group") (fun r => r = (162, .agg #[])) = (a = a ∧ a = a ∧ a = a ∧ a = a ∧ ((162, Value.agg #[]) : Nat × Value) = (162, .agg #[])) := by kernel_rfl
    exact MethS.mk ⟨162, .agg #[], shR (sh := (159, 1)) (h ▸ ⟨rfl, rfl, rfl, rfl, rfl⟩) (shp (topAt H hO)), callV ok_plainGroup plain_group H k⟩
  | cat a l r =>
    have h : shP Try.prog a (164, 2) (method (Try.prog.types.size + Made.depth) (160) (ptrAt a 0) "loop.example/s02863/impl.group") (fun r => r = (162, .agg #[])) = (a = a ∧ a = a ∧ a = a ∧ a = a ∧ ((162, Value.agg #[]) : Nat × Value) = (162, .agg #[])) := by kernel_rfl
    exact MethS.mk ⟨162, .agg #[], shR (sh := (164, 2)) (h ▸ ⟨rfl, rfl, rfl, rfl, rfl⟩) (shp (topAt H hO)), callV ok_plainGroup plain_group H k⟩
  | alt a l r =>
    have h : shP Try.prog a (166, 2) (method (Try.prog.types.size + Made.depth) (165) (ptrAt a 0) "loop.example/s02863/impl.group") (fun r => r = (162, .agg #[])) = (a = a ∧ a = a ∧ a = a ∧ a = a ∧ ((162, Value.agg #[]) : Nat × Value) = (162, .agg #[])) := by kernel_rfl
    exact MethS.mk ⟨162, .agg #[], shR (sh := (166, 2)) (h ▸ ⟨rfl, rfl, rfl, rfl, rfl⟩) (shp (topAt H hO)), callV ok_plainGroup plain_group H k⟩
  | nest a d n =>
    have h : shP Try.prog a (169, 2) (method (Try.prog.types.size + Made.depth) (167) (ptrAt a 0) "loop.example/s02863/impl.group") (fun r => r = (162, .agg #[])) = (a = a ∧ a = a ∧ a = a ∧ a = a ∧ ((162, Value.agg #[]) : Nat × Value) = (162, .agg #[])) := by kernel_rfl
    exact MethS.mk ⟨162, .agg #[], shR (sh := (169, 2)) (h ▸ ⟨rfl, rfl, rfl, rfl, rfl⟩) (shp (topAt H hO)), callV ok_plainGroup plain_group H k⟩
  | group a d n => exact MethS.mk ⟨160, ptrAt a 0, by kernel_rfl, callV ok_groupGroup (group_group (cellsAt H (hO _ List.mem_cons_self))) H k⟩
abbrev rowN (A : Option Addr) (c n : Nat) (xs : List Int) : It := .row (.slice A n c) 3 1 n (xs.map (.int .i64))
theorem storeIN {B : Nat} {W0 w : World} {L : List It} {K : World → Prop} (H : St B W0 w L) (i : Nat) {b n c o : Nat} {xs : List Int} (hi : L[i]? = some (rowN (some ⟨b, 0, none⟩) c n xs)) (q : Nat) (x : Int) (ho : o = q) (hq : q < n) (k : ∀ w', St B W0 w' (L.set i (rowN (some ⟨b, 0, none⟩) c n (xs.set q x))) → K w') : StoreS w ⟨b, o, none⟩ (.int .i64 x) K :=
  storeRowN H i hi q ho (by omega) rfl fun w' H' => k w' (by rw [← List.map_set] at H'; exact H')
theorem ok_markFlat : callOK Try.prog 124 = true := by kernel_rfl
theorem impl_markFlat {B : Nat} {W0 : World} {L M : List It} {gl gm n c : Nat} {A : Option Addr} {out rest ch : Value} {col : Int} (hML : ∀ it ∈ M, it ∈ L) (hlay : .lay gl out col rest (.slice A n c) gm ch ∈ L) (D : DocG) : OwnIn M D → GrD n D.d → ∀ (xs : List Int) (w : World), xs.length = n → St B W0 w (rowN A c n xs :: L) →
    Calls Try.prog 124 #[ptrAt gl 0, D.v] w fun e w' => e = .returned noRes ∧ St B W0 w' (rowN A c n (markF D.d xs) :: L) := by
  induction D with
  | nil a =>
    intro hO hg xs w hxs H
    have hm : ∀ it ∈ (DocG.nil a).own, it ∈ rowN A c n xs :: L := fun it h => List.mem_cons_of_mem _ (hML it (hO it h))
    refine calls_of_vcV (args := [ptrAt gl 0, .iface 148 (ptrAt a 0)]) Try.func124 rfl (by kernel_rfl) (Nat.le_of_ble_eq_true rfl) ?_
    refine JoinV.mk ?_
    refine meth_group (D := .nil a) H hm fun w H => ?_
    refine ifB (fun q0 => absurd q0 (show ¬ (-1 : Int) ≥ 0 by decide)) (fun q0 => ?_)
    refine asN pt_cat rfl ?_
    refine ifF ?_
    refine asN pt_alt rfl ?_
    refine ifF ?_
    refine asN pt_nest rfl ?_
    refine ifF ?_
    refine asN pt_group rfl ?_
    refine ifF ?_
    exact And.intro rfl H
  | text a tv t =>
    intro hO hg xs w hxs H
    have hm : ∀ it ∈ (DocG.text a tv t).own, it ∈ rowN A c n xs :: L := fun it h => List.mem_cons_of_mem _ (hML it (hO it h))
    refine calls_of_vcV (args := [ptrAt gl 0, .iface 154 (ptrAt a 0)]) Try.func124 rfl (by kernel_rfl) (Nat.le_of_ble_eq_true rfl) ?_
    refine JoinV.mk ?_
    refine meth_group (D := .text a tv t) H hm fun w H => ?_
    refine ifB (fun q0 => absurd q0 (show ¬ (-1 : Int) ≥ 0 by decide)) (fun q0 => ?_)
    refine asN pt_cat rfl ?_
    refine ifF ?_
    refine asN pt_alt rfl ?_
    refine ifF ?_
    refine asN pt_nest rfl ?_
    refine ifF ?_
    refine asN pt_group rfl ?_
    refine ifF ?_
    exact And.intro rfl H
  | line a t =>
    intro hO hg xs w hxs H
    have hm : ∀ it ∈ (DocG.line a t).own, it ∈ rowN A c n xs :: L := fun it h => List.mem_cons_of_mem _ (hML it (hO it h))
    refine calls_of_vcV (args := [ptrAt gl 0, .iface 157 (ptrAt a 0)]) Try.func124 rfl (by kernel_rfl) (Nat.le_of_ble_eq_true rfl) ?_
    refine JoinV.mk ?_
    refine meth_group (D := .line a t) H hm fun w H => ?_
    refine ifB (fun q0 => absurd q0 (show ¬ (-1 : Int) ≥ 0 by decide)) (fun q0 => ?_)
    refine asN pt_cat rfl ?_
    refine ifF ?_
    refine asN pt_alt rfl ?_
    refine ifF ?_
    refine asN pt_nest rfl ?_
    refine ifF ?_
    refine asN pt_group rfl ?_
    refine ifF ?_
    exact And.intro rfl H
  | cat a l r ihl ihr =>
    intro hO hg xs w hxs H
    have hm : ∀ it ∈ (DocG.cat a l r).own, it ∈ rowN A c n xs :: L := fun it h => List.mem_cons_of_mem _ (hML it (hO it h))
    refine calls_of_vcV (args := [ptrAt gl 0, .iface 160 (ptrAt a 0)]) Try.func124 rfl (by kernel_rfl) (Nat.le_of_ble_eq_true rfl) ?_
    refine JoinV.mk ?_
    refine meth_group (D := .cat a l r) H hm fun w H => ?_
    refine ifB (fun q0 => absurd q0 (show ¬ (-1 : Int) ≥ 0 by decide)) (fun q0 => ?_)
    refine asY pt_cat ?_
    refine ifT ?_
    refine loadS (v := l.v) (objCell H (hm _ List.mem_cons_self) rfl) ?_
    refine CallS.mk ok_markFlat ((ihl (fun it h => hO it (List.mem_cons_of_mem _ (List.mem_append_left _ h))) hg.1 _ _ hxs H).mono ?_)
    rintro _ w2 ⟨rfl, H⟩
    refine loadS (v := r.v) (objCell H (List.mem_cons_of_mem _ (hML _ (hO _ List.mem_cons_self))) rfl) ?_
    refine CallS.mk ok_markFlat ((ihr (fun it h => hO it (List.mem_cons_of_mem _ (List.mem_append_right _ h))) hg.2 _ _ (by rw [markF_len]; exact hxs) H).mono ?_)
    rintro _ w3 ⟨rfl, H⟩
    exact And.intro rfl H
  | alt a l r ihl ihr =>
    intro hO hg xs w hxs H
    have hm : ∀ it ∈ (DocG.alt a l r).own, it ∈ rowN A c n xs :: L := fun it h => List.mem_cons_of_mem _ (hML it (hO it h))
    refine calls_of_vcV (args := [ptrAt gl 0, .iface 165 (ptrAt a 0)]) Try.func124 rfl (by kernel_rfl) (Nat.le_of_ble_eq_true rfl) ?_
    refine JoinV.mk ?_
    refine meth_group (D := .alt a l r) H hm fun w H => ?_
    refine ifB (fun q0 => absurd q0 (show ¬ (-1 : Int) ≥ 0 by decide)) (fun q0 => ?_)
    refine asN pt_cat rfl ?_
    refine ifF ?_
    refine asY pt_alt ?_
    refine ifT ?_
    refine loadS (v := r.v) (objCell H (hm _ List.mem_cons_self) rfl) ?_
    refine CallS.mk ok_markFlat ((ihr (fun it h => hO it (List.mem_cons_of_mem _ (List.mem_append_right _ h))) hg.2 _ _ hxs H).mono ?_)
    rintro _ w2 ⟨rfl, H⟩
    exact And.intro rfl H
  | nest a d k ih =>
    intro hO hg xs w hxs H
    have hm : ∀ it ∈ (DocG.nest a d k).own, it ∈ rowN A c n xs :: L := fun it h => List.mem_cons_of_mem _ (hML it (hO it h))
    refine calls_of_vcV (args := [ptrAt gl 0, .iface 167 (ptrAt a 0)]) Try.func124 rfl (by kernel_rfl) (Nat.le_of_ble_eq_true rfl) ?_
    refine JoinV.mk ?_
    refine meth_group (D := .nest a d k) H hm fun w H => ?_
    refine ifB (fun q0 => absurd q0 (show ¬ (-1 : Int) ≥ 0 by decide)) (fun q0 => ?_)
    refine asN pt_cat rfl ?_
    refine ifF ?_
    refine asN pt_alt rfl ?_
    refine ifF ?_
    refine asY pt_nest ?_
    refine ifT ?_
    refine loadS (v := d.v) (objCell H (hm _ List.mem_cons_self) rfl) ?_
    refine CallS.mk ok_markFlat ((ih (fun it h => hO it (List.mem_cons_of_mem _ h)) hg _ _ hxs H).mono ?_)
    rintro _ w2 ⟨rfl, H⟩
    exact And.intro rfl H
  | group a d k ih =>
    intro hO hg xs w hxs H
    have hm : ∀ it ∈ (DocG.group a d k).own, it ∈ rowN A c n xs :: L := fun it h => List.mem_cons_of_mem _ (hML it (hO it h))
    refine calls_of_vcV (args := [ptrAt gl 0, .iface 115 (ptrAt a 0)]) Try.func124 rfl (by kernel_rfl) (Nat.le_of_ble_eq_true rfl) ?_
    refine JoinV.mk ?_
    refine meth_group (D := .group a d k) H hm fun w H => ?_
    refine ifB (fun q0 => ?_) (fun q0 => absurd (show (k : Int) ≥ 0 by omega) q0)
    refine loadS (v := .slice A n c) (objCell H (List.mem_cons_of_mem _ hlay) rfl) ?_
    (refine idxRow H 0 rfl (by show (0 : Int) ≤ (k : Nat); omega) (by show ((k : Nat) : Int) < n; have := hg.1; omega) fun b0 hA _ => ?_; subst hA)
    refine storeIN H 0 rfl k 1 (by show 0 + (k : Int).toNat * 1 = _; omega) hg.1 fun w H => ?_
    have hm2 : ∀ it ∈ (DocG.group a d k).own, it ∈ rowN (some ⟨b0, 0, none⟩) c n (xs.set k 1) :: L := fun it h => List.mem_cons_of_mem _ (hML it (hO it h))
    refine asN pt_cat rfl ?_
    refine ifF ?_
    refine asN pt_alt rfl ?_
    refine ifF ?_
    refine asN pt_nest rfl ?_
    refine ifF ?_
    refine asY pt_group ?_
    refine ifT ?_
    refine loadS (v := d.v) (objCell H (hm2 _ List.mem_cons_self) rfl) ?_
    refine CallS.mk ok_markFlat ((ih (fun it h => hO it (List.mem_cons_of_mem _ h)) hg.2 _ _ (by rw [List.length_set]; exact hxs) H).mono ?_)
    rintro _ w2 ⟨rfl, H⟩
    exact And.intro rfl H
end Go.Proofs.YtfhpgfbakimmhaaE
/- The program's layouter: what is behind, the flat width. -/
namespace Go.Proofs.YtfhpgfbakimmhaaE
open Go Go.RowKit
set_option linter.unusedVariables false
set_option linter.unusedSimpArgs false
set_option maxRecDepth 100000
set_option maxHeartbeats 8000000

abbrev ItG := DocG × Int
def partC (x : ItG) : List Value := [x.1.v, .int .i64 x.2]
theorem partC_len (x : ItG) : (partC x).length = 2 := rfl
def partV (l : List ItG) : List Value := l.reverse.flatMap partC
def toD (l : List ItG) : List ItD := l.map fun x => (x.1.d, x.2)
theorem partV_len (l : List ItG) : (partV l).length = l.length * 2 := by unfold partV; rw [flat_len partC_len, List.length_reverse]
theorem partV_cons (x : ItG) (l : List ItG) : partV (x :: l) = partV l ++ [x.1.v, .int .i64 x.2] := by
  unfold partV; rw [List.reverse_cons, List.flatMap_append]; rfl
theorem tl_pos (d : DocT) : 0 < d.tl := by cases d <;> simp only [DocT.tl] <;> omega
theorem len_sumT : ∀ l : List ItG, l.length ≤ sumT (toD l)
  | [] => Nat.zero_le _
  | x :: l => by
    have := len_sumT l
    have := tl_pos x.1.d
    show l.length + 1 ≤ sumT ((x.1.d, x.2) :: toD l)
    have e := sumT_cons (x.1.d, x.2) (toD l)
    simp only at e
    omega
theorem cons_of {α : Type} {l : List α} (h : 0 < l.length) : ∃ x r, l = x :: r := by cases l with
  | nil => cases h
  | cons x r => exact ⟨x, r, rfl⟩
theorem ok_behind : callOK Try.prog 126 = true := by kernel_rfl
theorem impl_behind {W : World} {gl n c : Nat} {A : Option Addr} {l : List ItG} (hr : W.cell? ⟨gl, 2, none⟩ = some (.slice A n c)) (hx : Rd W (.slice A n c) 2 n (partV l)) (hd : ∀ x ∈ l, DocAt W x.1 ∧ GoodD x.1.d) (ht : sumT (toD l) ≤ 140000) :
    GivesV Try.prog 126 [ptrAt gl 0] W (.int .i64 (behindD (toD l))) := by
  have H := (St.enter W).ro0 rfl hx
  have hlen := len_sumT l
  obtain rfl : n = l.length := by have := hx.len; rw [partV_len] at this; omega
  refine calls_of_vcV (args := [ptrAt gl 0]) Try.func126 rfl (by kernel_rfl) (Nat.le_of_ble_eq_true rfl) ?_
  refine loadS (v := .slice A l.length c) ((HeldW.ofBelow H.below).cell hr) ?_
  refine ar64 (by omega) (by omega) ?_
  refine loopV (by kernel_rfl) (fun m e w => e 0 = ptrAt gl 0 ∧ ∃ (l1 r : List ItG) (acc : Int), l = l1 ++ r ∧ m = r.length ∧ e 3 = .int .i64 acc ∧ e 4 = .int .i64 ((r.length : Int) - 1) ∧ acc + behindD (toD r) = behindD (toD l) ∧ 0 ≤ acc ∧ acc + sumT (toD r) ≤ 140000 ∧ St W.heap.size W w [.ro (.slice A l.length c) 2 l.length (partV l)]) l.length ?_ ?_
  · exact And.intro rfl ⟨[], l, 0, rfl, rfl, rfl, rfl, by omega, by omega, by omega, H⟩
  · rintro m e w ⟨h0, l1, r, acc, hl, hm, h3, h4, hsum, ha0, ha1, H⟩
    have e0 := Env.three h0 h3 h4
    rw [e0]
    refine ifB (fun c0 => ?_) (fun c0 => ?_)
    · obtain ⟨x, q, hrx⟩ := cons_of (l := r) (by omega)
      have hrl : r.length = q.length + 1 := by rw [hrx]; rfl
      have hx2 : l.reverse[q.length]? = some x := by
        rw [hl, hrx, List.reverse_append, List.reverse_cons, List.append_assoc, List.getElem?_append_right (by simp)]; simp
      have hql : q.length < l.length := by rw [hl, List.length_append]; omega
      have hxm : x ∈ l := by rw [hl, hrx]; simp
      have hdx := hd x hxm
      have es : sumT (toD r) = x.1.d.tl + sumT (toD q) := by rw [hrx]; exact sumT_cons (x.1.d, x.2) (toD q)
      have eb : behindD (toD r) = if (leadD x.1.d).2 = true then (leadD x.1.d).1 else (leadD x.1.d).1 + behindD (toD q) := by rw [hrx]; rfl
      have lb := lead_bound hdx.2
      rw [es] at ha1
      rw [eb] at hsum
      refine JoinV.mk ?_
      refine loadS (v := .slice A l.length c) ((HeldW.ofBelow H.below).cell hr) ?_
      refine idxCI q.length (by show ((r.length : Nat) : Int) - 1 = _; omega) partC_len (xs := l.reverse) (H.rd 0 rfl) hx2 hql fun b off hc => ?_
      refine loadS (v := x.1.v) (hc 0 _ rfl) ?_
      have hc1 := impl_lead x.1 hdx.2 (by omega) (hdx.1.ext H.below)
      refine callV ok_lead hc1 H fun w H => ?_
      refine ar64 (by omega) (by omega) ?_
      refine ifO (fun c1 => ?_) (fun c1 => ?_)
      · rw [if_pos c1] at hsum
        exact Exists.intro _ (And.intro rfl (And.intro (congrArg (Value.int .i64) hsum) H.none))
      · refine ar64 (by omega) (by omega) ?_
        rw [if_neg (by rw [c1]; decide)] at hsum
        exact Exists.intro q.length (And.intro (by omega) (And.intro rfl ⟨l1 ++ [x], q, acc + (leadD x.1.d).1, by rw [hl, hrx, List.append_assoc]; rfl, rfl, rfl, congrArg (Value.int .i64) (by omega), by omega, by omega, by omega, H⟩))
    · have hr0 : r = [] := List.length_eq_zero_iff.1 (by omega)
      have : acc = behindD (toD l) := by rw [← hsum, hr0]; show acc = acc + 0; omega
      exact Exists.intro _ (And.intro rfl (And.intro (congrArg (Value.int .i64) this) H.none))
/-! ## the flat width -/
def addF : Int → List DocG → Int
  | x, [] => x
  | x, d :: r => if fwD d.d < 0 ∨ x < 0 then -1 else addF (x + fwD d.d) r
def tlG (l : List DocG) : Nat := (l.map fun d => d.d.tl).sum
def FwC (B : Nat) (W0 : World) (M : List It) (gl gm : Nat) (D : DocG) : Prop :=
  ∀ (L : List It) (es : List MapEntry) (clock : Nat) (w : World) (out rest met ch : Value) (col : Int), (∀ it ∈ M, it ∈ L) → .lay gl out col rest met gm ch ∈ L → MapOk (OwnIn M) es → St B W0 w (.obj gm (.map es.toArray clock) :: L) →
    Calls Try.prog 99 #[ptrAt gl 0, D.v] w fun e w' => e = .returned (.int .i64 (fwD D.d)) ∧ ∃ (es' : List MapEntry) (clock' : Nat), MapOk (OwnIn M) es' ∧ St B W0 w' (.obj gm (.map es'.toArray clock') :: L)
theorem len_tlG : ∀ l : List DocG, l.length ≤ tlG l
  | [] => Nat.zero_le _
  | d :: l => by
    have := len_tlG l
    have := tl_pos d.d
    show l.length + 1 ≤ d.d.tl + tlG l
    omega
theorem ok_flatWidth : callOK Try.prog 99 = true := by kernel_rfl
theorem ok_flatAdd : callOK Try.prog 122 = true := by kernel_rfl
theorem impl_flatAdd {B : Nat} {W0 : World} {M : List It} {gl gm : Nat} (Ds : List DocG) (hF : ∀ D ∈ Ds, FwC B W0 M gl gm D) (hg : ∀ D ∈ Ds, GoodD D.d) (ht : tlG Ds ≤ 140000) {L : List It} {es : List MapEntry} {clock : Nat} {w : World} {out rest met ch : Value} {col : Int} (hML : ∀ it ∈ M, it ∈ L) (hlay : .lay gl out col rest met gm ch ∈ L)
    (hes : MapOk (OwnIn M) es) {gb gw n c : Nat} {A : Option Addr} {tb tw' : TypeId} (hn : Ds.length = n) (H : St B W0 w (.obj gm (.map es.toArray clock) :: .obj gw (.cells #[.int .i64 0] tw') :: .obj gb (.cells #[ptrAt gl 0] tb) :: .row (.slice A n c) 102 1 n (Ds.map DocG.v) :: L)) :
    Calls Try.prog 122 #[.slice A n c, ptrAt gb 0, ptrAt gw 0] w fun e w' => e = .returned noRes ∧ ∃ (es' : List MapEntry) (clock' : Nat), MapOk (OwnIn M) es' ∧ St B W0 w' (.obj gm (.map es'.toArray clock') :: .obj gw (.cells #[.int .i64 (addF 0 Ds)] tw') :: .obj gb (.cells #[ptrAt gl 0] tb) :: .row (.slice A n c) 102 1 n (Ds.map DocG.v) :: L) := by
  have hn2 := len_tlG Ds
  refine calls_of_vcV (args := [.slice A n c, ptrAt gb 0, ptrAt gw 0]) Try.func122 rfl (by kernel_rfl) (Nat.le_of_ble_eq_true rfl) ?_
  refine loopV (by kernel_rfl) (fun m e w => e 7 = .slice A n c ∧ e 1 = ptrAt gb 0 ∧ e 2 = ptrAt gw 0 ∧ ∃ (j : Nat) (r : List DocG) (x : Int) (es : List MapEntry) (clock : Nat), Ds.drop j = r ∧ m = r.length ∧ j + r.length = n ∧ e 8 = .int .i64 n ∧ e 9 = .int .i64 j ∧ addF x r = addF 0 Ds ∧ 0 ≤ x ∧ x + tlG r ≤ 140000 ∧ MapOk (OwnIn M) es ∧ St B W0 w (.obj gm (.map es.toArray clock) :: .obj gw (.cells #[.int .i64 x] tw') :: .obj gb (.cells #[ptrAt gl 0] tb) :: .row (.slice A n c) 102 1 n (Ds.map DocG.v) :: L)) n ?_ ?_
  · exact And.intro rfl (And.intro rfl (And.intro rfl ⟨0, Ds, 0, es, clock, rfl, hn.symm, by omega, rfl, rfl, rfl, by omega, by omega, hes, H⟩))
  · rintro m e w ⟨h7, h1, h2, j, r, x, es, clock, hd, hm, hj, h8, h9, hadd, hx0, hx1, hes, H⟩
    rw [Env.five h7 h1 h2 h8 h9]
    refine ifB (fun c0 => ?_) (fun c0 => ?_)
    · obtain ⟨D, q, hrx⟩ := cons_of (l := r) (by omega)
      have hrl : r.length = q.length + 1 := by rw [hrx]; rfl
      have hjD : Ds[j]? = some D := by
        have h := congrArg (fun l => l[0]?) hd
        simp only [List.getElem?_drop, hrx, Nat.add_zero, List.getElem?_cons_zero] at h
        exact h
      have hDm : D ∈ Ds := List.mem_of_getElem? hjD
      have hgD := hg D hDm
      have hb := fw_bound hgD
      have ht2 : tlG r = D.d.tl + tlG q := by rw [hrx]; rfl
      have hadd2 : addF x r = if fwD D.d < 0 ∨ x < 0 then -1 else addF (x + fwD D.d) q := by rw [hrx]; rfl
      rw [hadd2] at hadd
      rw [ht2] at hx1
      have hF2 := hF D hDm
      refine JoinV.mk ?_
      refine idxV j rfl (H.rd 3 rfl) (v := D.v) (by rw [List.getElem?_map, hjD]; rfl) (by omega) fun b off hc => ?_
      refine loadS hc ?_
      refine loadO H 2 rfl rfl ?_
      refine CallS.mk ok_flatWidth ((hF2 (.obj gw (.cells #[.int .i64 x] tw') :: .obj gb (.cells #[ptrAt gl 0] tb) :: .row (.slice A n c) 102 1 n (Ds.map DocG.v) :: L) es clock _ out rest met ch col (fun it h => by simp [hML it h]) (by simp [hlay]) hes H).mono ?_)
      rintro _ w1 ⟨rfl, es1, clock1, hes1, H⟩
      refine RegV.mk ?_
      refine gF (fun c1 => ?_) (fun c1 => ?_)
      · refine loadO H 1 rfl rfl ?_
        refine ifB (fun c3 => absurd c3 (by omega)) (fun c3 => ?_)
        refine loadO H 1 rfl rfl ?_
        refine ar64 (by omega) (by omega) ?_
        refine storeO H 1 rfl rfl rfl fun w H => ?_
        refine arN (by omega) ?_
        rw [if_neg (by omega)] at hadd
        exact Exists.intro q.length (And.intro (by omega) (And.intro rfl (And.intro rfl (And.intro rfl ⟨j + 1, q, x + fwD D.d, es1, clock1, by rw [← List.drop_drop, hd, hrx]; rfl, rfl, by omega, rfl, rfl, hadd, by omega, by omega, hes1, H⟩))))
      · refine ifT ?_
        refine storeO H 1 rfl rfl rfl fun w H => ?_
        rw [if_pos (.inl c1)] at hadd
        rw [← hadd]
        exact And.intro rfl ⟨es1, clock1, hes1, H⟩
    · have hr0 : r = [] := List.length_eq_zero_iff.1 (by omega)
      have : x = addF 0 Ds := by rw [← hadd, hr0]; rfl
      subst this
      exact And.intro rfl ⟨es, clock, hes, H⟩
theorem bsDoc2 (D E : DocG) (w : World) : (Instr.buildSlice 147 2 #[(0, D.v), (1, E.v)]).run Try.prog w = .ok (.slice (some ⟨w.heap.size, 0, none⟩) 2 2) (w.alloc (.cells [D.v, E.v].toArray 102)) := by
  obtain ⟨t1, v1, e1⟩ := D.v_if
  obtain ⟨t2, v2, e2⟩ := E.v_if
  rw [e1, e2]; kernel_rfl
theorem add2 {l r : DocG} : addF 0 [l, r] = fwD (.cat l.d r.d) := by
  show (if fwD l.d < 0 ∨ (0 : Int) < 0 then -1 else if fwD r.d < 0 ∨ 0 + fwD l.d < 0 then -1 else 0 + fwD l.d + fwD r.d) = if fwD l.d < 0 then -1 else if fwD r.d < 0 then -1 else fwD l.d + fwD r.d
  (repeat' split) <;> omega
theorem add1 {l : DocG} (h : GoodD l.d) : addF 0 [l] = fwD l.d := by
  have := fw_bound h
  show (if fwD l.d < 0 ∨ (0 : Int) < 0 then -1 else 0 + fwD l.d) = fwD l.d
  (repeat' split) <;> omega
theorem impl_flatWidth {B : Nat} {W0 : World} {M : List It} {gl gm : Nat} (D : DocG) : OwnIn M D → GoodD D.d → D.d.tl ≤ 140000 → FwC B W0 M gl gm D := by
  induction D with
  | nil a =>
    intro hO hg ht L es clock w out rest met ch col hML hlay hes H
    refine calls_of_vcV (args := [ptrAt gl 0, .iface 148 (ptrAt a 0)]) Try.func99 rfl (by kernel_rfl) (Nat.le_of_ble_eq_true rfl) ?_
    refine newR (o := .cells #[.pointer (some { block := gl, off := 0 })] _) H fun g0 w H => ?_
    refine loadO H 0 rfl rfl ?_
    refine loadS (v := .map (some gm)) (objCell H (List.mem_cons_of_mem _ (List.mem_cons_of_mem _ hlay)) rfl) ?_
    refine lookupD (D := .nil a) (M := M) H 1 rfl (fun it h => List.mem_cons_of_mem _ (List.mem_cons_of_mem _ (hML it h))) hes hO (fun w H => ?_) (fun w H => ?_)
    · refine ifT ?_
      exact And.intro rfl ⟨es, clock, hes, H.tl⟩
    refine ifF ?_
    refine newR (o := .cells #[.int .i64 0] _) H fun g1 w H => ?_
    refine storeO H 0 rfl rfl rfl fun w H => ?_
    refine JoinV.mk ?_
    refine asN pt_text rfl ?_
    refine ifF ?_
    refine asN pt_line rfl ?_
    refine ifF ?_
    refine asN pt_cat rfl ?_
    refine ifF ?_
    refine asN pt_alt rfl ?_
    refine ifF ?_
    refine asN pt_nest rfl ?_
    refine ifF ?_
    refine asN pt_group rfl ?_
    refine ifF ?_
    refine drawR H fun w H => ?_
    refine loadO H 1 rfl rfl ?_
    refine loadS (v := .map (some gm)) (objCell H (List.mem_cons_of_mem _ (List.mem_cons_of_mem _ (List.mem_cons_of_mem _ hlay))) rfl) ?_
    refine loadO H 0 rfl rfl ?_
    refine updateV (D := .nil a) (M := M) (x := 0) rfl H 2 rfl (fun it h => (List.mem_cons_of_mem _ (List.mem_cons_of_mem _ (List.mem_cons_of_mem _ (hML it h))))) hes hO (fun es2 clock2 w hes2 H => ?_)
    refine loadO H 0 rfl rfl ?_
    exact And.intro rfl ⟨es2, clock2, hes2, H.sel (fun q => by simp only [cntL_append, cntL, List.cons_append, List.nil_append, List.set_cons_zero, List.set_cons_succ, List.flatMap_append, List.flatMap_cons, List.flatMap_nil, It.rowF, It.rowB, It.rowI, It.roB, It.roI]; omega)⟩
  | text a tv t =>
    intro hO hg ht L es clock w out rest met ch col hML hlay hes H
    refine calls_of_vcV (args := [ptrAt gl 0, .iface 154 (ptrAt a 0)]) Try.func99 rfl (by kernel_rfl) (Nat.le_of_ble_eq_true rfl) ?_
    refine newR (o := .cells #[.pointer (some { block := gl, off := 0 })] _) H fun g0 w H => ?_
    refine loadO H 0 rfl rfl ?_
    refine loadS (v := .map (some gm)) (objCell H (List.mem_cons_of_mem _ (List.mem_cons_of_mem _ hlay)) rfl) ?_
    refine lookupD (D := .text a tv t) (M := M) H 1 rfl (fun it h => List.mem_cons_of_mem _ (List.mem_cons_of_mem _ (hML it h))) hes hO (fun w H => ?_) (fun w H => ?_)
    · refine ifT ?_
      exact And.intro rfl ⟨es, clock, hes, H.tl⟩
    refine ifF ?_
    refine newR (o := .cells #[.int .i64 0] _) H fun g1 w H => ?_
    refine storeO H 0 rfl rfl rfl fun w H => ?_
    refine JoinV.mk ?_
    refine asY pt_text ?_
    refine ifT ?_
    refine loadS (v := .int .i64 (tw t)) (objCell H (List.mem_cons_of_mem _ (List.mem_cons_of_mem _ (List.mem_cons_of_mem _ (hML _ (hO _ List.mem_cons_self))))) rfl) ?_
    refine storeO H 0 rfl rfl rfl fun w H => ?_
    refine drawR H fun w H => ?_
    refine loadO H 1 rfl rfl ?_
    refine loadS (v := .map (some gm)) (objCell H (List.mem_cons_of_mem _ (List.mem_cons_of_mem _ (List.mem_cons_of_mem _ hlay))) rfl) ?_
    refine loadO H 0 rfl rfl ?_
    refine updateV (D := .text a tv t) (M := M) (x := tw t) rfl H 2 rfl (fun it h => (List.mem_cons_of_mem _ (List.mem_cons_of_mem _ (List.mem_cons_of_mem _ (hML it h))))) hes hO (fun es2 clock2 w hes2 H => ?_)
    refine loadO H 0 rfl rfl ?_
    exact And.intro rfl ⟨es2, clock2, hes2, H.sel (fun q => by simp only [cntL_append, cntL, List.cons_append, List.nil_append, List.set_cons_zero, List.set_cons_succ, List.flatMap_append, List.flatMap_cons, List.flatMap_nil, It.rowF, It.rowB, It.rowI, It.roB, It.roI]; omega)⟩
  | line a k =>
    intro hO hg ht L es clock w out rest met ch col hML hlay hes H
    refine calls_of_vcV (args := [ptrAt gl 0, .iface 157 (ptrAt a 0)]) Try.func99 rfl (by kernel_rfl) (Nat.le_of_ble_eq_true rfl) ?_
    refine newR (o := .cells #[.pointer (some { block := gl, off := 0 })] _) H fun g0 w H => ?_
    refine loadO H 0 rfl rfl ?_
    refine loadS (v := .map (some gm)) (objCell H (List.mem_cons_of_mem _ (List.mem_cons_of_mem _ hlay)) rfl) ?_
    refine lookupD (D := .line a k) (M := M) H 1 rfl (fun it h => List.mem_cons_of_mem _ (List.mem_cons_of_mem _ (hML it h))) hes hO (fun w H => ?_) (fun w H => ?_)
    · refine ifT ?_
      exact And.intro rfl ⟨es, clock, hes, H.tl⟩
    refine ifF ?_
    refine newR (o := .cells #[.int .i64 0] _) H fun g1 w H => ?_
    refine storeO H 0 rfl rfl rfl fun w H => ?_
    refine JoinV.mk ?_
    refine asN pt_text rfl ?_
    refine ifF ?_
    refine asY pt_line ?_
    refine ifT ?_
    refine loadS (v := .int .i64 k) (objCell H (List.mem_cons_of_mem _ (List.mem_cons_of_mem _ (List.mem_cons_of_mem _ (hML _ (hO _ List.mem_cons_self))))) rfl) ?_
    refine ifB (fun c0 => ?_) (fun c0 => ?_)
    · refine storeO H 0 rfl rfl rfl fun w H => ?_
      refine drawR H fun w H => ?_
      refine loadO H 1 rfl rfl ?_
      have e1 : fwD (DocG.line a k).d = 1 := by show (if k = 2 then (1 : Int) else if k = 4 ∨ k = 5 then -1 else 0) = _; (repeat' split) <;> omega
      refine loadS (v := .map (some gm)) (objCell H (List.mem_cons_of_mem _ (List.mem_cons_of_mem _ (List.mem_cons_of_mem _ hlay))) rfl) ?_
      refine loadO H 0 rfl rfl ?_
      refine updateV (D := .line a k) (M := M) e1 H 2 rfl (fun it h => (List.mem_cons_of_mem _ (List.mem_cons_of_mem _ (List.mem_cons_of_mem _ (hML it h))))) hes hO (fun es2 clock2 w hes2 H => ?_)
      refine loadO H 0 rfl rfl ?_
      exact And.intro (congrArg (fun x => Ending.returned (.int .i64 x)) e1.symm) ⟨es2, clock2, hes2, H.sel (fun q => by simp only [cntL_append, cntL, List.cons_append, List.nil_append, List.set_cons_zero, List.set_cons_succ, List.flatMap_append, List.flatMap_cons, List.flatMap_nil, It.rowF, It.rowB, It.rowI, It.roB, It.roI]; omega)⟩
    · refine JoinV.mk ?_
      refine ifB (fun c5 => ?_) (fun c5 => ?_)
      · refine ifB (fun c6 => ?_) (fun c6 => absurd c6 (by omega))
        refine storeO H 0 rfl rfl rfl fun w H => ?_
        refine drawR H fun w H => ?_
        refine loadO H 1 rfl rfl ?_
        have e1 : fwD (DocG.line a k).d = -1 := by show (if k = 2 then (1 : Int) else if k = 4 ∨ k = 5 then -1 else 0) = _; (repeat' split) <;> omega
        refine loadS (v := .map (some gm)) (objCell H (List.mem_cons_of_mem _ (List.mem_cons_of_mem _ (List.mem_cons_of_mem _ hlay))) rfl) ?_
        refine loadO H 0 rfl rfl ?_
        refine updateV (D := .line a k) (M := M) e1 H 2 rfl (fun it h => (List.mem_cons_of_mem _ (List.mem_cons_of_mem _ (List.mem_cons_of_mem _ (hML it h))))) hes hO (fun es2 clock2 w hes2 H => ?_)
        refine loadO H 0 rfl rfl ?_
        exact And.intro (congrArg (fun x => Ending.returned (.int .i64 x)) e1.symm) ⟨es2, clock2, hes2, H.sel (fun q => by simp only [cntL_append, cntL, List.cons_append, List.nil_append, List.set_cons_zero, List.set_cons_succ, List.flatMap_append, List.flatMap_cons, List.flatMap_nil, It.rowF, It.rowB, It.rowI, It.roB, It.roI]; omega)⟩
      · refine ifB (fun c10 => ?_) (fun c10 => ?_)
        · refine storeO H 0 rfl rfl rfl fun w H => ?_
          refine drawR H fun w H => ?_
          refine loadO H 1 rfl rfl ?_
          have e1 : fwD (DocG.line a k).d = -1 := by show (if k = 2 then (1 : Int) else if k = 4 ∨ k = 5 then -1 else 0) = _; (repeat' split) <;> omega
          refine loadS (v := .map (some gm)) (objCell H (List.mem_cons_of_mem _ (List.mem_cons_of_mem _ (List.mem_cons_of_mem _ hlay))) rfl) ?_
          refine loadO H 0 rfl rfl ?_
          refine updateV (D := .line a k) (M := M) e1 H 2 rfl (fun it h => (List.mem_cons_of_mem _ (List.mem_cons_of_mem _ (List.mem_cons_of_mem _ (hML it h))))) hes hO (fun es2 clock2 w hes2 H => ?_)
          refine loadO H 0 rfl rfl ?_
          exact And.intro (congrArg (fun x => Ending.returned (.int .i64 x)) e1.symm) ⟨es2, clock2, hes2, H.sel (fun q => by simp only [cntL_append, cntL, List.cons_append, List.nil_append, List.set_cons_zero, List.set_cons_succ, List.flatMap_append, List.flatMap_cons, List.flatMap_nil, It.rowF, It.rowB, It.rowI, It.roB, It.roI]; omega)⟩
        · refine drawR H fun w H => ?_
          refine loadO H 1 rfl rfl ?_
          have e1 : fwD (DocG.line a k).d = 0 := by show (if k = 2 then (1 : Int) else if k = 4 ∨ k = 5 then -1 else 0) = _; (repeat' split) <;> omega
          refine loadS (v := .map (some gm)) (objCell H (List.mem_cons_of_mem _ (List.mem_cons_of_mem _ (List.mem_cons_of_mem _ hlay))) rfl) ?_
          refine loadO H 0 rfl rfl ?_
          refine updateV (D := .line a k) (M := M) e1 H 2 rfl (fun it h => (List.mem_cons_of_mem _ (List.mem_cons_of_mem _ (List.mem_cons_of_mem _ (hML it h))))) hes hO (fun es2 clock2 w hes2 H => ?_)
          refine loadO H 0 rfl rfl ?_
          exact And.intro (congrArg (fun x => Ending.returned (.int .i64 x)) e1.symm) ⟨es2, clock2, hes2, H.sel (fun q => by simp only [cntL_append, cntL, List.cons_append, List.nil_append, List.set_cons_zero, List.set_cons_succ, List.flatMap_append, List.flatMap_cons, List.flatMap_nil, It.rowF, It.rowB, It.rowI, It.roB, It.roI]; omega)⟩
  | cat a l r ihl ihr =>
    intro hO hg ht L es clock w out rest met ch col hML hlay hes H
    refine calls_of_vcV (args := [ptrAt gl 0, .iface 160 (ptrAt a 0)]) Try.func99 rfl (by kernel_rfl) (Nat.le_of_ble_eq_true rfl) ?_
    refine newR (o := .cells #[.pointer (some { block := gl, off := 0 })] _) H fun g0 w H => ?_
    refine loadO H 0 rfl rfl ?_
    refine loadS (v := .map (some gm)) (objCell H (List.mem_cons_of_mem _ (List.mem_cons_of_mem _ hlay)) rfl) ?_
    refine lookupD (D := .cat a l r) (M := M) H 1 rfl (fun it h => List.mem_cons_of_mem _ (List.mem_cons_of_mem _ (hML it h))) hes hO (fun w H => ?_) (fun w H => ?_)
    · refine ifT ?_
      exact And.intro rfl ⟨es, clock, hes, H.tl⟩
    refine ifF ?_
    refine newR (o := .cells #[.int .i64 0] _) H fun g1 w H => ?_
    refine storeO H 0 rfl rfl rfl fun w H => ?_
    refine JoinV.mk ?_
    refine asN pt_text rfl ?_
    refine ifF ?_
    refine asN pt_line rfl ?_
    refine ifF ?_
    refine asY pt_cat ?_
    refine ifT ?_
    refine regG [11, 12] [] [5, 10] [0, 1, 2, 3, 4, 5, 6, 7, 8, 9, 10, 11, 12] (by kernel_rfl) ?_
    refine drawR H fun w H => ?_
    refine loadS (v := l.v) (objCell H (List.mem_cons_of_mem _ (List.mem_cons_of_mem _ (List.mem_cons_of_mem _ (hML _ (hO _ List.mem_cons_self))))) rfl) ?_
    refine loadS (v := r.v) (objCell H (List.mem_cons_of_mem _ (List.mem_cons_of_mem _ (List.mem_cons_of_mem _ (hML _ (hO _ List.mem_cons_self))))) rfl) ?_
    refine litRB (e := 102) (sz := 1) (n := 2) H rfl (by decide) (bsDoc2 l r _) fun A1 c1 w hB H => ?_
    have H0 : St B W0 w (.row (.slice A1 2 c1) 102 1 2 ([l, r].map DocG.v) :: .obj g1 (.cells #[.int .i64 0] 3) :: .obj g0 (.cells #[ptrAt gl 0] 113) :: .obj gm (.map es.toArray clock) :: L) := H
    have H1 : St B W0 w (.obj gm (.map es.toArray clock) :: .obj g1 (.cells #[.int .i64 0] 3) :: .obj g0 (.cells #[ptrAt gl 0] 113) :: .row (.slice A1 2 c1) 102 1 2 ([l, r].map DocG.v) :: L) := H0.sel (fun q => by simp only [cntL_append, cntL, List.cons_append, List.nil_append, List.set_cons_zero, List.set_cons_succ, List.flatMap_append, List.flatMap_cons, List.flatMap_nil, It.rowF, It.rowB, It.rowI, It.roB, It.roI]; omega)
    have hcall := impl_flatAdd [l, r] (fun D hD => by rcases List.mem_cons.1 hD with rfl | hD; exact ihl (fun it h => hO it (List.mem_cons_of_mem _ (List.mem_append_left _ h))) hg.1 (by simp only [DocG.d, DocT.tl] at ht; omega); rcases List.mem_singleton.1 hD with rfl; exact ihr (fun it h => hO it (List.mem_cons_of_mem _ (List.mem_append_right _ h))) hg.2 (by simp only [DocG.d, DocT.tl] at ht; omega)) (fun D hD => by rcases List.mem_cons.1 hD with rfl | hD; exact hg.1; rcases List.mem_singleton.1 hD with rfl; exact hg.2) (by simp only [DocG.d, DocT.tl] at ht; simp only [tlG, List.map_cons, List.map_nil, List.sum_cons, List.sum_nil]; omega) hML hlay hes (n := 2) rfl H1
    rw [add2] at hcall
    refine CallS.mk ok_flatAdd (hcall.mono ?_)
    rintro _ w1 ⟨rfl, es1, clock1, hes1, H⟩
    refine drawR H fun w H => ?_
    refine loadO H 2 rfl rfl ?_
    refine loadS (v := .map (some gm)) (objCell H (List.mem_cons_of_mem _ (List.mem_cons_of_mem _ (List.mem_cons_of_mem _ (List.mem_cons_of_mem _ hlay)))) rfl) ?_
    refine loadO H 1 rfl rfl ?_
    refine updateV (D := .cat a l r) (M := M) rfl H 0 rfl (fun it h => (List.mem_cons_of_mem _ (List.mem_cons_of_mem _ (List.mem_cons_of_mem _ (List.mem_cons_of_mem _ (hML it h)))))) hes1 hO (fun es2 clock2 w hes2 H => ?_)
    refine loadO H 1 rfl rfl ?_
    exact And.intro rfl ⟨es2, clock2, hes2, H.sel (fun q => by simp only [cntL_append, cntL, List.cons_append, List.nil_append, List.set_cons_zero, List.set_cons_succ, List.flatMap_append, List.flatMap_cons, List.flatMap_nil, It.rowF, It.rowB, It.rowI, It.roB, It.roI]; omega)⟩
  | alt a l r ihl ihr =>
    intro hO hg ht L es clock w out rest met ch col hML hlay hes H
    refine calls_of_vcV (args := [ptrAt gl 0, .iface 165 (ptrAt a 0)]) Try.func99 rfl (by kernel_rfl) (Nat.le_of_ble_eq_true rfl) ?_
    refine newR (o := .cells #[.pointer (some { block := gl, off := 0 })] _) H fun g0 w H => ?_
    refine loadO H 0 rfl rfl ?_
    refine loadS (v := .map (some gm)) (objCell H (List.mem_cons_of_mem _ (List.mem_cons_of_mem _ hlay)) rfl) ?_
    refine lookupD (D := .alt a l r) (M := M) H 1 rfl (fun it h => List.mem_cons_of_mem _ (List.mem_cons_of_mem _ (hML it h))) hes hO (fun w H => ?_) (fun w H => ?_)
    · refine ifT ?_
      exact And.intro rfl ⟨es, clock, hes, H.tl⟩
    refine ifF ?_
    refine newR (o := .cells #[.int .i64 0] _) H fun g1 w H => ?_
    refine storeO H 0 rfl rfl rfl fun w H => ?_
    refine JoinV.mk ?_
    refine asN pt_text rfl ?_
    refine ifF ?_
    refine asN pt_line rfl ?_
    refine ifF ?_
    refine asN pt_cat rfl ?_
    refine ifF ?_
    refine asY pt_alt ?_
    refine ifT ?_
    refine loadS (v := r.v) (objCell H (List.mem_cons_of_mem _ (List.mem_cons_of_mem _ (List.mem_cons_of_mem _ (hML _ (hO _ List.mem_cons_self))))) rfl) ?_
    refine litRB (e := 102) (sz := 1) (n := 1) H rfl (by decide) (bsDoc r _) fun A1 c1 w hB H => ?_
    have H0 : St B W0 w (.row (.slice A1 1 c1) 102 1 1 ([r].map DocG.v) :: .obj g1 (.cells #[.int .i64 0] 3) :: .obj g0 (.cells #[ptrAt gl 0] 113) :: .obj gm (.map es.toArray clock) :: L) := H
    have H1 : St B W0 w (.obj gm (.map es.toArray clock) :: .obj g1 (.cells #[.int .i64 0] 3) :: .obj g0 (.cells #[ptrAt gl 0] 113) :: .row (.slice A1 1 c1) 102 1 1 ([r].map DocG.v) :: L) := H0.sel (fun q => by simp only [cntL_append, cntL, List.cons_append, List.nil_append, List.set_cons_zero, List.set_cons_succ, List.flatMap_append, List.flatMap_cons, List.flatMap_nil, It.rowF, It.rowB, It.rowI, It.roB, It.roI]; omega)
    have hlt : r.d.tl ≤ 140000 := by simp only [DocG.d, DocT.tl] at ht; omega
    have hcall := impl_flatAdd [r] (fun D hD => by rcases List.mem_singleton.1 hD with rfl; exact ihr (fun it h => hO it (List.mem_cons_of_mem _ (List.mem_append_right _ h))) hg.2 hlt) (fun D hD => by rcases List.mem_singleton.1 hD with rfl; exact hg.2) (by simp only [tlG, List.map_cons, List.map_nil, List.sum_cons, List.sum_nil]; omega) hML hlay hes (n := 1) rfl H1
    rw [add1 hg.2] at hcall
    refine CallS.mk ok_flatAdd (hcall.mono ?_)
    rintro _ w1 ⟨rfl, es1, clock1, hes1, H⟩
    refine drawR H fun w H => ?_
    refine loadO H 2 rfl rfl ?_
    refine loadS (v := .map (some gm)) (objCell H (List.mem_cons_of_mem _ (List.mem_cons_of_mem _ (List.mem_cons_of_mem _ (List.mem_cons_of_mem _ hlay)))) rfl) ?_
    refine loadO H 1 rfl rfl ?_
    refine updateV (D := .alt a l r) (M := M) rfl H 0 rfl (fun it h => (List.mem_cons_of_mem _ (List.mem_cons_of_mem _ (List.mem_cons_of_mem _ (List.mem_cons_of_mem _ (hML it h)))))) hes1 hO (fun es2 clock2 w hes2 H => ?_)
    refine loadO H 1 rfl rfl ?_
    exact And.intro rfl ⟨es2, clock2, hes2, H.sel (fun q => by simp only [cntL_append, cntL, List.cons_append, List.nil_append, List.set_cons_zero, List.set_cons_succ, List.flatMap_append, List.flatMap_cons, List.flatMap_nil, It.rowF, It.rowB, It.rowI, It.roB, It.roI]; omega)⟩
  | nest a d k ih =>
    intro hO hg ht L es clock w out rest met ch col hML hlay hes H
    refine calls_of_vcV (args := [ptrAt gl 0, .iface 167 (ptrAt a 0)]) Try.func99 rfl (by kernel_rfl) (Nat.le_of_ble_eq_true rfl) ?_
    refine newR (o := .cells #[.pointer (some { block := gl, off := 0 })] _) H fun g0 w H => ?_
    refine loadO H 0 rfl rfl ?_
    refine loadS (v := .map (some gm)) (objCell H (List.mem_cons_of_mem _ (List.mem_cons_of_mem _ hlay)) rfl) ?_
    refine lookupD (D := .nest a d k) (M := M) H 1 rfl (fun it h => List.mem_cons_of_mem _ (List.mem_cons_of_mem _ (hML it h))) hes hO (fun w H => ?_) (fun w H => ?_)
    · refine ifT ?_
      exact And.intro rfl ⟨es, clock, hes, H.tl⟩
    refine ifF ?_
    refine newR (o := .cells #[.int .i64 0] _) H fun g1 w H => ?_
    refine storeO H 0 rfl rfl rfl fun w H => ?_
    refine JoinV.mk ?_
    refine asN pt_text rfl ?_
    refine ifF ?_
    refine asN pt_line rfl ?_
    refine ifF ?_
    refine asN pt_cat rfl ?_
    refine ifF ?_
    refine asN pt_alt rfl ?_
    refine ifF ?_
    refine asY pt_nest ?_
    refine ifT ?_
    refine loadS (v := d.v) (objCell H (List.mem_cons_of_mem _ (List.mem_cons_of_mem _ (List.mem_cons_of_mem _ (hML _ (hO _ List.mem_cons_self))))) rfl) ?_
    refine litRB (e := 102) (sz := 1) (n := 1) H rfl (by decide) (bsDoc d _) fun A1 c1 w hB H => ?_
    have H0 : St B W0 w (.row (.slice A1 1 c1) 102 1 1 ([d].map DocG.v) :: .obj g1 (.cells #[.int .i64 0] 3) :: .obj g0 (.cells #[ptrAt gl 0] 113) :: .obj gm (.map es.toArray clock) :: L) := H
    have H1 : St B W0 w (.obj gm (.map es.toArray clock) :: .obj g1 (.cells #[.int .i64 0] 3) :: .obj g0 (.cells #[ptrAt gl 0] 113) :: .row (.slice A1 1 c1) 102 1 1 ([d].map DocG.v) :: L) := H0.sel (fun q => by simp only [cntL_append, cntL, List.cons_append, List.nil_append, List.set_cons_zero, List.set_cons_succ, List.flatMap_append, List.flatMap_cons, List.flatMap_nil, It.rowF, It.rowB, It.rowI, It.roB, It.roI]; omega)
    have hlt : d.d.tl ≤ 140000 := by simp only [DocG.d, DocT.tl] at ht; omega
    have hcall := impl_flatAdd [d] (fun D hD => by rcases List.mem_singleton.1 hD with rfl; exact ih (fun it h => hO it (List.mem_cons_of_mem _ h)) hg.2 hlt) (fun D hD => by rcases List.mem_singleton.1 hD with rfl; exact hg.2) (by simp only [tlG, List.map_cons, List.map_nil, List.sum_cons, List.sum_nil]; omega) hML hlay hes (n := 1) rfl H1
    rw [add1 hg.2] at hcall
    refine CallS.mk ok_flatAdd (hcall.mono ?_)
    rintro _ w1 ⟨rfl, es1, clock1, hes1, H⟩
    refine drawR H fun w H => ?_
    refine loadO H 2 rfl rfl ?_
    refine loadS (v := .map (some gm)) (objCell H (List.mem_cons_of_mem _ (List.mem_cons_of_mem _ (List.mem_cons_of_mem _ (List.mem_cons_of_mem _ hlay)))) rfl) ?_
    refine loadO H 1 rfl rfl ?_
    refine updateV (D := .nest a d k) (M := M) rfl H 0 rfl (fun it h => (List.mem_cons_of_mem _ (List.mem_cons_of_mem _ (List.mem_cons_of_mem _ (List.mem_cons_of_mem _ (hML it h)))))) hes1 hO (fun es2 clock2 w hes2 H => ?_)
    refine loadO H 1 rfl rfl ?_
    exact And.intro rfl ⟨es2, clock2, hes2, H.sel (fun q => by simp only [cntL_append, cntL, List.cons_append, List.nil_append, List.set_cons_zero, List.set_cons_succ, List.flatMap_append, List.flatMap_cons, List.flatMap_nil, It.rowF, It.rowB, It.rowI, It.roB, It.roI]; omega)⟩
  | group a d k ih =>
    intro hO hg ht L es clock w out rest met ch col hML hlay hes H
    refine calls_of_vcV (args := [ptrAt gl 0, .iface 115 (ptrAt a 0)]) Try.func99 rfl (by kernel_rfl) (Nat.le_of_ble_eq_true rfl) ?_
    refine newR (o := .cells #[.pointer (some { block := gl, off := 0 })] _) H fun g0 w H => ?_
    refine loadO H 0 rfl rfl ?_
    refine loadS (v := .map (some gm)) (objCell H (List.mem_cons_of_mem _ (List.mem_cons_of_mem _ hlay)) rfl) ?_
    refine lookupD (D := .group a d k) (M := M) H 1 rfl (fun it h => List.mem_cons_of_mem _ (List.mem_cons_of_mem _ (hML it h))) hes hO (fun w H => ?_) (fun w H => ?_)
    · refine ifT ?_
      exact And.intro rfl ⟨es, clock, hes, H.tl⟩
    refine ifF ?_
    refine newR (o := .cells #[.int .i64 0] _) H fun g1 w H => ?_
    refine storeO H 0 rfl rfl rfl fun w H => ?_
    refine JoinV.mk ?_
    refine asN pt_text rfl ?_
    refine ifF ?_
    refine asN pt_line rfl ?_
    refine ifF ?_
    refine asN pt_cat rfl ?_
    refine ifF ?_
    refine asN pt_alt rfl ?_
    refine ifF ?_
    refine asN pt_nest rfl ?_
    refine ifF ?_
    refine asY pt_group ?_
    refine ifT ?_
    refine loadS (v := d.v) (objCell H (List.mem_cons_of_mem _ (List.mem_cons_of_mem _ (List.mem_cons_of_mem _ (hML _ (hO _ List.mem_cons_self))))) rfl) ?_
    refine litRB (e := 102) (sz := 1) (n := 1) H rfl (by decide) (bsDoc d _) fun A1 c1 w hB H => ?_
    have H0 : St B W0 w (.row (.slice A1 1 c1) 102 1 1 ([d].map DocG.v) :: .obj g1 (.cells #[.int .i64 0] 3) :: .obj g0 (.cells #[ptrAt gl 0] 113) :: .obj gm (.map es.toArray clock) :: L) := H
    have H1 : St B W0 w (.obj gm (.map es.toArray clock) :: .obj g1 (.cells #[.int .i64 0] 3) :: .obj g0 (.cells #[ptrAt gl 0] 113) :: .row (.slice A1 1 c1) 102 1 1 ([d].map DocG.v) :: L) := H0.sel (fun q => by simp only [cntL_append, cntL, List.cons_append, List.nil_append, List.set_cons_zero, List.set_cons_succ, List.flatMap_append, List.flatMap_cons, List.flatMap_nil, It.rowF, It.rowB, It.rowI, It.roB, It.roI]; omega)
    have hlt : d.d.tl ≤ 140000 := by simp only [DocG.d, DocT.tl] at ht; omega
    have hcall := impl_flatAdd [d] (fun D hD => by rcases List.mem_singleton.1 hD with rfl; exact ih (fun it h => hO it (List.mem_cons_of_mem _ h)) hg hlt) (fun D hD => by rcases List.mem_singleton.1 hD with rfl; exact hg) (by simp only [tlG, List.map_cons, List.map_nil, List.sum_cons, List.sum_nil]; omega) hML hlay hes (n := 1) rfl H1
    rw [add1 (l := d) hg] at hcall
    refine CallS.mk ok_flatAdd (hcall.mono ?_)
    rintro _ w1 ⟨rfl, es1, clock1, hes1, H⟩
    refine drawR H fun w H => ?_
    refine loadO H 2 rfl rfl ?_
    refine loadS (v := .map (some gm)) (objCell H (List.mem_cons_of_mem _ (List.mem_cons_of_mem _ (List.mem_cons_of_mem _ (List.mem_cons_of_mem _ hlay)))) rfl) ?_
    refine loadO H 1 rfl rfl ?_
    refine updateV (D := .group a d k) (M := M) rfl H 0 rfl (fun it h => (List.mem_cons_of_mem _ (List.mem_cons_of_mem _ (List.mem_cons_of_mem _ (List.mem_cons_of_mem _ (hML it h)))))) hes1 hO (fun es2 clock2 w hes2 H => ?_)
    refine loadO H 1 rfl rfl ?_
    exact And.intro rfl ⟨es2, clock2, hes2, H.sel (fun q => by simp only [cntL_append, cntL, List.cons_append, List.nil_append, List.set_cons_zero, List.set_cons_succ, List.flatMap_append, List.flatMap_cons, List.flatMap_nil, It.rowF, It.rowB, It.rowI, It.roB, It.roI]; omega)⟩
end Go.Proofs.YtfhpgfbakimmhaaE
/- The program's layouter: the run. -/
namespace Go.Proofs.YtfhpgfbakimmhaaE
open Go Go.RowKit
set_option linter.unusedVariables false
set_option linter.unusedSimpArgs false
set_option maxRecDepth 100000
set_option maxHeartbeats 8000000

abbrev stk (A : Option Addr) (c : Nat) (l : List ItG) : It := .row (.slice A l.length c) 178 2 l.length (partV l)
/-- the layouter's state: what is told, what is still to come -/
abbrev layL (gl gm : Nat) (chv : Value) (Am : Option Addr) (cm n : Nat) (L : List It) (l : List ItG) (s : LS) (Ao : Option Addr) (co : Nat) (Ar : Option Addr) (cr : Nat) (es : List MapEntry) (clock : Nat) : List It :=
  .lay gl (.slice Ao s.out.length co) s.col (.slice Ar l.length cr) (.slice Am n cm) gm chv :: stk Ar cr l :: .rowB (.slice Ao s.out.length co) s.out :: rowN Am cm n s.met :: .obj gm (.map es.toArray clock) :: L
def LayState (W : World) (M : List It) (gl gm : Nat) (chv : Value) (Am : Option Addr) (cm n : Nat) (L : List It) (l : List ItG) (s : LS) (w : World) : Prop :=
  ∃ Ao co Ar cr es clock, MapOk (OwnIn M) es ∧ s.met.length = n ∧ St W.heap.size W w (layL gl gm chv Am cm n L l s Ao co Ar cr es clock)
structure ItemOk (W : World) (M : List It) (x : ItG) : Prop where
  own : OwnIn M x.1
  txt : x.1.Txt W
def ChooseOk (W : World) (M : List It) (gl gm : Nat) (chv : Value) (Am : Option Addr) (cm n T S : Nat) (L : List It) (ch : ChT) : Prop :=
  ∃ f captured, chv = .func (.func f) #[] captured ∧ callOK Try.prog f = true ∧ ∀ (a k : Nat) (d : DocG) (ind : Int) (l : List ItG) (s : LS) (w : World) (L2 : List It), (∀ it ∈ L, it ∈ L2) → (∀ x ∈ (DocG.group a d k, ind) :: l, ItemOk W M x) → LayB T S (toD ((DocG.group a d k, ind) :: l)) s → LayState W M gl gm chv Am cm n L2 l s w →
    Calls Try.prog f (ptrAt a 0 :: captured.toList).toArray w fun e w' => ∃ b ok, e = .returned (.tuple #[.bool b, .bool ok]) ∧ ch d.d k s (toD l) = (if ok = true then some b else none) ∧ (b = true → ok = true → 0 ≤ fwD d.d) ∧ LayState W M gl gm chv Am cm n L2 l s w'
/-- what the run comes to -/
def RunRes (W : World) (M : List It) (gl gm : Nat) (chv : Value) (Am : Option Addr) (cm n : Nat) (L : List It) (r : Option LS) (e : Ending) (w : World) : Prop :=
  match r with
  | some s => e = .returned (.bool true) ∧ LayState W M gl gm chv Am cm n L [] s w
  | none => e = .returned (.bool false) ∧ St W.heap.size W w []
theorem DocG.one (D : DocG) : D.v.oneCell' = true := by obtain ⟨t, v, e⟩ := D.v_if; rw [e]; rfl
theorem bPart (D : DocG) (i : Int) (w : World) : (Instr.build 178 #[(0, D.v), (1, .int .i64 i)]).run Try.prog w = .ok (.agg #[D.v, .int .i64 i]) w := by
  obtain ⟨t1, v1, e1⟩ := D.v_if
  rw [e1]; kernel_rfl
theorem bsPart1 (D : DocG) (i : Int) (w : World) : (Instr.buildSlice 122 1 #[(0, .agg #[D.v, .int .i64 i])]).run Try.prog w = .ok (.slice (some ⟨w.heap.size, 0, none⟩) 1 1) (w.alloc (.cells [D.v, .int .i64 i].toArray 178)) := by
  obtain ⟨t1, v1, e1⟩ := D.v_if
  rw [e1]; kernel_rfl
theorem bsPart2 (D E : DocG) (i j : Int) (w : World) : (Instr.buildSlice 122 2 #[(0, .agg #[D.v, .int .i64 i]), (1, .agg #[E.v, .int .i64 j])]).run Try.prog w = .ok (.slice (some ⟨w.heap.size, 0, none⟩) 2 2) (w.alloc (.cells [D.v, .int .i64 i, E.v, .int .i64 j].toArray 178)) := by
  obtain ⟨t1, v1, e1⟩ := D.v_if
  obtain ⟨t2, v2, e2⟩ := E.v_if
  rw [e1, e2]; kernel_rfl
theorem St.rot22 {B : Nat} {W0 w : World} {a b c d : It} {L : List It} (H : St B W0 w (a :: b :: c :: d :: L)) : St B W0 w (c :: d :: a :: b :: L) := H.sel fun q => by simp only [cntL]; omega
theorem St.drop23 {B : Nat} {W0 w : World} {a b c d : It} {L : List It} (H : St B W0 w (a :: b :: c :: d :: L)) : St B W0 w (a :: b :: L) := H.sel fun q => by simp only [cntL]; omega
theorem St.sink5 {B : Nat} {W0 w : World} {a b c d e f : It} {L : List It} (H : St B W0 w (a :: b :: c :: d :: e :: f :: L)) : St B W0 w (b :: c :: d :: e :: f :: a :: L) := H.sel fun q => by simp only [cntL]; omega
theorem St.up2 {B : Nat} {W0 w : World} {a b x : It} {L : List It} (H : St B W0 w (a :: b :: x :: L)) : St B W0 w (x :: a :: b :: L) := H.sel fun q => by simp only [cntL]; omega
theorem St.dn2 {B : Nat} {W0 w : World} {a b x : It} {L : List It} (H : St B W0 w (x :: a :: b :: L)) : St B W0 w (a :: b :: x :: L) := H.sel fun q => by simp only [cntL]; omega
theorem St.up3 {B : Nat} {W0 w : World} {a b c x : It} {L : List It} (H : St B W0 w (a :: b :: c :: x :: L)) : St B W0 w (x :: a :: b :: c :: L) := H.sel fun q => by simp only [cntL]; omega
theorem St.dn3 {B : Nat} {W0 w : World} {a b c x : It} {L : List It} (H : St B W0 w (x :: a :: b :: c :: L)) : St B W0 w (a :: b :: c :: x :: L) := H.sel fun q => by simp only [cntL]; omega
theorem St.up4 {B : Nat} {W0 w : World} {a b c d x : It} {L : List It} (H : St B W0 w (a :: b :: c :: d :: x :: L)) : St B W0 w (x :: a :: b :: c :: d :: L) := H.sel fun q => by simp only [cntL]; omega
theorem St.dn4 {B : Nat} {W0 w : World} {a b c d x : It} {L : List It} (H : St B W0 w (x :: a :: b :: c :: d :: L)) : St B W0 w (a :: b :: c :: d :: x :: L) := H.sel fun q => by simp only [cntL]; omega
theorem St.finF {B : Nat} {W0 w : World} {a b c d e f : It} {L : List It} (H : St B W0 w (a :: b :: c :: d :: e :: f :: L)) : St B W0 w (c :: d :: b :: e :: a :: L) := H.sel fun q => by simp only [cntL]; omega
theorem St.rot12 {B : Nat} {W0 w : World} {a c d : It} {L : List It} (H : St B W0 w (a :: c :: d :: L)) : St B W0 w (c :: d :: a :: L) := H.sel fun q => by simp only [cntL]; omega
theorem St.finB {B : Nat} {W0 w : World} {a b c d e f g : It} {L : List It} (H : St B W0 w (a :: b :: c :: d :: e :: f :: g :: L)) : St B W0 w (a :: b :: d :: e :: f :: L) := H.sel fun q => by simp only [cntL]; omega
theorem ok_run : callOK Try.prog 100 = true := by kernel_rfl
theorem impl_run {W : World} {M L : List It} {gl gm cm n T S : Nat} {chv : Value} {Am : Option Addr} {ch : ChT} (hch : ChooseOk W M gl gm chv Am cm n T S L ch) (hML : ∀ it ∈ M, it ∈ L) (hT : T ≤ 140000) (hS : S ≤ 40000) {r : Option LS} {l : List ItG} {s : LS} (hr : layD ch (toD l) s = r) (hl : ∀ x ∈ l, ItemOk W M x) (hb : LayB T S (toD l) s) {w : World} (H : LayState W M gl gm chv Am cm n L l s w) :
    Calls Try.prog 100 #[ptrAt gl 0] w (RunRes W M gl gm chv Am cm n L r) := by
  obtain ⟨fch, cap, rfl, okch, hch⟩ := hch
  refine calls_of_vcV (args := [ptrAt gl 0]) Try.func100 rfl (by kernel_rfl) (Nat.le_of_ble_eq_true rfl) ?_
  refine loopV (by kernel_rfl) (fun m e w => e 0 = ptrAt gl 0 ∧ ∃ (l : List ItG) (s : LS), m = sumS (toD l) ∧ layD ch (toD l) s = r ∧ (∀ x ∈ l, ItemOk W M x) ∧ LayB T S (toD l) s ∧ LayState W M gl gm (.func (.func fch) #[] cap) Am cm n L l s w) (sumS (toD l)) ?_ ?_
  · exact And.intro rfl ⟨l, s, rfl, hr, hl, hb, H⟩
  · clear hr hl hb H
    rintro m e w ⟨h0, l, s, hm, hr, hl, hb, Ao, co, Ar, cr, es, clock, hes, hmet, H⟩
    rw [Env.one h0]
    cases l with
    | nil =>
      have hr : some s = r := hr
      subst hr
      refine CallS.mk ok_pop ((impl_pop0 (cs := []) H).mono ?_)
      rintro _ w1 ⟨rfl, H⟩
      refine newR (o := .cells #[.nilIface, .int .i64 0] _) H fun g0 w H => ?_
      refine storeO H 0 rfl rfl rfl fun w H => ?_
      refine storeO H 0 rfl rfl rfl fun w H => ?_
      refine ifNot ?_
      refine ifF ?_
      exact And.intro rfl ⟨Ao, co, Ar, cr, es, clock, hes, hmet, H.tl⟩
    | cons x l =>
      obtain ⟨D, ind⟩ := x
      have hu : D.v.oneCell' = true := by obtain ⟨t, v, e⟩ := D.v_if; rw [e]; rfl
      have hll : l.length ≤ 140000 := by have h1 := len_sumT ((D, ind) :: l); have h2 := hb.tl; simp only [List.length_cons] at h1; omega
      have H0 : St W.heap.size W w (.lay gl (.slice Ao s.out.length co) s.col (.slice Ar (l.length + 1) cr) (.slice Am n cm) gm (.func (.func fch) #[] cap) :: .row (.slice Ar (l.length + 1) cr) 178 2 (l.length + 1) (partV l ++ [D.v, .int .i64 ind]) :: .rowB (.slice Ao s.out.length co) s.out :: rowN Am cm n s.met :: .obj gm (.map es.toArray clock) :: L) := by rw [← partV_cons (D, ind)]; exact H
      have hO := hl (D, ind) (by simp)
      have hl2 : ∀ x ∈ l, ItemOk W M x := fun x hx => hl x (by simp [hx])
      have hM2 : ∀ {w : World} {L2 : List It}, St W.heap.size W w L2 → (∀ it ∈ L, it ∈ L2) → DocAt w D := fun H h => docAt H (fun it hi => h it (hML it (hO.own it hi))) (hO.txt.ext H.below)
      have hpop := impl_pop1 (n := l.length) (by omega) (partV_len l) (u := D.v) (v := .int .i64 ind) hu rfl H0
      cases D with
      | text a tv t =>
        have hr2 : layD ch (toD l) ⟨s.out ++ t, s.col + tw t, s.met⟩ = r := lay_text.symm.trans hr
        have hb2 := hb.text
        have hx : RdB W tv t := hO.txt
        obtain ⟨_, At, ct, rfl, _⟩ := id hx
        refine CallS.mk ok_pop (hpop.mono ?_)
        rintro _ w1 ⟨rfl, A1, c1, H⟩
        refine newR (o := .cells #[.nilIface, .int .i64 0] _) H fun g0 w H => ?_
        refine storeO H 0 rfl rfl rfl fun w H => ?_
        refine storeO H 0 rfl rfl rfl fun w H => ?_
        refine ifNot ?_
        refine ifT ?_
        refine loadO H 0 rfl rfl ?_
        refine asY pt_text ?_
        refine ifT ?_
        refine regG [9, 12] [] [4, 8] [0, 1, 2, 3, 4, 5, 6, 7, 8, 9, 10, 11, 12] (by kernel_rfl) ?_
        refine drawR H fun w H => ?_
        refine loadO H 1 rfl rfl ?_
        refine loadS (v := .slice At t.length ct) (objCell H (List.mem_cons_of_mem _ (List.mem_cons_of_mem _ (List.mem_cons_of_mem _ (List.mem_cons_of_mem _ (List.mem_cons_of_mem _ (List.mem_cons_of_mem _ (hML _ (hO.own _ List.mem_cons_self)))))))) rfl) ?_
        have hlt : sumS (toD l) < m := by have e := sumS_cons (DocT.text t, ind) (toD l); have := size_pos (DocT.text t); rw [hm]; show _ < sumS ((DocT.text t, ind) :: toD l); simp only at e; omega
        have hob := hb2.out
        have hc0 : 0 ≤ s.col + tw t := hb2.col0
        have hc1 : s.col + tw t + ((sumT (toD l) : Nat) : Int) ≤ (T : Int) + 4000 := hb2.col
        simp only [List.length_append] at hob
        refine appBS (xs := s.out) (ys := t) H 3 rfl (hx.ext H.below) (by omega) fun A6 c6 w H => ?_
        refine storeO H 1 rfl rfl rfl fun w H => ?_
        refine drawR H fun w H => ?_
        refine loadO H 1 rfl rfl ?_
        refine loadS (v := .int .i64 (tw t)) (objCell H (List.mem_cons_of_mem _ (List.mem_cons_of_mem _ (List.mem_cons_of_mem _ (List.mem_cons_of_mem _ (List.mem_cons_of_mem _ (List.mem_cons_of_mem _ (hML _ (hO.own _ List.mem_cons_self)))))))) rfl) ?_
        refine ar64 (by omega) (by omega) ?_
        refine storeO H 1 rfl rfl rfl fun w H => ?_
        exact Exists.intro (sumS (toD l)) (And.intro hlt (And.intro rfl ⟨l, ⟨s.out ++ t, s.col + tw t, s.met⟩, rfl, hr2, hl2, hb2, A6, c6, A1, c1, es, clock, hes, hmet, H.tl⟩))
      | nil a =>
        have hr2 : layD ch (toD l) s = r := lay_nil.symm.trans hr
        have hb2 := hb.nil
        have hlt : sumS (toD l) < m := by have e := sumS_cons (DocT.nil, ind) (toD l); have := size_pos (DocT.nil); rw [hm]; show _ < sumS ((DocT.nil, ind) :: toD l); simp only at e; omega
        refine CallS.mk ok_pop (hpop.mono ?_)
        rintro _ w1 ⟨rfl, A1, c1, H⟩
        refine newR (o := .cells #[.nilIface, .int .i64 0] _) H fun g0 w H => ?_
        refine storeO H 0 rfl rfl rfl fun w H => ?_
        refine storeO H 0 rfl rfl rfl fun w H => ?_
        refine ifNot ?_
        refine ifT ?_
        refine loadO H 0 rfl rfl ?_
        refine asN pt_text rfl ?_
        refine ifF ?_
        refine asN pt_line rfl ?_
        refine ifF ?_
        refine asN pt_cat rfl ?_
        refine ifF ?_
        refine asN pt_alt rfl ?_
        refine ifF ?_
        refine asN pt_nest rfl ?_
        refine ifF ?_
        refine asN pt_group rfl ?_
        refine ifF ?_
        exact Exists.intro (sumS (toD l)) (And.intro hlt (And.intro rfl ⟨l, s, rfl, hr2, hl2, hb2, Ao, co, A1, c1, es, clock, hes, hmet, H.tl⟩))
      | line a k =>
        have hr2 : layD ch (toD l) (if k = 5 then ⟨s.out ++ [10], 0, s.met⟩ else ⟨s.out ++ [10] ++ spaces ind, ind, s.met⟩) = r := lay_line.symm.trans hr
        have hb2 := hb.line
        have hlt : sumS (toD l) < m := by have e := sumS_cons (DocT.line k, ind) (toD l); have := size_pos (DocT.line k); rw [hm]; show _ < sumS ((DocT.line k, ind) :: toD l); simp only at e; omega
        have hob : s.out.length ≤ 200000000 := by have := hb.out; omega
        refine CallS.mk ok_pop (hpop.mono ?_)
        rintro _ w1 ⟨rfl, A1, c1, H⟩
        refine newR (o := .cells #[.nilIface, .int .i64 0] _) H fun g0 w H => ?_
        refine storeO H 0 rfl rfl rfl fun w H => ?_
        refine storeO H 0 rfl rfl rfl fun w H => ?_
        refine ifNot ?_
        refine ifT ?_
        refine loadO H 0 rfl rfl ?_
        refine asN pt_text rfl ?_
        refine ifF ?_
        refine asY pt_line ?_
        refine ifT ?_
        refine loadO H 1 rfl rfl ?_
        refine litBS (xs := [10]) H (by simp) (by kernel_rfl) fun A11 k11 w H => ?_
        refine appBS H 4 rfl (H.rd 0 rfl) (by first | omega | (simp; omega)) fun A12 k12 w H => ?_
        refine storeO H 2 rfl rfl rfl fun w H => ?_
        refine storeO H 2 rfl rfl rfl fun w H => ?_
        refine loadS (v := .int .i64 k) (objCell H (List.mem_cons_of_mem _ (List.mem_cons_of_mem _ (List.mem_cons_of_mem _ (List.mem_cons_of_mem _ (List.mem_cons_of_mem _ (List.mem_cons_of_mem _ (List.mem_cons_of_mem _ (hML _ (hO.own _ List.mem_cons_self))))))))) rfl) ?_
        refine ifB (fun c0 => ?_) (fun c0 => ?_)
        · rw [if_pos c0] at hr2 hb2
          exact Exists.intro (sumS (toD l)) (And.intro hlt (And.intro rfl ⟨l, ⟨s.out ++ [10], 0, s.met⟩, rfl, hr2, hl2, hb2, _, _, A1, c1, es, clock, hes, hmet, H.tl.tl⟩))
        · rw [if_neg c0] at hr2 hb2
          have hbo := hb2.out
          have hind := hb.good (DocT.line k, ind) (by simp [toD, DocG.d])
          have hi0 : 0 ≤ ind := hind.2.1
          have hi1 : ind + 0 ≤ 4000 := hind.2.2.1
          refine loopV (by kernel_rfl) (fun m e w => e 0 = ptrAt gl 0 ∧ e 3 = ptrAt g0 0 ∧ ∃ (j : Nat) (X : List Int) (Ax : Option Addr) (cx : Nat), (j : Int) ≤ ind ∧ m = ind.toNat - j ∧ X = s.out ++ [10] ++ List.replicate j 32 ∧ St W.heap.size W w (.obj g0 (.cells #[(DocG.line a k).v, .int .i64 ind] 178) :: .lay gl (.slice Ax X.length cx) j (.slice A1 l.length c1) (.slice Am n cm) gm (.func (.func fch) #[] cap) :: stk A1 c1 l :: .rowB (.slice Ax X.length cx) X :: rowN Am cm n s.met :: .obj gm (.map es.toArray clock) :: L)) ind.toNat ?_ ?_
          · exact And.intro rfl (And.intro rfl ⟨0, s.out ++ [10], _, _, hi0, rfl, by rw [List.replicate_zero, List.append_nil], H.tl⟩)
          · rintro m2 e w ⟨h0, h3, j, X, Ax, cx, hj, hm2, hX, H⟩
            have hXl : X.length ≤ 300000000 := by
              rw [hX]; simp only [List.length_append, List.length_cons, List.length_nil, List.length_replicate]; omega
            rw [Env.two h0 h3]
            refine drawR H fun w H => ?_
            refine loadO H 1 rfl rfl ?_
            refine loadO H 0 rfl rfl ?_
            refine ifB (fun c3 => ?_) (fun c3 => ?_)
            · refine loadO H 1 rfl rfl ?_
              refine litBS (xs := [32]) H (by simp) (by kernel_rfl) fun A5 k5 w H => ?_
              refine appBS H 4 rfl (H.rd 0 rfl) (by first | omega | (simp; omega)) fun A6 k6 w H => ?_
              refine storeO H 2 rfl rfl rfl fun w H => ?_
              refine loadO H 2 rfl rfl ?_
              refine arN (by omega) ?_
              refine storeO H 2 rfl rfl rfl fun w H => ?_
              exact Exists.intro (ind.toNat - (j + 1)) (And.intro (by omega) (And.intro rfl (And.intro rfl ⟨j + 1, X ++ [32], _, _, by omega, rfl, by rw [hX, List.replicate_succ', List.append_assoc, List.append_assoc], H.tl⟩)))
            · have hji : (j : Int) = ind := by omega
              have hXs : X = s.out ++ [10] ++ spaces ind := by rw [hX]; unfold spaces; rw [show ind.toNat = j by omega]
              rw [hXs, hji] at H
              exact Exists.intro (sumS (toD l)) (And.intro hlt (And.intro rfl ⟨l, ⟨s.out ++ [10] ++ spaces ind, ind, s.met⟩, rfl, hr2, hl2, hb2, _, _, A1, c1, es, clock, hes, hmet, H.tl⟩))
      | cat a x y =>
        have hr2 : layD ch (toD ((x, ind) :: (y, ind) :: l)) s = r := lay_cat.symm.trans hr
        have hb2 : LayB T S (toD ((x, ind) :: (y, ind) :: l)) s := hb.cat
        have hlt : sumS (toD ((x, ind) :: (y, ind) :: l)) < m := by rw [hm]; simp only [toD, List.map_cons, sumS_cons, DocG.d, DocT.size] <;> omega
        have hp : partV l ++ [y.v, .int .i64 ind, x.v, .int .i64 ind] = partV ((x, ind) :: (y, ind) :: l) := by simp only [partV_cons, List.append_assoc]; rfl
        have hcell : ∀ u ∈ [y.v, .int .i64 ind, x.v, .int .i64 ind], u.oneCell' = true := fun u hu => by rcases List.mem_cons.1 hu with rfl | hu; exact DocG.one _; rcases List.mem_cons.1 hu with rfl | hu; rfl; rcases List.mem_cons.1 hu with rfl | hu; exact DocG.one _; rcases List.mem_cons.1 hu with rfl | hu; rfl; cases hu
        have hl3 : ∀ z ∈ ((x, ind) :: (y, ind) :: l), ItemOk W M z := by intro z hz; rcases List.mem_cons.1 hz with rfl | hz; exact ⟨fun it h => hO.own it (List.mem_cons_of_mem _ (List.mem_append_left _ h)), hO.txt.1⟩; rcases List.mem_cons.1 hz with rfl | hz; exact ⟨fun it h => hO.own it (List.mem_cons_of_mem _ (List.mem_append_right _ h)), hO.txt.2⟩; exact hl2 z hz
        refine CallS.mk ok_pop (hpop.mono ?_)
        rintro _ w1 ⟨rfl, A1, c1, H⟩
        refine newR (o := .cells #[.nilIface, .int .i64 0] _) H fun g0 w H => ?_
        refine storeO H 0 rfl rfl rfl fun w H => ?_
        refine storeO H 0 rfl rfl rfl fun w H => ?_
        refine ifNot ?_
        refine ifT ?_
        refine loadO H 0 rfl rfl ?_
        refine asN pt_text rfl ?_
        refine ifF ?_
        refine asN pt_line rfl ?_
        refine ifF ?_
        refine asY pt_cat ?_
        refine ifT ?_
        refine regT [10, 18, 19, 20] [10, 18] [7, 9, 15, 17] (PT.of [0, 1, 2, 3, 4, 5, 6, 7, 8, 9, 11, 12, 13, 14, 15, 16, 17] (.fork (PT.of [10, 18, 19, 20] .nil) (PT.of [18, 10, 19, 20] .nil))) (by kernel_rfl) ?_
        refine drawR H fun w H => ?_
        refine loadS (v := y.v) (objCell H (List.mem_cons_of_mem _ (List.mem_cons_of_mem _ (List.mem_cons_of_mem _ (List.mem_cons_of_mem _ (List.mem_cons_of_mem _ (List.mem_cons_of_mem _ (hML _ (hO.own _ List.mem_cons_self)))))))) rfl) ?_
        refine loadO H 0 rfl rfl ?_
        refine loadS (v := x.v) (objCell H (List.mem_cons_of_mem _ (List.mem_cons_of_mem _ (List.mem_cons_of_mem _ (List.mem_cons_of_mem _ (List.mem_cons_of_mem _ (List.mem_cons_of_mem _ (hML _ (hO.own _ List.mem_cons_self)))))))) rfl) ?_
        refine loadO H 0 rfl rfl ?_
        refine ForkS.mk ⟨?_, ?_⟩
        · refine RunS.mk ⟨_, _, bPart y ind _, ?_⟩
          refine KeepS.mk ⟨HeldW.refl _, ?_⟩
          refine RunS.mk ⟨_, _, bPart x ind _, ?_⟩
          refine KeepS.mk ⟨HeldW.refl _, ?_⟩
          refine litRB (e := 178) (sz := 2) (n := 2) H rfl (by decide) (bsPart2 y x ind ind _) fun A7 c7 w hB H => ?_
          have Hq := H.rot22
          refine CallS.mk ok_push ((impl_push (m := 2) Hq (Hq.rd 2 rfl) hcell (by omega)).mono ?_)
          rintro _ w7 ⟨rfl, A8, c8, H⟩
          rw [hp] at H
          exact Exists.intro (sumS (toD ((x, ind) :: (y, ind) :: l))) (And.intro hlt (And.intro rfl ⟨((x, ind) :: (y, ind) :: l), s, rfl, hr2, hl3, hb2, Ao, co, A8, c8, es, clock, hes, hmet, H.drop23⟩))
        · refine RunS.mk ⟨_, _, bPart x ind _, ?_⟩
          refine KeepS.mk ⟨HeldW.refl _, ?_⟩
          refine RunS.mk ⟨_, _, bPart y ind _, ?_⟩
          refine KeepS.mk ⟨HeldW.refl _, ?_⟩
          refine litRB (e := 178) (sz := 2) (n := 2) H rfl (by decide) (bsPart2 y x ind ind _) fun A7 c7 w hB H => ?_
          have Hq := H.rot22
          refine CallS.mk ok_push ((impl_push (m := 2) Hq (Hq.rd 2 rfl) hcell (by omega)).mono ?_)
          rintro _ w7 ⟨rfl, A8, c8, H⟩
          rw [hp] at H
          exact Exists.intro (sumS (toD ((x, ind) :: (y, ind) :: l))) (And.intro hlt (And.intro rfl ⟨((x, ind) :: (y, ind) :: l), s, rfl, hr2, hl3, hb2, Ao, co, A8, c8, es, clock, hes, hmet, H.drop23⟩))
      | alt a x y =>
        have hr2 : layD ch (toD ((x, ind) :: l)) s = r := lay_alt.symm.trans hr
        have hb2 : LayB T S (toD ((x, ind) :: l)) s := hb.alt
        have hlt : sumS (toD ((x, ind) :: l)) < m := by rw [hm]; simp only [toD, List.map_cons, sumS_cons, DocG.d, DocT.size] <;> omega
        have hp : partV l ++ [x.v, .int .i64 ind] = partV ((x, ind) :: l) := (partV_cons (x, ind) l).symm
        have hcell : ∀ u ∈ [x.v, .int .i64 ind], u.oneCell' = true := fun u hu => by rcases List.mem_cons.1 hu with rfl | hu; exact DocG.one _; rcases List.mem_cons.1 hu with rfl | hu; rfl; cases hu
        have hl3 : ∀ z ∈ ((x, ind) :: l), ItemOk W M z := by intro z hz; rcases List.mem_cons.1 hz with rfl | hz; exact ⟨fun it h => hO.own it (List.mem_cons_of_mem _ (List.mem_append_left _ h)), hO.txt.1⟩; exact hl2 z hz
        refine CallS.mk ok_pop (hpop.mono ?_)
        rintro _ w1 ⟨rfl, A1, c1, H⟩
        refine newR (o := .cells #[.nilIface, .int .i64 0] _) H fun g0 w H => ?_
        refine storeO H 0 rfl rfl rfl fun w H => ?_
        refine storeO H 0 rfl rfl rfl fun w H => ?_
        refine ifNot ?_
        refine ifT ?_
        refine loadO H 0 rfl rfl ?_
        refine asN pt_text rfl ?_
        refine ifF ?_
        refine asN pt_line rfl ?_
        refine ifF ?_
        refine asN pt_cat rfl ?_
        refine ifF ?_
        refine asY pt_alt ?_
        refine ifT ?_
        refine regG [10, 11, 12] [] [7, 9] [0, 1, 2, 3, 4, 5, 6, 7, 8, 9, 10, 11, 12] (by kernel_rfl) ?_
        refine drawR H fun w H => ?_
        refine loadS (v := x.v) (objCell H (List.mem_cons_of_mem _ (List.mem_cons_of_mem _ (List.mem_cons_of_mem _ (List.mem_cons_of_mem _ (List.mem_cons_of_mem _ (List.mem_cons_of_mem _ (hML _ (hO.own _ List.mem_cons_self)))))))) rfl) ?_
        refine loadO H 0 rfl rfl ?_
        refine RunS.mk ⟨_, _, bPart x ind _, ?_⟩
        refine litRB (e := 178) (sz := 2) (n := 1) H rfl (by decide) (bsPart1 x ind _) fun A7 c7 w hB H => ?_
        have Hq := H.rot22
        refine CallS.mk ok_push ((impl_push (m := 1) Hq (Hq.rd 2 rfl) hcell (by omega)).mono ?_)
        rintro _ w7 ⟨rfl, A8, c8, H⟩
        rw [hp] at H
        exact Exists.intro (sumS (toD ((x, ind) :: l))) (And.intro hlt (And.intro rfl ⟨((x, ind) :: l), s, rfl, hr2, hl3, hb2, Ao, co, A8, c8, es, clock, hes, hmet, H.drop23⟩))
      | nest a d k =>
        have hr2 : layD ch (toD ((d, ind + k) :: l)) s = r := lay_nest.symm.trans hr
        have hb2 : LayB T S (toD ((d, ind + k) :: l)) s := hb.nest
        have hlt : sumS (toD ((d, ind + k) :: l)) < m := by rw [hm]; simp only [toD, List.map_cons, sumS_cons, DocG.d, DocT.size] <;> omega
        have hp : partV l ++ [d.v, .int .i64 (ind + k)] = partV ((d, ind + k) :: l) := (partV_cons (d, ind + k) l).symm
        have hcell : ∀ u ∈ [d.v, .int .i64 (ind + k)], u.oneCell' = true := fun u hu => by rcases List.mem_cons.1 hu with rfl | hu; exact DocG.one _; rcases List.mem_cons.1 hu with rfl | hu; rfl; cases hu
        have hl3 : ∀ z ∈ ((d, ind + k) :: l), ItemOk W M z := by intro z hz; rcases List.mem_cons.1 hz with rfl | hz; exact ⟨fun it h => hO.own it (List.mem_cons_of_mem _ h), hO.txt⟩; exact hl2 z hz
        have hb3 := hb2.good (d.d, ind + k) (by simp [toD])
        have hb4 := hb.good (DocT.nest d.d k, ind) (by simp [toD, DocG.d])
        have hb5 : 0 ≤ ind ∧ 0 ≤ k := ⟨hb4.2.1, hb4.1.1⟩
        have hb6 : ind + k + d.d.nestD ≤ 4000 := hb3.2.2.1
        have hb7 := hb3.1.nn.nonneg
        refine CallS.mk ok_pop (hpop.mono ?_)
        rintro _ w1 ⟨rfl, A1, c1, H⟩
        refine newR (o := .cells #[.nilIface, .int .i64 0] _) H fun g0 w H => ?_
        refine storeO H 0 rfl rfl rfl fun w H => ?_
        refine storeO H 0 rfl rfl rfl fun w H => ?_
        refine ifNot ?_
        refine ifT ?_
        refine loadO H 0 rfl rfl ?_
        refine asN pt_text rfl ?_
        refine ifF ?_
        refine asN pt_line rfl ?_
        refine ifF ?_
        refine asN pt_cat rfl ?_
        refine ifF ?_
        refine asN pt_alt rfl ?_
        refine ifF ?_
        refine asY pt_nest ?_
        refine ifT ?_
        refine regG [15, 16, 17] [] [7, 9, 13] [0, 1, 2, 3, 4, 5, 6, 7, 8, 9, 10, 11, 12, 13, 14, 15, 16, 17] (by kernel_rfl) ?_
        refine drawR H fun w H => ?_
        refine loadS (v := d.v) (objCell H (List.mem_cons_of_mem _ (List.mem_cons_of_mem _ (List.mem_cons_of_mem _ (List.mem_cons_of_mem _ (List.mem_cons_of_mem _ (List.mem_cons_of_mem _ (hML _ (hO.own _ List.mem_cons_self)))))))) rfl) ?_
        refine loadO H 0 rfl rfl ?_
        refine loadS (v := .int .i64 k) (objCell H (List.mem_cons_of_mem _ (List.mem_cons_of_mem _ (List.mem_cons_of_mem _ (List.mem_cons_of_mem _ (List.mem_cons_of_mem _ (List.mem_cons_of_mem _ (hML _ (hO.own _ List.mem_cons_self)))))))) rfl) ?_
        refine ar64 (by omega) (by omega) ?_
        refine RunS.mk ⟨_, _, bPart d (ind + k) _, ?_⟩
        refine litRB (e := 178) (sz := 2) (n := 1) H rfl (by decide) (bsPart1 d (ind + k) _) fun A7 c7 w hB H => ?_
        have Hq := H.rot22
        refine CallS.mk ok_push ((impl_push (m := 1) Hq (Hq.rd 2 rfl) hcell (by omega)).mono ?_)
        rintro _ w7 ⟨rfl, A8, c8, H⟩
        rw [hp] at H
        exact Exists.intro (sumS (toD ((d, ind + k) :: l))) (And.intro hlt (And.intro rfl ⟨((d, ind + k) :: l), s, rfl, hr2, hl3, hb2, Ao, co, A8, c8, es, clock, hes, hmet, H.drop23⟩))
      | group a d k =>
        refine CallS.mk ok_pop (hpop.mono ?_)
        rintro _ w1 ⟨rfl, A1, c1, H⟩
        refine newR (o := .cells #[.nilIface, .int .i64 0] _) H fun g0 w H => ?_
        refine storeO H 0 rfl rfl rfl fun w H => ?_
        refine storeO H 0 rfl rfl rfl fun w H => ?_
        refine ifNot ?_
        refine ifT ?_
        refine loadO H 0 rfl rfl ?_
        refine asN pt_text rfl ?_
        refine ifF ?_
        refine asN pt_line rfl ?_
        refine ifF ?_
        refine asN pt_cat rfl ?_
        refine ifF ?_
        refine asN pt_alt rfl ?_
        refine ifF ?_
        refine asN pt_nest rfl ?_
        refine ifF ?_
        refine asY pt_group ?_
        refine ifT ?_
        refine loadO H 1 rfl rfl ?_
        have hgr := lay_group.symm.trans hr
        refine CallS.mk okch ((hch a k d ind l s _ (.obj g0 (.cells #[(DocG.group a d k).v, .int .i64 ind] 178) :: L) (fun it h => List.mem_cons_of_mem _ h) hl hb ⟨Ao, co, A1, c1, es, clock, hes, hmet, H.sink5⟩).mono ?_)
        rintro _ w2 ⟨b, ok, rfl, hchr, hfw, Ao2, co2, Ar2, cr2, es2, clock2, hes2, hmet2, H⟩
        have hgr2 := hgr
        rw [show ch d.d k s (List.map (fun x => (x.1.d, x.2)) l) = _ from hchr] at hgr
        refine ifNot ?_
        refine ifO (fun cok => ?_) (fun cok => ?_)
        have hgd := hb.good (DocT.group d.d k, ind) (by simp [toD, DocG.d])
        have hgood : GoodD d.d := hgd.1
        have hgr0 : GrD n (DocT.group d.d k) := hmet2 ▸ hgd.2.2.2
        have htl : d.d.tl + 1 + sumT (toD l) ≤ T := by have := hb.tl; simp only [toD, List.map_cons, sumT_cons, DocG.d, DocT.tl] at this; exact this
        · rw [cok, if_pos rfl] at hgr
          refine ifO (fun cb => ?_) (fun cb => ?_)
          · rw [cb] at hgr
            have hf0 := hfw cb cok
            have hb2 := hb.flat hf0
            refine CallS.mk ok_markFlat ((impl_markFlat (L := .lay gl (.slice Ao2 s.out.length co2) s.col (.slice Ar2 l.length cr2) (.slice Am n cm) gm (.func (.func fch) #[] cap) :: stk Ar2 cr2 l :: .rowB (.slice Ao2 s.out.length co2) s.out :: .obj gm (.map es2.toArray clock2) :: .obj g0 (.cells #[(DocG.group a d k).v, .int .i64 ind] 178) :: L) (fun it h => (List.mem_cons_of_mem _ (List.mem_cons_of_mem _ (List.mem_cons_of_mem _ (List.mem_cons_of_mem _ (List.mem_cons_of_mem _ (hML it h))))))) List.mem_cons_self (.group a d k) hO.own hgr0 s.met _ hmet2 H.up3).mono ?_)
            rintro _ w3 ⟨rfl, H⟩
            have H := H.dn3.up2
            refine loadO H 1 rfl rfl ?_
            have hft := impl_flatText (.group a d k) hgood (by show d.d.tl + 1 ≤ _; omega) (fun w M2 H h => hM2 H (fun it hi => h it (by simp [hi]))) s.out Ao2 co2 _ (by show s.out.length + (d.d.tl + 1) ≤ _; have := hb.out; omega) H
            have htx : flatD d.d = some (flatT d.d) := by
              cases hq : flatD d.d with
              | none => have := (fw_flat hgood).2 hq; omega
              | some t => unfold flatT; rw [hq]; rfl
            have hfe : fwD (DocG.group a d k).d = fwD d.d := rfl
            rw [show flatD (DocG.group a d k).d = some (flatT d.d) from htx] at hft
            refine CallS.mk ok_flatText (hft.mono ?_)
            rintro _ w4 ⟨Ao3, co3, rfl, H⟩
            have hlt : sumS (toD l) < m := by rw [hm]; simp only [toD, List.map_cons, sumS_cons, DocG.d, DocT.size]; omega
            have hcol := hb2.col
            have hcol0 := hb2.col0
            have hmet5 : (markF (.group d.d k) s.met).length = n := by rw [markF_len]; exact hmet2
            simp only at hcol hcol0
            refine storeO H 1 rfl rfl rfl fun w H => ?_
            refine regT [3, 6, 7, 11] [] [] (PT.of [0, 1, 2, 4, 5] (.fork (PT.of [3, 6, 7, 8, 9, 10, 11] .nil) (PT.of [6] (.fork (PT.of [3, 7, 8, 9, 10, 11] .nil) (PT.of [7, 3, 8, 9, 10, 11] .nil))))) (by kernel_rfl) ?_
            refine drawR H fun w H => ?_
            refine ForkS.mk ⟨?_, ?_⟩
            · refine loadO H 1 rfl rfl ?_
              have H0 : St W.heap.size W w (.rowB (.slice Ao3 (s.out ++ flatT d.d).length co3) (s.out ++ flatT d.d) :: .lay gl (.slice Ao3 (s.out ++ flatT d.d).length co3) s.col (.slice Ar2 l.length cr2) (.slice Am n cm) gm (.func (.func fch) #[] cap) :: stk Ar2 cr2 l :: rowN Am cm n (markF (.group d.d k) s.met) :: .obj gm (.map es2.toArray clock2) :: .obj g0 (.cells #[(DocG.group a d k).v, .int .i64 ind] 178) :: L) := H
              refine CallS.mk ok_flatWidth ((impl_flatWidth (.group a d k) hO.own hgood (by show d.d.tl + 1 ≤ _; omega) (.rowB (.slice Ao3 (s.out ++ flatT d.d).length co3) (s.out ++ flatT d.d) :: .lay gl (.slice Ao3 (s.out ++ flatT d.d).length co3) s.col (.slice Ar2 l.length cr2) (.slice Am n cm) gm (.func (.func fch) #[] cap) :: stk Ar2 cr2 l :: rowN Am cm n (markF (.group d.d k) s.met) :: .obj g0 (.cells #[(DocG.group a d k).v, .int .i64 ind] 178) :: L) es2 clock2 _ _ _ _ _ _ (fun it h => (List.mem_cons_of_mem _ (List.mem_cons_of_mem _ (List.mem_cons_of_mem _ (List.mem_cons_of_mem _ (List.mem_cons_of_mem _ (hML it h))))))) (List.mem_cons_of_mem _ List.mem_cons_self) hes2 H0.up4).mono ?_)
              rintro _ w5 ⟨rfl, es5, clock5, hes5, H⟩
              refine ar64 (by omega) (by omega) ?_
              refine storeO H 2 rfl rfl rfl fun w H => ?_
              exact Exists.intro (sumS (toD l)) (And.intro hlt (And.intro rfl ⟨l, ⟨s.out ++ flatT d.d, s.col + fwD d.d, markF (.group d.d k) s.met⟩, rfl, hgr, hl2, hb2, Ao3, co3, Ar2, cr2, es5, clock5, hes5, hmet5, H.finF⟩))
            · refine ForkS.mk ⟨?_, ?_⟩
              · refine loadO H 1 rfl rfl ?_
                have H0 : St W.heap.size W w (.rowB (.slice Ao3 (s.out ++ flatT d.d).length co3) (s.out ++ flatT d.d) :: .lay gl (.slice Ao3 (s.out ++ flatT d.d).length co3) s.col (.slice Ar2 l.length cr2) (.slice Am n cm) gm (.func (.func fch) #[] cap) :: stk Ar2 cr2 l :: rowN Am cm n (markF (.group d.d k) s.met) :: .obj gm (.map es2.toArray clock2) :: .obj g0 (.cells #[(DocG.group a d k).v, .int .i64 ind] 178) :: L) := H
                refine CallS.mk ok_flatWidth ((impl_flatWidth (.group a d k) hO.own hgood (by show d.d.tl + 1 ≤ _; omega) (.rowB (.slice Ao3 (s.out ++ flatT d.d).length co3) (s.out ++ flatT d.d) :: .lay gl (.slice Ao3 (s.out ++ flatT d.d).length co3) s.col (.slice Ar2 l.length cr2) (.slice Am n cm) gm (.func (.func fch) #[] cap) :: stk Ar2 cr2 l :: rowN Am cm n (markF (.group d.d k) s.met) :: .obj g0 (.cells #[(DocG.group a d k).v, .int .i64 ind] 178) :: L) es2 clock2 _ _ _ _ _ _ (fun it h => (List.mem_cons_of_mem _ (List.mem_cons_of_mem _ (List.mem_cons_of_mem _ (List.mem_cons_of_mem _ (List.mem_cons_of_mem _ (hML it h))))))) (List.mem_cons_of_mem _ List.mem_cons_self) hes2 H0.up4).mono ?_)
                rintro _ w5 ⟨rfl, es5, clock5, hes5, H⟩
                refine ar64 (by omega) (by omega) ?_
                refine storeO H 2 rfl rfl rfl fun w H => ?_
                exact Exists.intro (sumS (toD l)) (And.intro hlt (And.intro rfl ⟨l, ⟨s.out ++ flatT d.d, s.col + fwD d.d, markF (.group d.d k) s.met⟩, rfl, hgr, hl2, hb2, Ao3, co3, Ar2, cr2, es5, clock5, hes5, hmet5, H.finF⟩))
              · have H0 : St W.heap.size W w (.rowB (.slice Ao3 (s.out ++ flatT d.d).length co3) (s.out ++ flatT d.d) :: .lay gl (.slice Ao3 (s.out ++ flatT d.d).length co3) s.col (.slice Ar2 l.length cr2) (.slice Am n cm) gm (.func (.func fch) #[] cap) :: stk Ar2 cr2 l :: rowN Am cm n (markF (.group d.d k) s.met) :: .obj gm (.map es2.toArray clock2) :: .obj g0 (.cells #[(DocG.group a d k).v, .int .i64 ind] 178) :: L) := H
                refine CallS.mk ok_flatWidth ((impl_flatWidth (.group a d k) hO.own hgood (by show d.d.tl + 1 ≤ _; omega) (.rowB (.slice Ao3 (s.out ++ flatT d.d).length co3) (s.out ++ flatT d.d) :: .lay gl (.slice Ao3 (s.out ++ flatT d.d).length co3) s.col (.slice Ar2 l.length cr2) (.slice Am n cm) gm (.func (.func fch) #[] cap) :: stk Ar2 cr2 l :: rowN Am cm n (markF (.group d.d k) s.met) :: .obj g0 (.cells #[(DocG.group a d k).v, .int .i64 ind] 178) :: L) es2 clock2 _ _ _ _ _ _ (fun it h => (List.mem_cons_of_mem _ (List.mem_cons_of_mem _ (List.mem_cons_of_mem _ (List.mem_cons_of_mem _ (List.mem_cons_of_mem _ (hML it h))))))) (List.mem_cons_of_mem _ List.mem_cons_self) hes2 H0.up4).mono ?_)
                rintro _ w5 ⟨rfl, es5, clock5, hes5, H⟩
                refine loadO H 2 rfl rfl ?_
                refine ar64 (by omega) (by omega) ?_
                refine storeO H 2 rfl rfl rfl fun w H => ?_
                exact Exists.intro (sumS (toD l)) (And.intro hlt (And.intro rfl ⟨l, ⟨s.out ++ flatT d.d, s.col + fwD d.d, markF (.group d.d k) s.met⟩, rfl, hgr, hl2, hb2, Ao3, co3, Ar2, cr2, es5, clock5, hes5, hmet5, H.finF⟩))
          · rw [cb] at hgr
            have hb2 := hb.broken
            have hmet5 : (s.met.set k 2).length = n := by rw [List.length_set]; exact hmet2
            have hlt : sumS (toD ((d, ind) :: l)) < m := by rw [hm]; simp only [toD, List.map_cons, sumS_cons, DocG.d, DocT.size] <;> omega
            have hp : partV l ++ [d.v, .int .i64 ind] = partV ((d, ind) :: l) := (partV_cons (d, ind) l).symm
            have hcell : ∀ u ∈ [d.v, .int .i64 ind], u.oneCell' = true := fun u hu => by rcases List.mem_cons.1 hu with rfl | hu; exact DocG.one _; rcases List.mem_cons.1 hu with rfl | hu; rfl; cases hu
            have hl3 : ∀ z ∈ ((d, ind) :: l), ItemOk W M z := by intro z hz; rcases List.mem_cons.1 hz with rfl | hz; exact ⟨fun it h => hO.own it (List.mem_cons_of_mem _ h), hO.txt⟩; exact hl2 z hz
            refine drawR H fun w H => ?_
            refine loadO H 0 rfl rfl ?_
            refine loadS (v := .int .i64 k) (objCell H (List.mem_cons_of_mem _ (List.mem_cons_of_mem _ (List.mem_cons_of_mem _ (List.mem_cons_of_mem _ (List.mem_cons_of_mem _ (List.mem_cons_of_mem _ (hML _ (hO.own _ List.mem_cons_self)))))))) rfl) ?_
            (refine idxRow H 3 rfl (by show (0 : Int) ≤ (k : Nat); omega) (by show ((k : Nat) : Int) < n; have := hgr0.1; omega) fun b0 hA _ => ?_; subst hA)
            refine storeIN H 3 rfl k 2 (by show 0 + (k : Int).toNat * 1 = _; omega) hgr0.1 fun w H => ?_
            refine regG [10, 11, 12] [] [7, 9] [0, 1, 2, 3, 4, 5, 6, 7, 8, 9, 10, 11, 12] (by kernel_rfl) ?_
            refine drawR H fun w H => ?_
            refine loadS (v := d.v) (objCell H (List.mem_cons_of_mem _ (List.mem_cons_of_mem _ (List.mem_cons_of_mem _ (List.mem_cons_of_mem _ (List.mem_cons_of_mem _ (List.mem_cons_of_mem _ (hML _ (hO.own _ List.mem_cons_self)))))))) rfl) ?_
            refine loadO H 5 rfl rfl ?_
            refine RunS.mk ⟨_, _, bPart d ind _, ?_⟩
            refine litRB (e := 178) (sz := 2) (n := 1) H rfl (by decide) (bsPart1 d ind _) fun A7 c7 w hB H => ?_
            have Hq := H.rot12
            refine CallS.mk ok_push ((impl_push (m := 1) Hq (Hq.rd 2 rfl) hcell (by omega)).mono ?_)
            rintro _ w7 ⟨rfl, A8, c8, H⟩
            rw [hp] at H
            exact Exists.intro (sumS (toD ((d, ind) :: l))) (And.intro hlt (And.intro rfl ⟨((d, ind) :: l), ⟨s.out, s.col, s.met.set k 2⟩, rfl, hgr, hl3, hb2, Ao2, co2, A8, c8, es2, clock2, hes2, hmet5, H.finB⟩))
        · rw [cok, if_neg (by decide)] at hgr
          have hgr3 : none = r := hgr
          subst hgr3
          exact And.intro rfl H.none
end Go.Proofs.YtfhpgfbakimmhaaE
/- The program's Layout and Render. -/
namespace Go.Proofs.YtfhpgfbakimmhaaE
open Go Go.RowKit
set_option linter.unusedVariables false
set_option linter.unusedSimpArgs false
set_option maxRecDepth 100000
set_option maxHeartbeats 8000000

theorem mkMapR {P : Program} {B : Nat} {W0 w : World} {L : List It} {t : TypeId} {K : Value → World → Prop} (H : St B W0 w L) (k : ∀ g w', St B W0 w' (.obj g (.map #[] 0) :: L) → K (.map (some g)) w') : RunS P (Instr.makeMap t none) w K :=
  ⟨.map (some w.heap.size), w.alloc (.map #[] 0), rfl, k _ _ (H.allocO _)⟩
theorem bLay (A : Option Addr) (n c g : Nat) (w : World) : (Instr.build 126 #[(3, .slice A n c), (4, .map (some g))]).run Try.prog w = .ok (.agg #[.slice none 0 0, .int .i64 0, .slice none 0 0, .slice A n c, .map (some g), .nilFunc]) w := by kernel_rfl
theorem St.shufA {B : Nat} {W0 w : World} {a l m i s b : It} {L : List It} (H : St B W0 w (a :: l :: m :: i :: s :: b :: L)) : St B W0 w (l :: s :: a :: b :: i :: m :: L) := H.sel fun q => by simp only [cntL]; omega
theorem St.drop2 {B : Nat} {W0 w : World} {a b c : It} {L : List It} (H : St B W0 w (a :: b :: c :: L)) : St B W0 w (a :: b :: L) := H.sel fun q => by simp only [cntL]; omega
theorem St.fin3 {B : Nat} {W0 w : World} {a b c d : It} {L : List It} (H : St B W0 w (a :: b :: c :: d :: L)) : St B W0 w [a, c, d] := H.sel fun q => by simp only [cntL]; omega
theorem ok_newLayouter : callOK Try.prog 97 = true := by kernel_rfl
theorem impl_newLayouter {B : Nat} {W0 w : World} {L : List It} (D : DocG) (g : Nat) (hg : g ≤ 40000) (H : St B W0 w L) :
    Calls Try.prog 97 #[D.v, .int .i64 g] w fun e w' => ∃ gl gm Am cm Ar cr, e = .returned (ptrAt gl 0) ∧ St B W0 w' (layL gl gm .nilFunc Am cm g L [(D, 0)] ⟨[], 0, List.replicate g 0⟩ none 0 Ar cr [] 0) := by
  have H := (H.rowNil (e := 5) (sz := 1)).rowNil (e := 178) (sz := 2)
  obtain ⟨tD, vD, eD⟩ := D.v_if
  refine calls_of_vcV (args := [D.v, .int .i64 g]) Try.func97 rfl (by kernel_rfl) (Nat.le_of_ble_eq_true rfl) ?_
  refine mkI H (by omega) fun v0 w H => ?_
  refine mkMapR H fun g1 w H => ?_
  obtain ⟨A0, c0, e0⟩ := H.mk1 1 rfl
  subst e0
  have elen : (List.replicate g (0 : Int)).length = g := List.length_replicate
  have H1 : St B W0 w (.obj g1 (.map #[] 0) :: .row (.slice A0 (List.replicate g (0 : Int)).length c0) 3 1 (List.replicate g (0 : Int)).length ((List.replicate g (0 : Int)).map (.int .i64)) :: .row (.slice none 0 0) 178 2 0 [] :: .row (.slice none 0 0) 5 1 0 [] :: L) := H
  rw [elen] at H1
  have H := H1
  refine RunS.mk ⟨_, _, bLay _ _ _ _ _, ?_⟩
  refine newR (o := .cells #[.slice none 0 0, .int .i64 0, .slice none 0 0, .slice A0 ((List.replicate g 0).length) c0, Value.map (some g1), .nilFunc] _) H fun g0 w H => ?_
  refine RunS.mk ⟨_, _, bPart D 0 _, ?_⟩
  refine litRB (e := 178) (sz := 2) (n := 1) H rfl (by decide) (bsPart1 D 0 _) fun A7 c7 w hB H => ?_
  have H1 : St B W0 w (.row (.slice A7 1 c7) 178 2 1 [D.v, .int .i64 0] :: .lay g0 (.slice none 0 0) 0 (.slice none 0 0) (.slice A0 g c0) g1 .nilFunc :: .obj g1 (.map #[] 0) :: rowN A0 c0 g (List.replicate g 0) :: .row (.slice none 0 0) 178 2 0 [] :: .row (.slice none 0 0) 5 1 0 [] :: L) := by
    have e3 : ∀ x : Nat, x = g → St B W0 w (.row (.slice A7 1 c7) 178 2 1 [D.v, .int .i64 0] :: .lay g0 (.slice none 0 0) 0 (.slice none 0 0) (.slice A0 x c0) g1 .nilFunc :: .obj g1 (.map #[] 0) :: rowN A0 c0 g (List.replicate g 0) :: .row (.slice none 0 0) 178 2 0 [] :: .row (.slice none 0 0) 5 1 0 [] :: L) → St B W0 w (.row (.slice A7 1 c7) 178 2 1 [D.v, .int .i64 0] :: .lay g0 (.slice none 0 0) 0 (.slice none 0 0) (.slice A0 g c0) g1 .nilFunc :: .obj g1 (.map #[] 0) :: rowN A0 c0 g (List.replicate g 0) :: .row (.slice none 0 0) 178 2 0 [] :: .row (.slice none 0 0) 5 1 0 [] :: L) := fun x hx h => hx ▸ h
    exact e3 _ elen H
  have Hq := H1.shufA
  have hcell : ∀ u ∈ [D.v, .int .i64 0], u.oneCell' = true := fun u hu => by rcases List.mem_cons.1 hu with rfl | hu; exact DocG.one _; rcases List.mem_cons.1 hu with rfl | hu; rfl; cases hu
  refine CallS.mk ok_push ((impl_push (n := 0) (m := 1) Hq (Hq.rd 2 rfl) hcell (by omega)).mono ?_)
  rintro _ w7 ⟨rfl, A8, c8, H⟩
  exact ⟨g0, g1, A0, c0, A8, c8, rfl, H.drop2⟩
theorem ok_layoutC : callOK Try.prog 125 = true := by kernel_rfl
theorem ch_layout {W : World} {M L : List It} {gl gm cm n T S g7 g5 : Nat} {Am : Option Addr} {width : Int} {t7 t5 : TypeId} (hML : ∀ it ∈ M, it ∈ L) (hT : T ≤ 140000) (h7 : .obj g7 (.cells #[ptrAt gl 0] t7) ∈ L) (h5 : .obj g5 (.cells #[.int .i64 width] t5) ∈ L) (hw : 0 ≤ width ∧ width ≤ 65535) :
    ChooseOk W M gl gm (.func (.func 125) #[] #[ptrAt g7 0, ptrAt g5 0]) Am cm n T S L (chW width) := by
  refine ⟨_, _, rfl, ok_layoutC, ?_⟩
  rintro a k d ind l s w L2 hL2 hl hb ⟨Ao, co, Ar, cr, es, clock, hes, hmet, H⟩
  refine calls_of_vcV (args := [ptrAt a 0, ptrAt g7 0, ptrAt g5 0]) Try.func125 rfl (by kernel_rfl) (Nat.le_of_ble_eq_true rfl) ?_
  have hx := hl (.group a d k, ind) (by simp)
  have hl2 : ∀ x ∈ l, ItemOk W M x := fun x hx => hl x (by simp [hx])
  have hgd := hb.good (DocT.group d.d k, ind) (by simp [toD, DocG.d])
  have hgood : GoodD d.d := hgd.1
  have htl : d.d.tl + 1 + sumT (toD l) ≤ T := by have := hb.tl; simp only [toD, List.map_cons, sumT_cons, DocG.d, DocT.tl] at this; exact this
  have hbb := behind_bound (l := toD l) (fun y hy => (hb.good y (by simp only [toD, List.map_cons]; exact List.mem_cons_of_mem _ hy)).1)
  have hfb := fw_bound hgood
  have hcol := hb.col
  have hcol0 := hb.col0
  have hfe : fwD (DocG.group a d k).d = fwD d.d := rfl
  simp only [toD, List.map_cons, sumT_cons, DocG.d, DocT.tl] at hcol
  have hsum : (l.map fun x : ItG => (x.1.d, x.2)) = toD l := rfl
  rw [hsum] at hcol
  refine loadS (v := ptrAt gl 0) (objCell H (List.mem_cons_of_mem _ (List.mem_cons_of_mem _ (List.mem_cons_of_mem _ (List.mem_cons_of_mem _ (List.mem_cons_of_mem _ (hL2 _ h7)))))) rfl) ?_
  refine CallS.mk ok_flatWidth ((impl_flatWidth (.group a d k) hx.own hgood (by show d.d.tl + 1 ≤ _; omega) (.lay gl (.slice Ao s.out.length co) s.col (.slice Ar l.length cr) (.slice Am n cm) gm (.func (.func 125) #[] #[ptrAt g7 0, ptrAt g5 0]) :: stk Ar cr l :: .rowB (.slice Ao s.out.length co) s.out :: rowN Am cm n s.met :: L2) es clock _ _ _ _ _ _ (fun it h => by simp [hL2 _ (hML _ h)]) List.mem_cons_self hes H.up4).mono ?_)
  rintro _ w2 ⟨rfl, es2, clock2, hes2, H⟩
  have H := H.dn4
  refine regG [10] [10] [3, 6, 9, 12] [0, 1, 2, 3, 4, 5, 6, 7, 8, 9, 12, 10, 11, 13, 14, 15, 16] (by kernel_rfl) ?_
  refine drawR H fun w H => ?_
  refine gT (fun c2 => ?_) (fun c2 => ?_)
  · have H0 := H
    refine loadS (v := ptrAt gl 0) (objCell H (List.mem_cons_of_mem _ (List.mem_cons_of_mem _ (List.mem_cons_of_mem _ (List.mem_cons_of_mem _ (List.mem_cons_of_mem _ (hL2 _ h7)))))) rfl) ?_
    refine gY ?_
    refine gY ?_
    refine gY ?_
    refine loadO H 0 rfl rfl ?_
    refine gY ?_
    refine gY ?_
    refine ar64 (by omega) (by omega) ?_
    refine gY ?_
    refine loadS (v := ptrAt gl 0) (objCell H (List.mem_cons_of_mem _ (List.mem_cons_of_mem _ (List.mem_cons_of_mem _ (List.mem_cons_of_mem _ (List.mem_cons_of_mem _ (hL2 _ h7)))))) rfl) ?_
    refine gY ?_
    refine loadS (v := .int .i64 width) (objCell H (List.mem_cons_of_mem _ (List.mem_cons_of_mem _ (List.mem_cons_of_mem _ (List.mem_cons_of_mem _ (List.mem_cons_of_mem _ (hL2 _ h5)))))) rfl) ?_
    refine gY ?_
    refine callVB ok_behind (impl_behind (l := l) (objCell H List.mem_cons_self rfl) (H.rd 1 rfl) (fun x hx => ⟨docAt H (fun it hi => (List.mem_cons_of_mem _ (List.mem_cons_of_mem _ (List.mem_cons_of_mem _ (List.mem_cons_of_mem _ (List.mem_cons_of_mem _ (hL2 _ (hML _ ((hl2 x hx).own it hi))))))))) ((hl2 x hx).txt.ext H.below), (hb.good (x.1.d, x.2) (by simp only [toD, List.map_cons]; exact List.mem_cons_of_mem _ (List.mem_map_of_mem (f := fun x : ItG => (x.1.d, x.2)) hx))).1⟩) (by omega)) H fun w hB H => ?_
    refine KeepS.mk ⟨HeldW.ofBelow hB, ?_⟩
    refine gY ?_
    refine ar64 (by omega) (by omega) ?_
    refine gY ?_
    refine Exists.intro (decide (s.col + fwD d.d + behindD (toD l) ≤ width)) (Exists.intro true (And.intro rfl (And.intro ?_ (And.intro (fun _ _ => by omega) ⟨Ao, co, Ar, cr, es2, clock2, hes2, hmet, H⟩))))
    show some (decide (0 ≤ fwD d.d ∧ s.col + fwD d.d + behindD (toD l) ≤ width)) = some (decide (s.col + fwD d.d + behindD (toD l) ≤ width))
    rw [hfe] at c2
    simp only [show (0 ≤ fwD d.d) = True from eq_true c2, true_and]
  · refine gNot ?_
    refine gNf ?_
    refine gNot ?_
    refine gNf ?_
    refine gNot ?_
    refine gNf ?_
    refine gNot ?_
    refine gNf ?_
    refine gNot ?_
    refine gNf ?_
    refine gNot ?_
    refine gNf ?_
    refine gNot ?_
    refine gNf ?_
    refine gNot ?_
    refine gNf ?_
    refine gNot ?_
    refine gNf ?_
    refine gNot ?_
    refine gNf ?_
    refine Exists.intro false (Exists.intro true (And.intro rfl (And.intro ?_ (And.intro (fun h => by cases h) ⟨Ao, co, Ar, cr, es2, clock2, hes2, hmet, H⟩))))
    have c2 : ¬ (fwD d.d ≥ 0) := c2
    show some (decide (0 ≤ fwD d.d ∧ s.col + fwD d.d + behindD (toD l) ≤ width)) = _
    rw [decide_eq_false (by omega)]; rfl
theorem layW_some (width : Int) : ∀ (k : Nat) (l : List ItD) (s : LS), sumS l ≤ k → ∃ s', layN (chW width) k l s = some s'
  | k, [], s, _ => ⟨s, by cases k <;> rfl⟩
  | 0, x :: r, s, h => by have := size_pos x.1; rw [sumS_cons] at h; omega
  | k + 1, (d, ind) :: r, s, h => by
    rw [sumS_cons] at h
    cases d with
    | nil => exact layW_some width k r s (by simp only [DocT.size] at h; omega)
    | text t => exact layW_some width k r _ (by simp only [DocT.size] at h; omega)
    | line kd => exact layW_some width k r _ (by simp only [DocT.size] at h; omega)
    | cat x y => exact layW_some width k _ s (by simp only [DocT.size, sumS_cons] at h ⊢; omega)
    | alt x y => exact layW_some width k _ s (by simp only [DocT.size, sumS_cons] at h ⊢; omega)
    | nest d n => exact layW_some width k _ s (by simp only [DocT.size, sumS_cons] at h ⊢; omega)
    | group d g =>
      simp only [layN, chW]
      cases decide (0 ≤ fwD d ∧ s.col + fwD d + behindD r ≤ width) with
      | true => exact layW_some width k r _ (by simp only [DocT.size] at h; omega)
      | false => exact layW_some width k _ _ (by simp only [DocT.size, sumS_cons] at h ⊢; omega)
theorem layB_start {d : DocT} {g : Nat} (hg : GoodD d) (hgr : GrD g d) (hn : d.nestD ≤ 4000) : LayB d.tl d.size [(d, 0)] ⟨[], 0, List.replicate g 0⟩ := by
  have e1 : sumT [(d, (0 : Int))] = d.tl := by simp [sumT]
  have e2 : sumS [(d, (0 : Int))] = d.size := by simp [sumS]
  refine ⟨Int.le_refl _, by rw [e1]; simp only []; omega, by rw [e1]; exact Nat.le_refl _, by rw [e1, e2]; simp only [List.length_nil]; omega, fun x hx => ?_⟩
  rw [List.mem_singleton.1 hx]
  exact ⟨hg, Int.le_refl _, by simp only []; omega, by simp only [List.length_replicate]; exact hgr⟩
theorem ok_layout : callOK Try.prog 101 = true := by kernel_rfl
theorem impl_layout {W w : World} (D : DocG) (g : Nat) (width : Int) (hw : 0 ≤ width ∧ width ≤ 65535) (hg : GoodD D.d) (hgr : GrD g D.d) (ht : D.d.tl ≤ 140000) (hsz : D.d.size ≤ 40000) (hn : D.d.nestD ≤ 4000) (hg2 : g ≤ 40000) (hT : D.Txt W) {s : LS} (hs : layD (chW width) [(D.d, 0)] ⟨[], 0, List.replicate g 0⟩ = some s) (H : St W.heap.size W w D.own) :
    Calls Try.prog 101 #[D.v, .int .i64 g, .int .i64 width] w fun e w' => ∃ gl gm chv Ao co Ar cr Am cm, e = .returned (ptrAt gl 0) ∧ s.met.length = g ∧ St W.heap.size W w' [.lay gl (.slice Ao s.out.length co) s.col (.slice Ar 0 cr) (.slice Am g cm) gm chv, .rowB (.slice Ao s.out.length co) s.out, rowN Am cm g s.met] := by
  obtain ⟨tD, vD, eD⟩ := D.v_if
  refine calls_of_vcV (args := [D.v, .int .i64 g, .int .i64 width]) Try.func101 rfl (by kernel_rfl) (Nat.le_of_ble_eq_true rfl) ?_
  refine newR (o := .cells #[.int .i64 width] _) H fun g5 w H => ?_
  refine CallS.mk ok_newLayouter ((impl_newLayouter D g hg2 H).mono ?_)
  rintro _ w1 ⟨gl, gm, Am, cm, Ar, cr, rfl, H⟩
  refine newR (o := .cells #[.pointer none] _) H fun g0 w H => ?_
  refine storeO H 0 rfl rfl rfl fun w H => ?_
  refine loadO H 0 rfl rfl ?_
  refine storeO H 1 rfl rfl rfl fun w H => ?_
  refine loadO H 0 rfl rfl ?_
  have hb := layB_start hg hgr hn
  have H1 : St W.heap.size W w (layL gl gm (.func (.func 125) #[] #[ptrAt g0 0, ptrAt g5 0]) Am cm g (.obj g0 (.cells #[ptrAt gl 0] 113) :: .obj g5 (.cells #[.int .i64 width] 3) :: D.own) [(D, 0)] ⟨[], 0, List.replicate g 0⟩ none 0 Ar cr [] 0) := H.sink5
  refine CallS.mk ok_run ((impl_run (M := D.own) (l := [(D, 0)]) (ch_layout (M := D.own) (T := D.d.tl) (S := D.d.size) (width := width) (fun it h => List.mem_cons_of_mem _ (List.mem_cons_of_mem _ h)) ht List.mem_cons_self (List.mem_cons_of_mem _ List.mem_cons_self) hw) (fun it h => List.mem_cons_of_mem _ (List.mem_cons_of_mem _ h)) ht hsz hs (fun x hx => by rw [List.mem_singleton.1 hx]; exact ⟨fun it h => h, hT⟩) hb ⟨none, 0, Ar, cr, [], 0, (by intro en hen; cases hen), List.length_replicate, H1⟩).mono ?_)
  rintro _ w2 ⟨rfl, Ao, co, Ar2, cr2, es2, clock2, hes2, hmet2, H⟩
  refine loadO H 5 rfl rfl ?_
  exact ⟨gl, gm, _, Ao, co, Ar2, cr2, Am, cm, rfl, hmet2, H.fin3⟩
theorem cntG_le (ps : List PieceP) : cntG ps ≤ ps.length := List.length_filter_le _ _
theorem ok_impl_Layout : callOK Try.prog 54 = true := by kernel_rfl
theorem impl_Layout {fs : List PieceG} {A : Option Addr} {n c : Nat} {W : World} {width : Int} (hx : RdPiece W (.slice A n c) n fs) (hl : n ≤ 4294967296) (hb : DocOK fs) {r : List Int × List Int × Int} (hr : layoutF (fs.map PieceG.p) width = r) :
    Calls Try.prog 54 #[.slice A n c, .int .i64 width] W fun e w => ∃ A1 c1 A2 c2, e = .returned (.tuple #[.slice A1 r.1.length c1, .slice A2 r.2.1.length c2, .int .i64 r.2.2]) ∧ St W.heap.size W w [.rowB (.slice A1 r.1.length c1) r.1, .rowI (.slice A2 r.2.1.length c2) r.2.1] := by
  have H := St.enter W
  unfold layoutF at hr
  refine calls_of_vcV (args := [.slice A n c, .int .i64 width]) Try.func54 rfl (by kernel_rfl) (Nat.le_of_ble_eq_true rfl) ?_
  refine CallS.mk ok_docOf ((impl_docOf hx hl hb.b).mono ?_)
  rintro e w hR
  have bad : ∀ {w : World} {L : List It}, St W.heap.size W w L → r = ([], [], 1) → ∃ A1 c1 A2 c2, (Ending.returned (.tuple #[.slice none 0 0, .slice none 0 0, .int .i64 1])) = .returned (.tuple #[.slice A1 r.1.length c1, .slice A2 r.2.1.length c2, .int .i64 r.2.2]) ∧ St W.heap.size W w [.rowB (.slice A1 r.1.length c1) r.1, .rowI (.slice A2 r.2.1.length c2) r.2.1] := fun H e => by
    subst e
    exact ⟨none, 0, none, 0, rfl, (H.none.rowNil (e := 3) (sz := 1)).rowNil (e := 5) (sz := 1)⟩
  cases hv : validD (fs.map PieceG.p) with
  | none =>
    rw [hv] at hR hr
    obtain ⟨rfl, H⟩ := hR
    refine RegV.mk ?_
    refine gNot ?_
    refine gNt ?_
    refine gNf ?_
    refine ifT ?_
    exact bad H hr.symm
  | some dg =>
    obtain ⟨d, g⟩ := dg
    have v := validOf hv
    rw [hv] at hR hr
    obtain ⟨D, hD, rfl, hT, H⟩ := hR
    subst hD
    refine RegV.mk ?_
    refine gNot ?_
    refine gY ?_
    refine gF (fun c3 => ?_) (fun c3 => ?_)
    · refine ifB (fun c4 => ?_) (fun c4 => ?_)
      · have hr2 := hr
        simp only at hr2
        rw [if_neg (by omega)] at hr2
        exact bad H hr2.symm
      · have hr2 := hr
        simp only at hr2
        rw [if_pos ⟨by omega, by omega⟩] at hr2
        obtain ⟨s, hs⟩ := layW_some width (sumS [(D.d, 0)]) [(D.d, 0)] ⟨[], 0, List.replicate g 0⟩ (Nat.le_refl _)
        have hs : layD (chW width) [(D.d, 0)] ⟨[], 0, List.replicate g 0⟩ = some s := hs
        rw [hs] at hr2
        have hr3 : (s.out, s.met, 0) = r := hr2
        clear hr hr2 bad
        subst hr3
        have hg2 : g ≤ 40000 := by have h1 := v.groups; have h2 := cntG_le (fs.map PieceG.p); have h3 := v.len.2; omega
        refine CallS.mk ok_layout ((impl_layout D g width ⟨by omega, by omega⟩ v.good v.gr v.tl v.size v.nest hg2 hT hs H).mono ?_)
        rintro _ w2 ⟨gl, gm, chv, Ao, co, Ar, cr, Am, cm, rfl, hmet, H⟩
        refine drawR H fun w H => ?_
        refine loadO H 0 rfl rfl ?_
        refine loadO H 0 rfl rfl ?_
        subst hmet
        exact ⟨Ao, co, Am, cm, rfl, H.tl⟩
    · refine ifT ?_
      have hr2 := hr
      simp only at hr2
      rw [if_neg (by omega)] at hr2
      exact bad H hr2.symm
end Go.Proofs.YtfhpgfbakimmhaaE
/- The program's Render. -/
namespace Go.Proofs.YtfhpgfbakimmhaaE
open Go Go.RowKit
set_option linter.unusedVariables false
set_option linter.unusedSimpArgs false
set_option maxRecDepth 100000
set_option maxHeartbeats 8000000

theorem ok_renderC : callOK Try.prog 98 = true := by kernel_rfl
theorem ch_render {W : World} {M L : List It} {gl gm cm n T S g3 g9 cc : Nat} {Am Ac : Option Addr} {cs : List Int} {t9 : TypeId} (hML : ∀ it ∈ M, it ∈ L) (hT : T ≤ 140000) (h9 : .obj g9 (.cells #[ptrAt gl 0] t9) ∈ L) (h3 : W.cell? ⟨g3, 0, none⟩ = some (.slice Ac n cc)) (hcs : cs.length = n) (hx : Rd W (.slice Ac n cc) 1 n (cs.map (.int .i64))) :
    ChooseOk W M gl gm (.func (.func 98) #[] #[ptrAt g3 0, ptrAt g9 0]) Am cm n T S L (chG cs) := by
  refine ⟨_, _, rfl, ok_renderC, ?_⟩
  rintro a k d ind l s w L2 hL2 hl hb ⟨Ao, co, Ar, cr, es, clock, hes, hmet, H⟩
  refine calls_of_vcV (args := [ptrAt a 0, ptrAt g3 0, ptrAt g9 0]) Try.func98 rfl (by kernel_rfl) (Nat.le_of_ble_eq_true rfl) ?_
  have hx0 := hl (.group a d k, ind) (by simp)
  have hgd := hb.good (DocT.group d.d k, ind) (by simp [toD, DocG.d])
  have hgood : GoodD d.d := hgd.1
  have hgr0 : GrD n (DocT.group d.d k) := hmet ▸ hgd.2.2.2
  have hkn : k < n := hgr0.1
  have htl : d.d.tl + 1 + sumT (toD l) ≤ T := by have := hb.tl; simp only [toD, List.map_cons, sumT_cons, DocG.d, DocT.tl] at this; exact this
  have hfe : fwD (DocG.group a d k).d = fwD d.d := rfl
  refine JoinV.mk ?_
  refine drawR H fun w H => ?_
  refine loadS (v := .slice Ac n cc) ((HeldW.ofBelow H.below).cell h3) ?_
  refine loadS (v := .int .i64 k) (objCell H (List.mem_cons_of_mem _ (List.mem_cons_of_mem _ (List.mem_cons_of_mem _ (List.mem_cons_of_mem _ (List.mem_cons_of_mem _ (hL2 _ (hML _ (hx0.own _ List.mem_cons_self)))))))) rfl) ?_
  refine idxN (hx.ext H.below) (by omega) fun b off hc => ?_
  refine loadS hc ?_
  obtain ⟨x, hxk⟩ : ∃ x, cs.getD k 0 = x := ⟨_, rfl⟩
  rw [hxk]
  have hch : chG cs d.d k s (toD l) = if x = 1 then (if 0 ≤ fwD d.d then some true else none) else if x = 2 then some false else none := by unfold chG; rw [hxk]
  refine ifB (fun c0 => ?_) (fun c0 => ?_)
  · refine loadS (v := ptrAt gl 0) (objCell H (List.mem_cons_of_mem _ (List.mem_cons_of_mem _ (List.mem_cons_of_mem _ (List.mem_cons_of_mem _ (List.mem_cons_of_mem _ (hL2 _ h9)))))) rfl) ?_
    refine CallS.mk ok_flatWidth ((impl_flatWidth (.group a d k) hx0.own hgood (by show d.d.tl + 1 ≤ _; omega) (.lay gl (.slice Ao s.out.length co) s.col (.slice Ar l.length cr) (.slice Am n cm) gm (.func (.func 98) #[] #[ptrAt g3 0, ptrAt g9 0]) :: stk Ar cr l :: .rowB (.slice Ao s.out.length co) s.out :: rowN Am cm n s.met :: L2) es clock _ _ _ _ _ _ (fun it h => by simp [hL2 _ (hML _ h)]) List.mem_cons_self hes H.up4).mono ?_)
    rintro _ w2 ⟨rfl, es2, clock2, hes2, H⟩
    have H := H.dn4
    refine Exists.intro true (Exists.intro (decide (fwD d.d ≥ 0)) (And.intro rfl (And.intro ?_ (And.intro (fun _ h => of_decide_eq_true h) ⟨Ao, co, Ar, cr, es2, clock2, hes2, hmet, H⟩))))
    refine hch.trans ?_
    rw [if_pos c0]
    by_cases hf : 0 ≤ fwD d.d
    · rw [if_pos hf, decide_eq_true hf]; rfl
    · rw [if_neg hf, decide_eq_false hf]; rfl
  · refine ifB (fun c1 => ?_) (fun c1 => ?_)
    · refine Exists.intro false (Exists.intro true (And.intro rfl (And.intro ?_ (And.intro (fun h => by cases h) ⟨Ao, co, Ar, cr, es, clock, hes, hmet, H⟩))))
      refine hch.trans ?_
      rw [if_neg c0, if_pos c1]; rfl
    · refine Exists.intro false (Exists.intro false (And.intro rfl (And.intro ?_ (And.intro (fun h => by cases h) ⟨Ao, co, Ar, cr, es, clock, hes, hmet, H⟩))))
      refine hch.trans ?_
      rw [if_neg c0, if_neg c1]; rfl
theorem take_step {xs ys : List Int} {j : Nat} (h1 : j < xs.length) (h2 : j < ys.length) (h : xs.take j = ys.take j) (e : xs.getD j 0 = ys.getD j 0) : xs.take (j + 1) = ys.take (j + 1) := by
  rw [List.take_add_one, List.take_add_one, h]
  simp only [List.getD_eq_getElem?_getD, List.getElem?_eq_getElem h1, List.getElem?_eq_getElem h2, Option.getD_some] at e
  rw [List.getElem?_eq_getElem h1, List.getElem?_eq_getElem h2, e]
theorem St.pick3 {B : Nat} {W0 w : World} {a b c : It} {L : List It} (H : St B W0 w (a :: b :: c :: L)) : St B W0 w [c] := H.sel fun q => by simp only [cntL]; omega
theorem ok_impl_Render : callOK Try.prog 50 = true := by kernel_rfl
theorem impl_Render {fs : List PieceG} {A Ac : Option Addr} {n c nc cc : Nat} {W : World} {cs : List Int} (hx : RdPiece W (.slice A n c) n fs) (hl : n ≤ 4294967296) (hb : DocOK fs) (hxc : RdI W (.slice Ac nc cc) cs) (hcs : cs.length = nc) (hlc : nc ≤ 4294967296) {r : List Int × Int} (hr : renderF (fs.map PieceG.p) cs = r) :
    Calls Try.prog 50 #[.slice A n c, .slice Ac nc cc] W fun e w => ∃ A1 c1, e = .returned (.tuple #[.slice A1 r.1.length c1, .int .i64 r.2]) ∧ St W.heap.size W w [.rowB (.slice A1 r.1.length c1) r.1] := by
  have H := St.enter W
  unfold renderF at hr
  have hxc2 : Rd W (.slice Ac nc cc) 1 nc (cs.map (.int .i64)) := hcs ▸ hxc
  refine calls_of_vcV (args := [.slice A n c, .slice Ac nc cc]) Try.func50 rfl (by kernel_rfl) (Nat.le_of_ble_eq_true rfl) ?_
  refine newR (o := .cells #[.slice Ac nc cc] _) H fun g3 V H => ?_
  refine CallS.mk ok_docOf ((impl_docOf (hx.ext H.below) hl hb.b).mono ?_)
  have H0 := H
  have h3 : V.cell? ⟨g3, 0, none⟩ = some (.slice Ac nc cc) := objCell H0 List.mem_cons_self rfl
  rintro e w hR
  have bad : ∀ {w1 : World} {L : List It}, St V.heap.size V w1 L → r = ([], 1) → ∃ A1 c1, (Ending.returned (.tuple #[.slice none 0 0, .int .i64 1])) = .returned (.tuple #[.slice A1 r.1.length c1, .int .i64 r.2]) ∧ St W.heap.size W w1 [.rowB (.slice A1 r.1.length c1) r.1] := fun H e => by
    subst e
    exact ⟨none, 0, rfl, ((H0.joinS (H.none) rfl).none).rowNil (e := 5) (sz := 1)⟩
  cases hv : validD (fs.map PieceG.p) with
  | none =>
    rw [hv] at hR hr
    obtain ⟨rfl, H⟩ := hR
    refine RegV.mk ?_
    refine gNot ?_
    refine gNt ?_
    refine ifT ?_
    exact bad H hr.symm
  | some dg =>
    obtain ⟨d, g⟩ := dg
    have v := validOf hv
    rw [hv] at hR hr
    obtain ⟨D, hD, rfl, hT, H⟩ := hR
    subst hD
    have hg2 : g ≤ 40000 := by have h1 := v.groups; have h2 := cntG_le (fs.map PieceG.p); have h3 := v.len.2; omega
    refine RegV.mk ?_
    refine gNot ?_
    refine gY ?_
    refine loadS (v := .slice Ac nc cc) ((HeldW.ofBelow H.below).cell h3) ?_
    refine ifB (fun c4 => ?_) (fun c4 => ?_)
    · have hr2 := hr
      simp only at hr2
      rw [if_neg (by omega)] at hr2
      exact bad H hr2.symm
    · have hr2 := hr
      simp only at hr2
      rw [if_pos (by omega)] at hr2
      refine CallS.mk ok_newLayouter ((impl_newLayouter D g hg2 H).mono ?_)
      rintro _ w1 ⟨gl, gm, Am, cm, Ar, cr, rfl, H⟩
      refine newR (o := .cells #[.pointer none] _) H fun g0 w H => ?_
      refine storeO H 0 rfl rfl rfl fun w H => ?_
      refine loadO H 0 rfl rfl ?_
      refine storeO H 1 rfl rfl rfl fun w H => ?_
      refine loadO H 0 rfl rfl ?_
      have hbL := layB_start v.good v.gr v.nest
      have hng : g = nc := by omega
      subst hng
      have H1 : St V.heap.size V w (layL gl gm (.func (.func 98) #[] #[ptrAt g3 0, ptrAt g0 0]) Am cm g (.obj g0 (.cells #[ptrAt gl 0] 113) :: D.own) [(D, 0)] ⟨[], 0, List.replicate g 0⟩ none 0 Ar cr [] 0) := H.sink5
      have hxV : Rd V (.slice Ac g cc) 1 g (cs.map (.int .i64)) := hxc2.ext H0.below
      have hrun := impl_run (M := D.own) (l := [(D, 0)]) (ch_render (M := D.own) (T := D.d.tl) (S := D.d.size) (fun it h => List.mem_cons_of_mem _ h) v.tl List.mem_cons_self h3 hcs hxV) (fun it h => List.mem_cons_of_mem _ h) v.tl v.size rfl (fun x hx => by rw [List.mem_singleton.1 hx]; exact ⟨fun it h => h, hT⟩) hbL ⟨none, 0, Ar, cr, [], 0, (by intro en hen; cases hen), List.length_replicate, H1⟩
      have hr3 : (match layD (chG cs) (toD [(D, 0)]) ⟨[], 0, List.replicate g 0⟩ with | some s => if s.met = cs then (s.out, 0) else ([], 1) | none => ([], 1)) = r := hr2
      clear hr2 hr
      refine CallS.mk ok_run (hrun.mono ?_)
      rintro e4 w4 hR
      cases hs : layD (chG cs) (toD [(D, 0)]) ⟨[], 0, List.replicate g 0⟩ with
      | none =>
        rw [hs] at hR hr3
        obtain ⟨rfl, H⟩ := hR
        refine ifNot ?_
        refine ifF ?_
        exact bad H hr3.symm
      | some s =>
        rw [hs] at hR hr3
        obtain ⟨rfl, Ao, co, Ar2, cr2, es2, clock2, hes2, hmet2, H⟩ := hR
        have hr4 : (if s.met = cs then (s.out, (0 : Int)) else ([], 1)) = r := hr3
        clear hr3 hs
        refine ifNot ?_
        refine ifT ?_
        refine loadS (v := .slice Ac g cc) ((HeldW.ofBelow H.below).cell h3) ?_
        refine loopV (by kernel_rfl) (fun m e w => e 9 = ptrAt g0 0 ∧ e 36 = .slice Ac g cc ∧ e 37 = .int .i64 g ∧ ∃ j : Nat, e 38 = .int .i64 j ∧ j ≤ g ∧ m = g - j ∧ s.met.take j = cs.take j ∧ St V.heap.size V w (layL gl gm (.func (.func 98) #[] #[ptrAt g3 0, ptrAt g0 0]) Am cm g (.obj g0 (.cells #[ptrAt gl 0] 113) :: D.own) [] s Ao co Ar2 cr2 es2 clock2)) g ?_ ?_
        · exact And.intro rfl (And.intro rfl (And.intro rfl ⟨0, rfl, by omega, rfl, rfl, H⟩))
        · rintro m e w ⟨h9, h36, h37, j, h38, hj, hm, htk, H⟩
          rw [Env.four h9 h36 h37 h38]
          refine ifB (fun c0 => ?_) (fun c0 => ?_)
          · refine JoinV.mk ?_
            have hjg : j < g := by omega
            refine idxN (hxV.ext H.below) (by omega) fun b off hc => ?_
            refine loadS hc ?_
            refine loadO H 5 rfl rfl ?_
            refine loadO H 0 rfl rfl ?_
            refine idxN (H.rd 3 rfl) (by omega) fun b off hc => ?_
            refine loadS hc ?_
            refine ifB (fun c4 => ?_) (fun c4 => ?_)
            · rw [if_neg (fun e => c4 (by rw [e]))] at hr4
              exact bad H hr4.symm
            · refine arN (by omega) ?_
              exact Exists.intro (g - (j + 1)) (And.intro (by omega) (And.intro rfl (And.intro rfl (And.intro rfl ⟨j + 1, rfl, by omega, rfl, take_step (by omega) (by omega) htk (Decidable.not_not.1 c4), H⟩))))
          · have hj2 : j = g := by omega
            have hmc : s.met = cs := by
              have h := htk
              rw [hj2, ← hmet2, List.take_length, hmet2, ← hcs, List.take_length] at h
              exact h
            rw [if_pos hmc] at hr4
            refine loadO H 5 rfl rfl ?_
            refine loadO H 0 rfl rfl ?_
            clear bad
            subst hr4
            have H3 : St V.heap.size V w [.rowB (.slice Ao s.out.length co) s.out] := St.pick3 H
            exact ⟨Ao, co, rfl, (H0.joinS H3 rfl).sel (fun q => by simp only [cntL_append, cntL]; omega)⟩
end Go.Proofs.YtfhpgfbakimmhaaE
/- The reference's Layout and Render. -/
namespace Go.Proofs.YtfhpgfbakimmhaaE
open Go Go.RowKit
set_option linter.unusedVariables false
set_option linter.unusedSimpArgs false
set_option maxRecDepth 100000
set_option maxHeartbeats 8000000

theorem ok_spec_Layout : callOK Try.prog 53 = true := by kernel_rfl
theorem spec_Layout {fs : List PieceG} {A : Option Addr} {n c : Nat} {W : World} {width : Int} (hx : RdPiece W (.slice A n c) n fs) (hl : n ≤ 4294967295) (hb : DocOK fs) {r : List Int × List Int × Int} (hr : layoutF (fs.map PieceG.p) width = r) :
    Calls Try.prog 53 #[.slice A n c, .int .i64 width] W fun e w => ∃ A1 c1 A2 c2, e = .returned (.tuple #[.slice A1 r.1.length c1, .slice A2 r.2.1.length c2, .int .i64 r.2.2]) ∧ St W.heap.size W w [.rowB (.slice A1 r.1.length c1) r.1, .rowI (.slice A2 r.2.1.length c2) r.2.1] := by
  have H := St.enter W
  unfold layoutF at hr
  have bad : ∀ {w : World} {L : List It}, St W.heap.size W w L → r = ([], [], 1) → ∃ A1 c1 A2 c2, (Ending.returned (.tuple #[.slice none 0 0, .slice none 0 0, .int .i64 1])) = .returned (.tuple #[.slice A1 r.1.length c1, .slice A2 r.2.1.length c2, .int .i64 r.2.2]) ∧ St W.heap.size W w [.rowB (.slice A1 r.1.length c1) r.1, .rowI (.slice A2 r.2.1.length c2) r.2.1] := fun H e => by
    subst e
    exact ⟨none, 0, none, 0, rfl, (H.none.rowNil (e := 3) (sz := 1)).rowNil (e := 5) (sz := 1)⟩
  refine calls_of_vcV (args := [.slice A n c, .int .i64 width]) Try.func53 rfl (by kernel_rfl) (Nat.le_of_ble_eq_true rfl) ?_
  refine RegV.mk ?_
  refine callV ok_spec_ValidDoc (spec_ValidDoc (hx.ext H.below) (by omega) hb) H fun w H => ?_
  cases hv : validD (fs.map PieceG.p) with
  | none =>
    rw [hv] at hr
    refine gNot ?_
    refine gNt ?_
    refine gNf ?_
    refine ifT ?_
    exact bad H hr.symm
  | some dg =>
    obtain ⟨d, g⟩ := dg
    have v := validOf hv
    rw [hv] at hr
    refine gNot ?_
    refine gY ?_
    refine gF (fun c2 => ?_) (fun c2 => ?_)
    · refine ifB (fun c3 => ?_) (fun c3 => ?_)
      · have hr2 := hr
        simp only at hr2
        rw [if_neg (by omega)] at hr2
        exact bad H hr2.symm
      · have hr2 := hr
        simp only at hr2
        rw [if_pos ⟨by omega, by omega⟩] at hr2
        obtain ⟨s, hs⟩ := layW_some width (sumS [(d, 0)]) [(d, 0)] ⟨[], 0, List.replicate g 0⟩ (Nat.le_refl _)
        have hs : layD (chW width) [(d, 0)] ⟨[], 0, List.replicate g 0⟩ = some s := hs
        rw [hs] at hr2
        have hr3 : (s.out, s.met, 0) = r := hr2
        clear hr hr2 bad
        subst hr3
        refine CallS.mk ok_l3lay ((spec_l3lay (use := false) (cs := []) (hx.ext H.below) hl hb hv (fun h => by cases h) hs).mono ?_)
        rintro _ w2 ⟨A1, c1, A2, c2, rfl, hmet, H2⟩
        have H := H.joinS H2 rfl
        subst hmet
        exact ⟨A1, c1, A2, c2, rfl, H⟩
    · refine ifT ?_
      have hr2 := hr
      simp only at hr2
      rw [if_neg (by omega)] at hr2
      exact bad H hr2.symm
theorem ok_spec_Render : callOK Try.prog 48 = true := by kernel_rfl
theorem spec_Render {fs : List PieceG} {A Ac : Option Addr} {n c nc cc : Nat} {W : World} {cs : List Int} (hx : RdPiece W (.slice A n c) n fs) (hl : n ≤ 4294967295) (hb : DocOK fs) (hxc : RdI W (.slice Ac nc cc) cs) (hcs : cs.length = nc) (hlc : nc ≤ 4294967296) {r : List Int × Int} (hr : renderF (fs.map PieceG.p) cs = r) :
    Calls Try.prog 48 #[.slice A n c, .slice Ac nc cc] W fun e w => ∃ A1 c1, e = .returned (.tuple #[.slice A1 r.1.length c1, .int .i64 r.2]) ∧ St W.heap.size W w [.rowB (.slice A1 r.1.length c1) r.1] := by
  have H := St.enter W
  unfold renderF at hr
  have hxc2 : Rd W (.slice Ac nc cc) 1 nc (cs.map (.int .i64)) := hcs ▸ hxc
  have bad : ∀ {w1 : World} {L : List It}, St W.heap.size W w1 L → r = ([], 1) → ∃ A1 c1, (Ending.returned (.tuple #[.slice none 0 0, .int .i64 1])) = .returned (.tuple #[.slice A1 r.1.length c1, .int .i64 r.2]) ∧ St W.heap.size W w1 [.rowB (.slice A1 r.1.length c1) r.1] := fun H e => by
    subst e
    exact ⟨none, 0, rfl, (H.none).rowNil (e := 5) (sz := 1)⟩
  refine calls_of_vcV (args := [.slice A n c, .slice Ac nc cc]) Try.func48 rfl (by kernel_rfl) (Nat.le_of_ble_eq_true rfl) ?_
  refine callV ok_spec_ValidDoc (spec_ValidDoc (hx.ext H.below) (by omega) hb) H fun w H => ?_
  cases hv : validD (fs.map PieceG.p) with
  | none =>
    rw [hv] at hr
    refine ifNot ?_
    refine ifF ?_
    exact bad H hr.symm
  | some dg =>
    obtain ⟨d, g⟩ := dg
    have v := validOf hv
    have hn := hx.len
    have hpl : (fs.map PieceG.p).length = n := by rw [List.length_map, hn]
    rw [hv] at hr
    simp only at hr
    refine ifNot ?_
    refine ifT ?_
    refine CallS.mk ok_l3groups ((spec_l3groups (hx.ext H.below) hl).mono ?_)
    rintro _ w3 ⟨A2, c2, rfl, H2⟩
    have H := H.joinS H2 rfl
    have hgl := groupsL_len (fs.map PieceG.p) n
    have hgn : (groupsL (fs.map PieceG.p) n).getD n 0 = g := by rw [groupsL_get (Nat.le_refl n), ← hpl, List.take_length, v.groups]
    refine idxN (H.rd 0 rfl) (by omega) fun b off hc => ?_
    rw [hgn] at hc
    refine loadS hc ?_
    refine ifB (fun c0 => ?_) (fun c0 => ?_)
    · rw [if_neg (by omega)] at hr
      exact bad H hr.symm
    · rw [if_pos (by omega)] at hr
      have hng : g = nc := by omega
      subst hng
      obtain ⟨rr, hs⟩ : ∃ rr, layD (chG cs) [(d, 0)] ⟨[], 0, List.replicate g 0⟩ = rr := ⟨_, rfl⟩
      rw [hs] at hr
      refine CallS.mk ok_l3lay ((spec_l3lay (use := true) (cs := cs) (width := 0) (hx.ext H.below) hl hb hv (fun _ => ⟨rfl, hcs, hxc2.ext H.below⟩) hs).mono ?_)
      rintro e4 w4 hR
      cases rr with
      | none =>
        obtain ⟨rfl, H2⟩ := hR
        have H := H.joinS H2 rfl
        refine ifNot ?_
        refine ifF ?_
        exact bad H hr.symm
      | some s =>
        obtain ⟨A1, c1, A3, c3, rfl, hmet, H2⟩ := hR
        have H := H.joinS H2 rfl
        have hr4 : (if s.met = cs then (s.out, (0 : Int)) else ([], 1)) = r := hr
        clear hr hs
        refine ifNot ?_
        refine ifT ?_
        refine loopV (by kernel_rfl) (fun m e w => e 1 = .slice Ac g cc ∧ e 7 = .slice A1 s.out.length c1 ∧ e 8 = .slice A3 g c3 ∧ ∃ j : Nat, e 10 = .int .i64 j ∧ j ≤ g ∧ m = g - j ∧ s.met.take j = cs.take j ∧ St W.heap.size W w ([.rowB (.slice A1 s.out.length c1) s.out, rowM A3 c3 g s.met] ++ [.rowI (.slice A2 (groupsL (fs.map PieceG.p) n).length c2) (groupsL (fs.map PieceG.p) n)])) g ?_ ?_
        · exact And.intro rfl (And.intro rfl (And.intro rfl ⟨0, rfl, by omega, rfl, rfl, H⟩))
        · rintro m e w ⟨h1, h7, h8, j, h10, hj, hm, htk, H⟩
          rw [Env.four h1 h7 h8 h10]
          refine ifB (fun c0 => ?_) (fun c0 => ?_)
          · refine JoinV.mk ?_
            have hjg : j < g := by omega
            refine drawR H fun w H => ?_
            refine idxN (H.rd 1 rfl) (by omega) fun b off hc => ?_
            refine loadS hc ?_
            refine idxN (hxc2.ext H.below) (by omega) fun b off hc => ?_
            refine loadS hc ?_
            refine ifB (fun c5 => ?_) (fun c5 => ?_)
            · rw [if_neg (fun e => c5 (by rw [e]))] at hr4
              exact bad H hr4.symm
            · refine arN (by omega) ?_
              exact Exists.intro (g - (j + 1)) (And.intro (by omega) (And.intro rfl (And.intro rfl (And.intro rfl ⟨j + 1, rfl, by omega, rfl, take_step (by omega) (by omega) htk (Decidable.not_not.1 c5), H⟩))))
          · have hj2 : j = g := by omega
            have hmc : s.met = cs := by
              have h := htk
              rw [hj2, ← hmet, List.take_length, hmet, ← hcs, List.take_length] at h
              exact h
            rw [if_pos hmc] at hr4
            clear bad
            subst hr4
            exact ⟨A1, c1, rfl, H.sel (fun q => by simp only [cntL_append, cntL]; omega)⟩
end Go.Proofs.YtfhpgfbakimmhaaE
/- What a layout's text may measure, in plain lists. No program stands here. -/
namespace Go.Proofs.YtfhpgfbakimmhaaE
set_option linter.unusedVariables false
set_option linter.unusedSimpArgs false

theorem layN_B {ch : ChT} {T S : Nat} (hch : ∀ d g s r, ch d g s r = some true → 0 ≤ fwD d) : ∀ (k : Nat) (l : List ItD) (s s' : LS), LayB T S l s → layN ch k l s = some s' → LayB T S [] s' ∧ s'.met.length = s.met.length
  | k, [], s, s', hb, h => by
    have e : s = s' := by cases k <;> (simp only [layN, Option.some.injEq] at h; exact h)
    subst e; exact ⟨hb, rfl⟩
  | 0, x :: r, s, s', hb, h => by simp only [layN, reduceCtorEq] at h
  | k + 1, (d, ind) :: r, s, s', hb, h => by
    cases d with
    | nil => exact layN_B hch k r s s' hb.nil h
    | text t => exact layN_B hch k r ⟨s.out ++ t, s.col + tw t, s.met⟩ s' hb.text h
    | line kd =>
      have q := layN_B hch k r (if kd = 5 then ⟨s.out ++ [10], 0, s.met⟩ else ⟨s.out ++ [10] ++ spaces ind, ind, s.met⟩) s' hb.line h
      refine ⟨q.1, q.2.trans ?_⟩
      split <;> rfl
    | cat x y => exact layN_B hch k ((x, ind) :: (y, ind) :: r) s s' hb.cat h
    | alt x y => exact layN_B hch k ((x, ind) :: r) s s' hb.alt h
    | nest d n => exact layN_B hch k ((d, ind + n) :: r) s s' hb.nest h
    | group d g =>
      simp only [layN] at h
      cases hc : ch d g s r with
      | none => rw [hc] at h; cases h
      | some b =>
        rw [hc] at h
        cases b with
        | true =>
          have q := layN_B hch k r ⟨s.out ++ flatT d, s.col + fwD d, markF (.group d g) s.met⟩ s' (hb.flat (hch _ _ _ _ hc)) h
          exact ⟨q.1, q.2.trans (markF_len _ _)⟩
        | false =>
          have q := layN_B hch k ((d, ind) :: r) ⟨s.out, s.col, s.met.set g 2⟩ s' hb.broken h
          exact ⟨q.1, q.2.trans (List.length_set ..)⟩
theorem chW_ok {width : Int} : ∀ d g s r, chW width d g s r = some true → 0 ≤ fwD d := fun d g s r h => by
  unfold chW at h
  simp only [Option.some.injEq, decide_eq_true_eq] at h
  exact h.1
theorem chG_ok {cs : List Int} : ∀ d g s r, chG cs d g s r = some true → 0 ≤ fwD d := fun d g s r h => by
  unfold chG at h
  split at h
  · split at h
    · assumption
    · cases h
  · split at h <;> cases h
theorem lay_len {ch : ChT} {d : DocT} {g : Nat} {ps : List PieceP} (hch : ∀ d g s r, ch d g s r = some true → 0 ≤ fwD d) (v : ValidOf ps d g) {s : LS} (h : layD ch [(d, 0)] ⟨[], 0, List.replicate g 0⟩ = some s) : s.out.length ≤ 200000000 ∧ s.met.length ≤ 40000 := by
  have hb : LayB d.tl d.size [(d, 0)] ⟨[], 0, List.replicate g 0⟩ := by
    have e1 : sumT [(d, (0 : Int))] = d.tl := by simp [sumT]
    have e2 : sumS [(d, (0 : Int))] = d.size := by simp [sumS]
    refine ⟨Int.le_refl _, by rw [e1]; simp only []; omega, by rw [e1]; exact Nat.le_refl _, by rw [e1, e2]; simp only [List.length_nil]; omega, fun x hx => ?_⟩
    rw [List.mem_singleton.1 hx]
    exact ⟨v.good, Int.le_refl _, by have := v.nest; simp only []; omega, by simp only [List.length_replicate]; exact v.gr⟩
  have q := layN_B hch _ _ _ s hb h
  have h1 := q.1.out
  have h2 := v.tl
  have h3 := v.size
  have h4 := v.groups
  have h5 : cntG ps ≤ ps.length := List.length_filter_le _ _
  have h6 := v.len.2
  have h7 : s.met.length = g := q.2.trans List.length_replicate
  exact ⟨by omega, by omega⟩
theorem layoutF_len {ps : List PieceP} {width : Int} {r : List Int × List Int × Int} (h : layoutF ps width = r) : r.1.length ≤ 200000000 ∧ r.2.1.length ≤ 40000 := by
  unfold layoutF at h
  cases hv : validD ps with
  | none => rw [hv] at h; subst h; exact ⟨Nat.zero_le _, Nat.zero_le _⟩
  | some dg =>
    obtain ⟨d, g⟩ := dg
    have v := validOf hv
    rw [hv] at h
    simp only at h
    split at h
    · cases hs : layD (chW width) [(d, 0)] ⟨[], 0, List.replicate g 0⟩ with
      | none => rw [hs] at h; subst h; exact ⟨Nat.zero_le _, Nat.zero_le _⟩
      | some s => rw [hs] at h; subst h; exact lay_len chW_ok v hs
    · subst h; exact ⟨Nat.zero_le _, Nat.zero_le _⟩
theorem renderF_len {ps : List PieceP} {cs : List Int} {r : List Int × Int} (h : renderF ps cs = r) : r.1.length ≤ 200000000 := by
  unfold renderF at h
  cases hv : validD ps with
  | none => rw [hv] at h; subst h; exact Nat.zero_le _
  | some dg =>
    obtain ⟨d, g⟩ := dg
    have v := validOf hv
    rw [hv] at h
    simp only at h
    split at h
    · cases hs : layD (chG cs) [(d, 0)] ⟨[], 0, List.replicate g 0⟩ with
      | none => rw [hs] at h; subst h; exact Nat.zero_le _
      | some s =>
        rw [hs] at h
        simp only at h
        split at h
        · subst h; exact (lay_len chG_ok v hs).1
        · subst h; exact Nat.zero_le _
    · subst h; exact Nat.zero_le _
end Go.Proofs.YtfhpgfbakimmhaaE
/- The law FnExactRender. -/
namespace Go.Proofs.YtfhpgfbakimmhaaE
open Go Go.RowKit
set_option linter.unusedVariables false
set_option linter.unusedSimpArgs false
set_option maxRecDepth 100000
set_option maxHeartbeats 8000000

theorem stepsP_sumR : ∀ gs : List PieceG, (gs.map stepsPiece).sum = (gs.map PieceG.size).sum + 2 * gs.length
  | [] => rfl
  | g :: gs => by simp only [List.map_cons, List.sum_cons, stepsP_sumR gs, List.length_cons, stepsPiece, PieceG.size]; omega
theorem law_Render {fs : List PieceG} {A Ac : Option Addr} {n c cc : Nat} {W : World} {cs : List Int} (hx : RdPiece W (.slice A n c) n fs) (hl : n ≤ 9223372036854775807) (hs : ∀ f ∈ fs, LenPiece f) (hb : ∀ f ∈ fs, byteOK f.text) (hxc : RdI W (.slice Ac cs.length cc) cs) (hbc : ∀ z ∈ cs, -9223372036854775808 ≤ z ∧ z ≤ 9223372036854775807) (hlc : cs.length ≤ 9223372036854775807) :
    Calls Try.prog 13 #[.slice A n c, .slice Ac cs.length cc] W fun e w => e = .returned (.bool true) ∧ Below W.heap.size W w := by
  have H := St.enter W
  refine calls_of_vcV (args := [.slice A n c, .slice Ac cs.length cc]) Try.func13 rfl (by kernel_rfl) (Nat.le_of_ble_eq_true rfl) ?_
  refine ifB (fun c1 => And.intro rfl H.below) (fun c1 => ?_)
  refine callV ok_szPieceS (laws_szPieceS (by decide) (by decide) hx hl hs) H fun w H => ?_
  refine ifB (fun c3 => And.intro rfl H.below) (fun c3 => ?_)
  have hn := hx.len
  have hz := szI_okD c3
  unfold sizePiece at hz
  have hsm : ∀ f ∈ fs, SmallPiece f := fun f hf => ⟨Nat.le_trans (show f.text.length ≤ _ from sizePiece_mem hf) (by omega)⟩
  obtain ⟨r, hr⟩ : ∃ r, renderF (fs.map PieceG.p) cs = r := ⟨_, rfl⟩
  have hrl := renderF_len hr
  have toC : ∀ {w : World}, Below W.heap.size W w → Calls Try.prog 40 #[.slice A n c] w fun e w' => ∃ A' c' gs, e = .returned (.slice A' n c') ∧ gs.map PieceG.p = fs.map PieceG.p ∧ St w.heap.size w w' (.rowPiece (.slice A' n c') n gs :: gs.flatMap PieceG.own) := fun hB => laws_toPieceS (hx.ext hB) (by omega) hsm
  have toI : ∀ {w : World}, Below W.heap.size W w → Calls Try.prog 49 #[.slice Ac cs.length cc] w fun e w' => ∃ x, e = .returned x ∧ OwnI w' w.heap.size x cs ∧ Below w.heap.size w w' := fun hB => laws_toIntS cs Ac cc _ (hxc.ext hB) (by omega)
  have spC : ∀ {w : World} {A' B' : Option Addr} {c' b' : Nat} {gs : List PieceG}, RdPiece w (.slice A' n c') n gs → gs.map PieceG.p = fs.map PieceG.p → RdI w (.slice B' cs.length b') cs → Calls Try.prog 48 #[.slice A' n c', .slice B' cs.length b'] w fun e w' => ∃ A1 c1, e = .returned (.tuple #[.slice A1 r.1.length c1, .int .i64 r.2]) ∧ St w.heap.size w w' [.rowB (.slice A1 r.1.length c1) r.1] := fun h he hi => spec_Render h (by omega) (docOK_of he hsm hb) hi rfl (by omega) (by rw [he]; exact hr)
  have imC : ∀ {w : World} {A' B' : Option Addr} {c' b' : Nat} {gs : List PieceG}, RdPiece w (.slice A' n c') n gs → gs.map PieceG.p = fs.map PieceG.p → RdI w (.slice B' cs.length b') cs → Calls Try.prog 50 #[.slice A' n c', .slice B' cs.length b'] w fun e w' => ∃ A1 c1, e = .returned (.tuple #[.slice A1 r.1.length c1, .int .i64 r.2]) ∧ St w.heap.size w w' [.rowB (.slice A1 r.1.length c1) r.1] := fun h he hi => impl_Render h (by omega) (docOK_of he hsm hb) hi rfl (by omega) (by rw [he]; exact hr)
  clear hr
  obtain ⟨r1, r3⟩ := r
  dsimp only at hrl spC imC
  refine CallS.mk ok_toPieceS ((toC H.below).mono ?_)
  rintro _ w1 ⟨A1, k1, gs1, rfl, e1, H1⟩
  have H := H.joinL H1 (rowPieceAll _ _ _)
  refine callRow ok_toIntS (toI H.below) H fun B1 j1 w H => ?_
  refine CallS.mk ok_spec_Render ((spC (rdPm H (.slice A1 n k1) n gs1 (by simp) (fun it hit => by simp [hit])) e1 (H.rd 0 rfl)).mono ?_)
  rintro _ w2 ⟨A2, k2, rfl, H2⟩
  have H := (H.joinL H2 rfl).sel (M := [.rowB (.slice A2 r1.length k2) r1]) (fun q => by simp only [cntL_append, cntL, List.cons_append, List.nil_append, List.set_cons_zero, List.set_cons_succ, List.flatMap_append, List.flatMap_cons, List.flatMap_nil, It.rowF, It.rowB, It.rowI, It.roB, It.roI]; omega)
  refine CallS.mk ok_toPieceS ((toC H.below).mono ?_)
  rintro _ w3 ⟨A3, k3, gs3, rfl, e3, H3⟩
  have H := H.joinL H3 (rowPieceAll _ _ _)
  refine callRow ok_toIntS (toI H.below) H fun B3 j3 w H => ?_
  refine CallS.mk ok_impl_Render ((imC (rdPm H (.slice A3 n k3) n gs3 (by simp) (fun it hit => by simp [hit])) e3 (H.rd 0 rfl)).mono ?_)
  rintro _ w4 ⟨A4, k4, rfl, H4⟩
  have H := (H.joinL H4 rfl).sel (M := .rowB (.slice A4 r1.length k4) r1 :: .rowB (.slice A2 r1.length k2) r1 :: .rowI (.slice B3 cs.length j3) cs :: .rowPiece (.slice A3 n k3) n gs3 :: gs3.flatMap PieceG.own) (fun q => by simp only [cntL_append, cntL, List.cons_append, List.nil_append, List.set_cons_zero, List.set_cons_succ, List.flatMap_append, List.flatMap_cons, List.flatMap_nil, It.rowB, It.rowI, It.roB, It.roI, It.rowPiece]; omega)
  refine RegV.mk ?_
  refine callV ok_eqByteS (eqB2 (H.rd 0 rfl) (H.rd 1 rfl) (by omega)) H fun w H => ?_
  refine gNot ?_
  refine gY ?_
  refine ifB (fun c4 => absurd c4 (by omega)) (fun c4 => ?_)
  refine CallS.mk ok_toPieceS ((toC H.below).mono ?_)
  rintro _ w5 ⟨A5, k5, gs5, rfl, e5, H5⟩
  have H := H.joinL H5 (rowPieceAll _ _ _)
  refine callV ok_eqPieceS (laws_eqPieceS (rdPm H (.slice A3 n k3) n gs3 (by simp) (fun it hit => by simp [hit])) (rdPm H (.slice A5 n k5) n gs5 (by simp) (fun it hit => by simp [hit])) (e3.trans e5.symm) (by omega) (smallPiece_p e3 hsm)) H fun w H => ?_
  have hg3 : gs3.length = n := by have := congrArg List.length e3; rw [List.length_map, List.length_map] at this; omega
  have hst := stepsP_sumR gs3
  have hsz := sizePiece_p e3
  refine ifNot ?_
  refine ifT ?_
  refine callRow ok_toIntS (toI H.below) H fun B5 j5 w H => ?_
  refine callV ok_eqIntS (eqI2 (H.rd 3 rfl) (H.rd 0 rfl) (by omega)) H fun w H => ?_
  refine ifNot ?_
  refine ifT ?_
  have H := H.sel (M := .rowPiece (.slice A3 n k3) n gs3 :: (gs3.flatMap PieceG.own ++ [.rowI (.slice B3 cs.length j3) cs, .rowB (.slice A4 r1.length k4) r1, .rowB (.slice A2 r1.length k2) r1])) (fun q => by simp only [cntL_append, cntL, List.cons_append, List.nil_append, List.set_cons_zero, List.set_cons_succ, List.flatMap_append, List.flatMap_cons, List.flatMap_nil, It.rowB, It.rowI, It.roB, It.roI, It.rowPiece]; omega)
  refine CallS.mk ok_markPieceS ((laws_markPieceS (by decide) (by omega) hg3.symm H).mono ?_)
  rintro _ w6 ⟨rfl, H⟩
  have hen := endPieceL_eq gs3 1
  have H := H.sel (M := [.rowI (.slice B3 cs.length j3) cs, .rowB (.slice A4 r1.length k4) r1, .rowB (.slice A2 r1.length k2) r1]) (fun q => by simp only [cntL_append, cntL, List.cons_append, List.nil_append, List.set_cons_zero, List.set_cons_succ, List.flatMap_append, List.flatMap_cons, List.flatMap_nil, It.rowB, It.rowI, It.roB, It.roI, It.rowPiece]; omega)
  refine markI_call H rfl (by omega) (by omega) fun w H => ?_
  have H := H.sel (M := [.rowB (.slice A4 r1.length k4) r1, .rowB (.slice A2 r1.length k2) r1]) (fun q => by simp only [cntL_append, cntL, List.cons_append, List.nil_append, List.set_cons_zero, List.set_cons_succ, List.flatMap_append, List.flatMap_cons, List.flatMap_nil, It.rowF, It.rowB, It.rowI, It.roB, It.roI]; omega)
  refine RegV.mk ?_
  refine gF (fun c1 => ?_) (fun c1 => absurd c1 (by omega))
  refine callV ok_eqByteS (eqB2 (H.rd 0 rfl) (H.rd 1 rfl) (by omega)) H fun w H => ?_
  refine gNot ?_
  refine gY ?_
  refine ifB (fun c5 => absurd c5 (by omega)) (fun c5 => ?_)
  refine markB_call H rfl (by omega) (by omega) fun w H => ?_
  have rdc : ∀ {w : World} {L : List It}, St W.heap.size W w L → .rowB (.slice A4 r1.length k4) (cnt (· % 256) 1 r1.length) ∈ L → Rd w (.slice A4 r1.length k4) 1 r1.length ((cnt (· % 256) 1 r1.length).map (.int .u8)) := fun H hm => by
    have := H.rdm hm (v := .slice A4 r1.length k4) (sz := 1) (n := (cnt (· % 256) 1 r1.length).length) (cs := (cnt (· % 256) 1 r1.length).map (.int .u8)) rfl
    rwa [cnt_len] at this
  refine callV ok_heldByteS (heldV (rdc H (by simp)) (by omega) (by omega)) H fun w H => ?_
  refine ifB (fun c1 => absurd c1 (by omega)) (fun c1 => ?_)
  refine ifB (fun c2 => absurd c2 (by omega)) (fun c2 => ?_)
  refine CallS.mk ok_toPieceS ((toC H.below).mono ?_)
  rintro _ w7 ⟨A7, k7, gs7, rfl, e7, H7⟩
  have H := H.joinL H7 (rowPieceAll _ _ _)
  refine callRow ok_toIntS (toI H.below) H fun B7 j7 w H => ?_
  refine CallS.mk ok_impl_Render ((imC (rdPm H (.slice A7 n k7) n gs7 (by simp) (fun it hit => by simp [hit])) e7 (H.rd 0 rfl)).mono ?_)
  rintro _ w8 ⟨A8, k8, rfl, H8⟩
  have H := (H.joinL H8 rfl).sel (M := [.rowB (.slice A8 r1.length k8) r1, .rowB (.slice A2 r1.length k2) r1, .rowB (.slice A4 r1.length k4) (cnt (· % 256) 1 r1.length)]) (fun q => by simp only [cntL_append, cntL, List.cons_append, List.nil_append, List.set_cons_zero, List.set_cons_succ, List.flatMap_append, List.flatMap_cons, List.flatMap_nil, It.rowF, It.rowB, It.rowI, It.roB, It.roI]; omega)
  refine RegV.mk ?_
  refine callV ok_eqByteS (eqB2 (H.rd 0 rfl) (H.rd 1 rfl) (by omega)) H fun w H => ?_
  refine gNot ?_
  refine gY ?_
  refine ifB (fun c4 => absurd c4 (by omega)) (fun c4 => ?_)
  refine callV ok_heldByteS (heldV (rdc H (by simp)) (by omega) (by omega)) H fun w H => ?_
  refine ifB (fun c6 => absurd c6 (by omega)) (fun c6 => ?_)
  refine ifB (fun c7 => absurd c7 (by omega)) (fun c7 => ?_)
  exact And.intro rfl H.below
end Go.Proofs.YtfhpgfbakimmhaaE
