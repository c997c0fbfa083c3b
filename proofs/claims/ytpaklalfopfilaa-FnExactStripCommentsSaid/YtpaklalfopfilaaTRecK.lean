/- What the laws' helpers do with one slice, as steps of a walk. -/
import Derived.Test.YtpaklalfopfilaaTRow
import Derived.Test.YtpaklalfopfilaaTBase
namespace Go.Proofs.YtpaklalfopfilaaE
open Go Go.RowKit
set_option linter.unusedVariables false
set_option maxRecDepth 100000

theorem ifBeq {b : Bool} {X Y : Prop} (h : X) : CondB (b == b) X Y := ⟨fun _ => h, fun e => by simp at e⟩
theorem ifBnd {p : Prop} [Decidable p] {X Y : Prop} (h : Y) : CondB (!(decide p == decide p)) X Y := ⟨fun e => by simp at e, fun _ => h⟩
theorem eqB2 {xs : List Int} {A A' : Option Addr} {c c' : Nat} {w : World} (hx : RdB w (.slice A xs.length c) xs) (hy : RdB w (.slice A' xs.length c') xs) (hl : xs.length ≤ 1099511627776) : GivesV Try.prog 119 [.slice A xs.length c, .slice A' xs.length c'] w (.bool true) :=
  givesV_of ((laws_eqByteS_same _ _ _ _ _ _ hx hy hl).mono fun e w' ⟨h1, h2⟩ => ⟨_, h1, rfl, h2⟩)
theorem eqI2 {xs : List Int} {A A' : Option Addr} {c c' : Nat} {w : World} (hx : RdI w (.slice A xs.length c) xs) (hy : RdI w (.slice A' xs.length c') xs) (hl : xs.length ≤ 1099511627776) : GivesV Try.prog 118 [.slice A xs.length c, .slice A' xs.length c'] w (.bool true) := givesV_of ((laws_eqIntS_same _ _ _ _ _ _ hx hy hl).mono fun e w' ⟨h1, h2⟩ => ⟨_, h1, rfl, h2⟩)
theorem markI_call {B : Nat} {W0 w : World} {L : List It} {A : Option Addr} {n c : Nat} {xs : List Int} {m : Int} {K : Value → World → Prop} {X : List PanicEntry → World → Prop} (H : St B W0 w (.rowI (.slice A n c) xs :: L)) (hn : n = xs.length) (hm : 0 ≤ m) (hl : m + xs.length ≤ 1099511627776) (k : ∀ w', St B W0 w' (.rowI (.slice A n c) (cnt id m xs.length) :: L) → K (.int .i64 (m + xs.length)) w') : CallS Try.prog 101 [.slice A n c, .int .i64 m] w K X := by subst hn; exact CallS.mk ok_markIntS ((laws_markIntS m hm xs A c B w (H.own 0 rfl) hl).mono (by rintro _ w' ⟨rfl, ho, hg⟩; exact k w' (H.turn 0 rfl hg ho (fun g h => .inl h))))
theorem heldI {A : Option Addr} {n c : Nat} {m : Int} {w : World} (hx : Rd w (.slice A n c) 1 n ((cnt id m n).map (.int .i64))) (hm : 0 ≤ m) (hl : m + n ≤ 1099511627776) : GivesV Try.prog 103 [.slice A n c, .int .i64 m] w (.int .i64 (m + n)) := givesV_of ((laws_heldIntS m hm n A c w (by simpa only [RdI, cnt_len] using hx) hl).mono fun e w' ⟨h1, h2⟩ => ⟨_, h1, rfl, h2⟩)
end Go.Proofs.YtpaklalfopfilaaE
