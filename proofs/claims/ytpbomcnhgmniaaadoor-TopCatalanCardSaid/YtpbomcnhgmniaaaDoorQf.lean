/- Known calls. -/
import Derived.Test.YtpbomcnhgmniaaaDoorQb
section
namespace Go.E
open Go.A
/-- A function, evaluated where it is called. -/
noncomputable def extR (f0 : Nat) (F : EFn) (H next : HC) : HC := fun f args M K => bt (Nat.beq f f0) (runF F H args M K) (next f args M K)
theorem extR_sound {P : Program} (hmo : P.follows .mixedOrders = true) {f0 : Nat} {F : EFn} (hF : Good P f0 F) {H next : HC} (hH : HSound P H) (hn : HSound P next) : HSound P (extR f0 F H next) := by
  intro f args M K h
  replace h := bt_spec h; rcases h with ⟨e, h⟩ | ⟨_, h⟩
  · obtain rfl := Nat.eq_of_beq_eq_true e
    exact (runF_sound hmo hF hH h).g
  · exact hn f args M K h
end Go.E
set_option maxRecDepth 100000
namespace Go.Proofs.Cat
open Go Go.A Go.E
noncomputable def x1 : HC := extR 41 F41 (evF tab x0 200) x0
theorem x1s : HSound Tryd.prog x1 := extR_sound hmo g41 h1 x0s
theorem h2 : HSound Tryd.prog (evF tab x1 200) := evF_sound hmo tabOK x1s 200
end Go.Proofs.Cat
end
