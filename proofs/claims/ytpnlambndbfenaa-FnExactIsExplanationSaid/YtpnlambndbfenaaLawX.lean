/- Words for the walks of the exact laws. -/
import Derived.Test.YtpnlambndbfenaaLawM
namespace Go.Proofs.Ytpnlambndbfenaa
open Go.RowKit

/-- A word on one value. -/
def RS.p (D : List Nat) (ψ : Value → World → Prop) (h : ∀ v W W', ψ v W → Ext W W' → ψ v W') : RS := ⟨D, fun _ v W => ψ v W, fun _ v W W' h' hx => h v W W' h' hx⟩
theorem CopC.scon {B : Nat} {W : World} {c : Con} {bv ba br : Nat} (h : CopC B W c bv ba br) (hk : OkCon c) : SCon W (conV c bv ba br) c := ⟨_, _, _, rfl, h.vars hk, h.args hk, h.rows hk⟩
theorem eqCon_same (c : Con) (v v' : Value) (w : World) (h : SCon w v c) (h' : SCon w v' c) : Calls Try.prog 16 #[v, v'] w (Ret (.bool true) w) := by
  obtain ⟨vv, va, vr, rfl, h1, h2, h3⟩ := h
  obtain ⟨vv', va', vr', rfl, h1', h2', h3'⟩ := h'
  exact eqConstraint_same c _ _ _ _ _ _ w h1 h2 h3 h1' h2' h3'
end Go.Proofs.Ytpnlambndbfenaa
