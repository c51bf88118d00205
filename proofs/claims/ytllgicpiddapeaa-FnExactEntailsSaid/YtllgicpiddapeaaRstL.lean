/- Domains in which literals are made true: both sides. -/
import Derived.Test.YtllgicpiddapeaaLits
import Derived.Test.YtllgicpiddapeaaShvI
import Derived.Test.YtllgicpiddapeaaTail
namespace Go.Proofs.Ytllgicpiddapeaa
open Go.RowKit
attribute [local go_sem] evalOf

/-- The values that make a literal true. -/
def litD (l : Lt) : Int := if l.n = true then 63 - 2 ^ l.v.toNat else 2 ^ l.v.toNat
theorem bits_litD {d : Int} (h0 : 0 ≤ d) (h1 : d ≤ 63) {l : Lt} (hv : l.v.toNat < 6) : bits .and .i64 d (litD l) = andL d l := by
  unfold litD andL
  split
  · have := fin_dv (p := fun d v => bits .and .i64 d (63 - 2 ^ v) == delV d v) (by decide +kernel) h0 h1 hv
    simpa using this
  · exact bits_and h0 h1 hv
theorem bits_litN {v : Nat} (hv : v < 6) : bits .andNot .i64 63 (2 ^ v) = 63 - 2 ^ v := by
  have := fin_dv (p := fun _ v => bits .andNot .i64 63 (2 ^ v) == 63 - 2 ^ v) (by decide +kernel) (Int.le_refl 0) (by omega) hv
  simpa using this
theorem litD_bd {l : Lt} (hv : l.v.toNat < 6) : 0 ≤ litD l ∧ litD l ≤ 63 := by
  have := pow_bd hv
  unfold litD
  split <;> omega
section
variable {cs : List Con} {n : Nat}
theorem lt_nat {ls : List Lt} {n : Nat} (hc : okCl ls n = true) {k : Nat} (hk : k < ls.length) : ∃ x : Nat, ltX ls k = x ∧ x < n ∧ 0 ≤ (lt0 ls k).v ∧ (lt0 ls k).v ≤ 5 := by
  obtain ⟨x, v, hx, hv, hxn, hv6⟩ := okCl_lt hc hk
  refine ⟨x, hx, hxn, ?_, ?_⟩ <;> (show _ ≤ _; unfold ltV at hv; omega)
/-- Domains: so many, each within 0 .. 63. -/
def DomN (n : Nat) (ds : List Int) : Prop := ds.length = n ∧ ∀ i, i < n → 0 ≤ at0 ds i ∧ at0 ds i ≤ 63
theorem DomN.set {ds : List Int} (h : DomN n ds) (x : Nat) {d : Int} (hd : 0 ≤ d ∧ d ≤ 63) : DomN n (ds.set x d) := by
  refine ⟨by rw [List.length_set]; exact h.1, fun i hi => ?_⟩
  by_cases hx : x < ds.length
  · rw [at0_set _ _ _ _ hx]
    split
    · exact hd
    · exact h.2 i hi
  · rw [List.set_eq_of_length_le (by omega)]; exact h.2 i hi
theorem resC_dom {ds : List Int} (h : DomN n ds) {ls : List Lt} (hc : okCl ls n = true) : ∀ k, k ≤ ls.length → DomN n (resC ds ls k)
  | 0, _ => h
  | k + 1, hk => by
    have h1 := resC_dom h hc k (by omega)
    obtain ⟨x, hx, hxn, hv0, hv5⟩ := lt_nat hc (k := k) (by omega)
    have hd := h1.2 x hxn
    rw [resC, hx, Int.toNat_natCast]
    exact h1.set x (andL_bd hd.1 hd.2 (by omega))
end
end Go.Proofs.Ytllgicpiddapeaa
