/- The walks of slices.IndexFunc and slices.ContainsFunc, whatever function they are handed. -/
import Derived.Test.YtllgicpiddapeaaGreatDoorBase
namespace Go.Proofs.YtllgicpiddapeaaGreatDoor
open Go.RowKit

/-- The first index below n at which p holds; -1 if there is none. -/
def fidx (p : Nat → Bool) (n : Nat) : Int := match (List.range n).find? p with | some i => (i : Int) | none => -1
/-- Is there an index below n at which p holds? -/
def anyB (p : Nat → Bool) (n : Nat) : Bool := (List.range n).any p
theorem anyB_iff {p : Nat → Bool} {n : Nat} : anyB p n = true ↔ ∃ i, i < n ∧ p i = true := by simp [anyB]
theorem anyB_false {p : Nat → Bool} {n : Nat} : anyB p n = false ↔ ∀ i, i < n → p i = false := by simp [anyB]
theorem fidx_some {p : Nat → Bool} {n i : Nat} (hi : i < n) (h : p i = true) (hb : ∀ j, j < i → p j = false) : fidx p n = i := by
  have : (List.range n).find? p = some i := by
    rw [List.find?_range_eq_some]
    exact ⟨h, by simpa using hi, fun j hj => by simp [hb j hj]⟩
  rw [fidx, this]
theorem fidx_none {p : Nat → Bool} {n : Nat} (h : ∀ j, j < n → p j = false) : fidx p n = -1 := by
  have : (List.range n).find? p = none := by
    rw [List.find?_range_eq_none]
    exact fun j hj => by simp [h j hj]
  rw [fidx, this]
theorem fidx_any (p : Nat → Bool) (n : Nat) : decide (0 ≤ fidx p n) = anyB p n := by
  by_cases h : anyB p n = true
  · rw [h]
    unfold fidx
    cases hf : (List.range n).find? p with
    | some i => simp
    | none =>
      rw [List.find?_range_eq_none] at hf
      obtain ⟨i, hi, hp⟩ := anyB_iff.1 h
      have := hf i hi
      simp [hp] at this
  · have h' : anyB p n = false := Bool.eq_false_iff.2 h
    rw [h', fidx_none (anyB_false.1 h')]
    rfl
theorem fidx_le {p : Nat → Bool} {n : Nat} : -1 ≤ fidx p n ∧ fidx p n < n + 1 := by
  unfold fidx
  split
  · rename_i i h
    have := List.mem_of_find?_eq_some h
    simp at this
    omega
  · omega

set_option maxHeartbeats 1000000 in
theorem IndexFuncI_any (v : Value) (xs : List Int) (g : Nat) (caps : Array Value) (p : Nat → Bool) (w : World) (hS : SInts w v xs)
    (hg : ∀ args W, (callFunc g args).run Tryz.prog W = .ok (.enter g args) W) (hp : Hid (∀ i, i < xs.length → ∀ W, Ext w W → Calls Tryz.prog g (#[.int .i64 (at0 xs i)] ++ caps) W (Ret (.bool (p i)) W))) :
    Calls Tryz.prog 104 #[v, .func (.func g) #[] caps] w (Ret (.int .i64 (fidx p xs.length)) w) := by
  obtain ⟨A, cp, rfl, hl, hc, hb, hcell⟩ := hS
  have hlen : xs.length ≤ 9223372036854775807 := by omega
  have Hc := hide hcell; clear hcell
  have Hb := hide hb; clear hb
  go_enter Tryz.func104, Tryz.ntmps104
  go_wp2
  go_loopw [8] (fun i wr => ∃ k : Nat, k ≤ xs.length ∧ i = .int .i64 k ∧ (∀ j, j < k → p j = false) ∧ Ext w wr) (fun i _ => xs.length - (intOf i).toNat)
  case atStart => exact ⟨0, Nat.zero_le _, rfl, fun j hj => absurd hj (by omega), Ext.refl w⟩
  case round =>
    obtain ⟨k, hk, rfl, hv, hx⟩ := hrel
    have Hv := hide hv; clear hv
    by_cases hlt : k < xs.length
    · obtain ⟨b, off, rfl, hbl, hcs⟩ := Hc.out (by omega)
      have f1 := (hx.cell (p := ⟨b, off + k, none⟩) hbl).trans (hcs k hlt)
      clear hcs
      by_cases hpk : p k = true
      · go_wp2_with fail
        refine (hp.out k hlt _ hx).mono ?_
        rintro e w2 ⟨rfl, hx2⟩
        go_wp2
        go_ret
        exact Ret.mk (ret_i (fidx_some hlt hpk Hv.out).symm) (hx.trans hx2)
      · have hpk' : p k = false := Bool.eq_false_iff.2 hpk
        clear hpk
        go_wp2_with fail
        refine (hp.out k hlt _ hx).mono ?_
        rintro e w2 ⟨rfl, hx2⟩
        go_wp2
        go_roundw
        case rel => exact ⟨k + 1, by omega, by go_num, upto_succ Hv.out hpk', hx.trans hx2⟩
        case measure => simp [intOf]; omega
    · have hkl : k = xs.length := by omega
      subst hkl
      go_wp2
      go_ret
      exact Ret.mk (ret_i (fidx_none Hv.out).symm) hx
theorem ContainsFuncI_any (v : Value) (xs : List Int) (g : Nat) (caps : Array Value) (p : Nat → Bool) (w : World) (hS : SInts w v xs)
    (hg : ∀ args W, (callFunc g args).run Tryz.prog W = .ok (.enter g args) W) (hp : Hid (∀ i, i < xs.length → ∀ W, Ext w W → Calls Tryz.prog g (#[.int .i64 (at0 xs i)] ++ caps) W (Ret (.bool (p i)) W))) :
    Calls Tryz.prog 80 #[v, .func (.func g) #[] caps] w (Ret (.bool (anyB p xs.length)) w) := by
  go_enter Tryz.func80, Tryz.ntmps80
  go_wp2_with fail
  refine (IndexFuncI_any v xs g caps p w hS hg hp).mono ?_
  rintro e w2 ⟨rfl, hx2⟩
  go_wp2
  go_ret
  exact Ret.mk (ret_b (fidx_any p _)) hx2

end Go.Proofs.YtllgicpiddapeaaGreatDoor
