/- slices.Equal on ints. -/
import Derived.Test.YtkjbefokgmiehaaDoorBase
namespace Go.Proofs.YtkjbefokgmiehaaDoor
open Go.RowKit

end Go.Proofs.YtkjbefokgmiehaaDoor
/- The walks of slices.IndexFunc and slices.ContainsFunc, whatever function they are handed. -/
namespace Go.Proofs.YtkjbefokgmiehaaDoor
open Go.RowKit

/-- The first index below n at which p holds; -1 if there is none. -/
def fidx (p : Nat → Bool) (n : Nat) : Int := match (List.range n).find? p with | some i => (i : Int) | none => -1
/-- Is there an index below n at which p holds? -/
def anyB (p : Nat → Bool) (n : Nat) : Bool := (List.range n).any p
theorem anyB_iff {p : Nat → Bool} {n : Nat} : anyB p n = true ↔ ∃ i, i < n ∧ p i = true := by simp [anyB]
theorem anyB_false {p : Nat → Bool} {n : Nat} : anyB p n = false ↔ ∀ i, i < n → p i = false := by simp [anyB]
theorem fidx_some {p : Nat → Bool} {n i : Nat} (hi : i < n) (h : p i = true) (hb : ∀ j, j < i → p j = false) : fidx p n = i := by
  have : (List.range n).find? p = some i := by
    rw [List.find?_range_eq_some]
    exact ⟨h, by simpa using hi, fun j hj => by simp [hb j hj]⟩
  rw [fidx, this]
theorem fidx_none {p : Nat → Bool} {n : Nat} (h : ∀ j, j < n → p j = false) : fidx p n = -1 := by
  have : (List.range n).find? p = none := by
    rw [List.find?_range_eq_none]
    exact fun j hj => by simp [h j hj]
  rw [fidx, this]
theorem fidx_any (p : Nat → Bool) (n : Nat) : decide (0 ≤ fidx p n) = anyB p n := by
  by_cases h : anyB p n = true
  · rw [h]
    unfold fidx
    cases hf : (List.range n).find? p with
    | some i => simp
    | none =>
      rw [List.find?_range_eq_none] at hf
      obtain ⟨i, hi, hp⟩ := anyB_iff.1 h
      have := hf i hi
      simp [hp] at this
  · have h' : anyB p n = false := Bool.eq_false_iff.2 h
    rw [h', fidx_none (anyB_false.1 h')]
    rfl
theorem fidx_le {p : Nat → Bool} {n : Nat} : -1 ≤ fidx p n ∧ fidx p n < n + 1 := by
  unfold fidx
  split
  · rename_i i h
    have := List.mem_of_find?_eq_some h
    simp at this
    omega
  · omega


set_option maxHeartbeats 1000000 in
theorem IndexFuncT_any (v : Value) (ts : List Tk) (g : Nat) (caps : Array Value) (p : Nat → Bool) (w : World) (hS : STasks w v ts)
    (hg : ∀ args W, (callFunc g args).run Tryd.prog W = .ok (.enter g args) W) (hp : Hid (∀ i, i < ts.length → ∀ W, Ext w W → Calls Tryd.prog g (#[.agg #[.int .i64 (tkS ts i), .int .i64 (tkD ts i), .int .i64 (tkM ts i)]] ++ caps) W (Ret (.bool (p i)) W))) :
    Calls Tryd.prog 39 #[v, .func (.func g) #[] caps] w (Ret (.int .i64 (fidx p ts.length)) w) := by
  obtain ⟨A, cp, rfl, hl, hc, hb, hcell⟩ := hS
  have hlen : ts.length ≤ 9223372036854775807 := by omega
  have Hc := hide hcell; clear hcell
  have Hb := hide hb; clear hb
  go_enter Tryd.func39, Tryd.ntmps39
  go_wp2
  go_loopw [8] (fun i wr => ∃ k : Nat, k ≤ ts.length ∧ i = .int .i64 k ∧ (∀ j, j < k → p j = false) ∧ Ext w wr) (fun i _ => ts.length - (intOf i).toNat)
  case atStart => exact ⟨0, Nat.zero_le _, rfl, fun j hj => absurd hj (by omega), Ext.refl w⟩
  case round =>
    obtain ⟨k, hk, rfl, hv, hx⟩ := hrel
    have Hv := hide hv; clear hv
    by_cases hlt : k < ts.length
    · obtain ⟨b, off, rfl, hbl, hcs⟩ := Hc.out (by omega)
      obtain ⟨g1, g2, g3⟩ := hcs k hlt
      have f1 := (hx.cell (p := ⟨b, off + k * 3, none⟩) hbl).trans g1
      have f2 := (hx.cell (p := ⟨b, off + k * 3 + 1, none⟩) hbl).trans g2
      have f3 := (hx.cell (p := ⟨b, off + k * 3 + 2, none⟩) hbl).trans g3
      clear hcs g1 g2 g3
      by_cases hpk : p k = true
      · go_wp2_with fail
        refine (hp.out k hlt _ hx).mono ?_
        rintro e w2 ⟨rfl, hx2⟩
        go_wp2
        go_ret
        exact Ret.mk (ret_i (fidx_some hlt hpk Hv.out).symm) (hx.trans hx2)
      · have hpk' : p k = false := Bool.eq_false_iff.2 hpk
        clear hpk
        go_wp2_with fail
        refine (hp.out k hlt _ hx).mono ?_
        rintro e w2 ⟨rfl, hx2⟩
        go_wp2
        go_roundw
        case rel => exact ⟨k + 1, by omega, by go_num, upto_succ Hv.out hpk', hx.trans hx2⟩
        case measure => simp [intOf]; omega
    · have hkl : k = ts.length := by omega
      subst hkl
      go_wp2
      go_ret
      exact Ret.mk (ret_i (fidx_none Hv.out).symm) hx
theorem ContainsFuncT_any (v : Value) (ts : List Tk) (g : Nat) (caps : Array Value) (p : Nat → Bool) (w : World) (hS : STasks w v ts)
    (hg : ∀ args W, (callFunc g args).run Tryd.prog W = .ok (.enter g args) W) (hp : Hid (∀ i, i < ts.length → ∀ W, Ext w W → Calls Tryd.prog g (#[.agg #[.int .i64 (tkS ts i), .int .i64 (tkD ts i), .int .i64 (tkM ts i)]] ++ caps) W (Ret (.bool (p i)) W))) :
    Calls Tryd.prog 29 #[v, .func (.func g) #[] caps] w (Ret (.bool (anyB p ts.length)) w) := by
  go_enter Tryd.func29, Tryd.ntmps29
  go_wp2_with fail
  refine (IndexFuncT_any v ts g caps p w hS hg hp).mono ?_
  rintro e w2 ⟨rfl, hx2⟩
  go_wp2
  go_ret
  exact Ret.mk (ret_b (fidx_any p _)) hx2
end Go.Proofs.YtkjbefokgmiehaaDoor
/- The walks of the range checks of numbers. -/
namespace Go.Proofs.YtkjbefokgmiehaaDoor
open Go.RowKit

theorem inRange_any (n l h : Int) (w : World) :
    Calls Tryd.prog 27 #[.int .i64 n, .int .i64 l, .int .i64 h] w fun e w' => e = .returned (.bool (inR n l h)) ∧ w = w' := by
  by_cases h1 : l ≤ n
  · go_enter Tryd.func27, Tryd.ntmps27
    go_wp2
    go_ret
    exact ⟨by simp [inR, h1], rfl⟩
  · have h2 : decide (l ≤ n) = false := by simpa using h1
    go_enter Tryd.func27, Tryd.ntmps27
    go_wp2
    go_ret
    exact ⟨by simp [inR, h2], rfl⟩

theorem within_any (n l h : Int) (w : World) :
    Calls Tryd.prog 23 #[.int .i64 n, .int .i64 l, .int .i64 h] w fun e w' => e = .returned (.bool (inR n l h)) ∧ w = w' := by
  by_cases h1 : l ≤ n
  · go_enter Tryd.func23, Tryd.ntmps23
    go_wp2
    go_ret
    exact ⟨by simp [inR, h1], rfl⟩
  · have h2 : decide (l ≤ n) = false := by simpa using h1
    go_enter Tryd.func23, Tryd.ntmps23
    go_wp2
    go_ret
    exact ⟨by simp [inR, h2], rfl⟩

theorem validDomain_any (d : Int) (w : World) :
    Calls Tryd.prog 26 #[.int .i64 d] w fun e w' => e = .returned (.bool (vDom d)) ∧ w = w' := by
  go_enter Tryd.func26, Tryd.ntmps26
  go_wp2_with (go_at_call 27; refine (inRange_any _ _ _ _).mono ?_; rintro e w' ⟨rfl, rfl⟩)
  go_ret
  exact ⟨rfl, rfl⟩

theorem ValidDomain_any (d : Int) (w : World) :
    Calls Tryd.prog 18 #[.int .i64 d] w fun e w' => e = .returned (.bool (vDom d)) ∧ w = w' := by
  go_enter Tryd.func18, Tryd.ntmps18
  go_wp2_with (go_at_call 23; refine (within_any _ _ _ _).mono ?_; rintro e w' ⟨rfl, rfl⟩)
  go_ret
  exact ⟨rfl, rfl⟩

end Go.Proofs.YtkjbefokgmiehaaDoor
/- The walks of the checks of numbers in a range, in the reference and in the program. -/
namespace Go.Proofs.YtkjbefokgmiehaaDoor
open Go.RowKit

theorem allR_any (xs : List Int) (l h : Int) : allR xs l h = !anyB (fun i => !inR (at0 xs i) l h) xs.length := by
  by_cases hh : ∀ j, j < xs.length → inR (at0 xs j) l h = true
  · rw [allR_of hh, anyB_false.2 (fun i hi => by simp [hh i hi])]; rfl
  · have h' : ∃ j, j < xs.length ∧ inR (at0 xs j) l h = false := by simpa using hh
    obtain ⟨j, hj, hf⟩ := h'
    rw [anyB_iff.2 ⟨j, hj, by simp [hf]⟩, allR_no hj hf]; rfl

end Go.Proofs.YtkjbefokgmiehaaDoor
