/- Literals under values, and IsNogood on both sides (cut out of SolW). -/
import Derived.Test.YtgpbmggfpbebmaaGreatSolW
import Derived.Test.YtgpbmggfpbebmaaGreatRstL
import Derived.Test.YtgpbmggfpbebmaaGreatRfS
import Derived.Test.YtgpbmggfpbebmaaGreatRfI
/- Literals under values: the reference's walk. -/
namespace Go.Proofs.YtgpbmggfpbebmaaGreat
open Go.RowKit
attribute [local go_sem] evalOf

/-- Literal i is true under the values x. -/
def ltT (x : List Int) (ls : List Lt) (i : Nat) : Bool := !((at0 x (ltX ls i).toNat == ltV ls i) == ltN ls i)
def allT (x : List Int) (ls : List Lt) : Bool := !anyB (fun i => !ltT x ls i) ls.length
end Go.Proofs.YtgpbmggfpbebmaaGreat
/- Literals under values: the program's walk. -/
namespace Go.Proofs.YtgpbmggfpbebmaaGreat
open Go.RowKit
attribute [local go_sem] evalOf

theorem litD_has {l : Lt} (h0 : 0 ≤ l.v) (h5 : l.v ≤ 5) {u : Nat} (hu : u < 6) : hasB (litD l) u = !(((u : Int) == l.v) == l.n) := by
  obtain ⟨x, v, n⟩ := l
  obtain ⟨y, rfl⟩ : ∃ y : Nat, v = y := ⟨v.toNat, by simp only at h0; omega⟩
  have hy : y < 6 := by simp only at h5; omega
  have := fin_dv (p := fun d v => !decide (d < 6) || ((hasB (63 - 2 ^ v) d.toNat == (!((d == (v : Int)) == true))) && (hasB (2 ^ v) d.toNat == (!((d == (v : Int)) == false))))) (by decide +kernel) (d := (u : Int)) (by omega) (by omega) hy
  have hd : decide ((u : Int) < 6) = true := decide_eq_true (by omega)
  simp only [hd, Bool.not_true, Bool.false_or, Bool.and_eq_true, beq_iff_eq, Int.toNat_natCast] at this
  unfold litD
  cases n
  · simp only [Bool.false_eq_true, if_false, Int.toNat_natCast]; exact this.2
  · simp only [if_true, Int.toNat_natCast]; exact this.1
/-- f answers as p at the literals. -/
def OnLts (f : Nat) (caps : Array Value) (ls : List Lt) (p : Nat → Bool) (w : World) : Prop :=
  ∀ i, i < ls.length → ∀ W, Ext w W → Calls Tryz.prog f (#[.agg #[.int .i64 (ltX ls i), .int .i64 (ltV ls i), .bool (ltN ls i)]] ++ caps) W (Ret (.bool (p i)) W)
set_option maxHeartbeats 1000000 in
theorem IndexFuncT_any (v : Value) (ls : List Lt) (g : Nat) (caps : Array Value) (p : Nat → Bool) (w : World) (hS : SLt w v ls)
    (hg : ∀ args W, (callFunc g args).run Tryz.prog W = .ok (.enter g args) W) (hp : Hid (OnLts g caps ls p w)) :
    Calls Tryz.prog 66 #[v, .func (.func g) #[] caps] w (Ret (.int .i64 (fidx p ls.length)) w) := by
  have hS0 := hide hS
  obtain ⟨A, cp, rfl, hl, hlen⟩ := hS.form
  clear hS
  go_enter Tryz.func66, Tryz.ntmps66
  go_wp2
  go_loopw [8] (fun i wr => ∃ k : Nat, k ≤ ls.length ∧ i = .int .i64 k ∧ (∀ j, j < k → p j = false) ∧ Ext w wr) (fun i _ => ls.length - (intOf i).toNat)
  case atStart => exact ⟨0, Nat.zero_le _, rfl, fun j hj => absurd hj (by omega), Ext.refl w⟩
  case round =>
    obtain ⟨k, hk, rfl, hv, hx⟩ := hrel
    have Hv := hide hv; clear hv
    by_cases hlt : k < ls.length
    · obtain ⟨b, off, rfl, hbl, f1, f2, f3⟩ := (hS0.out.ext hx).at_ hlt
      by_cases hpk : p k = true
      · go_wp2_with fail
        refine (hp.out k hlt _ hx).mono ?_
        rintro e w2 ⟨rfl, hx2⟩
        go_wp2
        go_ret
        exact Ret.mk (ret_i (fidx_some hlt hpk Hv.out).symm) (hx.trans hx2)
      · have hpk' : p k = false := Bool.eq_false_iff.2 hpk
        clear hpk
        go_wp2_with fail
        refine (hp.out k hlt _ hx).mono ?_
        rintro e w2 ⟨rfl, hx2⟩
        go_wp2
        go_roundw
        case rel => exact ⟨k + 1, by omega, by go_num, upto_succ Hv.out hpk', hx.trans hx2⟩
        case measure => simp [intOf]; omega
    · have hkl : k = ls.length := by omega
      subst hkl
      go_wp2
      go_ret
      exact Ret.mk (ret_i (fidx_none Hv.out).symm) hx
theorem ContainsFuncT_any (v : Value) (ls : List Lt) (g : Nat) (caps : Array Value) (p : Nat → Bool) (w : World) (hS : SLt w v ls)
    (hg : ∀ args W, (callFunc g args).run Tryz.prog W = .ok (.enter g args) W) (hp : Hid (OnLts g caps ls p w)) :
    Calls Tryz.prog 28 #[v, .func (.func g) #[] caps] w (Ret (.bool (anyB p ls.length)) w) := by
  go_enter Tryz.func28, Tryz.ntmps28
  go_wp2_with fail
  refine (IndexFuncT_any v ls g caps p w hS hg hp).mono ?_
  rintro e w2 ⟨rfl, hx2⟩
  go_wp2
  go_ret
  exact Ret.mk (ret_b (fidx_any p _)) hx2
end Go.Proofs.YtgpbmggfpbebmaaGreat
namespace Go.Proofs.YtgpbmggfpbebmaaGreat
open Go.RowKit

/-- No solution makes all literals true. -/
def ngB (cs : List Con) (ds : List Int) (ls : List Lt) : Bool := !anyB (fun i => allT (rw0 (solL cs ds) i) ls) (solL cs ds).length
def ngV (ds : List Int) (cs : List Con) (ls : List Lt) : Bool := (vMod ds cs && okCl ls ds.length) && ngB cs ds ls
end Go.Proofs.YtgpbmggfpbebmaaGreat
