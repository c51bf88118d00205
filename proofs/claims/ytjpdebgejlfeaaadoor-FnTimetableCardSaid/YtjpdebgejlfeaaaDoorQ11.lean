/- validConstraint of the reference: kind by kind. -/
import Derived.Test.YtjpdebgejlfeaaaDoorSpZ
import Derived.Test.YtjpdebgejlfeaaaDoorFitK
import Derived.Test.YtjpdebgejlfeaaaDoorPrpZ
namespace Go.Proofs.YtjpdebgejlfeaaaDoor
open Go.RowKit

/-- A constraint is valid for n variables: as the reference has it. -/
def vCs (c : Con) (n : Int) : Bool := inR c.vars.length 1 n && (allR c.vars 0 (n - 1) && (dst c.vars && fitB c.kk c.vars c.args c.bound c.rows))
theorem vCon_vCs (c : Con) (n : Int) : vCon c n = (inR n 1 4 && vCs c n) := rfl
end Go.Proofs.YtjpdebgejlfeaaaDoor
/- validModel of the reference. -/
namespace Go.Proofs.YtjpdebgejlfeaaaDoor
open Go.RowKit

theorem vMod_eq (ds : List Int) (cs : List Con) (h : allR ds 0 63 = true) (h2 : anyB (fun i => !vCs (con0 cs i) ds.length) cs.length = false) : vMod ds cs = (inR ds.length 1 4 && decide (cs.length ≤ 6)) := by
  unfold vMod
  rw [h]
  cases hn : inR (ds.length : Int) 1 4 with
  | false => rfl
  | true =>
    rw [show anyB (fun i => !vCon (con0 cs i) ds.length) cs.length = false from anyB_false.2 fun i hi => by
      have := anyB_false.1 h2 i hi
      rw [vCon_vCs, hn, Bool.true_and]; exact this]
    simp
theorem vMod_no1 {ds : List Int} {cs : List Con} (h : allR ds 0 63 = false) : vMod ds cs = false := by
  unfold vMod; rw [h]; simp
theorem vMod_no2 {ds : List Int} {cs : List Con} {k : Nat} (hk : k < cs.length) (h : vCs (con0 cs k) ds.length = false) : vMod ds cs = false := by
  unfold vMod
  rw [anyB_iff.2 ⟨k, hk, by rw [vCon_vCs, h, Bool.and_false]; rfl⟩]
  simp
set_option maxHeartbeats 1000000 in
theorem validDomS_any (d : Int) (w : World) :
    Calls Tryd.prog 36 #[.int .i64 d] w fun e w' => e = .returned (.bool (inR d 0 63)) ∧ w = w' := by
  go_enter Tryd.func36, Tryd.ntmps36
  go_wp2_with fail
  refine (inRange_any _ _ _ _).mono ?_
  rintro e w' ⟨rfl, rfl⟩
  go_wp2
  go_ret
  exact ⟨rfl, rfl⟩
end Go.Proofs.YtjpdebgejlfeaaaDoor
/- Probing: the program's, and the reference's. -/
namespace Go.Proofs.YtjpdebgejlfeaaaDoor
open Go.RowKit
attribute [local go_sem] evalOf

theorem probD_len (ds : List Int) (v a : Nat) : (probD ds v a).length = ds.length := by simp [probD]
theorem OwnRes.len {xs : List Int} {w w' : World} {A : Option Addr} {n c : Nat} (h : OwnRes xs w (.returned (.slice A n c)) w') : n = xs.length := by
  obtain ⟨A2, c2, h⟩ := h.form
  injection h
/-- A slice of its own that reads as xs. -/
def RS.ow (D : List Nat) (xs : List Int) (B : World) : RS := ⟨D, fun _ v W => OwnRes xs B (.returned v) W, fun _ _ _ _ h hx => h.grow hx⟩
end Go.Proofs.YtjpdebgejlfeaaaDoor
/- Probe: the program's, and the reference's. -/
namespace Go.Proofs.YtjpdebgejlfeaaaDoor
open Go.RowKit

def prbOk (ds : List Int) (cs : List Con) (i a : Int) : Bool := vMod ds cs && (inR i 0 (ds.length - 1) && inR a 0 5)
def prbV (ds : List Int) (cs : List Con) (i a : Int) : List Int := if prbOk ds cs i a = true then probL cs ds i.toNat a.toNat else []
theorem prbOk_of {ds : List Int} {cs : List Con} {i a : Int} (h : prbOk ds cs i a = true) : ∃ n m : Nat, i = n ∧ a = m ∧ n < ds.length ∧ m < 6 ∧ GoodD cs ds.length ds ∧ ds.length ≤ 4 ∧ prbV ds cs i a = probL cs ds n m := by
  have h0 := h
  simp only [prbOk, Bool.and_eq_true, inR, decide_eq_true_eq] at h
  obtain ⟨h1, ⟨h2, h3⟩, h4, h5⟩ := h
  obtain ⟨hG, hp, h6⟩ := vMod_good h1
  refine ⟨i.toNat, a.toNat, by omega, by omega, by omega, by omega, hG, h6, ?_⟩
  rw [prbV, if_pos h0]
theorem prbV_no {ds : List Int} {cs : List Con} {i a : Int} (h : prbOk ds cs i a = false) : prbV ds cs i a = [] := by rw [prbV, h]; rfl
theorem prbV_i64 (ds : List Int) (cs : List Con) (i a : Int) : ∀ j, j < (prbV ds cs i a).length → I64 (at0 (prbV ds cs i a) j) := by
  intro j hj
  cases h : prbOk ds cs i a with
  | false => rw [prbV_no h] at hj; simp at hj
  | true =>
    obtain ⟨n, m, rfl, rfl, hn, hm, hG, h4, e⟩ := prbOk_of h
    rw [e] at hj ⊢
    exact (propL_R (hG.prob hn hm) h4).good.i64 j hj
theorem prbV_len (ds : List Int) (cs : List Con) (i a : Int) : (prbV ds cs i a).length ≤ 4 := by
  cases h : prbOk ds cs i a with
  | false => rw [prbV_no h]; simp
  | true =>
    obtain ⟨n, m, rfl, rfl, hn, hm, hG, h4, e⟩ := prbOk_of h
    rw [e, show (probL cs ds n m).length = ds.length from (propL_R (hG.prob hn hm) h4).good.1]
    exact h4
end Go.Proofs.YtjpdebgejlfeaaaDoor
