/- Probing: the program's, and the reference's. -/
import Derived.Test.YtfejhenbpnijhaaGreatSpZ
import Derived.Test.YtfejhenbpnijhaaGreatPrpZ
import Derived.Test.YtfejhenbpnijhaaGreatSpD
namespace Go.Proofs.YtfejhenbpnijhaaGreat
open Go.RowKit
attribute [local go_sem] evalOf

theorem probD_len (ds : List Int) (v a : Nat) : (probD ds v a).length = ds.length := by simp [probD]
theorem OwnRes.len {xs : List Int} {w w' : World} {A : Option Addr} {n c : Nat} (h : OwnRes xs w (.returned (.slice A n c)) w') : n = xs.length := by
  obtain ⟨A2, c2, h⟩ := h.form
  injection h
set_option maxRecDepth 100000 in
set_option maxHeartbeats 4000000 in
theorem limitedI_any (vd : Value) (ds : List Int) (i a : Nat) (w : World) (hD : SInts w vd ds) (hd : DomL ds) (hi : i < ds.length) (ha : a < 6) :
    Calls Tryz.prog 91 #[vd, .int .i64 i, .int .i64 (2 ^ a)] w (OwnRes (probD ds i a) w) := by
  have HDM := hide hd
  obtain ⟨Ad, cd, rfl, -, hld⟩ := hD.form
  have hD0 := hide hD
  have hiI : (i : Int) < ds.length := by omega
  clear hD hd
  go_enter Tryz.func91, Tryz.ntmps91
  go_wp2_with fail
  refine (copied_any _ ds _ hD0.out).mono ?_
  rintro e w1 ⟨A1, c1, b1, m1, f1, rfl, hc1, hd1, hb1, ho1, hx1⟩
  obtain ⟨rfl, hr1, hm1, hf1⟩ := ho1 (by omega)
  have HR := hide hr1
  have HX1 := hide hx1
  have hdb := HDM.out i hi
  have fc := hr1.cell (i := i) (by omega)
  rw [hf1 i hi] at fc
  have fz := hr1.frozen i
  obtain ⟨d, hd⟩ : ∃ d, d = at0 ds i := ⟨_, rfl⟩
  rw [← hd] at fc hdb
  have kb := bits_and hdb.1 hdb.2 ha
  have HF1 := hide hf1
  have HDE := hide hd
  clear hx1 ho1 hr1 hf1 hd
  have hlen : (probD ds i a).length = ds.length := probD_len ds i a
  have HE := hide (show OwnRes (probD ds i a) w (.returned (.slice (some ⟨b1, 0, none⟩) ds.length c1)) (w1.setCell ⟨b1, i, none⟩ (.int .i64 (andV d a))) from
    ⟨some ⟨b1, 0, none⟩, c1, b1, m1, _, by rw [hlen], by rw [hlen]; exact hc1, by rw [hlen]; exact hd1, hb1, fun _ => ⟨rfl, HR.out.set i _, by rw [hlen]; exact hm1, fun j hj => by
      rw [hlen] at hj
      show (if j = i then _ else f1 j) = _
      rw [probD, at0_set _ _ _ _ hi]
      by_cases e : j = i
      · subst e; rw [if_pos rfl, if_pos rfl, ← HDE.out]
      · rw [if_neg e, if_neg (fun h => e h.symm)]; exact HF1.out j hj⟩, HX1.out.set (p := ⟨b1, i, none⟩) hb1 _⟩)
  go_wp2
  go_ret
  exact HE.out
/-- A slice of its own that reads as xs. -/
def RS.ow (D : List Nat) (xs : List Int) (B : World) : RS := ⟨D, fun _ v W => OwnRes xs B (.returned v) W, fun _ _ _ _ h hx => h.grow hx⟩
end Go.Proofs.YtfejhenbpnijhaaGreat
/- Probe: the program's, and the reference's. -/
namespace Go.Proofs.YtfejhenbpnijhaaGreat
open Go.RowKit

def prbOk (ds : List Int) (cs : List Con) (i a : Int) : Bool := vMod ds cs && (inR i 0 (ds.length - 1) && inR a 0 5)
def prbV (ds : List Int) (cs : List Con) (i a : Int) : List Int := if prbOk ds cs i a = true then probL cs ds i.toNat a.toNat else []
theorem prbOk_of {ds : List Int} {cs : List Con} {i a : Int} (h : prbOk ds cs i a = true) : ∃ n m : Nat, i = n ∧ a = m ∧ n < ds.length ∧ m < 6 ∧ GoodD cs ds.length ds ∧ ds.length ≤ 4 ∧ prbV ds cs i a = probL cs ds n m := by
  have h0 := h
  simp only [prbOk, Bool.and_eq_true, inR, decide_eq_true_eq] at h
  obtain ⟨h1, ⟨h2, h3⟩, h4, h5⟩ := h
  obtain ⟨hG, hp, h6⟩ := vMod_good h1
  refine ⟨i.toNat, a.toNat, by omega, by omega, by omega, by omega, hG, h6, ?_⟩
  rw [prbV, if_pos h0]
theorem prbV_no {ds : List Int} {cs : List Con} {i a : Int} (h : prbOk ds cs i a = false) : prbV ds cs i a = [] := by rw [prbV, h]; rfl
theorem prbV_i64 (ds : List Int) (cs : List Con) (i a : Int) : ∀ j, j < (prbV ds cs i a).length → I64 (at0 (prbV ds cs i a) j) := by
  intro j hj
  cases h : prbOk ds cs i a with
  | false => rw [prbV_no h] at hj; simp at hj
  | true =>
    obtain ⟨n, m, rfl, rfl, hn, hm, hG, h4, e⟩ := prbOk_of h
    rw [e] at hj ⊢
    exact (propL_R (hG.prob hn hm) h4).good.i64 j hj
theorem prbV_len (ds : List Int) (cs : List Con) (i a : Int) : (prbV ds cs i a).length ≤ 4 := by
  cases h : prbOk ds cs i a with
  | false => rw [prbV_no h]; simp
  | true =>
    obtain ⟨n, m, rfl, rfl, hn, hm, hG, h4, e⟩ := prbOk_of h
    rw [e, show (probL cs ds n m).length = ds.length from (propL_R (hG.prob hn hm) h4).good.1]
    exact h4
theorem valueOk_any (a : Int) (w : World) :
    Calls Tryz.prog 77 #[.int .i64 a] w fun e w' => e = .returned (.bool (inR a 0 5)) ∧ w = w' := by
  go_enter Tryz.func77, Tryz.ntmps77
  go_wp2_with fail
  refine (within_any _ _ _ _).mono ?_
  rintro e w' ⟨rfl, rfl⟩
  go_wp2
  go_ret
  exact ⟨rfl, rfl⟩
end Go.Proofs.YtfejhenbpnijhaaGreat
