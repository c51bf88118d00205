/- validConstraint of the reference: kind by kind. -/
import Derived.Test.YticallgbmmahjaaSpZ
import Derived.Test.YticallgbmmahjaaFitK
import Derived.Test.YticallgbmmahjaaPrpZ
namespace Go.Proofs.Yticallgbmmahjaa
open Go.RowKit

/-- A constraint is valid for n variables: as the reference has it. -/
def vCs (c : Con) (n : Int) : Bool := inR c.vars.length 1 n && (allR c.vars 0 (n - 1) && (dst c.vars && fitB c.kk c.vars c.args c.bound c.rows))
theorem vCon_vCs (c : Con) (n : Int) : vCon c n = (inR n 1 4 && vCs c n) := rfl
end Go.Proofs.Yticallgbmmahjaa
/- validModel of the reference. -/
namespace Go.Proofs.Yticallgbmmahjaa
open Go.RowKit

theorem vMod_eq (ds : List Int) (cs : List Con) (h : allR ds 0 63 = true) (h2 : anyB (fun i => !vCs (con0 cs i) ds.length) cs.length = false) : vMod ds cs = (inR ds.length 1 4 && decide (cs.length ≤ 6)) := by
  unfold vMod
  rw [h]
  cases hn : inR (ds.length : Int) 1 4 with
  | false => rfl
  | true =>
    rw [show anyB (fun i => !vCon (con0 cs i) ds.length) cs.length = false from anyB_false.2 fun i hi => by
      have := anyB_false.1 h2 i hi
      rw [vCon_vCs, hn, Bool.true_and]; exact this]
    simp
theorem vMod_no1 {ds : List Int} {cs : List Con} (h : allR ds 0 63 = false) : vMod ds cs = false := by
  unfold vMod; rw [h]; simp
theorem vMod_no2 {ds : List Int} {cs : List Con} {k : Nat} (hk : k < cs.length) (h : vCs (con0 cs k) ds.length = false) : vMod ds cs = false := by
  unfold vMod
  rw [anyB_iff.2 ⟨k, hk, by rw [vCon_vCs, h, Bool.and_false]; rfl⟩]
  simp
end Go.Proofs.Yticallgbmmahjaa
/- Probing: the program's, and the reference's. -/
namespace Go.Proofs.Yticallgbmmahjaa
open Go.RowKit
attribute [local go_sem] evalOf

theorem probD_len (ds : List Int) (v a : Nat) : (probD ds v a).length = ds.length := by simp [probD]
theorem OwnRes.len {xs : List Int} {w w' : World} {A : Option Addr} {n c : Nat} (h : OwnRes xs w (.returned (.slice A n c)) w') : n = xs.length := by
  obtain ⟨A2, c2, h⟩ := h.form
  injection h
/-- A slice of its own that reads as xs. -/
def RS.ow (D : List Nat) (xs : List Int) (B : World) : RS := ⟨D, fun _ v W => OwnRes xs B (.returned v) W, fun _ _ _ _ h hx => h.grow hx⟩
end Go.Proofs.Yticallgbmmahjaa
/- Probe: the program's, and the reference's. -/
namespace Go.Proofs.Yticallgbmmahjaa
open Go.RowKit

def prbOk (ds : List Int) (cs : List Con) (i a : Int) : Bool := vMod ds cs && (inR i 0 (ds.length - 1) && inR a 0 5)
def prbV (ds : List Int) (cs : List Con) (i a : Int) : List Int := if prbOk ds cs i a = true then probL cs ds i.toNat a.toNat else []
theorem prbOk_of {ds : List Int} {cs : List Con} {i a : Int} (h : prbOk ds cs i a = true) : ∃ n m : Nat, i = n ∧ a = m ∧ n < ds.length ∧ m < 6 ∧ GoodD cs ds.length ds ∧ ds.length ≤ 4 ∧ prbV ds cs i a = probL cs ds n m := by
  have h0 := h
  simp only [prbOk, Bool.and_eq_true, inR, decide_eq_true_eq] at h
  obtain ⟨h1, ⟨h2, h3⟩, h4, h5⟩ := h
  obtain ⟨hG, hp, h6⟩ := vMod_good h1
  refine ⟨i.toNat, a.toNat, by omega, by omega, by omega, by omega, hG, h6, ?_⟩
  rw [prbV, if_pos h0]
theorem prbV_no {ds : List Int} {cs : List Con} {i a : Int} (h : prbOk ds cs i a = false) : prbV ds cs i a = [] := by rw [prbV, h]; rfl
theorem prbV_i64 (ds : List Int) (cs : List Con) (i a : Int) : ∀ j, j < (prbV ds cs i a).length → I64 (at0 (prbV ds cs i a) j) := by
  intro j hj
  cases h : prbOk ds cs i a with
  | false => rw [prbV_no h] at hj; simp at hj
  | true =>
    obtain ⟨n, m, rfl, rfl, hn, hm, hG, h4, e⟩ := prbOk_of h
    rw [e] at hj ⊢
    exact (propL_R (hG.prob hn hm) h4).good.i64 j hj
theorem prbV_len (ds : List Int) (cs : List Con) (i a : Int) : (prbV ds cs i a).length ≤ 4 := by
  cases h : prbOk ds cs i a with
  | false => rw [prbV_no h]; simp
  | true =>
    obtain ⟨n, m, rfl, rfl, hn, hm, hG, h4, e⟩ := prbOk_of h
    rw [e, show (probL cs ds n m).length = ds.length from (propL_R (hG.prob hn hm) h4).good.1]
    exact h4
end Go.Proofs.Yticallgbmmahjaa
/- Shaving: the program's walk. -/
namespace Go.Proofs.Yticallgbmmahjaa
open Go.RowKit
attribute [local go_sem] evalOf

/-- Block b holds xs at its head. -/
def RowS (W : World) (b m : Nat) (xs : List Int) : Prop := ∃ f, W.rowIs b 3 m f ∧ xs.length ≤ m ∧ ∀ j, j < xs.length → f j = .int .i64 (at0 xs j)
theorem RowS.ext {W W' : World} {b m : Nat} {xs : List Int} (h : RowS W b m xs) (hx : Ext W W') : RowS W' b m xs := by
  obtain ⟨f, h1, h2, h3⟩ := h
  exact ⟨f, hx.row h1, h2, h3⟩
theorem RowS.keep {S : Nat → Prop} {W W' : World} {b m : Nat} {xs : List Int} (h : RowS W b m xs) (hk : Keep S W W') (hb : S b) : RowS W' b m xs := by
  obtain ⟨f, h1, h2, h3⟩ := h
  exact ⟨f, hk.row hb h1, h2, h3⟩
theorem RowS.set {W : World} {b m : Nat} {xs : List Int} (h : RowS W b m xs) (i : Nat) (x : Int) (hi : i < xs.length) : RowS (W.setCell ⟨b, i, none⟩ (.int .i64 x)) b m (xs.set i x) := by
  obtain ⟨f, h1, h2, h3⟩ := h
  refine ⟨_, h1.set i _, by rw [List.length_set]; exact h2, fun j hj => ?_⟩
  rw [List.length_set] at hj
  show (if j = i then _ else f j) = _
  rw [at0_set _ _ _ _ hi]
  by_cases e : j = i
  · subst e; rw [if_pos rfl, if_pos rfl]
  · rw [if_neg e, if_neg (fun h => e h.symm)]; exact h3 j hj
theorem RowS.sints {W : World} {b m c : Nat} {xs : List Int} (h : RowS W b m xs) (hc : xs.length ≤ c) (h8 : xs.length * 8 ≤ 140737488355328) (hb : ∀ i, i < xs.length → I64 (at0 xs i)) : SInts W (.slice (some ⟨b, 0, none⟩) xs.length c) xs := by
  obtain ⟨f, h1, h2, h3⟩ := h
  exact SInts.own (b := b) (m := m) (f := f) hc h8 (fun _ => ⟨rfl, h1, h2, h3⟩) hb
theorem RowS.own {w W : World} {b m c : Nat} {xs : List Int} (h : RowS W b m xs) (hc : xs.length ≤ c) (h8 : xs.length * 8 ≤ 140737488355328) (hb : w.heap.size ≤ b) (hx : Ext w W) : OwnRes xs w (.returned (.slice (some ⟨b, 0, none⟩) xs.length c)) W := by
  obtain ⟨f, h1, h2, h3⟩ := h
  exact ⟨_, c, b, m, f, rfl, hc, h8, hb, fun _ => ⟨rfl, h1, h2, h3⟩, hx⟩
theorem shvI_succ_yes {cs : List Con} {v : Nat} {l ds : List Int} {k a : Nat} (ha : at0 l k = a) (h : hasI (probL cs (shvI cs v l ds k) v a) 0 = true) : shvI cs v l ds (k + 1) = (shvI cs v l ds k).set v (delV (at0 (shvI cs v l ds k) v) a) := by
  rw [shvI, ha, Int.toNat_natCast, if_pos h]
theorem shvI_succ_no {cs : List Con} {v : Nat} {l ds : List Int} {k a : Nat} (ha : at0 l k = a) (h : hasI (probL cs (shvI cs v l ds k) v a) 0 = false) : shvI cs v l ds (k + 1) = shvI cs v l ds k := by
  rw [shvI, ha, Int.toNat_natCast, h, if_neg (by simp)]
theorem probL_R2 {cs : List Con} {n : Nat} {ds : List Int} (h : GoodD cs n ds) (h4 : n ≤ 4) {v a : Nat} (hv : v < n) (ha : a < 6) : PropR cs n (probD ds v a) (probL cs ds v a) := propL_R (h.prob hv ha) h4
theorem probL_first2 {cs : List Con} {n : Nat} {ds : List Int} (h : GoodD cs n ds) (h4 : n ≤ 4) (h0 : 0 < n) {v a : Nat} (hv : v < n) (ha : a < 6) : (at0 (probL cs ds v a) 0 == 0) = hasI (probL cs ds v a) 0 := propL_first (h.prob hv ha) h4 h0
def shvV (ds : List Int) (cs : List Con) : List Int := if vMod ds cs = true then shaveL cs ds else []
theorem shaveL_good {cs : List Con} {n : Nat} {ds : List Int} (h : GoodD cs n ds) (h4 : n ≤ 4) : GoodD cs n (shaveL cs ds) := by
  have hsum : sumL ds < 300 := by have := (sumL_bd ds h.2.1).2; have := h.1; omega
  obtain ⟨i, hg, hc⟩ := fixL_orbit (shvP_ok (cs := cs) h4) 300 ds h hsum
  rcases hc with ⟨-, hy⟩ | ⟨-, -, hy⟩
  · unfold shaveL; rw [hy]; exact h.zer
  · unfold shaveL; rw [hy]; exact hg
theorem shvV_i64 (ds : List Int) (cs : List Con) : ∀ j, j < (shvV ds cs).length → I64 (at0 (shvV ds cs) j) := by
  intro j hj
  unfold shvV at hj ⊢
  split at hj
  · rename_i h
    obtain ⟨hG, hp, h4⟩ := vMod_good h
    rw [if_pos h]
    exact (shaveL_good hG h4).i64 j hj
  · simp at hj
theorem shvV_len (ds : List Int) (cs : List Con) : (shvV ds cs).length ≤ 4 := by
  unfold shvV
  split
  · rename_i h
    obtain ⟨hG, hp, h4⟩ := vMod_good h
    rw [(shaveL_good hG h4).1]
    exact h4
  · simp
end Go.Proofs.Yticallgbmmahjaa
