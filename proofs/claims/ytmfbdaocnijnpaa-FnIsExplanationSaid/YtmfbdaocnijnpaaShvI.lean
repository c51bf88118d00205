/- Shaving: the program's walk. -/
import Derived.Test.YtmfbdaocnijnpaaPrbZ
import Derived.Test.YtmfbdaocnijnpaaPrpZ
import Derived.Test.YtmfbdaocnijnpaaSpD
namespace Go.Proofs.Ytmfbdaocnijnpaa
open Go.RowKit
attribute [local go_sem] evalOf

/-- Block b holds xs at its head. -/
def RowS (W : World) (b m : Nat) (xs : List Int) : Prop := ∃ f, W.rowIs b 3 m f ∧ xs.length ≤ m ∧ ∀ j, j < xs.length → f j = .int .i64 (at0 xs j)
theorem RowS.ext {W W' : World} {b m : Nat} {xs : List Int} (h : RowS W b m xs) (hx : Ext W W') : RowS W' b m xs := by
  obtain ⟨f, h1, h2, h3⟩ := h
  exact ⟨f, hx.row h1, h2, h3⟩
theorem RowS.keep {S : Nat → Prop} {W W' : World} {b m : Nat} {xs : List Int} (h : RowS W b m xs) (hk : Keep S W W') (hb : S b) : RowS W' b m xs := by
  obtain ⟨f, h1, h2, h3⟩ := h
  exact ⟨f, hk.row hb h1, h2, h3⟩
theorem RowS.set {W : World} {b m : Nat} {xs : List Int} (h : RowS W b m xs) (i : Nat) (x : Int) (hi : i < xs.length) : RowS (W.setCell ⟨b, i, none⟩ (.int .i64 x)) b m (xs.set i x) := by
  obtain ⟨f, h1, h2, h3⟩ := h
  refine ⟨_, h1.set i _, by rw [List.length_set]; exact h2, fun j hj => ?_⟩
  rw [List.length_set] at hj
  show (if j = i then _ else f j) = _
  rw [at0_set _ _ _ _ hi]
  by_cases e : j = i
  · subst e; rw [if_pos rfl, if_pos rfl]
  · rw [if_neg e, if_neg (fun h => e h.symm)]; exact h3 j hj
theorem RowS.sints {W : World} {b m c : Nat} {xs : List Int} (h : RowS W b m xs) (hc : xs.length ≤ c) (h8 : xs.length * 8 ≤ 140737488355328) (hb : ∀ i, i < xs.length → I64 (at0 xs i)) : SInts W (.slice (some ⟨b, 0, none⟩) xs.length c) xs := by
  obtain ⟨f, h1, h2, h3⟩ := h
  exact SInts.own (b := b) (m := m) (f := f) hc h8 (fun _ => ⟨rfl, h1, h2, h3⟩) hb
theorem RowS.own {w W : World} {b m c : Nat} {xs : List Int} (h : RowS W b m xs) (hc : xs.length ≤ c) (h8 : xs.length * 8 ≤ 140737488355328) (hb : w.heap.size ≤ b) (hx : Ext w W) : OwnRes xs w (.returned (.slice (some ⟨b, 0, none⟩) xs.length c)) W := by
  obtain ⟨f, h1, h2, h3⟩ := h
  exact ⟨_, c, b, m, f, rfl, hc, h8, hb, fun _ => ⟨rfl, h1, h2, h3⟩, hx⟩
theorem shvI_succ_yes {cs : List Con} {v : Nat} {l ds : List Int} {k a : Nat} (ha : at0 l k = a) (h : hasI (probL cs (shvI cs v l ds k) v a) 0 = true) : shvI cs v l ds (k + 1) = (shvI cs v l ds k).set v (delV (at0 (shvI cs v l ds k) v) a) := by
  rw [shvI, ha, Int.toNat_natCast, if_pos h]
theorem shvI_succ_no {cs : List Con} {v : Nat} {l ds : List Int} {k a : Nat} (ha : at0 l k = a) (h : hasI (probL cs (shvI cs v l ds k) v a) 0 = false) : shvI cs v l ds (k + 1) = shvI cs v l ds k := by
  rw [shvI, ha, Int.toNat_natCast, h, if_neg (by simp)]
theorem probL_R2 {cs : List Con} {n : Nat} {ds : List Int} (h : GoodD cs n ds) (h4 : n ≤ 4) {v a : Nat} (hv : v < n) (ha : a < 6) : PropR cs n (probD ds v a) (probL cs ds v a) := propL_R (h.prob hv ha) h4
theorem probL_first2 {cs : List Con} {n : Nat} {ds : List Int} (h : GoodD cs n ds) (h4 : n ≤ 4) (h0 : 0 < n) {v a : Nat} (hv : v < n) (ha : a < 6) : (at0 (probL cs ds v a) 0 == 0) = hasI (probL cs ds v a) 0 := propL_first (h.prob hv ha) h4 h0
def shvV (ds : List Int) (cs : List Con) : List Int := if vMod ds cs = true then shaveL cs ds else []
theorem shaveL_good {cs : List Con} {n : Nat} {ds : List Int} (h : GoodD cs n ds) (h4 : n ≤ 4) : GoodD cs n (shaveL cs ds) := by
  have hsum : sumL ds < 300 := by have := (sumL_bd ds h.2.1).2; have := h.1; omega
  obtain ⟨i, hg, hc⟩ := fixL_orbit (shvP_ok (cs := cs) h4) 300 ds h hsum
  rcases hc with ⟨-, hy⟩ | ⟨-, -, hy⟩
  · unfold shaveL; rw [hy]; exact h.zer
  · unfold shaveL; rw [hy]; exact hg
theorem shvV_i64 (ds : List Int) (cs : List Con) : ∀ j, j < (shvV ds cs).length → I64 (at0 (shvV ds cs) j) := by
  intro j hj
  unfold shvV at hj ⊢
  split at hj
  · rename_i h
    obtain ⟨hG, hp, h4⟩ := vMod_good h
    rw [if_pos h]
    exact (shaveL_good hG h4).i64 j hj
  · simp at hj
theorem shvV_len (ds : List Int) (cs : List Con) : (shvV ds cs).length ≤ 4 := by
  unfold shvV
  split
  · rename_i h
    obtain ⟨hG, hp, h4⟩ := vMod_good h
    rw [(shaveL_good hG h4).1]
    exact h4
  · simp
end Go.Proofs.Ytmfbdaocnijnpaa
