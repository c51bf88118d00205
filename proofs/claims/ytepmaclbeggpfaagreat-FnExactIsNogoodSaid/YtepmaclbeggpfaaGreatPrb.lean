/- Probing: the program's, and the reference's. -/
import Derived.Test.YtepmaclbeggpfaaGreatSpC
import Derived.Test.YtepmaclbeggpfaaGreatPropP
namespace Go.Proofs.YtepmaclbeggpfaaGreat
open Go.RowKit
attribute [local go_sem] evalOf

theorem probD_len (ds : List Int) (v a : Nat) : (probD ds v a).length = ds.length := by simp [probD]
theorem OwnRes.len {xs : List Int} {w w' : World} {A : Option Addr} {n c : Nat} (h : OwnRes xs w (.returned (.slice A n c)) w') : n = xs.length := by
  obtain ⟨A2, c2, h⟩ := h.form
  injection h
set_option maxRecDepth 100000 in
set_option maxHeartbeats 4000000 in
theorem limitedI_any (vd : Value) (ds : List Int) (i a : Nat) (w : World) (hD : SInts w vd ds) (hd : DomL ds) (hi : i < ds.length) (ha : a < 6) :
    Calls Tryz.prog 128 #[vd, .int .i64 i, .int .i64 (2 ^ a)] w (OwnRes (probD ds i a) w) := by
  have HDM := hide hd
  obtain ⟨Ad, cd, rfl, -, hld⟩ := hD.form
  have hD0 := hide hD
  have hiI : (i : Int) < ds.length := by omega
  clear hD hd
  go_enter Tryz.func128, Tryz.ntmps128
  go_wp2_with fail
  refine (copied_any _ ds _ hD0.out).mono ?_
  rintro e w1 ⟨A1, c1, b1, m1, f1, rfl, hc1, hd1, hb1, ho1, hx1⟩
  obtain ⟨rfl, hr1, hm1, hf1⟩ := ho1 (by omega)
  have HR := hide hr1
  have HX1 := hide hx1
  have hdb := HDM.out i hi
  have fc := hr1.cell (i := i) (by omega)
  rw [hf1 i hi] at fc
  have fz := hr1.frozen i
  obtain ⟨d, hd⟩ : ∃ d, d = at0 ds i := ⟨_, rfl⟩
  rw [← hd] at fc hdb
  have kb := bits_and hdb.1 hdb.2 ha
  have HF1 := hide hf1
  have HDE := hide hd
  clear hx1 ho1 hr1 hf1 hd
  have hlen : (probD ds i a).length = ds.length := probD_len ds i a
  have HE := hide (show OwnRes (probD ds i a) w (.returned (.slice (some ⟨b1, 0, none⟩) ds.length c1)) (w1.setCell ⟨b1, i, none⟩ (.int .i64 (andV d a))) from
    ⟨some ⟨b1, 0, none⟩, c1, b1, m1, _, by rw [hlen], by rw [hlen]; exact hc1, by rw [hlen]; exact hd1, hb1, fun _ => ⟨rfl, HR.out.set i _, by rw [hlen]; exact hm1, fun j hj => by
      rw [hlen] at hj
      show (if j = i then _ else f1 j) = _
      rw [probD, at0_set _ _ _ _ hi]
      by_cases e : j = i
      · subst e; rw [if_pos rfl, if_pos rfl, ← HDE.out]
      · rw [if_neg e, if_neg (fun h => e h.symm)]; exact HF1.out j hj⟩, HX1.out.set (p := ⟨b1, i, none⟩) hb1 _⟩)
  go_wp2
  go_ret
  exact HE.out
/-- A slice of its own that reads as xs. -/
def RS.ow (D : List Nat) (xs : List Int) (B : World) : RS := ⟨D, fun _ v W => OwnRes xs B (.returned v) W, fun _ _ _ _ h hx => h.grow hx⟩
end Go.Proofs.YtepmaclbeggpfaaGreat
