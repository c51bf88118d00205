/- copyInts of the reference. -/
import Derived.Test.YtllgicpiddapeaaGreatDoorClone
namespace Go.Proofs.YtllgicpiddapeaaGreatDoor
open Go.RowKit

set_option maxHeartbeats 1000000 in
theorem copyInts_any (v : Value) (xs : List Int) (w : World) (hS : SInts w v xs) (hp : 0 < xs.length) : Calls Tryz.prog 44 #[v] w (OwnRes xs w) := by
  have hb := hS.bytes
  have hS0 := hide hS
  obtain ⟨A, cp, rfl, hl, hlen⟩ := hS.form
  obtain ⟨b0, off0, rfl, -, -⟩ := hS.at_ hp
  clear hS
  go_enter Tryz.func44, Tryz.ntmps44
  go_wp2_with (at_builtin; go_must (refine wpList_appN _ rfl _ _ rfl w.heap.size _ [] xs ⟨b0, off0, none⟩ cp rfl rfl (AppI.empty w) (hS0.out.ext ((Ext.refl _).alloc _)) (by simp; omega) (by simp) ?_); intro v' w2 hA2 hb2)
  go_ret
  exact AppI.res hA2 (((Ext.refl _).alloc _).below hb2) hb
end Go.Proofs.YtllgicpiddapeaaGreatDoor
