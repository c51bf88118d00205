/- Literals: slices.Clone, Grow, Concat and Clip, and shrunk of the program. -/
import Derived.Test.YtgpbmggfpbebmaaGreatGenS
import Derived.Test.YtgpbmggfpbebmaaGreatLits
import Derived.Test.YtgpbmggfpbebmaaGreatFltZ
import Derived.Lib.AppendZerosOnto
import Derived.Lib.Walk
import Derived.Lib.SliceRun
namespace Go.Proofs.YtgpbmggfpbebmaaGreat
open Go.RowKit
attribute [local go_sem] evalOf

def layLt : Lay Lt := ⟨56, 35, 3, 24, .agg #[.int .i64 0, .int .i64 0, .bool false], fun l => [.int .i64 l.x, .int .i64 l.v, .bool l.n]⟩
theorem layLtOk : LayOk layLt Tryz.prog := by
  refine ⟨by show 0 < 3; omega, fun x => rfl, fun x u hu => ?_, Tryz.underlying35, ?_, rfl⟩
  · simp [layLt] at hu
    rcases hu with rfl | rfl | rfl <;> rfl
  · have h : (Tryz.prog.info? 56).map (fun i => (i.zero, i.size, i.bytes)) = some (some (.agg #[.int .i64 0, .int .i64 0, .bool false]), 3, 24) := by kernel_rfl
    obtain ⟨i, h1, h2⟩ := Option.map_eq_some_iff.1 h
    simp only [Prod.mk.injEq] at h2
    exact ⟨i, h1, h2.1, h2.2.1, h2.2.2⟩
set_option maxRecDepth 100000 in
theorem CloneL_any (v : Value) (xs : List Lt) (w : World) (hS : layLt.S w v xs) (hl : xs.length ≤ 1000000000) :
    Calls Tryz.prog 112 #[v] w (layLt.Res xs w) := by
  have hS0 := hide hS
  obtain ⟨A, cp, rfl, hlc⟩ := LayS.form hS
  cases A with
  | none =>
    have h0 : xs.length = 0 := by
      rcases Nat.eq_zero_or_pos xs.length with h | h
      · exact h
      · obtain ⟨b, off, e, -, -⟩ := LayS.at_ hS h
        cases e
    obtain rfl := List.length_eq_zero_iff.1 h0
    clear hS
    have hnil := fun (W : World) => Lib.run_eql_slice_nil (P := Tryz.prog) W 35 56 none 0 cp 0 0 Tryz.underlying35
    go_enter Tryz.func112, Tryz.ntmps112
    go_wp2
    go_ret
    exact ⟨_, rfl, LayApp.nil_ _ _, Ext.refl _⟩
  | some ad =>
    clear hS
    have hnil := fun (W : World) => Lib.run_eql_slice_nil (P := Tryz.prog) W 35 56 (some ad) xs.length cp 0 0 Tryz.underlying35
    go_enter Tryz.func112, Tryz.ntmps112
    go_wp2_with (at_builtin; go_must (refine wpList_appG (L := layLt) layLtOk _ rfl _ _ rfl w.heap.size _ _ [] xs rfl rfl (LayApp.empty w rfl) (LayS.ext hS0.out ((Ext.refl _).alloc _)) (by intro n c h; cases h) (by simp; omega) (by rw [List.length_nil, Nat.zero_add]; exact LayS.bytes hS0.out) (by simp) ?_); intro v' w2 hA2 hb2)
    go_ret
    exact ⟨_, rfl, hA2, ((Ext.refl _).alloc _).below hb2⟩
theorem ClipL_any (A : Option Addr) (m c : Nat) (w : World) (hle : m ≤ c) (_hc : c ≤ 9223372036854775807) : Calls Tryz.prog 114 #[.slice A m c] w fun e w' => e = .returned (.slice A m m) ∧ w = w' := by
  go_enter Tryz.func114, Tryz.ntmps114
  go_wp2
  go_ret
  exact ⟨rfl, rfl⟩
end Go.Proofs.YtgpbmggfpbebmaaGreat
