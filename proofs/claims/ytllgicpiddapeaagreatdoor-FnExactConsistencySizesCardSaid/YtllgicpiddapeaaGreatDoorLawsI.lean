/- The walks of the laws' own helpers over ints: copy and comparison. -/
import Derived.Test.YtllgicpiddapeaaGreatDoorBase
namespace Go.Proofs.YtllgicpiddapeaaGreatDoor
open Go.RowKit

/-- What is left of n when a slice of len elements is paid for; -1 if it does not suffice. -/
def left0 (n : Int) (len : Nat) : Int := if (len : Int) ≤ n then n - len else -1
theorem left0_neg {n : Int} {len : Nat} (h : n < len) : left0 n len = -1 := by rw [left0, if_neg (by omega)]
theorem left0_pos {n : Int} {len : Nat} (h : (len : Int) ≤ n) : left0 n len = n - len := by rw [left0, if_pos h]

theorem Tryz.infoI : (Tryz.prog.info? 3).map (fun i => (i.zero, i.size, i.bytes)) = some (some (.int .i64 0), 1, 8) := by kernel_rfl
/-- The copied cells: the first k numbers, then zeros. -/
def icell (xs : List Int) (k j : Nat) : Value := if j < k then .int .i64 (at0 xs j) else .int .i64 0
theorem icell_step (xs : List Int) (k j : Nat) : (if j = k then Value.int .i64 (at0 xs k) else icell xs k j) = icell xs (k + 1) j := by
  unfold icell
  by_cases h : j = k
  · subst h
    rw [if_pos rfl, if_pos (by omega)]
  · rw [if_neg h]
    by_cases h' : j < k
    · rw [if_pos h', if_pos (by omega)]
    · rw [if_neg h', if_neg (by omega)]
theorem row_int {w : World} {b : Nat} {t : TypeId} {n : Nat} {xs : List Int} {k : Nat} (h : w.rowIs b t n (icell xs k)) :
    (w.setCell ⟨b, k, none⟩ (.int .i64 (at0 xs k))).rowIs b t n (icell xs (k + 1)) :=
  (h.set _ _).congr fun j _ => icell_step xs k j
theorem SInts.of_row {w : World} {b : Nat} {t : TypeId} {xs : List Int} (h : w.rowIs b t xs.length (icell xs xs.length)) (hc : xs.length * 8 ≤ 140737488355328)
    (hb : ∀ i, i < xs.length → I64 (at0 xs i)) : SInts w (.slice (some ⟨b, 0, none⟩) xs.length xs.length) xs := by
  refine ⟨_, _, rfl, Nat.le_refl _, hc, hb, fun _ => ⟨b, 0, rfl, h.lt, fun i hi => ?_⟩⟩
  rw [Nat.zero_add, h.cell hi]
  unfold icell
  rw [if_pos hi]
/-- A copy of ints in new memory: block b is new, and it holds just the numbers. -/
def NewInts (xs : List Int) (w : World) (e : Ending) (w' : World) : Prop :=
  ∃ b, w.heap.size ≤ b ∧ e = .returned (.slice (some ⟨b, 0, none⟩) xs.length xs.length) ∧ w'.rowIs b 3 xs.length (icell xs xs.length) ∧ Ext w w'

/-- Where there is a number, the slice lies at the head of block b, whose cells are f; its first ones read as xs. -/
def OwnC (w : World) (A : Option Addr) (b m : Nat) (f : Nat → Value) (xs : List Int) : Prop :=
  0 < xs.length → A = some ⟨b, 0, none⟩ ∧ w.rowIs b 3 m f ∧ xs.length ≤ m ∧ ∀ i, i < xs.length → f i = .int .i64 (at0 xs i)
theorem OwnC.ext {w w' : World} {A : Option Addr} {b m : Nat} {f : Nat → Value} {xs : List Int} (h : OwnC w A b m f xs) (hx : Ext w w') : OwnC w' A b m f xs :=
  fun hp => ⟨(h hp).1, hx.row (h hp).2.1, (h hp).2.2⟩
theorem OwnC.lt {w : World} {A : Option Addr} {b m : Nat} {f : Nat → Value} {xs : List Int} (h : OwnC w A b m f xs) (hp : 0 < xs.length) : b < w.heap.size := (h hp).2.1.lt
/-- The result is a slice of its own (nil if it is empty) that reads as xs: its block is new. -/
def OwnRes (xs : List Int) (w : World) (e : Ending) (w' : World) : Prop :=
  ∃ A c b m f, e = .returned (.slice A xs.length c) ∧ xs.length ≤ c ∧ xs.length * 8 ≤ 140737488355328 ∧ w.heap.size ≤ b ∧
    OwnC w' A b m f xs ∧ Ext w w'
theorem OwnRes.new {xs : List Int} {w w' : World} {e : Ending} (hc : xs.length * 8 ≤ 140737488355328) (h : NewInts xs w e w') : OwnRes xs w e w' := by
  obtain ⟨b, hb, he, hr, hx⟩ := h
  exact ⟨_, _, b, _, _, he, Nat.le_refl _, hc, hb, fun _ => ⟨rfl, hr, Nat.le_refl _, fun i hi => by rw [icell, if_pos hi]⟩, hx⟩
theorem OwnRes.nil_ {w w' : World} {e : Ending} (he : e = .returned (.slice none 0 0)) (hx : Ext w w') : OwnRes [] w e w' :=
  ⟨none, 0, w.heap.size, 0, fun _ => .int .i64 0, he, Nat.le_refl _, by simp, Nat.le_refl _, fun h => absurd h (by simp), hx⟩
theorem SInts.own {xs : List Int} {w : World} {A : Option Addr} {c b m : Nat} {f : Nat → Value} (hc : xs.length ≤ c) (hc2 : xs.length * 8 ≤ 140737488355328)
    (h : OwnC w A b m f xs) (hb : ∀ i, i < xs.length → I64 (at0 xs i)) : SInts w (.slice A xs.length c) xs := by
  refine ⟨A, c, rfl, hc, hc2, hb, fun hp => ?_⟩
  obtain ⟨h1, h2, h3, h4⟩ := h hp
  exact ⟨b, 0, h1, h2.lt, fun i hi => by rw [Nat.zero_add, h2.cell (by omega), h4 i hi]⟩

set_option maxHeartbeats 1000000 in
theorem toIntS_any (v : Value) (xs : List Int) (w : World) (hS : SInts w v xs) :
    Calls Tryz.prog 8 #[v] w (NewInts xs w) := by
  have hS0 := hide hS
  obtain ⟨A, cp, rfl, hl, hlen⟩ := hS.form
  clear hS
  go_enter Tryz.func8, Tryz.ntmps8
  go_wp2_with (at_make; go_must (refine wpList_make_gen _ rfl _ _ 22 rfl 3 (.int .i64 0) 1 8 Tryz.underlying22 Tryz.infoI .i64 .i64 xs.length rfl rfl (by omega) (by omega) (fun _ => .int .i64 0) (fun i _ => by simp [Value.cells, Nat.mod_one]) ?_); intro w1 hrow hsz hx)
  rw [Nat.mul_one] at hrow
  go_loopw [4] (fun i wr => ∃ k : Nat, k ≤ xs.length ∧ i = .int .i64 k ∧ Ext w wr ∧ wr.rowIs w.heap.size 3 xs.length (icell xs k)) (fun i _ => xs.length - (intOf i).toNat)
  case atStart => exact ⟨0, Nat.zero_le _, rfl, hx, hrow⟩
  case round =>
    obtain ⟨k, hk, rfl, hxr, hr⟩ := hrel
    have hB : w.heap.size < wr.heap.size := hr.lt
    by_cases hlt : k < xs.length
    · obtain ⟨b, off, rfl, hbl, f1⟩ := (hS0.out.ext hxr).at_ hlt
      have c0 := hr.cell (i := k) hlt
      have z0 := hr.frozen k
      have Hr := hide hr; clear hr
      go_wp2
      go_roundw
      case rel => exact ⟨k + 1, by omega, by go_num, hxr.set (Nat.le_refl _) _, row_int Hr.out⟩
      case measure => simp [intOf]; omega
    · have hkl : k = xs.length := by omega
      subst hkl
      go_wp2_with fail
      go_ret
      exact ⟨_, Nat.le_refl _, rfl, hr, hxr⟩

set_option maxHeartbeats 1000000 in
/-- Two slices that read as the same ints are found equal. -/
theorem eqIntS_same (v v' : Value) (xs : List Int) (w : World) (hS : SInts w v xs) (hS' : SInts w v' xs) :
    Calls Tryz.prog 11 #[v, v'] w (Ret (.bool true) w) := by
  have hS0 := hide hS
  have hS0' := hide hS'
  obtain ⟨A, cp, rfl, hl, hlen⟩ := hS.form
  obtain ⟨A', cp', rfl, hl', -⟩ := hS'.form
  clear hS hS'
  go_enter Tryz.func11, Tryz.ntmps11
  go_wp2
  go_loopw [5] (fun i wr => ∃ k : Nat, k ≤ xs.length ∧ i = .int .i64 k ∧ Ext w wr) (fun i _ => xs.length - (intOf i).toNat)
  case atStart => exact ⟨0, Nat.zero_le _, rfl, Ext.refl w⟩
  case round =>
    obtain ⟨k, hk, rfl, hxr⟩ := hrel
    by_cases hlt : k < xs.length
    · obtain ⟨b, off, rfl, hbl, f1⟩ := (hS0.out.ext hxr).at_ hlt
      obtain ⟨b', off', rfl, hbl', f1'⟩ := (hS0'.out.ext hxr).at_ hlt
      go_wp2
      refine wp_region_ext (by kernel_rfl) (by kernel_rfl) ?_
      iterate 9 (apply quiet_val; (focus rfl); (focus (intro w' hw'; have hk' := hw'.cells; go_simp; all_goals exact rfl)); simp only [Act.put, List.setIfInBounds_toArray, List.set_cons_succ, List.set_cons_zero])
      refine wpQuiet_nil ?_
      intro w2 hx2
      go_wp2
      go_roundw
      case rel => exact ⟨k + 1, by omega, by go_num, hxr.trans hx2⟩
      case measure => simp [intOf]; omega
    · go_wp2
      go_ret
      exact Ret.mk rfl hxr
end Go.Proofs.YtllgicpiddapeaaGreatDoor
