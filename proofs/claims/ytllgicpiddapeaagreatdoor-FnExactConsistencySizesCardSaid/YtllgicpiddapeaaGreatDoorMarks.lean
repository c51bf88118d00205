/- The walks of the laws' own marks: they write rising numbers into a slice, and ask whether they still stand there. -/
import Derived.Test.YtllgicpiddapeaaGreatDoorLawsI
namespace Go.Proofs.YtllgicpiddapeaaGreatDoor
open Go.RowKit

theorem upd_refl (w : World) (row : Option Nat) : w.grownBy w row := ⟨rfl, rfl, rfl, Nat.le_refl _, fun _ _ _ => rfl⟩
/-- The block that is written: none if there is nothing to write. -/
def rowOf (n b : Nat) : Option Nat := if n = 0 then none else some b
theorem rowOf_pos {n b : Nat} (h : 0 < n) : rowOf n b = some b := by rw [rowOf, if_neg (by omega)]
theorem upd_set {a w : World} {g : Nat} (h : a.grownBy w (some g)) (o : Nat) (u : Value) : a.grownBy (w.setCell ⟨g, o, none⟩ u) (some g) :=
  ⟨h.os, h.tape, h.output, by simpa [World.setCell] using h.size, fun i hi hne => (Below.heap_setCell w ⟨g, o, none⟩ u i (fun e => hne (by rw [e]))).trans (h.block i hi hne)⟩
theorem upd_set' {a w : World} {n g : Nat} (h : a.grownBy w (rowOf n g)) (hn : 0 < n) (o : Nat) (u : Value) : a.grownBy (w.setCell ⟨g, o, none⟩ u) (rowOf n g) := by
  rw [rowOf_pos hn] at h ⊢
  exact upd_set h o u
theorem upd_row {a w : World} {k g b : Nat} {t : TypeId} {n : Nat} {f : Nat → Value} (h : a.grownBy w (rowOf k g)) (hr : a.rowIs b t n f) (hne : 0 < k → b ≠ g) : w.rowIs b t n f :=
  hr.of_block (h.block b hr.lt (by
    unfold rowOf
    split
    · simp
    · intro e
      injection e with e
      exact hne (by omega) e))
theorem upd_below {B : Nat} {a w w' : World} {k g : Nat} (h : Below B a w) (hg : w.grownBy w' (rowOf k g)) (hB : B ≤ w.heap.size) (hgB : 0 < k → B ≤ g) : Below B a w' :=
  h.grown hg hB (by
    intro x hx
    unfold rowOf at hx
    split at hx
    · cases hx
    · injection hx with hx
      subst hx
      exact hgB (by omega))
theorem ext_below {B : Nat} {a w w' : World} (h : Below B a w) (hx : Ext w w') (hB : B ≤ w.heap.size) : Below B a w' := h.trans (Below.mono hx hB)

theorem OwnC.upd {w w' : World} {A : Option Addr} {b m k g : Nat} {f : Nat → Value} {xs : List Int} (h : OwnC w A b m f xs) (hg : w.grownBy w' (rowOf k g)) (hne : 0 < k → 0 < xs.length → b ≠ g) : OwnC w' A b m f xs :=
  fun hp => ⟨(h hp).1, upd_row hg (h hp).2.1 (fun hk => hne hk hp), (h hp).2.2⟩
/-- The first k cells hold k0, k0 + 1, ..; the rest is f. -/
def mcell (k0 : Int) (f : Nat → Value) (k j : Nat) : Value := if j < k then .int .i64 (k0 + j) else f j
theorem mcell_step (k0 : Int) (f : Nat → Value) (k j : Nat) : (if j = k then Value.int .i64 (k0 + k) else mcell k0 f k j) = mcell k0 f (k + 1) j := by
  unfold mcell
  by_cases h : j = k
  · subst h
    rw [if_pos rfl, if_pos (by omega)]
  · rw [if_neg h]
    by_cases h' : j < k
    · rw [if_pos h', if_pos (by omega)]
    · rw [if_neg h', if_neg (by omega)]
theorem row_mark {w : World} {b : Nat} {t : TypeId} {n : Nat} {f : Nat → Value} {k : Nat} {k0 : Int} (h : w.rowIs b t n (mcell k0 f k)) :
    (w.setCell ⟨b, k, none⟩ (.int .i64 (k0 + k))).rowIs b t n (mcell k0 f (k + 1)) :=
  (h.set _ _).congr fun j _ => mcell_step k0 f k j
theorem row_mark' {w : World} {b : Nat} {t : TypeId} {n : Nat} {f : Nat → Value} {k k' : Nat} {k0 v : Int} (h : w.rowIs b t n (mcell k0 f k)) (hv : v = k0 + k) (hk : k' = k + 1) :
    (w.setCell ⟨b, k, none⟩ (.int .i64 v)).rowIs b t n (mcell k0 f k') := by
  subst hv; subst hk
  exact row_mark h
/-- The call returned r; it wrote into block b alone, whose first n cells now hold k0, k0 + 1, ... -/
def Marked (r k0 : Int) (b : Nat) (t : TypeId) (n m : Nat) (f : Nat → Value) (w : World) (e : Ending) (w' : World) : Prop :=
  e = .returned (.int .i64 r) ∧ w.grownBy w' (rowOf n b) ∧ (0 < n → w'.rowIs b t m (mcell k0 f n))

set_option maxHeartbeats 1000000 in
theorem markIntS_any (A : Option Addr) (n c b m : Nat) (f : Nat → Value) (k0 : Int) (w : World) (hk0 : 0 ≤ k0) (hk1 : k0 ≤ 1000000000) (hn : n ≤ 1000000000)
    (hA : Hid (0 < n → A = some ⟨b, 0, none⟩ ∧ w.rowIs b 3 m f ∧ n ≤ m)) :
    Calls Tryz.prog 15 #[.slice A n c, .int .i64 k0] w (Marked (k0 + n) k0 b 3 n m f w) := by
  go_enter Tryz.func15, Tryz.ntmps15
  go_wp2
  go_loopw [1, 5] (fun l i wr => ∃ k : Nat, k ≤ n ∧ i = .int .i64 k ∧ l = .int .i64 (k0 + k) ∧ w.grownBy wr (rowOf n b) ∧ (0 < n → wr.rowIs b 3 m (mcell k0 f k))) (fun _ i _ => n - (intOf i).toNat)
  case atStart => exact ⟨0, Nat.zero_le _, rfl, by simp, upd_refl _ _, fun h => (hA.out h).2.1⟩
  case round =>
    obtain ⟨k, hk, rfl, rfl, hg, hr0⟩ := hrel
    have Hr0 := hide hr0; clear hr0
    by_cases hlt : k < n
    · obtain ⟨rfl, -, hnm⟩ := hA.out (by omega)
      have hr := Hr0.out (by omega)
      have c0 := hr.cell (i := k) (by omega)
      have z0 := hr.frozen k
      have Hr := hide hr; clear hr
      go_wp2
      go_roundw
      case rel => exact ⟨k + 1, by omega, by go_num, by go_num, upd_set' hg (by omega) _ _, fun _ => row_mark Hr.out⟩
      case measure => simp [intOf]; omega
    · have hkl : k = n := by omega
      subst hkl
      go_wp2
      go_ret
      exact ⟨rfl, hg, Hr0.out⟩
set_option maxHeartbeats 1000000 in
theorem heldIntS_any (A : Option Addr) (n c b m : Nat) (f : Nat → Value) (k0 : Int) (w : World) (hk0 : 0 ≤ k0) (hk1 : k0 ≤ 1000000000) (hn : n ≤ 1000000000)
    (hA : Hid (0 < n → A = some ⟨b, 0, none⟩ ∧ w.rowIs b 3 m (mcell k0 f n) ∧ n ≤ m)) :
    Calls Tryz.prog 16 #[.slice A n c, .int .i64 k0] w fun e w' => e = .returned (.int .i64 (k0 + n)) ∧ w = w' := by
  go_enter Tryz.func16, Tryz.ntmps16
  go_wp2
  go_loop [1, 5] (fun l i => ∃ k : Nat, k ≤ n ∧ i = .int .i64 k ∧ l = .int .i64 (k0 + k)) (fun _ i => n - (intOf i).toNat)
  case atStart => exact ⟨0, Nat.zero_le _, rfl, by simp⟩
  case round =>
    obtain ⟨k, hk, rfl, rfl⟩ := hrel
    by_cases hlt : k < n
    · obtain ⟨rfl, hr, hnm⟩ := hA.out (by omega)
      have c0 := hr.cell (i := k) (by omega)
      rw [mcell, if_pos hlt] at c0
      clear hr
      go_wp2
      go_round
      case rel => exact ⟨k + 1, by omega, by go_num, by go_num⟩
      case measure => simp [intOf]; omega
    · have hkl : k = n := by omega
      subst hkl
      go_wp2
      go_ret
      exact ⟨rfl, rfl⟩
end Go.Proofs.YtllgicpiddapeaaGreatDoor
