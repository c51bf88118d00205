/- The generator's reader: it yields numbers in a range. -/
import Derived.Test.YtjpdebgejlfeaaaDoorBase
import Derived.Test.YtjpdebgejlfeaaaDoorRF
import Derived.Test.YtjpdebgejlfeaaaDoorTail
import Derived.IntWalk
namespace Go.Proofs.YtjpdebgejlfeaaaDoor
open Go.RowKit

theorem xor_bd {a b : Int} (h0 : 0 ≤ a) (h1 : a < 4611686018427387904) (h2 : 0 ≤ b) (h3 : b < 4611686018427387904) : 0 ≤ bits .xor .i64 a b ∧ bits .xor .i64 a b < 4611686018427387904 := by
  obtain ⟨A, rfl⟩ := Int.eq_ofNat_of_zero_le h0
  obtain ⟨B, rfl⟩ := Int.eq_ofNat_of_zero_le h2
  have hx : A ^^^ B < 2 ^ 62 := Nat.xor_lt_two_pow (by omega) (by omega)
  have e1 : (BitVec.ofInt 64 (A : Int)).toNat = A := by rw [BitVec.ofInt_natCast, BitVec.toNat_ofNat]; exact Nat.mod_eq_of_lt (by omega)
  have e2 : (BitVec.ofInt 64 (B : Int)).toNat = B := by rw [BitVec.ofInt_natCast, BitVec.toNat_ofNat]; exact Nat.mod_eq_of_lt (by omega)
  have e : bits .xor .i64 (A : Int) (B : Int) = ((A ^^^ B : Nat) : Int) := by
    show IntKind.i64.wrap ((BitVec.ofInt 64 (A : Int) ^^^ BitVec.ofInt 64 (B : Int)).toNat : Int) = _
    rw [BitVec.toNat_xor, e1, e2]
    exact IntWalk.i64_in _ ⟨by omega, by omega⟩
  rw [e]
  omega
/-- v is a slice of bytes. -/
def SBytes (w : World) (v : Value) (n : Nat) : Prop :=
  ∃ A c, v = .slice A n c ∧ n ≤ c ∧ c ≤ 140737488355328 ∧ (0 < n → ∃ b off, A = some ⟨b, off, none⟩ ∧ b < w.heap.size ∧ ∀ i, i < n → ∃ x : Int, 0 ≤ x ∧ x ≤ 255 ∧ w.cell? ⟨b, off + i, none⟩ = some (.int .u8 x))
theorem SBytes.ext {w w' : World} {v : Value} {n : Nat} (h : SBytes w v n) (hx : Ext w w') : SBytes w' v n := by
  obtain ⟨A, c, h1, h2, h3, h4⟩ := h
  refine ⟨A, c, h1, h2, h3, fun hp => ?_⟩
  obtain ⟨b, off, e, hb, hc⟩ := h4 hp
  exact ⟨b, off, e, Nat.lt_of_lt_of_le hb hx.size, fun i hi => by obtain ⟨x, q1, q2, q3⟩ := hc i hi; exact ⟨x, q1, q2, (hx.cell (p := ⟨b, off + i, none⟩) hb).trans q3⟩⟩
/-- The reader at block br: at most N numbers have been read; w0: the world in which the draw began. -/
structure RdSt (w0 : World) (br N : Nat) (W : World) : Prop where
  b0 : ∃ v n, W.cell? ⟨br, 0, none⟩ = some v ∧ n ≤ 2000 ∧ SBytes w0 v n
  p0 : ∃ p : Int, 0 ≤ p ∧ p ≤ N ∧ W.cell? ⟨br, 1, none⟩ = some (.int .i64 p)
  z1 : W.frozen? ⟨br, 1, none⟩ = false
  lt : br < W.heap.size
  ge : w0.heap.size ≤ br
  ext : Ext w0 W
theorem RdSt.mono {w0 : World} {br N M : Nat} {W : World} (h : RdSt w0 br N W) (hm : N ≤ M) : RdSt w0 br M W := by
  obtain ⟨p, h1, h2, h3⟩ := h.p0
  exact ⟨h.b0, ⟨p, h1, by omega, h3⟩, h.z1, h.lt, h.ge, h.ext⟩
theorem RdSt.keep {w0 : World} {br N : Nat} {W W' : World} {S : Nat → Prop} (h : RdSt w0 br N W) (hk : Keep S W W') (hb : S br) (h0 : ∀ k, k < w0.heap.size → S k) : RdSt w0 br N W' := by
  obtain ⟨v, n, h1, h2, h3⟩ := h.b0
  obtain ⟨p, q1, q2, q3⟩ := h.p0
  exact ⟨⟨v, n, (hk.cell (p := ⟨br, 0, none⟩) h.lt hb).trans h1, h2, h3⟩, ⟨p, q1, q2, (hk.cell (p := ⟨br, 1, none⟩) h.lt hb).trans q3⟩, (hk.frz (p := ⟨br, 1, none⟩) h.lt hb).trans h.z1, Nat.lt_of_lt_of_le h.lt hk.size, h.ge, Below.trans h.ext (hk.below h.ext.size h0)⟩
theorem RdSt.grow {w0 : World} {br N : Nat} {W W' : World} (h : RdSt w0 br N W) (hx : Ext W W') : RdSt w0 br N W' := h.keep (hx.keep (fun _ => True)) trivial (fun _ _ => trivial)
/-- A number below n came; the reader has read one number more; nothing else has turned. -/
def Picked (w0 : World) (br N n : Nat) (W : World) (e : Ending) (W' : World) : Prop :=
  ∃ v : Int, 0 ≤ v ∧ v < n ∧ e = .returned (.int .i64 v) ∧ RdSt w0 br N W' ∧ Keep (fun k => k ≠ br) W W'
theorem RdSt.next {w0 : World} {br N : Nat} {W : World} {p : Int} (h : RdSt w0 br N W) (h0 : 0 ≤ p) (h1 : p ≤ N) : RdSt w0 br (N + 1) (W.setCell ⟨br, 1, none⟩ (.int .i64 (p + 1))) := by
  obtain ⟨v, n, q1, q2, q3⟩ := h.b0
  obtain ⟨p', -, -, q4⟩ := h.p0
  refine ⟨⟨v, n, (World.cell?_setCell_other _ _ _ _ (by intro e; injection e with _ e; omega)).trans q1, q2, q3⟩, ⟨p + 1, by omega, by omega, World.cell?_setCell_same' _ _ _ (by rw [q4]; rfl)⟩, (World.frozen?_setCell ..).trans h.z1, by simpa [World.setCell] using h.lt, h.ge, ?_⟩
  exact h.ext.set (by show w0.heap.size ≤ br; exact h.ge) _
set_option maxRecDepth 100000 in
set_option maxHeartbeats 4000000 in
theorem pick_any (w0 : World) (br N n : Nat) (W : World) (hn : 1 ≤ n) (hn1 : n ≤ 1000000) (hN : N ≤ 1000000) (hR : RdSt w0 br N W) :
    Calls Tryd.prog 51 #[.pointer (some ⟨br, 0, none⟩), .int .i64 n] W (Picked w0 br (N + 1) n W) := by
  obtain ⟨v, m, r0, hm, hB⟩ := hR.b0
  obtain ⟨p, hp0, hp1, r1⟩ := hR.p0
  have z1 := hR.z1
  have hlt := hR.lt
  have HR := hide hR
  obtain ⟨A, cp, rfl, hcp, hcp2, hcells⟩ := hB
  have HN := hide (hR.next hp0 hp1)
  have hK : Keep (fun k => k ≠ br) W (W.setCell ⟨br, 1, none⟩ (.int .i64 (p + 1))) := (Keep.refl _ W).set (fun _ hh => hh rfl) _
  have HK := hide hK
  have hnI : ¬ ((n : Int) < 1) := by omega
  have HCE := hide hcells
  clear hR hcells hK
  by_cases hm0 : m = 0
  · subst hm0
    go_enter Tryd.func51, Tryd.ntmps51
    go_wp2
    go_ret
    exact ⟨0, Int.le_refl _, by omega, rfl, HN.out, HK.out⟩
  · have hm1 : 0 < m := by omega
    have hmne : ((m : Int) == 0) = false := by rw [beq_eq_false_iff_ne]; omega
    obtain ⟨b, off, rfl, hbl0, hcs0⟩ := HCE.out hm1
    have hbne : b ≠ br := by have := HR.out.ge; omega
    have hbl : b < W.heap.size := Nat.lt_of_lt_of_le hbl0 HR.out.ext.size
    have HCS := hide (show ∀ i, i < m → ∃ x : Int, 0 ≤ x ∧ x ≤ 255 ∧ W.cell? ⟨b, off + i, none⟩ = some (.int .u8 x) from fun i hi => by obtain ⟨x, q1, q2, q3⟩ := hcs0 i hi; exact ⟨x, q1, q2, (HR.out.ext.cells _ _ hbl0).trans q3⟩)
    clear hcs0
    by_cases hpm : p < m
    · obtain ⟨x, x0, x1, hx⟩ := HCS.out p.toNat (by omega)
      have ht : (x % (n : Int)) < n := Int.emod_lt_of_pos _ (by omega)
      have ht0 : 0 ≤ (x % (n : Int)) := Int.emod_nonneg _ (by omega)
      go_enter Tryd.func51, Tryd.ntmps51
      go_wp2
      go_ret
      exact ⟨_, ht0, ht, rfl, HN.out, HK.out⟩
    · have hi1 : 0 ≤ p % (m : Int) := Int.emod_nonneg _ (by omega)
      have hi2 : p % (m : Int) < m := Int.emod_lt_of_pos _ (by omega)
      have hj1 : 0 ≤ (p * 7 + 3) % (m : Int) := Int.emod_nonneg _ (by omega)
      have hj2 : (p * 7 + 3) % (m : Int) < m := Int.emod_lt_of_pos _ (by omega)
      obtain ⟨x, x0, x1, hx⟩ := HCS.out (p % (m : Int)).toNat (by omega)
      obtain ⟨y, y0, y1, hy⟩ := HCS.out ((p * 7 + 3) % (m : Int)).toNat (by omega)
      have hd0 : 0 ≤ p / (m : Int) := Int.ediv_nonneg hp0 (by omega)
      have hd1 : p / (m : Int) ≤ p := Int.ediv_le_self _ hp0
      have k1 := IntWalk.i64_in (x * 131) (by omega)
      have k2 := IntWalk.i64_in (p * 7) (by omega)
      have k3 := IntWalk.i64_in (p * 7 + 3) (by omega)
      have k4 := IntWalk.i64_in (y * 1117) (by omega)
      have k5 := IntWalk.i64_in (x * 131 + y * 1117) (by omega)
      have k6 := IntWalk.i64_in (p * 29) (by omega)
      have k7 := IntWalk.i64_in (x * 131 + y * 1117 + p * 29) (by omega)
      have k8 := IntWalk.i64_in (p / (m : Int) * 53) (by omega)
      have k9 := IntWalk.i64_in (x * 131 + y * 1117 + p * 29 + p / (m : Int) * 53) (by omega)
      have k10 : p.tmod (m : Int) = p % (m : Int) := Int.tmod_eq_emod_of_nonneg hp0
      have k11 : (p * 7 + 3).tmod (m : Int) = (p * 7 + 3) % (m : Int) := Int.tmod_eq_emod_of_nonneg (by omega)
      have k12 : p.tdiv (m : Int) = p / (m : Int) := Int.tdiv_eq_ediv_of_nonneg hp0
      obtain ⟨z, hz⟩ : ∃ z, z = x * 131 + y * 1117 + p * 29 + p / (m : Int) * 53 := ⟨_, rfl⟩
      have hz0 : 0 ≤ z := by omega
      have hz1 : z < 4611686018427387904 := by omega
      go_enter Tryd.func51, Tryd.ntmps51
      go_wp2
      refine wp_region_ext (by kernel_rfl) (by kernel_rfl) ?_
      iterate 46 (apply quiet_val; (focus rfl); (focus (intro w' hw'; have hk' := hw'.cells; go_simp; all_goals exact rfl)); simp only [Act.put, List.setIfInBounds_toArray, List.set_cons_succ, List.set_cons_zero])
      refine wpQuiet_nil ?_
      intro w5 hx5
      have kx := IntWalk.i64_in x (by omega)
      have ky := IntWalk.i64_in y (by omega)
      have kd := IntWalk.i64_in (p / (m : Int)) (by omega)
      simp only [kx, ky, kd, k1, k4, k5, k7, k8, k9]
      rw [← hz]
      clear kx ky kd k1 k2 k3 k4 k5 k6 k7 k8 k9 k10 k11 k12 hz hi1 hi2 hj1 hj2 hx hy x0 x1 y0 y1 hd0 hd1
      have hz2 : 0 ≤ z / 64 := by omega
      have hz3 : z / 64 < 4611686018427387904 := by omega
      obtain ⟨u, hu⟩ : ∃ u, u = bits .xor .i64 z (z / 64) := ⟨_, rfl⟩
      obtain ⟨u0, u1⟩ := xor_bd hz0 hz1 hz2 hz3
      rw [← hu] at u0 u1
      have ht : (u % (n : Int)) < n := Int.emod_lt_of_pos _ (by omega)
      have ht0 : 0 ≤ (u % (n : Int)) := Int.emod_nonneg _ (by omega)
      have hu' := hu.symm
      clear hu
      have HN5 := hide (HN.out.grow hx5)
      have HK5 := hide (HK.out.ext hx5)
      clear hx5
      go_wp2
      go_ret
      exact ⟨_, ht0, ht, rfl, HN5.out, HK5.out⟩
end Go.Proofs.YtjpdebgejlfeaaaDoor
/- Draws of the generator: the reader is made. -/
namespace Go.Proofs.YtjpdebgejlfeaaaDoor
open Go.RowKit

theorem SBytes.cut {w : World} {A : Option Addr} {n c m : Nat} (h : SBytes w (.slice A n c) n) (hm : m ≤ n) : SBytes w (.slice A m c) m := by
  obtain ⟨A', c', h1, h2, h3, h4⟩ := h
  injection h1 with e1 e2 e3
  subst e1; subst e3
  exact ⟨A, c, rfl, by omega, h3, fun hp => by obtain ⟨b, off, e, hb, hc⟩ := h4 (by omega); exact ⟨b, off, e, hb, fun i hi => hc i (by omega)⟩⟩
def ReaderGot (w0 W : World) (e : Ending) (W' : World) : Prop := ∃ br, e = .returned (.pointer (some ⟨br, 0, none⟩)) ∧ RdSt w0 br 0 W' ∧ Ext W W' ∧ W.heap.size ≤ br
theorem reader_new (w0 W : World) (v : Value) (n : Nat) (hB : SBytes w0 v n) (hn : n ≤ 2000) (hx : Ext w0 W) : RdSt w0 W.heap.size 0 (W.alloc (.cells #[v, .int .i64 0] 74)) := by
  refine ⟨⟨v, n, World.cell?_alloc_at _ _ _ _ rfl, hn, hB⟩, ⟨0, Int.le_refl _, by simp, World.cell?_alloc_at _ _ _ _ rfl⟩, ?_, by simp, hx.size, hx.alloc _⟩
  simp
set_option maxHeartbeats 1000000 in
theorem newReader_any (w0 W : World) (v : Value) (n : Nat) (hB : SBytes w0 v n) (hx : Ext w0 W) : Calls Tryd.prog 33 #[v] W (ReaderGot w0 W) := by
  have HB := hide hB
  have HX := hide hx
  obtain ⟨A, c, rfl, hnc, hcc, -⟩ := hB
  clear hx
  by_cases hn : 2000 < n
  · have h2 := HB.out.cut (m := 2000) (by omega)
    have HE := hide (show ReaderGot w0 W (.returned (.pointer (some ⟨W.heap.size, 0, none⟩))) _ from ⟨_, rfl, reader_new w0 W _ 2000 h2 (by omega) HX.out, (Ext.refl W).alloc _, Nat.le_refl _⟩)
    have hI : (2000 : Int) < n := by omega
    have hI2 : (2000 : Int) ≤ c := by omega
    clear h2
    go_enter Tryd.func33, Tryd.ntmps33
    go_wp2
    go_ret
    exact HE.out
  · have HE := hide (show ReaderGot w0 W (.returned (.pointer (some ⟨W.heap.size, 0, none⟩))) _ from ⟨_, rfl, reader_new w0 W _ n HB.out (by omega) HX.out, (Ext.refl W).alloc _, Nat.le_refl _⟩)
    go_enter Tryd.func33, Tryd.ntmps33
    go_wp2
    go_ret
    exact HE.out
end Go.Proofs.YtjpdebgejlfeaaaDoor
