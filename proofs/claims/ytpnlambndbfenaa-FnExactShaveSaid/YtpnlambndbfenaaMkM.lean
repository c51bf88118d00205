/- Marking a model of the law's own. -/
import Derived.Test.YtpnlambndbfenaaLawM
import Derived.Test.YtpnlambndbfenaaMarks
namespace Go.Proofs.Ytpnlambndbfenaa
open Go.RowKit

theorem Keep.ofG {w w' : World} {r : Option Nat} (h : w.grownBy w' r) : Keep (fun k => r ≠ some k) w w' := ⟨h.os, h.tape, h.output, h.size, fun k hk hs => h.block k hk (fun e => hs e.symm)⟩
/-- Only what lies in the blocks B .. E - 1 may have changed; rows of numbers are rows of numbers still; what leads to them is as it was. -/
structure MkS (B E : Nat) (W W' : World) : Prop where
  keep : Keep (fun k => k < B ∨ E ≤ k) W W'
  ints : ∀ b n f, W.rowIs b 3 n f → ∃ f', W'.rowIs b 3 n f'
  hdrs : ∀ b n f, W.rowIs b 22 n f → W'.rowIs b 22 n f
  cons : ∀ b n f, W.rowIs b 32 n f → ∃ f', W'.rowIs b 32 n f' ∧ ∀ j, j % 5 ≠ 0 → j % 5 ≠ 3 → f' j = f j
theorem MkS.refl (B E : Nat) (W : World) : MkS B E W W := ⟨Keep.refl _ _, fun _ _ f h => ⟨f, h⟩, fun _ _ _ h => h, fun _ _ f h => ⟨f, h, fun _ _ _ => rfl⟩⟩
theorem MkS.trans {B E : Nat} {W W' W'' : World} (h : MkS B E W W') (k : MkS B E W' W'') : MkS B E W W'' := by
  refine ⟨h.keep.trans k.keep, fun b n f hr => ?_, fun b n f hr => k.hdrs b n f (h.hdrs b n f hr), fun b n f hr => ?_⟩
  · obtain ⟨f1, h1⟩ := h.ints b n f hr
    exact k.ints b n f1 h1
  · obtain ⟨f1, h1, e1⟩ := h.cons b n f hr
    obtain ⟨f2, h2, e2⟩ := k.cons b n f1 h1
    exact ⟨f2, h2, fun j j0 j3 => (e2 j j0 j3).trans (e1 j j0 j3)⟩
theorem MkS.setCon {B E : Nat} {W : World} {bo m j : Nat} {F : Nat → Value} (hr : W.rowIs bo 32 m F) (hb : B ≤ bo) (he : bo < E) (hj : j % 5 = 0 ∨ j % 5 = 3) (u : Value) : MkS B E W (W.setCell ⟨bo, j, none⟩ u) := by
  refine ⟨(Keep.refl _ _).set (fun _ h => by have h : bo < B ∨ E ≤ bo := h; omega) u, fun b n f h => ⟨f, h.setOther (rowNe h hr (by decide)) u⟩, fun b n f h => h.setOther (rowNe h hr (by decide)) u, fun b n f h => ?_⟩
  by_cases e : b = bo
  · subst e
    refine ⟨_, h.set j u, fun i i0 i3 => ?_⟩
    show (if i = j then _ else _) = _
    rw [if_neg (fun e => by subst e; omega)]
  · exact ⟨f, h.setOther e u, fun _ _ _ => rfl⟩
theorem rowLen {W : World} {b n m : Nat} {t : TypeId} {f g : Nat → Value} (h : W.rowIs b t n f) (k : W.rowIs b t m g) : n = m := by
  obtain ⟨x1, y1, z1, -⟩ := h
  obtain ⟨x2, y2, z2, -⟩ := k
  rw [y2] at y1
  injection y1 with y1
  injection y1 with y1 _
  rw [← z1, ← z2, y1]
theorem MkS.ofMarked {B E : Nat} {W W' : World} {r k0 : Int} {b n m : Nat} {f : Nat → Value} {e : Ending} (hr : W.rowIs b 3 m f) (hb : B ≤ b) (he : b < E) (hm : Marked r k0 b 3 n m f W e W') : MkS B E W W' := by
  obtain ⟨-, hg, hro⟩ := hm
  have hoff : ∀ b', b' ≠ b → ∀ {t : TypeId} {n : Nat} {f : Nat → Value}, W.rowIs b' t n f → W'.rowIs b' t n f := fun b' hb' _ _ _ h9 => upd_row hg h9 (fun _ => hb')
  refine ⟨Keep.mono (Keep.ofG hg) (fun k _ hk e => ?_), fun b' n' f' h => ?_, fun b' n' f' h => hoff b' (rowNe h hr (by decide)) h, fun b' n' f' h => ⟨f', hoff b' (rowNe h hr (by decide)) h, fun _ _ _ => rfl⟩⟩
  · unfold rowOf at e
    split at e
    · cases e
    · injection e with e; have hk : k < B ∨ E ≤ k := hk; omega
  · by_cases e : b' = b
    · subst e
      by_cases h0 : 0 < n
      · have := rowLen h hr
        subst this
        exact ⟨_, hro h0⟩
      · rw [rowOf, if_pos (by omega)] at hg
        exact ⟨f', h.of_block (hg.block _ h.lt (by simp))⟩
    · exact ⟨f', hoff b' e h⟩
/-- Rows of numbers that may be marked. -/
def ShI (B E : Nat) (W : World) (n b : Nat) : Prop := B ≤ b ∧ b < E ∧ ∃ f, W.rowIs b 3 n f
def ShR (B E : Nat) (W : World) (rs : List (List Int)) (br : Nat) : Prop := ∃ g, W.rowIs br 22 rs.length g ∧ ∀ i, i < rs.length → ∃ bi, g i = .slice (some ⟨bi, 0, none⟩) (rw0 rs i).length (rw0 rs i).length ∧ ShI B E W (rw0 rs i).length bi
theorem ShI.step {B E : Nat} {W W' : World} {n b : Nat} (h : ShI B E W n b) (k : MkS B E W W') : ShI B E W' n b := by
  obtain ⟨h1, h2, f, h3⟩ := h
  obtain ⟨f', h4⟩ := k.ints b n f h3
  exact ⟨h1, h2, f', h4⟩
theorem ShR.step {B E : Nat} {W W' : World} {rs : List (List Int)} {br : Nat} (h : ShR B E W rs br) (k : MkS B E W W') : ShR B E W' rs br := by
  obtain ⟨g, h1, h2⟩ := h
  refine ⟨g, k.hdrs _ _ _ h1, fun i hi => ?_⟩
  obtain ⟨bi, e, h3⟩ := h2 i hi
  exact ⟨bi, e, h3.step k⟩
/-- The marks have been made: k1 comes next. -/
def MkE (B E : Nat) (k0 : Int) (sz : Nat) (W : World) (e : Ending) (W' : World) : Prop := ∃ k1 : Int, e = .returned (.int .i64 k1) ∧ k0 ≤ k1 ∧ k1 ≤ k0 + sz ∧ MkS B E W W'
theorem markI_any {B E : Nat} {W : World} {n b : Nat} (h : ShI B E W n b) (k0 : Int) (h0 : 0 ≤ k0) (h1 : k0 ≤ 100000000) (hn : n ≤ 100000000) :
    Calls Try.prog 27 #[.slice (some ⟨b, 0, none⟩) n n, .int .i64 k0] W (MkE B E k0 n W) := by
  obtain ⟨g1, g2, f, hr⟩ := h
  refine (markIntS_any (some ⟨b, 0, none⟩) n n b n f k0 W h0 (by omega) (by omega) (hide fun _ => ⟨rfl, hr, Nat.le_refl _⟩)).mono ?_
  intro e w' hm
  exact ⟨_, hm.1, by omega, Int.le_refl _, MkS.ofMarked hr g1 g2 hm⟩
theorem szR_le2 {rs : List (List Int)} : ∀ {k n : Nat}, k ≤ n → szR rs k ≤ szR rs n := by
  intro k n h
  induction n with
  | zero =>
    obtain rfl : k = 0 := by omega
    exact Nat.le_refl _
  | succ n ih =>
    by_cases e : k = n + 1
    · subst e; exact Nat.le_refl _
    · have := ih (by omega); rw [szR]; omega
set_option maxHeartbeats 4000000 in
theorem markR_any {B E : Nat} {W : World} {rs : List (List Int)} {br : Nat} (h : ShR B E W rs br) (k0 : Int) (h0 : 0 ≤ k0) (h1 : k0 ≤ 90000000) (hn : szR rs rs.length ≤ 1048576) (hl : rs.length ≤ 1048576) :
    Calls Try.prog 84 #[.slice (some ⟨br, 0, none⟩) rs.length rs.length, .int .i64 k0] W (MkE B E k0 (szR rs rs.length) W) := by
  have H := hide h
  clear h
  go_enter Try.func84, Try.ntmps84
  go_wp2
  go_loopw [1, 5] (fun l i wr => ∃ (k : Nat) (kk : Int), k ≤ rs.length ∧ i = .int .i64 k ∧ l = .int .i64 kk ∧ k0 ≤ kk ∧ kk ≤ k0 + szR rs k ∧ MkS B E W wr) (fun _ i _ => rs.length - (intOf i).toNat)
  case atStart => exact ⟨0, k0, Nat.zero_le _, rfl, rfl, Int.le_refl _, by simp [szR], MkS.refl _ _ _⟩
  case round =>
    obtain ⟨k, kk, hk, rfl, rfl, hk1, hk2, hms⟩ := hrel
    have HM := hide hms
    have hsz := szR_le2 (rs := rs) (k := k) (n := rs.length) hk
    by_cases hlt : k < rs.length
    · have hkI : (k : Int) < rs.length := by omega
      obtain ⟨g, hg, hgi⟩ := H.out.step hms
      obtain ⟨bi, e, hsi⟩ := hgi k hlt
      have f0 := hg.cell hlt
      rw [e] at f0
      have HSI := hide hsi
      have h9 := szR_le2 (rs := rs) (k := k + 1) (n := rs.length) (by omega)
      rw [szR] at h9
      clear hms hg hgi e hsi
      go_wp2_with fail
      refine (markI_any HSI.out kk (by omega) (by omega) (by omega)).mono ?_
      rintro e w2 ⟨k1, rfl, hk3, hk4, hm2⟩
      have HM2 := hide (HM.out.trans hm2)
      clear hm2
      go_wp2
      go_roundw
      case rel => exact ⟨k + 1, k1, by omega, by go_num, rfl, by omega, by rw [szR]; omega, HM2.out⟩
      case measure => simp [intOf]; omega
    · obtain rfl : k = rs.length := by omega
      have hkI : ¬ ((rs.length : Int) < rs.length) := by omega
      go_wp2
      go_ret
      exact ⟨kk, rfl, hk1, hk2, HM.out⟩
/-- Constraints that may be marked. -/
def ShC (B E : Nat) (W : World) (c : Con) (F : Nat → Value) (i : Nat) : Prop := ∃ bv ba br, F (i * 5 + 1) = .slice (some ⟨bv, 0, none⟩) c.vars.length c.vars.length ∧ F (i * 5 + 2) = .slice (some ⟨ba, 0, none⟩) c.args.length c.args.length ∧ F (i * 5 + 4) = .slice (some ⟨br, 0, none⟩) c.rows.length c.rows.length ∧
  ShI B E W c.vars.length bv ∧ ShI B E W c.args.length ba ∧ ShR B E W c.rows br
def ShS (B E : Nat) (W : World) (cs : List Con) (bo : Nat) : Prop := B ≤ bo ∧ bo < E ∧ ∃ F, W.rowIs bo 32 (cs.length * 5) F ∧ ∀ i, i < cs.length → ShC B E W (con0 cs i) F i
theorem ShS.step {B E : Nat} {W W' : World} {cs : List Con} {bo : Nat} (h : ShS B E W cs bo) (k : MkS B E W W') : ShS B E W' cs bo := by
  obtain ⟨h1, h2, F, hr, hc⟩ := h
  obtain ⟨F', hr', he⟩ := k.cons _ _ _ hr
  refine ⟨h1, h2, F', hr', fun i hi => ?_⟩
  obtain ⟨bv, ba, br, e1, e2, e4, s1, s2, s3⟩ := hc i hi
  exact ⟨bv, ba, br, (he _ (by omega) (by omega)).trans e1, (he _ (by omega) (by omega)).trans e2, (he _ (by omega) (by omega)).trans e4, s1.step k, s2.step k, s3.step k⟩
theorem szCs_le {cs : List Con} : ∀ {k n : Nat}, k ≤ n → szCs cs k ≤ szCs cs n := by
  intro k n h
  induction n with
  | zero =>
    obtain rfl : k = 0 := by omega
    exact Nat.le_refl _
  | succ n ih =>
    by_cases e : k = n + 1
    · subst e; exact Nat.le_refl _
    · have := ih (by omega); rw [szCs]; omega
set_option maxHeartbeats 8000000 in
theorem markC_any {B E : Nat} {W : World} {cs : List Con} {bo : Nat} (h : ShS B E W cs bo) (k0 : Int) (h0 : 0 ≤ k0) (h1 : k0 ≤ 10000000) (hn : szCs cs cs.length ≤ 1048576) (hl : cs.length ≤ 1048576) :
    Calls Try.prog 68 #[.slice (some ⟨bo, 0, none⟩) cs.length cs.length, .int .i64 k0] W (MkE B E k0 (2 * cs.length + szCs cs cs.length) W) := by
  have H := hide h
  clear h
  go_enter Try.func68, Try.ntmps68
  go_wp2
  go_loopw [1, 5] (fun l i wr => ∃ (k : Nat) (kk : Int), k ≤ cs.length ∧ i = .int .i64 k ∧ l = .int .i64 kk ∧ k0 ≤ kk ∧ kk ≤ k0 + 2 * k + szCs cs k ∧ MkS B E W wr) (fun _ i _ => cs.length - (intOf i).toNat)
  case atStart => exact ⟨0, k0, Nat.zero_le _, rfl, rfl, Int.le_refl _, by simp [szCs], MkS.refl _ _ _⟩
  case round =>
    obtain ⟨k, kk, hk, rfl, rfl, hk1, hk2, hms⟩ := hrel
    have HM := hide hms
    have hsz := szCs_le (cs := cs) (k := k) (n := cs.length) hk
    by_cases hlt : k < cs.length
    · have hkI : (k : Int) < cs.length := by omega
      obtain ⟨g1, g2, F, hr, hc⟩ := H.out.step hms
      obtain ⟨bv, ba, br, e1, e2, e4, s1, s2, s3⟩ := hc k hlt
      have h9 := szCs_le (cs := cs) (k := k + 1) (n := cs.length) (by omega)
      rw [szCs, szC] at h9
      have c0 := hr.cell (i := k * 5) (by omega)
      have z0 := hr.frozen (k * 5)
      have c1 := hr.cell (i := k * 5 + 1) (by omega)
      rw [e1] at c1
      have m1 := hide (MkS.setCon (j := k * 5) hr g1 g2 (by omega) (.int .i64 kk))
      have S1 := hide (s1.step m1.out)
      have M1 := hide (HM.out.trans m1.out)
      clear hms hr hc e1 e2 e4 s1 s2 s3
      go_wp2_with fail
      refine (markI_any S1.out (kk + 1) (by omega) (by omega) (by omega)).mono ?_
      rintro e w2 ⟨k1, rfl, hk3, hk4, hm2⟩
      have M2 := hide (M1.out.trans hm2)
      obtain ⟨-, -, F2, hr2, hc2⟩ := H.out.step M2.out
      obtain ⟨bv2, ba2, br2, e1, e2, e4, s1, s2, s3⟩ := hc2 k hlt
      have c2 := hr2.cell (i := k * 5 + 2) (by omega)
      rw [e2] at c2
      have S2 := hide s2
      clear hm2 c0 z0 c1 hr2 hc2 e1 e2 e4 s1 s2 s3
      go_wp2_with fail
      refine (markI_any S2.out k1 (by omega) (by omega) (by omega)).mono ?_
      rintro e w3 ⟨k2, rfl, hk5, hk6, hm3⟩
      have M3 := hide (M2.out.trans hm3)
      obtain ⟨-, -, F3, hr3, hc3⟩ := H.out.step M3.out
      obtain ⟨bv3, ba3, br3, e1, e2, e4, s1, s2, s3⟩ := hc3 k hlt
      have c3 := hr3.cell (i := k * 5 + 3) (by omega)
      have z3 := hr3.frozen (k * 5 + 3)
      have c4 := hr3.cell (i := k * 5 + 4) (by omega)
      rw [e4] at c4
      have m4 := hide (MkS.setCon (j := k * 5 + 3) hr3 g1 g2 (by omega) (.int .i64 k2))
      have S3 := hide (s3.step m4.out)
      have M4 := hide (M3.out.trans m4.out)
      clear hm3 c2 hr3 hc3 e1 e2 e4 s1 s2 s3
      go_wp2_with fail
      refine (markR_any S3.out (k2 + 1) (by omega) (by omega) (by omega) (by omega)).mono ?_
      rintro e w5 ⟨k3, rfl, hk7, hk8, hm5⟩
      have M5 := hide (M4.out.trans hm5)
      clear hm5 c3 z3 c4
      go_wp2
      go_roundw
      case rel => exact ⟨k + 1, k3, by omega, by go_num, rfl, by omega, by rw [szCs, szC]; omega, M5.out⟩
      case measure => simp [intOf]; omega
    · obtain rfl : k = cs.length := by omega
      have hkI : ¬ ((cs.length : Int) < cs.length) := by omega
      go_wp2
      go_ret
      exact ⟨kk, rfl, hk1, by omega, HM.out⟩
set_option maxHeartbeats 4000000 in
theorem markM_any {B : Nat} {W : World} {ds : List Int} {cs : List Con} {bd bo : Nat} {F : Nat → Value} {W0 : World} (hc : CopM B W0 ds cs bd bo F) (hx : Ext W0 W) (h1 : ds.length + (cs.length + szCs cs cs.length) ≤ 1048576) :
    Calls Try.prog 26 #[modV ds cs bd bo, .int .i64 1] W (fun e W' => ∃ k1 : Int, e = .returned (.int .i64 k1) ∧ 0 ≤ k1 ∧ Keep (fun k => k < B ∨ W0.heap.size ≤ k) W W') := by
  have HD := hide (show ShI B W0.heap.size W ds.length bd from ⟨hc.gd, hc.rd.lt, _, hx.row hc.rd⟩)
  have HC := hide (show ShS B W0.heap.size W cs bo from ⟨hc.go, hc.ro.lt, F, hx.row hc.ro, fun i hi => by
    obtain ⟨bv, ba, br, e0, e1, e2, e3, e4, h⟩ := (hc.ca i hi).ex
    refine ⟨bv, ba, br, e1, e2, e4, ⟨h.gv, h.rv.lt, _, hx.row h.rv⟩, ⟨h.ga, h.ra.lt, _, hx.row h.ra⟩, ?_⟩
    obtain ⟨g, q1, -, q3⟩ := h.rr
    refine ⟨g, hx.row q1, fun j hj => ?_⟩
    obtain ⟨bi, r1, -, r3, r4⟩ := q3 j hj
    exact ⟨bi, r3, r1, r4.lt, _, hx.row r4⟩⟩)
  obtain ⟨w0, hw0⟩ : ∃ w0, w0 = W.alloc (.cells #[.slice (some ⟨bd, 0, none⟩) ds.length ds.length, .slice (some ⟨bo, 0, none⟩) cs.length cs.length] 48) := ⟨_, rfl⟩
  have hx0 : Ext W w0 := by rw [hw0]; exact (Ext.refl W).alloc _
  have k0 : w0.cell? ⟨W.heap.size, 0, none⟩ = some (.slice (some ⟨bd, 0, none⟩) ds.length ds.length) := by rw [hw0]; go_simp
  have k1 : w0.cell? ⟨W.heap.size, 1, none⟩ = some (.slice (some ⟨bo, 0, none⟩) cs.length cs.length) := by rw [hw0]; go_simp
  have ks : W.heap.size < w0.heap.size := by rw [hw0]; simp
  have hWs := hx.size
  have HX0 := hide hx0
  have HD0 := hide (show ShI B W0.heap.size w0 ds.length bd by obtain ⟨a, b, f, c⟩ := HD.out; exact ⟨a, b, f, hx0.row c⟩)
  have HC0 := hide (show ShS B W0.heap.size w0 cs bo by
    obtain ⟨a, b, F, c, d⟩ := HC.out
    refine ⟨a, b, F, hx0.row c, fun i hi => ?_⟩
    obtain ⟨bv, ba, br, e1, e2, e4, ⟨p1, p2, f3, p3⟩, ⟨q1, q2, f4, q3⟩, g, r1, r2⟩ := d i hi
    refine ⟨bv, ba, br, e1, e2, e4, ⟨p1, p2, f3, hx0.row p3⟩, ⟨q1, q2, f4, hx0.row q3⟩, g, hx0.row r1, fun j hj => ?_⟩
    obtain ⟨bi, t1, t2, t3, f5, t4⟩ := r2 j hj
    exact ⟨bi, t1, t2, t3, f5, hx0.row t4⟩)
  clear hc hx hx0
  rw [modV]
  go_enter Try.func26, Try.ntmps26
  go_wp2_with fail
  rw [← hw0]
  clear hw0
  refine (markI_any HD0.out 1 (by omega) (by omega) (by omega)).mono ?_
  rintro e w2 ⟨k2, rfl, hk1, hk2, hm2⟩
  have M2 := hide hm2
  have k1 := (hm2.keep.cell (p := ⟨W.heap.size, 1, none⟩) ks (.inr hWs)).trans k1
  have S2 := hide (HC0.out.step hm2)
  clear hm2 k0
  go_wp2_with fail
  refine (markC_any S2.out k2 (by omega) (by omega) (by omega) (by omega)).mono ?_
  rintro e w3 ⟨k3, rfl, hk3, hk4, hm3⟩
  have M3 := hide (M2.out.trans hm3)
  clear hm3 k1
  go_wp2
  go_ret
  exact ⟨k3, rfl, by omega, (HX0.out.keep _).trans M3.out.keep⟩
end Go.Proofs.Ytpnlambndbfenaa
