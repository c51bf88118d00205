/- Automata: the walks of the laws' own copies, sizes and comparisons, and of ValidAutomaton in the reference and in the program. -/
import Derived.Test.YtbdialoimbooeaaAutB
import Derived.Test.YtbdialoimbooeaaStarts
namespace Go.Proofs.Ytbdialoimbooeaa
open Go.RowKit

/-- An automaton. -/
structure Au where
  next : List (List Int)
  final : List Int
theorem OwnK.setFar {B0 : Nat} {w : World} {b : Nat} {rs : List (List Int)} {k : Nat} (h : OwnK B0 w b rs k) {p : Addr} (hp : p.block < B0) (hpb : b ≠ p.block) (u : Value) : OwnK B0 (w.setCell p u) b rs k := by
  obtain ⟨g, h1, h2, h3⟩ := h
  refine ⟨g, h1.setOther hpb u, h2, fun i hi => ?_⟩
  obtain ⟨bi, e1, e2, e3, e4⟩ := h3 i hi
  exact ⟨bi, e1, e2, e3, e4.setOther (by omega) u⟩
theorem OwnK.mono {B0 B1 : Nat} {w : World} {b : Nat} {rs : List (List Int)} {k : Nat} (h : OwnK B0 w b rs k) (hB : B1 ≤ B0) : OwnK B1 w b rs k := by
  obtain ⟨g, h1, h2, h3⟩ := h
  refine ⟨g, h1, h2, fun i hi => ?_⟩
  obtain ⟨bi, e1, e2, e3, e4⟩ := h3 i hi
  exact ⟨bi, by omega, e2, e3, e4⟩
/-- The sizes of an automaton: what is left, or -1. -/
def SzA (a : Au) (n : Int) (w : World) (e : Ending) (w' : World) : Prop :=
  ∃ r : Int, e = .returned (.int .i64 r) ∧ (r = -1 ∨ 0 ≤ r ∧ r ≤ n ∧ (a.next.length : Int) ≤ n ∧ (a.final.length : Int) ≤ n ∧ ∀ i, i < a.next.length → ((rw0 a.next i).length : Int) ≤ n) ∧ Ext w w'

set_option maxHeartbeats 1000000 in
theorem szAutomaton_any (vn vf : Value) (a : Au) (n : Int) (w : World) (hN : SRows w vn a.next) (hF : SInts w vf a.final) (h1 : 0 ≤ n) (h2 : n ≤ 1048576) :
    Calls Try.prog 7 #[.agg #[vn, vf], .int .i64 n] w (SzA a n w) := by
  obtain ⟨A, c, rfl, -, -⟩ := hN.form
  obtain ⟨A', c', rfl, -, -⟩ := hF.form
  go_enter Try.func7, Try.ntmps7
  go_wp2_with fail
  refine (szIntSS_any _ a.next n _ (hN.ext ((Ext.refl w).alloc _)) h1 h2).mono ?_
  rintro e w1 ⟨r, rfl, hr, hx1⟩
  have hx := ((Ext.refl w).alloc _).trans hx1
  rcases hr with rfl | ⟨hr0, hrn, hl, hr1, hrows⟩
  · go_wp2_with fail
    go_ret
    exact ⟨_, rfl, .inl rfl, hx⟩
  · have Hrows := hide hrows; clear hrows hr1
    have f1 : w1.cell? ⟨w.heap.size, 1, none⟩ = some (.slice A' a.final.length c') := (hx1.cells _ _ (by simp)).trans (by go_simp)
    by_cases hfit : (a.final.length : Int) ≤ r
    · have e1 : left0 r a.final.length = r - a.final.length := left0_pos hfit
      have hnn : 0 ≤ left0 r a.final.length := by rw [e1]; omega
      have E1 := hide e1; clear e1
      go_wp2_with fail
      refine (szIntS_any _ a.final r _ (hF.ext hx) hr0 (by omega)).mono ?_
      rintro e w2 ⟨rfl, rfl⟩
      go_wp2_with fail
      go_ret
      exact ⟨_, rfl, .inr ⟨hnn, by rw [E1.out]; omega, hl, by omega, Hrows.out⟩, hx⟩
    · have e1 : left0 r a.final.length = -1 := left0_neg (by omega)
      have hnn : left0 r a.final.length < 0 := by rw [e1]; decide
      clear e1
      go_wp2_with fail
      refine (szIntS_any _ a.final r _ (hF.ext hx) hr0 (by omega)).mono ?_
      rintro e w2 ⟨rfl, rfl⟩
      go_wp2_with fail
      go_ret
      exact ⟨_, rfl, .inl rfl, hx⟩

/-- A copy of an automaton in new memory. -/
def NewAut (a : Au) (w : World) (e : Ending) (w' : World) : Prop :=
  ∃ b b', w.heap.size ≤ b ∧ w.heap.size ≤ b' ∧ e = .returned (.agg #[.slice (some ⟨b, 0, none⟩) a.next.length a.next.length, .slice (some ⟨b', 0, none⟩) a.final.length a.final.length]) ∧
    OwnK w.heap.size w' b a.next a.next.length ∧ w'.rowIs b' 3 a.final.length (icell a.final a.final.length) ∧ Ext w w'
set_option maxHeartbeats 2000000 in
theorem toAutomaton_any (vn vf : Value) (a : Au) (w : World) (hN : SRows w vn a.next) (hF : SInts w vf a.final) :
    Calls Try.prog 9 #[.agg #[vn, vf]] w (NewAut a w) := by
  obtain ⟨A, c, rfl, -, -⟩ := hN.form
  obtain ⟨A', c', rfl, -, -⟩ := hF.form
  go_enter Try.func9, Try.ntmps9
  go_wp2_with fail
  refine (toIntSS_any _ a.next _ (hN.ext ((((Ext.refl w).alloc _).alloc _).alloc _))).mono ?_
  rintro e w1 ⟨b1, hb1, rfl, hk1, hx1⟩
  have hx := ((((Ext.refl w).alloc _).alloc _).alloc _).trans hx1
  have hs1 := hx1.size
  simp only [World.size_alloc] at hb1 hs1
  have f1 : w1.cell? ⟨w.heap.size, 1, none⟩ = some (.slice A' a.final.length c') := (hx1.cells _ _ (by simp <;> omega)).trans (by go_simp)
  have f2 : w1.cell? ⟨w.heap.size + 2, 0, none⟩ = some (.slice none 0 0) := (hx1.cells _ _ (by simp)).trans (by go_simp)
  have f3 : w1.cell? ⟨w.heap.size + 2, 1, none⟩ = some (.slice none 0 0) := (hx1.cells _ _ (by simp)).trans (by go_simp)
  have f4 : w1.cell? ⟨w.heap.size + 1, 0, none⟩ = some (.slice none 0 0) := (hx1.cells _ _ (by simp)).trans (by go_simp)
  have f5 : w1.cell? ⟨w.heap.size + 1, 1, none⟩ = some (.slice none 0 0) := (hx1.cells _ _ (by simp)).trans (by go_simp)
  have z2 : w1.frozen? ⟨w.heap.size + 2, 0, none⟩ = false := (hx1.frz _ _ (by simp)).trans (by go_simp)
  have z3 : w1.frozen? ⟨w.heap.size + 2, 1, none⟩ = false := (hx1.frz _ _ (by simp)).trans (by go_simp)
  have z4 : w1.frozen? ⟨w.heap.size + 1, 0, none⟩ = false := (hx1.frz _ _ (by simp)).trans (by go_simp)
  have z5 : w1.frozen? ⟨w.heap.size + 1, 1, none⟩ = false := (hx1.frz _ _ (by simp)).trans (by go_simp)
  have HK := hide hk1; clear hk1
  go_wp2_with fail
  refine (toIntS_any _ a.final _ (hF.ext (hx.set (by simp <;> omega) _))).mono ?_
  rintro e w2 ⟨b2, hb2, rfl, hr2, hx2⟩
  have hx2' := (hx.set (p := ⟨w.heap.size + 2, 0, none⟩) (by simp <;> omega) (.slice (some ⟨b1, 0, none⟩) a.next.length a.next.length)).trans hx2
  have hs2 := hx2.size
  have hb2' : w1.heap.size ≤ b2 := by simpa [World.setCell] using hb2
  have hs2' : w1.heap.size ≤ w2.heap.size := by simpa [World.setCell] using hs2
  have g2 : w2.cell? ⟨w.heap.size + 2, 0, none⟩ = some (.slice (some ⟨b1, 0, none⟩) a.next.length a.next.length) := (hx2.cells _ _ (by simp [World.setCell] <;> omega)).trans (by go_simp)
  have g3 : w2.cell? ⟨w.heap.size + 2, 1, none⟩ = some (.slice none 0 0) := (hx2.cells _ _ (by simp [World.setCell] <;> omega)).trans (by go_simp)
  have g4 : w2.cell? ⟨w.heap.size + 1, 0, none⟩ = some (.slice none 0 0) := (hx2.cells _ _ (by simp [World.setCell] <;> omega)).trans (by go_simp)
  have g5 : w2.cell? ⟨w.heap.size + 1, 1, none⟩ = some (.slice none 0 0) := (hx2.cells _ _ (by simp [World.setCell] <;> omega)).trans (by go_simp)
  have y2 : w2.frozen? ⟨w.heap.size + 2, 0, none⟩ = false := (hx2.frz _ _ (by simp [World.setCell] <;> omega)).trans (by go_simp)
  have y3 : w2.frozen? ⟨w.heap.size + 2, 1, none⟩ = false := (hx2.frz _ _ (by simp [World.setCell] <;> omega)).trans (by go_simp)
  have y4 : w2.frozen? ⟨w.heap.size + 1, 0, none⟩ = false := (hx2.frz _ _ (by simp [World.setCell] <;> omega)).trans (by go_simp)
  have y5 : w2.frozen? ⟨w.heap.size + 1, 1, none⟩ = false := (hx2.frz _ _ (by simp [World.setCell] <;> omega)).trans (by go_simp)
  have hK2 := (HK.out.setFar (p := ⟨w.heap.size + 2, 0, none⟩) (by simp) (by simp <;> omega) (.slice (some ⟨b1, 0, none⟩) a.next.length a.next.length)).ext hx2
  have HK2 := hide hK2; clear hK2 HK
  have Hx2' := hide hx2'; clear hx2'
  have Hr2 := hide hr2; clear hr2
  clear hx2 hx1 hx f1 f2 f3 f4 f5 z2 z3 z4 z5
  go_wp2_with fail
  (try simp only [Exit.inBlock, Exit.then])
  refine bodyPost_ret (v := .agg #[.slice (some ⟨b1, 0, none⟩) a.next.length a.next.length, .slice (some ⟨b2, 0, none⟩) a.final.length a.final.length]) (by simp only [results, Try.results9]; go_simp) rfl ?_
  refine ⟨b1, b2, by omega, by omega, rfl, ?_, ?_, ?_⟩
  · exact (((HK2.out.setFar (by simp) (by simp <;> omega) _).setFar (by simp) (by simp <;> omega) _).setFar (by simp) (by simp <;> omega) _).mono (by simp <;> omega)
  · exact ((Hr2.out.setOther (by simp <;> omega) _).setOther (by simp <;> omega) _).setOther (by simp <;> omega) _
  · exact ((Hx2'.out.set (by simp <;> omega) _).set (by simp <;> omega) _).set (by simp <;> omega) _

theorem eqAutomaton_same (vn vf vn' vf' : Value) (a : Au) (w : World) (hN : SRows w vn a.next) (hF : SInts w vf a.final) (hN' : SRows w vn' a.next) (hF' : SInts w vf' a.final) :
    Calls Try.prog 11 #[.agg #[vn, vf], .agg #[vn', vf']] w (Ret (.bool true) w) := by
  obtain ⟨A, c, rfl, -, -⟩ := hN.form
  obtain ⟨A', c', rfl, -, -⟩ := hF.form
  obtain ⟨A2, c2, rfl, -, -⟩ := hN'.form
  obtain ⟨A2', c2', rfl, -, -⟩ := hF'.form
  go_enter Try.func11, Try.ntmps11
  go_wp2_with fail
  have hx0 := ((Ext.refl w).alloc (.cells #[.slice A a.next.length c, .slice A' a.final.length c'] 27)).alloc (.cells #[.slice A2 a.next.length c2, .slice A2' a.final.length c2'] 27)
  refine (eqIntSS_same _ _ a.next _ (hN.ext hx0) (hN'.ext hx0)).mono ?_
  rintro e w1 ⟨rfl, hx1⟩
  have f1 : w1.cell? ⟨w.heap.size, 1, none⟩ = some (.slice A' a.final.length c') := (hx1.cells _ _ (by simp <;> omega)).trans (by go_simp)
  have f2 : w1.cell? ⟨w.heap.size + 1, 1, none⟩ = some (.slice A2' a.final.length c2') := (hx1.cells _ _ (by simp)).trans (by go_simp)
  have hx := hx0.trans hx1
  go_wp2_with fail
  refine (eqIntS_same _ _ a.final _ (hF.ext hx) (hF'.ext hx)).mono ?_
  rintro e w2 ⟨rfl, hx2⟩
  go_wp2
  go_ret
  exact Ret.mk rfl (hx.trans hx2)
end Go.Proofs.Ytbdialoimbooeaa
