/- The laws' copies of models. -/
import Derived.Test.YtpnlambndbfenaaLawM2
namespace Go.Proofs.Ytpnlambndbfenaa
open Go.RowKit

theorem ConAt.setTy {B : Nat} {W : World} {F : Nat → Value} {c : Con} {i bo m o : Nat} {t : TypeId} {f : Nat → Value} (h : ConAt B W F c i) (hb : W.rowIs bo t m f) (h1 : t ≠ 3) (h2 : t ≠ 22) (u : Value) : ConAt B (W.setCell ⟨bo, o, none⟩ u) F c i := by
  obtain ⟨bv, ba, br, e0, e1, e2, e3, e4, h5⟩ := h.ex
  exact ⟨bv, ba, br, e0, e1, e2, e3, e4, h5.setTy hb h1 h2 u⟩
/-- A model's copy: the domains at block bd, the constraints at block bo. -/
structure CopM (B : Nat) (W : World) (ds : List Int) (cs : List Con) (bd bo : Nat) (F : Nat → Value) : Prop where
  gd : B ≤ bd
  go : B ≤ bo
  rd : W.rowIs bd 3 ds.length (icell ds ds.length)
  ro : W.rowIs bo 32 (cs.length * 5) F
  ca : ∀ i, i < cs.length → ConAt B W F (con0 cs i) i
def modV (ds : List Int) (cs : List Con) (bd bo : Nat) : Value := .agg #[.slice (some ⟨bd, 0, none⟩) ds.length ds.length, .slice (some ⟨bo, 0, none⟩) cs.length cs.length]
theorem CopM.ext {B : Nat} {W W' : World} {ds : List Int} {cs : List Con} {bd bo : Nat} {F : Nat → Value} (h : CopM B W ds cs bd bo F) (hx : Ext W W') : CopM B W' ds cs bd bo F :=
  ⟨h.gd, h.go, hx.row h.rd, hx.row h.ro, fun i hi => (h.ca i hi).ext hx⟩
def OkMod (ds : List Int) (cs : List Con) : Prop := (ds.length * 8 ≤ 140737488355328 ∧ ∀ i, i < ds.length → I64 (at0 ds i)) ∧ OkCons cs
theorem SMod.ok {w : World} {v : Value} {ds : List Int} {cs : List Con} (h : SMod w v ds cs) : OkMod ds cs := by
  obtain ⟨vd, vc, -, h2, h3⟩ := h
  exact ⟨⟨h2.bytes, fun _ hi => h2.i64 hi⟩, h3.ok⟩
theorem CopM.smod {B : Nat} {W : World} {ds : List Int} {cs : List Con} {bd bo : Nat} {F : Nat → Value} (h : CopM B W ds cs bd bo F) (hk : OkMod ds cs) : SMod W (modV ds cs bd bo) ds cs :=
  ⟨_, _, rfl, SInts.of_row h.rd hk.1.1 hk.1.2, NewCons.scons hk.2 h.ro h.ca⟩
def NewMod (ds : List Int) (cs : List Con) (w : World) (e : Ending) (w' : World) : Prop := ∃ bd bo F, e = .returned (modV ds cs bd bo) ∧ CopM w.heap.size w' ds cs bd bo F ∧ Ext w w'
theorem nil2_at : ∀ i, i < (#[.slice none 0 0, .slice none 0 0] : Array Value).size → (#[.slice none 0 0, .slice none 0 0] : Array Value)[i]? = some ((fun _ => .slice none 0 0) i : Value)
  | 0, _ => rfl
  | 1, _ => rfl
  | n + 2, h => absurd h (by simp)
set_option maxRecDepth 100000 in
set_option maxHeartbeats 8000000 in
theorem toModel_any (v : Value) (ds : List Int) (cs : List Con) (w : World) (hM : SMod w v ds cs) :
    Calls Try.prog 20 #[v] w (NewMod ds cs w) := by
  obtain ⟨ve, vc, rfl, hE, hC⟩ := hM
  obtain ⟨Ae, ce, rfl, -, -⟩ := hE.form
  obtain ⟨Ac, cc, rfl, -, -⟩ := hC.form
  obtain ⟨w0, hw0⟩ : ∃ w0, w0 = ((w.alloc (.cells #[.slice Ae ds.length ce, .slice Ac cs.length cc] 43)).alloc (.cells #[.slice none 0 0, .slice none 0 0] 48)).alloc (.cells #[.slice none 0 0, .slice none 0 0] 48) := ⟨_, rfl⟩
  have hx0 : Ext w w0 := by rw [hw0]; exact (((Ext.refl w).alloc _).alloc _).alloc _
  have hs0 : w0.heap.size = w.heap.size + 3 := by rw [hw0]; simp
  have k0 : w0.cell? ⟨w.heap.size, 0, none⟩ = some (.slice Ae ds.length ce) := by rw [hw0]; go_simp
  have k1 : w0.cell? ⟨w.heap.size, 1, none⟩ = some (.slice Ac cs.length cc) := by rw [hw0]; go_simp
  have r1 : w0.rowIs (w.heap.size + 1) 48 2 (fun _ => .slice none 0 0) := by
    rw [hw0]
    have h := World.rowIs_alloc (w.alloc (.cells #[.slice Ae ds.length ce, .slice Ac cs.length cc] 43)) #[.slice none 0 0, .slice none 0 0] 48 _ nil2_at
    rw [World.size_alloc] at h
    exact ((Ext.refl _).alloc _).row h
  have r2 : w0.rowIs (w.heap.size + 2) 48 2 (fun _ => .slice none 0 0) := by
    rw [hw0]
    have h := World.rowIs_alloc ((w.alloc (.cells #[.slice Ae ds.length ce, .slice Ac cs.length cc] 43)).alloc (.cells #[.slice none 0 0, .slice none 0 0] 48)) #[.slice none 0 0, .slice none 0 0] 48 _ nil2_at
    rw [World.size_alloc, World.size_alloc] at h
    exact h
  have HX0 := hide hx0
  have hE0 := hide (hE.ext hx0)
  have hC0 := hide hC
  have R1 := hide r1
  have R2 := hide r2
  clear hE hC hx0 r1 r2
  go_enter Try.func20, Try.ntmps20
  go_wp2_with fail
  rw [← hw0]
  clear hw0
  refine (toIntS_any _ ds _ hE0.out).mono ?_
  rintro e w1 ⟨bd, hbd, rfl, hrd, hx1⟩
  have HX1 := hide hx1
  have HRD := hide hrd
  have r2a := hx1.row R2.out
  have R2A := hide r2a
  have c20 := r2a.cell (i := 0) (by omega)
  have z20 := r2a.frozen 0
  have hs1 := hx1.size
  have k1 := (hx1.cells _ _ (show w.heap.size < w0.heap.size by omega)).trans k1
  clear hx1 hrd r2a k0
  go_wp2_with fail
  obtain ⟨u1, hu1⟩ : ∃ u1, u1 = w1.setCell ⟨w.heap.size + 2, 0, none⟩ (.slice (some ⟨bd, 0, none⟩) ds.length ds.length) := ⟨_, rfl⟩
  have HE1 := hide (show Ext w u1 by rw [hu1]; exact (HX0.out.trans HX1.out).set (p := ⟨w.heap.size + 2, 0, none⟩) (by show w.heap.size ≤ w.heap.size + 2; omega) _)
  have HRD1 := hide (show u1.rowIs bd 3 ds.length (icell ds ds.length) by rw [hu1]; exact HRD.out.setOther (by show bd ≠ w.heap.size + 2; omega) _)
  have R21 := hide (show u1.rowIs (w.heap.size + 2) 48 2 _ by rw [hu1]; exact R2A.out.set 0 _)
  have R11 := hide (show u1.rowIs (w.heap.size + 1) 48 2 _ by rw [hu1]; exact (HX1.out.row R1.out).setOther (by show w.heap.size + 1 ≠ w.heap.size + 2; omega) _)
  have hsu : w1.heap.size = u1.heap.size := by rw [hu1]; simp [World.setCell]
  rw [← hu1]
  clear hu1 c20 z20 k1
  refine (toConstraintS_any _ cs _ (hC0.out.ext HE1.out)).mono ?_
  rintro e w3 ⟨bo, F, hbo, rfl, hro, hca, hx3⟩
  have r2a := hx3.row R21.out
  have R2A := hide r2a
  have c20 : w3.cell? ⟨w.heap.size + 2, 0, none⟩ = some (.slice (some ⟨bd, 0, none⟩) ds.length ds.length) := r2a.cell (i := 0) (by omega)
  have c21 := r2a.cell (i := 1) (by omega)
  have z21 := r2a.frozen 1
  have hs3 := hx3.size
  have r1a := hx3.row R11.out
  have R1A := hide r1a
  have d0 := r1a.cell (i := 0) (by omega)
  have d1 := r1a.cell (i := 1) (by omega)
  have y0 := r1a.frozen 0
  have y1 := r1a.frozen 1
  have HRD3 := hide (hx3.row HRD1.out)
  have HRO := hide hro
  have HCA := hide hca
  have HE3 := hide (HE1.out.trans hx3)
  clear hx3 hro hca r2a r1a
  go_wp2_with fail
  (try simp only [Exit.inBlock, Exit.then])
  refine bodyPost_ret (v := modV ds cs bd bo) (by simp only [results, Try.results20]; go_simp; rfl) rfl ?_
  have p0 := R1A.out.setOther (a := ⟨w.heap.size + 2, 1, none⟩) (by show w.heap.size + 1 ≠ w.heap.size + 2; omega) (.slice (some ⟨bo, 0, none⟩) cs.length cs.length)
  have g1 : bd ≠ w.heap.size + 2 := by omega
  have g2 : bd ≠ w.heap.size + 1 := by omega
  have g3 : bo ≠ w.heap.size + 2 := by omega
  have g4 : bo ≠ w.heap.size + 1 := by omega
  refine ⟨bd, bo, F, rfl, ⟨by omega, by omega, ?_, ?_, fun i hi => ?_⟩, ?_⟩
  · exact ((HRD3.out.setOther g1 _).setOther g2 _).setOther g2 _
  · exact ((HRO.out.setOther g3 _).setOther g4 _).setOther g4 _
  · obtain ⟨bv, ba, br, e0, e1, e2, e3, e4, h5⟩ := (HCA.out i hi).ex
    have q0 := (h5.mono (show w.heap.size ≤ u1.heap.size by omega)).setTy (o := 1) R2A.out (by decide) (by decide) (.slice (some ⟨bo, 0, none⟩) cs.length cs.length)
    exact ⟨bv, ba, br, e0, e1, e2, e3, e4, (q0.setTy p0 (by decide) (by decide) _).setTy (p0.set 0 _) (by decide) (by decide) _⟩
  · exact ((HE3.out.set (p := ⟨w.heap.size + 2, 1, none⟩) (by show w.heap.size ≤ w.heap.size + 2; omega) _).set (p := ⟨w.heap.size + 1, 0, none⟩) (by show w.heap.size ≤ w.heap.size + 1; omega) _).set (p := ⟨w.heap.size + 1, 1, none⟩) (by show w.heap.size ≤ w.heap.size + 1; omega) _
end Go.Proofs.Ytpnlambndbfenaa
