/- Draws of the generator: a model that needs search. -/
import Derived.Test.YtfejhenbpnijhaaGreatDrwB
import Derived.Deep.CutBlock
import Derived.Deep.DeepCutAuto
import Derived.Test.YtfejhenbpnijhaaGreatRdA
namespace Go.Proofs.YtfejhenbpnijhaaGreat
open Go.RowKit
attribute [local go_sem] evalOf

/-- A constraint in the making, in block b. -/
structure TJ (w0 : World) (br N B : Nat) (W4 wx : World) (b : Nat) (c : Con) : Prop where
  b0 : W4.heap.size ≤ b
  rb : RB b 5 wx
  cv : CV5 99 (fun k => B ≤ k ∧ k ≠ b) wx (fun j => wx.cell? ⟨b, j, none⟩) c
  rd : RdSt w0 br N wx
  kp : Keep (fun k => k ≠ br) W4 wx
theorem CV5.mono9 {L : Nat} {S : Nat → Prop} {w : World} {b : Nat} {w' : World} {c : Con} (h : CV5 L S w' (fun j => w.cell? ⟨b, j, none⟩) c) (hc : ∀ j, w'.cell? ⟨b, j, none⟩ = w.cell? ⟨b, j, none⟩) : CV5 L S w' (fun j => w'.cell? ⟨b, j, none⟩) c := h.cast fun j _ => (hc j).symm
theorem TJ.keep {w0 : World} {br N M B : Nat} {W4 wx w2 : World} {b : Nat} {c : Con} (h : TJ w0 br N B W4 wx b c) (hbr : br < W4.heap.size) (hB : br < B) (hR : RdSt w0 br M w2) (hK : Keep (fun k => k ≠ br) wx w2) : TJ w0 br M B W4 w2 b c := by
  have b0 := h.b0
  refine ⟨b0, h.rb.keep hK (by omega), CV5.mono9 (h.cv.keep hK (fun k hk => by omega)) (fun j => hK.cell (p := ⟨b, j, none⟩) h.rb.1 (by show b ≠ br; omega)), hR, h.kp.trans hK⟩
theorem TJ.mono {w0 : World} {br N M B : Nat} {W4 wx : World} {b : Nat} {c : Con} (h : TJ w0 br N B W4 wx b c) (hM : N ≤ M) : TJ w0 br M B W4 wx b c := ⟨h.b0, h.rb, h.cv, h.rd.mono hM, h.kp⟩
theorem TJ.mk9 {w0 : World} {br N M B : Nat} {W4 w : World} {b : Nat} {c : Con} {vv va vr : Value} (hb0 : W4.heap.size ≤ b) (hrb : RB b 5 w) (hR : RdSt w0 br N w) (hK : Keep (fun k => k ≠ br) W4 w)
    (i1 : IV (fun k => B ≤ k ∧ k ≠ b) w vv c.vars) (i2 : IV (fun k => B ≤ k ∧ k ≠ b) w va c.args) (i3 : RV (fun k => B ≤ k ∧ k ≠ b) w vr c.rows) (hl : 0 < c.vars.length ∧ c.vars.length ≤ 99 ∧ c.args.length ≤ 99) (hbr : br < W4.heap.size) (hM : N ≤ M) :
    TJ w0 br M B W4 (((((w.setCell ⟨b, 0, none⟩ (.int .i64 c.kk)).setCell ⟨b, 1, none⟩ vv).setCell ⟨b, 2, none⟩ va).setCell ⟨b, 3, none⟩ (.int .i64 c.bound)).setCell ⟨b, 4, none⟩ vr) b c := by
  have hk : Keep (fun k => k ≠ b) w (((((w.setCell ⟨b, 0, none⟩ (.int .i64 c.kk)).setCell ⟨b, 1, none⟩ vv).setCell ⟨b, 2, none⟩ va).setCell ⟨b, 3, none⟩ (.int .i64 c.bound)).setCell ⟨b, 4, none⟩ vr) := by
    (repeat refine Keep.set ?_ (fun _ hh => hh rfl) _); exact Keep.refl _ _
  obtain ⟨hbl, u0, u1, u2, u3, u4, t0, t1, t2, t3, t4, -⟩ := hrb.five
  have hge := hR.ge
  have hex := hR.ext.size
  have g0 : (w.setCell ⟨b, 0, none⟩ (.int .i64 c.kk)).cell? ⟨b, 0, none⟩ = some (.int .i64 c.kk) := World.cell?_setCell_same' _ _ _ (by rw [t0]; rfl)
  have oth : ∀ (w : World) (i j : Nat) (x : Value), i ≠ j → (w.setCell ⟨b, j, none⟩ x).cell? ⟨b, i, none⟩ = w.cell? ⟨b, i, none⟩ := fun w i j x hij => World.cell?_setCell_other _ _ _ _ (by intro e; injection e with _ e; omega)
  have sam : ∀ (w : World) (i : Nat) (x u : Value), w.cell? ⟨b, i, none⟩ = some u → (w.setCell ⟨b, i, none⟩ x).cell? ⟨b, i, none⟩ = some x := fun w i x u hu => World.cell?_setCell_same' _ _ _ (by rw [hu]; rfl)
  refine ⟨hb0, ⟨Nat.lt_of_lt_of_le hbl hk.size, fun i => ?_, fun i hi => ?_⟩, ⟨vv, va, vr, ?_, ?_, ?_, ?_, ?_, i1.keep hk (fun k hk => hk.2), i2.keep hk (fun k hk => hk.2), i3.keep hk (fun k hk => hk.2), hl⟩, (hR.mono hM).keep hk (by omega) (fun k hk => by omega), hK.trans9 hk (fun k hk _ => by omega)⟩
  · rw [World.frozen?_setCell, World.frozen?_setCell, World.frozen?_setCell, World.frozen?_setCell, World.frozen?_setCell]
    exact hrb.2.1 i
  · obtain rfl | rfl | rfl | rfl | rfl : i = 0 ∨ i = 1 ∨ i = 2 ∨ i = 3 ∨ i = 4 := by omega
    · exact ⟨_, by rw [oth _ 0 4 _ (by omega), oth _ 0 3 _ (by omega), oth _ 0 2 _ (by omega), oth _ 0 1 _ (by omega)]; exact sam _ _ _ _ t0⟩
    · exact ⟨_, by rw [oth _ 1 4 _ (by omega), oth _ 1 3 _ (by omega), oth _ 1 2 _ (by omega)]; exact sam _ _ _ _ (by rw [oth _ 1 0 _ (by omega)]; exact t1)⟩
    · exact ⟨_, by rw [oth _ 2 4 _ (by omega), oth _ 2 3 _ (by omega)]; exact sam _ _ _ _ (by rw [oth _ 2 1 _ (by omega), oth _ 2 0 _ (by omega)]; exact t2)⟩
    · exact ⟨_, by rw [oth _ 3 4 _ (by omega)]; exact sam _ _ _ _ (by rw [oth _ 3 2 _ (by omega), oth _ 3 1 _ (by omega), oth _ 3 0 _ (by omega)]; exact t3)⟩
    · exact ⟨_, sam _ _ _ _ (by rw [oth _ 4 3 _ (by omega), oth _ 4 2 _ (by omega), oth _ 4 1 _ (by omega), oth _ 4 0 _ (by omega)]; exact t4)⟩
  · show World.cell? _ _ = _
    rw [oth _ 0 4 _ (by omega), oth _ 0 3 _ (by omega), oth _ 0 2 _ (by omega), oth _ 0 1 _ (by omega)]; exact sam _ _ _ _ t0
  · show World.cell? _ _ = _
    rw [oth _ 1 4 _ (by omega), oth _ 1 3 _ (by omega), oth _ 1 2 _ (by omega)]; exact sam _ _ _ _ (by rw [oth _ 1 0 _ (by omega)]; exact t1)
  · show World.cell? _ _ = _
    rw [oth _ 2 4 _ (by omega), oth _ 2 3 _ (by omega)]; exact sam _ _ _ _ (by rw [oth _ 2 1 _ (by omega), oth _ 2 0 _ (by omega)]; exact t2)
  · show World.cell? _ _ = _
    rw [oth _ 3 4 _ (by omega)]; exact sam _ _ _ _ (by rw [oth _ 3 2 _ (by omega), oth _ 3 1 _ (by omega), oth _ 3 0 _ (by omega)]; exact t3)
  · exact sam _ _ _ _ (by rw [oth _ 4 3 _ (by omega), oth _ 4 2 _ (by omega), oth _ 4 1 _ (by omega), oth _ 4 0 _ (by omega)]; exact t4)

end Go.Proofs.YtfejhenbpnijhaaGreat
/- Draws of the generator: a model that is mostly hard; models and numbers. -/
namespace Go.Proofs.YtfejhenbpnijhaaGreat
open Go.RowKit

/-- A model is copied into the result's block rb. -/
theorem FGot.done {w0 : World} {br N M K B n rb : Nat} {lo hi : Int} {W Wx w w' : World} {dv cv : Value} {cs : List Con} (hmf : MF Wx.heap.size B lo hi w dv cv n cs) (hlo : -1 ≤ lo) (hhi : hi ≤ 64) (hcs : cs.length ≤ K) (hR : RdSt w0 br N w) (hK : Keep (fun k => k ≠ br) W w)
    (hk : Keep (fun k => k ≠ rb) w w') (hrb : rb = W.heap.size) (hWx : W.heap.size < Wx.heap.size) (hbr : br < W.heap.size) (hw0 : w0.heap.size ≤ W.heap.size) (hN : N ≤ M) : FGot w0 br M K W (.returned (.agg #[dv, cv])) w' :=
  ⟨dv, cv, n, cs, B, rfl, (hmf.keep hk (fun k hk => by omega)).mono (by omega) hlo hhi, hcs, (hR.keep hk (by omega) (fun k hk => by omega)).mono hN, hK.trans9 hk (fun k hk _ => by omega)⟩
theorem ext_of_keep {w W2 W3 : World} {S : Nat → Prop} (h : Keep (fun k => k < w.heap.size) w W2) (hk : Keep S W2 W3) (hS : ∀ k, k < w.heap.size → S k) : Ext w W3 := by
  have ht2 := h.then hk (fun k hk _ => hS k hk)
  exact ⟨ht2.os, ht2.tape, ht2.output, ht2.size, fun k hk => ht2.block k hk hk⟩
/-- A model came. -/
def DModGot (w : World) (e : Ending) (W' : World) : Prop :=
  ∃ vd vc ds cs, e = .returned (.agg #[vd, vc]) ∧ SInts W' vd ds ∧ SCons W' vc cs ∧ 1 ≤ ds.length ∧ ds.length ≤ 4 ∧ Ext w W'
end Go.Proofs.YtfejhenbpnijhaaGreat
/- Draws of the generator: a model, a variable and a value; a model that is often singleton consistent. -/
namespace Go.Proofs.YtfejhenbpnijhaaGreat
open Go.RowKit

/-- The model stands in block W2.heap.size. -/
structure MS (w0 : World) (br N : Nat) (W2 W : World) (n cap g : Nat) (Ac : Option Addr) (ec : Nat) (cs : List Con) : Prop where
  m0 : W.cell? ⟨W2.heap.size, 0, none⟩ = some (.slice (some ⟨g, 0, none⟩) n cap)
  m1 : W.cell? ⟨W2.heap.size, 1, none⟩ = some (.slice Ac cs.length ec)
  fz : ∀ i, W.frozen? ⟨W2.heap.size, i, none⟩ = false
  sz : W2.heap.size < W.heap.size
  kp : Keep (fun k => k ≠ br) W2 W
  rd : RdSt w0 br N W
theorem MS.keep {w0 : World} {br N M : Nat} {W2 W W' : World} {n cap g : Nat} {Ac : Option Addr} {ec : Nat} {cs : List Con} (h : MS w0 br N W2 W n cap g Ac ec cs) (hb : W2.heap.size ≠ br) (hR : RdSt w0 br M W') (hK : Keep (fun k => k ≠ br) W W') : MS w0 br M W2 W' n cap g Ac ec cs :=
  ⟨(hK.cell (p := ⟨W2.heap.size, 0, none⟩) h.sz hb).trans h.m0, (hK.cell (p := ⟨W2.heap.size, 1, none⟩) h.sz hb).trans h.m1, fun i => (hK.frz (p := ⟨W2.heap.size, i, none⟩) h.sz hb).trans (h.fz i), Nat.lt_of_lt_of_le h.sz hK.size, h.kp.trans hK, hR⟩
/-- A model and two numbers came. -/
def DProbeGot (w : World) (e : Ending) (W' : World) : Prop :=
  ∃ vd vc ds cs i a, e = .returned (.tuple #[.agg #[vd, vc], .int .i64 i, .int .i64 a]) ∧ SInts W' vd ds ∧ SCons W' vc cs ∧ 1 ≤ ds.length ∧ ds.length ≤ 4 ∧ -1 ≤ i ∧ i ≤ 4 ∧ -1 ≤ a ∧ a ≤ 6 ∧ Ext w W'
end Go.Proofs.YtfejhenbpnijhaaGreat
