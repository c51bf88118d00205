/- The walk of the law FnExactIntersectAutomata: it returns true. -/
import Derived.Test.YtbdialoimbooeaaLawMark
import Derived.Test.YtbdialoimbooeaaMcIn
import Derived.Test.YtbdialoimbooeaaRel
namespace Go.Proofs.Ytbdialoimbooeaa
open Go.RowKit
attribute [local go_sem] evalOf

theorem SRows.setNo {w : World} {v : Value} {rs : List (List Int)} (h : SRows w v rs) {p : Addr} {u : Value} (hp : w.cell? p = some (.slice none 0 0)) (hl : ∀ i, i < rs.length → 0 < (rw0 rs i).length) : SRows (w.setCell p u) v rs := by
  obtain ⟨A, c, h1, h2, h3, h5⟩ := h
  refine ⟨A, c, h1, h2, h3, fun h0 => ?_⟩
  obtain ⟨b, off, e, hb, hc⟩ := h5 h0
  refine ⟨b, off, e, by simpa [World.setCell] using hb, fun i hi => ?_⟩
  obtain ⟨rv, k1, k2⟩ := hc i hi
  refine ⟨rv, (World.cell?_setCell_other _ _ _ _ (fun e2 => ?_)).trans k1, k2.setNo hp (by intro n e; cases e)⟩
  rw [← e2, hp] at k1
  injection k1 with k1
  obtain ⟨A2, c2, e3, -⟩ := k2
  rw [← k1] at e3
  injection e3 with _ e3 _
  have := hl i hi
  omega
def fst0 : Value → Value
  | .tuple vs => vs.getD 0 undef
  | _ => undef
def snd0 : Value → Value
  | .tuple vs => vs.getD 1 undef
  | _ => undef
/-- A copy of an automaton that came. -/
def RS.cp (D : List Nat) (a : Au) : RS := ⟨D, fun _ v W => ∃ b b', v = .agg #[.slice (some ⟨b, 0, none⟩) a.next.length a.next.length, .slice (some ⟨b', 0, none⟩) a.final.length a.final.length] ∧ SRows W (.slice (some ⟨b, 0, none⟩) a.next.length a.next.length) a.next ∧ SInts W (.slice (some ⟨b', 0, none⟩) a.final.length a.final.length) a.final,
  fun _ _ _ _ ⟨b, b', h1, h2, h3⟩ hx => ⟨b, b', h1, h2.ext hx, h3.ext hx⟩⟩
/-- The answer on two automata. -/
def RS.au (a b : Au) : RS := ⟨[1, 3], fun _ v W => ∃ ok rows fins A c A' c', v = .tuple #[.agg #[.slice A rows.length c, .slice A' fins.length c'], .bool ok] ∧ IntV a b ok rows fins ∧ SRows W (.slice A rows.length c) rows ∧ SInts W (.slice A' fins.length c') fins,
  by rintro vs v W W' ⟨ok, rows, fins, A, c, A', c', h1, h2, h3, h4⟩ hx; exact ⟨ok, rows, fins, A, c, A', c', h1, h2, h3.ext hx, h4.ext hx⟩⟩
/-- A tuple that is handed on. -/
def RS.mv (D : List Nat) : RS := ⟨D, fun vs v _ => v = vs.getD 0 undef ∧ ∃ x y, v = .tuple #[x, y], fun _ _ _ _ h _ => h⟩
/-- A new box of two cells. -/
def RS.box (B : Nat) : RS := ⟨[], fun _ v W => ∃ g, v = .pointer (some ⟨g, 0, none⟩) ∧ B ≤ g ∧ g < W.heap.size ∧ W.frozen? ⟨g, 0, none⟩ = false ∧ W.frozen? ⟨g, 1, none⟩ = false ∧ W.cell? ⟨g, 0, none⟩ = some (.slice none 0 0) ∧ W.cell? ⟨g, 1, none⟩ = some (.slice none 0 0),
  fun _ _ _ _ ⟨g, h1, h2, h3, h4, h5, h6, h7⟩ hx => ⟨g, h1, h2, Nat.lt_of_lt_of_le h3 hx.size, (hx.frz _ _ h3).trans h4, (hx.frz _ _ h3).trans h5, (hx.cells _ _ h3).trans h6, (hx.cells _ _ h3).trans h7⟩⟩
set_option maxRecDepth 100000 in
set_option maxHeartbeats 32000000 in
theorem lawIntersect (vn vf vn2 vf2 : Value) (a b : Au) (w : World) (hN : SRows w vn a.next) (hF : SInts w vf a.final) (hN2 : SRows w vn2 b.next) (hF2 : SInts w vf2 b.final) :
    Calls Try.prog 5 #[.agg #[vn, vf], .agg #[vn2, vf2]] w (Ret (.bool true) w) := by
  have hNo := hide hN.ok
  have hFb := hF.bytes
  have hFi := hide (fun i (hi : i < a.final.length) => hF.i64 hi)
  have hNo2 := hide hN2.ok
  have hFb2 := hF2.bytes
  have hFi2 := hide (fun i (hi : i < b.final.length) => hF2.i64 hi)
  have hN0 := hide hN
  have hF0 := hide hF
  have hP0 := hide hN2
  have hG0 := hide hF2
  obtain ⟨A, c, rfl, -, hln⟩ := hN.form
  obtain ⟨A', c', rfl, -, hlf⟩ := hF.form
  obtain ⟨B, d, rfl, -, hln2⟩ := hN2.form
  obtain ⟨B', d', rfl, -, hlf2⟩ := hF2.form
  clear hN hF hN2 hF2
  have hx0 := ((Ext.refl w).alloc (.cells #[.slice A a.next.length c, .slice A' a.final.length c'] 25)).alloc (.cells #[.slice B b.next.length d, .slice B' b.final.length d'] 25)
  have p0 : ((w.alloc (.cells #[.slice A a.next.length c, .slice A' a.final.length c'] 25)).alloc (.cells #[.slice B b.next.length d, .slice B' b.final.length d'] 25)).cell? ⟨w.heap.size, 0, none⟩ = some (.slice A a.next.length c) := by go_simp
  have p1 : ((w.alloc (.cells #[.slice A a.next.length c, .slice A' a.final.length c'] 25)).alloc (.cells #[.slice B b.next.length d, .slice B' b.final.length d'] 25)).cell? ⟨w.heap.size, 1, none⟩ = some (.slice A' a.final.length c') := by go_simp
  have q0 : ((w.alloc (.cells #[.slice A a.next.length c, .slice A' a.final.length c'] 25)).alloc (.cells #[.slice B b.next.length d, .slice B' b.final.length d'] 25)).cell? ⟨w.heap.size + 1, 0, none⟩ = some (.slice B b.next.length d) := by go_simp
  have q1 : ((w.alloc (.cells #[.slice A a.next.length c, .slice A' a.final.length c'] 25)).alloc (.cells #[.slice B b.next.length d, .slice B' b.final.length d'] 25)).cell? ⟨w.heap.size + 1, 1, none⟩ = some (.slice B' b.final.length d') := by go_simp
  have P0 := hide p0
  have P1 := hide p1
  have Q0 := hide q0
  have Q1 := hide q1
  have hsz : ((w.alloc (.cells #[.slice A a.next.length c, .slice A' a.final.length c'] 25)).alloc (.cells #[.slice B b.next.length d, .slice B' b.final.length d'] 25)).heap.size = w.heap.size + 2 := by simp
  have HX0 := hide hx0
  have HSZ := hide hsz
  clear p0 p1 q0 q1 hx0 hsz
  go_enter Try.func5, Try.ntmps5
  go_wp2_with fail
  generalize hw0 : (w.alloc (.cells #[.slice A a.next.length c, .slice A' a.final.length c'] 25)).alloc (.cells #[.slice B b.next.length d, .slice B' b.final.length d'] 25) = w0 at *
  clear hw0
  refine (szAutomaton2_any _ _ a _ _ (hN0.out.ext HX0.out) (hF0.out.ext HX0.out) (by omega) (by omega)).mono ?_
  rintro e w1 ⟨r, rfl, hr, hx1⟩
  have hsw0 : w.heap.size < w0.heap.size := by rw [HSZ.out]; omega
  have hsw01 : w.heap.size + 1 < w0.heap.size := by rw [HSZ.out]; omega
  have q0 := (hx1.cells _ _ hsw01).trans Q0.out
  have q1 := (hx1.cells _ _ hsw01).trans Q1.out
  rcases hr with rfl | ⟨hr0, hz1, hz2, hz3, hz4⟩
  · have HX := hide (HX0.out.trans hx1)
    clear hx1
    go_wp2_with fail
    go_ret
    exact Ret.mk rfl HX.out
  · have hrn : ¬ (r < 0) := by omega
    have HX1 := hide hx1
    clear hx1
    go_wp2_with fail
    refine (szAutomaton2_any _ _ b _ _ (hP0.out.ext (HX0.out.trans HX1.out)) (hG0.out.ext (HX0.out.trans HX1.out)) (by omega) (by omega)).mono ?_
    rintro e w2 ⟨r2, rfl, hr2, hx2⟩
    have HX2 := hide (HX1.out.trans hx2)
    have p0 := (HX2.out.cells _ _ hsw0).trans P0.out
    have p1 := (HX2.out.cells _ _ hsw0).trans P1.out
    have q0 := (HX2.out.cells _ _ hsw01).trans Q0.out
    have q1 := (HX2.out.cells _ _ hsw01).trans Q1.out
    have hs2 : w.heap.size + 1 + 1 ≤ w2.heap.size := by have := HX2.out.size; have := HSZ.out; omega
    clear hx2
    rcases hr2 with rfl | ⟨hr02, hy1, hy2, hy3, hy4⟩
    · go_wp2_with fail
      go_ret
      exact Ret.mk rfl (HX0.out.trans HX2.out)
    have hrn2 : ¬ (r2 < 0) := by omega
    go_wp2_with fail
    refine wp_region_relFT (n := 9) (ts := [9, 10]) (sp := [RS.q [] (fun _ => .agg #[.slice A a.next.length c, .slice A' a.final.length c']), RS.cp [0] a, RS.q [] (fun _ => .agg #[.slice B b.next.length d, .slice B' b.final.length d']), RS.cp [2] b, RS.au a b, RS.mv [4], RS.q [5] (fun vs => fst0 (vs.getD 0 undef)), RS.q [5] (fun vs => snd0 (vs.getD 0 undef)), RS.box w2.heap.size])
      (HeldE w2 w.heap.size (.slice A a.next.length c) (.slice A' a.final.length c') (.slice B b.next.length d) (.slice B' b.final.length d')) (by kernel_rfl) (relOK (D := [[], [0], [], [2], [1, 3], [4], [5], [5], []]) (fl := [7]) rfl (by kernel_rfl) rfl) (by kernel_rfl) (by intro c a d v w h; cases d <;> exact h) (by kernel_rfl) (fun W W' h hx => h.grow hx) ⟨⟨(Ext.refl w2).drew, hs2⟩, p0, p1, q0, q1⟩ ?flt ?steps ?ends
    case flt =>
      refine ⟨?_, trivial⟩
      · intro o ho V τ W hC hf ht h0
        injection ho with ho; subst ho
        obtain ⟨-, x, y, e5⟩ := (show V 5 = _ ∧ ∃ x y, V 5 = .tuple #[x, y] from hf 5 (by simp [RS.at_, RS.q]))
        have s27 := (ht 5 (by simp [RS.at_, RS.q]) 27 rfl).trans e5
        refine ⟨snd0 (V 5), ?_, rfl⟩
        rw [e5]
        intro w'
        go_simp
        rfl
    case steps =>
      refine ⟨?_, ?_, ?_, ?_, ?_, ?_, ?_, ?_, ?_, trivial⟩
      · intro V τ W hC hf ht h0
        have s2 : τ 2 = .pointer (some ⟨w.heap.size, 0, none⟩) := h0 2 (by kernel_rfl)
        obtain ⟨⟨hxB, hsB⟩, k0, k1, k2, k3⟩ := hC
        refine Does.val (w' := W) (v := .agg #[.slice A a.next.length c, .slice A' a.final.length c']) ?_ ⟨Ext.refl W, rfl⟩
        go_simp
      · intro V τ W hC hf ht h0
        obtain ⟨⟨hxB, hsB⟩, k0, k1, k2, k3⟩ := hC
        have f0 : V 0 = .agg #[.slice A a.next.length c, .slice A' a.final.length c'] := hf 0 (by simp [RS.at_, RS.cp])
        have s28 : τ 28 = .agg #[.slice A a.next.length c, .slice A' a.final.length c'] := (ht 0 (by simp [RS.at_, RS.cp]) 28 rfl).trans f0
        have hxW := (HX0.out.trans HX2.out).trans hxB
        refine Does.call (w' := W) (f := 9) (args := #[.agg #[.slice A a.next.length c, .slice A' a.final.length c']]) (by go_simp; all_goals (first | exact rfl | (apply And.intro <;> exact rfl))) ?_
        refine (toAutomaton_any _ _ a _ (hN0.out.ext hxW) (hF0.out.ext hxW)).mono ?_
        rintro e wa ⟨ba, ba', -, -, rfl, hka, hra, hxa⟩
        exact ⟨_, rfl, hxa, ba, ba', rfl, hka.rows hNo.out.1 hNo.out.2.1 hNo.out.2.2, SInts.of_row hra hFb hFi.out⟩
      · intro V τ W hC hf ht h0
        have s3 : τ 3 = .pointer (some ⟨w.heap.size + 1, 0, none⟩) := h0 3 (by kernel_rfl)
        obtain ⟨⟨hxB, hsB⟩, k0, k1, k2, k3⟩ := hC
        refine Does.val (w' := W) (v := .agg #[.slice B b.next.length d, .slice B' b.final.length d']) ?_ ⟨Ext.refl W, rfl⟩
        go_simp
      · intro V τ W hC hf ht h0
        obtain ⟨⟨hxB, hsB⟩, k0, k1, k2, k3⟩ := hC
        have f0 : V 2 = .agg #[.slice B b.next.length d, .slice B' b.final.length d'] := hf 2 (by simp [RS.at_, RS.cp])
        have s30 : τ 30 = .agg #[.slice B b.next.length d, .slice B' b.final.length d'] := (ht 2 (by simp [RS.at_, RS.cp]) 30 rfl).trans f0
        have hxW := (HX0.out.trans HX2.out).trans hxB
        refine Does.call (w' := W) (f := 9) (args := #[.agg #[.slice B b.next.length d, .slice B' b.final.length d']]) (by go_simp; all_goals (first | exact rfl | (apply And.intro <;> exact rfl))) ?_
        refine (toAutomaton_any _ _ b _ (hP0.out.ext hxW) (hG0.out.ext hxW)).mono ?_
        rintro e wa ⟨ba, ba', -, -, rfl, hka, hra, hxa⟩
        exact ⟨_, rfl, hxa, ba, ba', rfl, hka.rows hNo2.out.1 hNo2.out.2.1 hNo2.out.2.2, SInts.of_row hra hFb2 hFi2.out⟩
      · intro V τ W hC hf ht h0
        obtain ⟨b1, b1', e1, hN1, hF1⟩ := (show ∃ b b', V 1 = _ ∧ _ ∧ _ from hf 1 (by simp [RS.at_, RS.au]))
        obtain ⟨b2, b2', e2, hN2, hF2⟩ := (show ∃ b b', V 3 = _ ∧ _ ∧ _ from hf 3 (by simp [RS.at_, RS.au]))
        have s29 := (ht 1 (by simp [RS.at_, RS.au]) 29 rfl).trans e1
        have s31 := (ht 3 (by simp [RS.at_, RS.au]) 31 rfl).trans e2
        refine Does.call (w' := W) (f := 16) (args := #[.agg #[.slice (some ⟨b1, 0, none⟩) a.next.length a.next.length, .slice (some ⟨b1', 0, none⟩) a.final.length a.final.length], .agg #[.slice (some ⟨b2, 0, none⟩) b.next.length b.next.length, .slice (some ⟨b2', 0, none⟩) b.final.length b.final.length]]) (by go_simp; all_goals (first | exact rfl | (apply And.intro <;> exact rfl))) ?_
        refine (IntersectS_any _ _ _ _ a b _ hN1 hF1 hN2 hF2).mono ?_
        rintro e wa ⟨ok, rows, fins, hV, vn3, vf3, rfl, hS3, hI3, hx3⟩
        obtain ⟨A3, c3, rfl, -, -⟩ := hS3.form
        obtain ⟨A4, c4, rfl, -, -⟩ := hI3.form
        exact ⟨_, rfl, hx3, ok, rows, fins, A3, c3, A4, c4, rfl, hV, hS3, hI3⟩
      · intro V τ W hC hf ht h0
        obtain ⟨ok, rows, fins, A3, c3, A4, c4, e4, -⟩ := (show ∃ ok rows fins A c A' c', V 4 = _ ∧ _ from hf 4 (by simp [RS.at_, RS.mv]))
        have s32 := ht 4 (by simp [RS.at_, RS.mv]) 32 rfl
        refine Does.val (w' := W) (v := V 4) ?_ ⟨Ext.refl W, rfl, _, _, e4⟩
        go_simp
      · intro V τ W hC hf ht h0
        obtain ⟨-, x, y, e5⟩ := (show V 5 = _ ∧ ∃ x y, V 5 = .tuple #[x, y] from hf 5 (by simp [RS.at_, RS.q]))
        have s27 := (ht 5 (by simp [RS.at_, RS.q]) 27 rfl).trans e5
        refine Does.val (w' := W) (v := fst0 (V 5)) ?_ ⟨Ext.refl W, rfl⟩
        rw [e5]
        go_simp
        rfl
      · intro V τ W hC hf ht h0
        obtain ⟨-, x, y, e5⟩ := (show V 5 = _ ∧ ∃ x y, V 5 = .tuple #[x, y] from hf 5 (by simp [RS.at_, RS.q]))
        have s27 := (ht 5 (by simp [RS.at_, RS.q]) 27 rfl).trans e5
        refine Does.val (w' := W) (v := snd0 (V 5)) ?_ ⟨Ext.refl W, rfl⟩
        rw [e5]
        go_simp
        rfl
      · intro V τ W hC hf ht h0
        obtain ⟨⟨hxB, hsB⟩, k0, k1, k2, k3⟩ := hC
        refine Does.val (w' := W.alloc (.cells #[.slice none 0 0, .slice none 0 0] 27)) (v := .pointer (some ⟨W.heap.size, 0, none⟩)) (by go_simp) ⟨(Ext.refl W).alloc _, W.heap.size, rfl, hxB.size, by simp, by go_simp, by go_simp, by go_simp, by go_simp⟩
    case ends =>
      intro V W hC hf
      have f0 : V 0 = .agg #[.slice A a.next.length c, .slice A' a.final.length c'] := hf 0 (by omega)
      obtain ⟨b1, b1', f1, -⟩ := (show ∃ b b', V 1 = _ ∧ _ from hf 1 (by omega))
      have f2 : V 2 = .agg #[.slice B b.next.length d, .slice B' b.final.length d'] := hf 2 (by omega)
      obtain ⟨b2, b2', f3, -⟩ := (show ∃ b b', V 3 = _ ∧ _ from hf 3 (by omega))
      obtain ⟨ok, rows, fins, A3, c3, A4, c4, f4, hV, hS3, hI3⟩ := (show ∃ ok rows fins A c A' c', V 4 = _ ∧ _ ∧ _ ∧ _ from hf 4 (by omega))
      obtain ⟨f5, -⟩ := (show V 5 = V 4 ∧ _ from hf 5 (by omega))
      have f6 : V 6 = fst0 (V 5) := hf 6 (by omega)
      have f7 : V 7 = snd0 (V 5) := hf 7 (by omega)
      rw [f5, f4] at f6 f7
      have f6 : V 6 = .agg #[.slice A3 rows.length c3, .slice A4 fins.length c4] := f6
      have f7 : V 7 = .bool ok := f7
      rw [f4] at f5
      obtain ⟨g, f8, hg0, hg1, z0, z1, y0, y1⟩ := (show ∃ g, V 8 = _ ∧ _ ∧ _ ∧ _ ∧ _ ∧ _ ∧ _ from hf 8 (by omega))
      clear hf
      simp only [List.take_succ_cons, List.take_zero, putAll, Act.put, List.setIfInBounds_toArray, List.set_cons_succ, List.set_cons_zero, Nat.reduceAdd, f0, f1, f2, f3, f4, f5, f6, f7, f8]
      simp only [nths, nth1]
      have OKA := hide hV.ok
      have hszr := hV.ok.sz
      have hlr := hV.ok.len
      have hlfi := hV.ok.fl
      have hxW := hC.1.1
      have hgw : w.heap.size + 1 + 1 ≤ g := by omega
      have hrl : ∀ i, i < rows.length → 0 < (rw0 rows i).length := fun i hi => by rw [(OKA.out.row i hi).1]; omega
      have y1' : (W.setCell ⟨g, 0, none⟩ (.slice A3 rows.length c3)).cell? ⟨g, 1, none⟩ = some (.slice none 0 0) := (World.cell?_setCell_other _ _ _ _ (by intro e; injection e with e1 e2; omega)).trans y1
      have SN0 := (hS3.setNo (u := .slice A3 rows.length c3) y0 hrl).setNo (u := .slice A4 fins.length c4) y1' hrl
      have SF0 := (hI3.setNo (u := .slice A3 rows.length c3) y0 (by intro n e; cases e)).setNo (u := .slice A4 fins.length c4) y1' (by intro n e; cases e)
      have hD0 : ((W.setCell ⟨g, 0, none⟩ (.slice A3 rows.length c3)).setCell ⟨g, 1, none⟩ (.slice A4 fins.length c4)).cell? ⟨g, 0, none⟩ = some (.slice A3 rows.length c3) := (World.cell?_setCell_other _ _ _ _ (by intro e; injection e with e1 e2; omega)).trans (World.cell?_setCell_same' _ _ _ (by rw [y0]; rfl))
      have hD1 : ((W.setCell ⟨g, 0, none⟩ (.slice A3 rows.length c3)).setCell ⟨g, 1, none⟩ (.slice A4 fins.length c4)).cell? ⟨g, 1, none⟩ = some (.slice A4 fins.length c4) := World.cell?_setCell_same' _ _ _ (by rw [y1']; rfl)
      have hE4 := (hC.set hg0 hgw 0 (.slice A3 rows.length c3)).set hg0 hgw 1 (.slice A4 fins.length c4)
      have hsg4 : g < ((W.setCell ⟨g, 0, none⟩ (.slice A3 rows.length c3)).setCell ⟨g, 1, none⟩ (.slice A4 fins.length c4)).heap.size := by simpa [World.setCell] using hg1
      have SN := hide SN0
      have SF := hide SF0
      have D0 := hide hD0
      have D1 := hide hD1
      have HE4 := hide hE4
      have HSG := hide hsg4
      have HV := hide hV
      clear p0 p1 q0 q1
      obtain ⟨-, p0, p1, q0, q1⟩ := hC
      have n0 : ¬ g = w.heap.size := by omega
      have n1 : ¬ g = w.heap.size + 1 := by omega
      clear SN0 SF0 hD0 hD1 hE4 hsg4 hS3 hI3 hV y1'
      go_wp2_with fail
      generalize hw4 : (W.setCell ⟨g, 0, none⟩ (.slice A3 rows.length c3)).setCell ⟨g, 1, none⟩ (.slice A4 fins.length c4) = w4 at *
      clear hw4 y0 y1 z0 z1 hg1 hxW f0 f1 f2 f3 f4 f5 f6 f7 f8 p0 p1 q0 q1
      obtain ⟨⟨hxW, hs4⟩, p0, p1, q0, q1⟩ := HE4.out
      have P4 := hide p0
      have P5 := hide p1
      have Q4 := hide q0
      have Q5 := hide q1
      have HX4 := hide ((HX0.out.trans HX2.out).trans hxW)
      have hsw : w.heap.size < w4.heap.size := by omega
      have hsw1 : w.heap.size + 1 < w4.heap.size := by omega
      have hsg := HSG.out
      have AN := hide (hN0.out.ext HX4.out)
      have AF := hide (hF0.out.ext HX4.out)
      have BN := hide (hP0.out.ext HX4.out)
      have BF := hide (hG0.out.ext HX4.out)
      clear hxW p0 p1
      refine (toAutomaton_any _ _ a _ AN.out AF.out).mono ?_
      rintro e w5 ⟨b5, b5', hb5, hb5', rfl, hk5, hr5, hx5⟩
      have N5 := hide (hk5.rows hNo.out.1 hNo.out.2.1 hNo.out.2.2)
      have F5 := hide (SInts.of_row hr5 hFb hFi.out)
      obtain ⟨kb5, hA5⟩ := (Apt.nil_ (Ext.refl w4)).newX hb5 hb5' hk5 hr5 hx5
      have H5 := hide (hA5.newC [.slice (some ⟨b5, 0, none⟩) a.next.length a.next.length, .slice (some ⟨b5', 0, none⟩) a.final.length a.final.length] 27 rfl)
      have hx5a := hx5.alloc (.cells #[.slice (some ⟨b5, 0, none⟩) a.next.length a.next.length, .slice (some ⟨b5', 0, none⟩) a.final.length a.final.length] 27)
      have N5 := hide (N5.out.ext ((Ext.refl w5).alloc (.cells #[.slice (some ⟨b5, 0, none⟩) a.next.length a.next.length, .slice (some ⟨b5', 0, none⟩) a.final.length a.final.length] 27)))
      have F5 := hide (F5.out.ext ((Ext.refl w5).alloc (.cells #[.slice (some ⟨b5, 0, none⟩) a.next.length a.next.length, .slice (some ⟨b5', 0, none⟩) a.final.length a.final.length] 27)))
      have hx5q := hide hx5a
      clear hk5 hr5 hx5 hA5 hb5 hb5' q0 q1 hx5a
      have q0 := (hx5q.out.cells _ _ hsw1).trans Q4.out
      have q1 := (hx5q.out.cells _ _ hsw1).trans Q5.out
      go_wp2_with fail
      generalize hw5 : w5.alloc (.cells #[.slice (some ⟨b5, 0, none⟩) a.next.length a.next.length, .slice (some ⟨b5', 0, none⟩) a.final.length a.final.length] 27) = w5a at *
      clear hw5 q0 q1
      refine (toAutomaton_any _ _ b _ (BN.out.ext hx5q.out) (BF.out.ext hx5q.out)).mono ?_
      rintro e w6 ⟨b6, b6', hb6, hb6', rfl, hk6, hr6, hx6⟩
      have N6 := hide ((hk6.rows hNo2.out.1 hNo2.out.2.1 hNo2.out.2.2).ext ((Ext.refl w6).alloc (.cells #[.slice (some ⟨b6, 0, none⟩) b.next.length b.next.length, .slice (some ⟨b6', 0, none⟩) b.final.length b.final.length] 27)))
      have F6 := hide ((SInts.of_row hr6 hFb2 hFi2.out).ext ((Ext.refl w6).alloc (.cells #[.slice (some ⟨b6, 0, none⟩) b.next.length b.next.length, .slice (some ⟨b6', 0, none⟩) b.final.length b.final.length] 27)))
      obtain ⟨kb6, hA6⟩ := H5.out.newX hb6 hb6' hk6 hr6 hx6
      have N5 := hide (N5.out.ext (hx6.alloc (.cells #[.slice (some ⟨b6, 0, none⟩) b.next.length b.next.length, .slice (some ⟨b6', 0, none⟩) b.final.length b.final.length] 27)))
      have F5 := hide (F5.out.ext (hx6.alloc (.cells #[.slice (some ⟨b6, 0, none⟩) b.next.length b.next.length, .slice (some ⟨b6', 0, none⟩) b.final.length b.final.length] 27)))
      have H6 := hide (hA6.newC [.slice (some ⟨b6, 0, none⟩) b.next.length b.next.length, .slice (some ⟨b6', 0, none⟩) b.final.length b.final.length] 27 rfl)
      have x0 := (hA6.cellC 1 rfl 0 rfl).1
      have x1 := (hA6.cellC 1 rfl 1 rfl).1
      have w5w6 : w5.heap.size < w6.heap.size := (hA6.d 1 _ rfl w5.heap.size rfl).2
      clear hk6 hr6 hx6 hA6 hb6 hb6'
      go_wp2_with fail
      generalize hw6 : w6.alloc (.cells #[.slice (some ⟨b6, 0, none⟩) b.next.length b.next.length, .slice (some ⟨b6', 0, none⟩) b.final.length b.final.length] 27) = w6a at *
      clear hw6 x0 x1 w5w6
      refine (IntersectI_any _ _ _ _ a b _ N5.out F5.out N6.out F6.out).mono ?_
      rintro e w7 ⟨ok', rows', fins', hV', A7, c7, A7', c7', rfl, hO⟩
      obtain ⟨rfl, rfl, rfl⟩ := HV.out.uniq hV'
      obtain ⟨hc7, hc7', hx7, kb7, b7, m7, f7, hA7⟩ := H6.out.newG hO
      have H7 := hide (hA7.newC [.slice A7 rows.length c7, .slice A7' fins.length c7'] 27 rfl)
      have N7 := hide (N5.out.ext (hx7.alloc (.cells #[.slice A7 rows.length c7, .slice A7' fins.length c7'] 27)))
      have F7 := hide (F5.out.ext (hx7.alloc (.cells #[.slice A7 rows.length c7, .slice A7' fins.length c7'] 27)))
      have M7 := hide (N6.out.ext (hx7.alloc (.cells #[.slice A7 rows.length c7, .slice A7' fins.length c7'] 27)))
      have G7 := hide (F6.out.ext (hx7.alloc (.cells #[.slice A7 rows.length c7, .slice A7' fins.length c7'] 27)))
      have d0 := (hA7.ext.cells _ _ hsg).trans D0.out
      have d1 := (hA7.ext.cells _ _ hsg).trans D1.out
      have hsg7 : g < w7.heap.size := Nat.lt_of_lt_of_le hsg hA7.ext.size
      have hoo : (ok != ok) = false := by simp
      clear hO hx7 hA7 hV'
      go_wp2_with fail
      have hG7 := (show OutW _ _ A7 rows kb7 ∧ OwnC _ A7' b7 m7 f7 fins ∧ _ from H7.out.p 1 _ rfl)
      refine (eqAutomaton_same _ _ _ _ ⟨rows, fins⟩ _ (OutW.srows (fins := fins) OKA.out hG7.1 hc7) (SInts.own hc7' (show fins.length * 8 ≤ 140737488355328 by omega) hG7.2.1 OKA.out.i64) (SN.out.ext H7.out.ext) (SF.out.ext H7.out.ext)).mono ?_
      rintro e w9 ⟨rfl, hx9⟩
      have H9 := hide (H7.out.grow hx9)
      have N9 := hide (N7.out.ext hx9)
      have F9 := hide (F7.out.ext hx9)
      have M9 := hide (M7.out.ext hx9)
      have G9 := hide (G7.out.ext hx9)
      clear d0 d1 hG7 hx9 hsg7
      have HE9 := hide (HE4.out.grow H9.out.ext)
      have x0 := (H9.out.cellC 4 rfl 0 rfl).1
      have x1 := (H9.out.cellC 4 rfl 1 rfl).1
      have hbx : w5.heap.size < w9.heap.size := (H9.out.d 4 _ rfl w5.heap.size rfl).2
      obtain ⟨⟨-, hs9⟩, p0, p1, -, -⟩ := HE9.out
      go_wp2_with fail
      refine wp_region_relT (n := 5) (ts := []) (sp := [RS.q [] (fun _ => .agg #[.slice (some ⟨b5, 0, none⟩) a.next.length a.next.length, .slice (some ⟨b5', 0, none⟩) a.final.length a.final.length]), RS.q [] (fun _ => .agg #[.slice A a.next.length c, .slice A' a.final.length c']), RS.cp [1] a, RS.q [0, 2] (fun _ => .bool true), RS.q [3] (fun _ => .bool false)])
        (fun W => (Ext w9 W ∧ (w5.heap.size < W.heap.size ∧ w.heap.size < W.heap.size)) ∧ W.cell? ⟨w5.heap.size, 0, none⟩ = some (.slice (some ⟨b5, 0, none⟩) a.next.length a.next.length) ∧ W.cell? ⟨w5.heap.size, 1, none⟩ = some (.slice (some ⟨b5', 0, none⟩) a.final.length a.final.length) ∧ W.cell? ⟨w.heap.size, 0, none⟩ = some (.slice A a.next.length c) ∧ W.cell? ⟨w.heap.size, 1, none⟩ = some (.slice A' a.final.length c')) (by kernel_rfl) (relOK (D := [[], [], [1], [0, 2], [3]]) rfl (by kernel_rfl) rfl) (by kernel_rfl) (fun W W' h hx => ⟨⟨h.1.1.trans hx, Nat.lt_of_lt_of_le h.1.2.1 hx.size, Nat.lt_of_lt_of_le h.1.2.2 hx.size⟩, (hx.cells _ _ h.1.2.1).trans h.2.1, (hx.cells _ _ h.1.2.1).trans h.2.2.1, (hx.cells _ _ h.1.2.2).trans h.2.2.2.1, (hx.cells _ _ h.1.2.2).trans h.2.2.2.2⟩) ⟨⟨(Ext.refl w9).drew, hbx, show w.heap.size < w9.heap.size by omega⟩, x0, x1, p0, p1⟩ ?steps ?ends
      case steps =>
        refine ⟨?_, ?_, ?_, ?_, ?_, trivial⟩
        · intro V τ W hC hf ht h0
          have s8 : τ 8 = .pointer (some ⟨w5.heap.size, 0, none⟩) := h0 8 (by kernel_rfl)
          obtain ⟨⟨hxB, hsB⟩, k0, k1, k2, k3⟩ := hC
          refine Does.val (w' := W) (v := .agg #[.slice (some ⟨b5, 0, none⟩) a.next.length a.next.length, .slice (some ⟨b5', 0, none⟩) a.final.length a.final.length]) ?_ ⟨Ext.refl W, rfl⟩
          go_simp
        · intro V τ W hC hf ht h0
          have s2 : τ 2 = .pointer (some ⟨w.heap.size, 0, none⟩) := h0 2 (by kernel_rfl)
          obtain ⟨⟨hxB, hsB⟩, k0, k1, k2, k3⟩ := hC
          refine Does.val (w' := W) (v := .agg #[.slice A a.next.length c, .slice A' a.final.length c']) ?_ ⟨Ext.refl W, rfl⟩
          go_simp
        · intro V τ W hC hf ht h0
          obtain ⟨⟨hxB, hsB⟩, k0, k1, k2, k3⟩ := hC
          have f0 : V 1 = .agg #[.slice A a.next.length c, .slice A' a.final.length c'] := hf 1 (by simp [RS.at_, RS.cp])
          have s55 : τ 55 = .agg #[.slice A a.next.length c, .slice A' a.final.length c'] := (ht 1 (by simp [RS.at_, RS.cp]) 55 rfl).trans f0
          have hxW := (HX4.out.trans H9.out.ext).trans hxB
          refine Does.call (w' := W) (f := 9) (args := #[.agg #[.slice A a.next.length c, .slice A' a.final.length c']]) (by go_simp; all_goals (first | exact rfl | (apply And.intro <;> exact rfl))) ?_
          refine (toAutomaton_any _ _ a _ (hN0.out.ext hxW) (hF0.out.ext hxW)).mono ?_
          rintro e wa ⟨ba, ba', -, -, rfl, hka, hra, hxa⟩
          exact ⟨_, rfl, hxa, ba, ba', rfl, hka.rows hNo.out.1 hNo.out.2.1 hNo.out.2.2, SInts.of_row hra hFb hFi.out⟩
        · intro V τ W hC hf ht h0
          obtain ⟨⟨hxB, hsB⟩, k0, k1, k2, k3⟩ := hC
          have e0 : V 0 = .agg #[.slice (some ⟨b5, 0, none⟩) a.next.length a.next.length, .slice (some ⟨b5', 0, none⟩) a.final.length a.final.length] := hf 0 (by simp [RS.at_, RS.q])
          obtain ⟨b2, b2', e2, hN2, hF2⟩ := (show ∃ b b', V 2 = _ ∧ _ ∧ _ from hf 2 (by simp [RS.at_, RS.q]))
          have s54 := (ht 0 (by simp [RS.at_, RS.q]) 54 rfl).trans e0
          have s56 := (ht 2 (by simp [RS.at_, RS.q]) 56 rfl).trans e2
          refine Does.call (w' := W) (f := 11) (args := #[.agg #[.slice (some ⟨b5, 0, none⟩) a.next.length a.next.length, .slice (some ⟨b5', 0, none⟩) a.final.length a.final.length], .agg #[.slice (some ⟨b2, 0, none⟩) a.next.length a.next.length, .slice (some ⟨b2', 0, none⟩) a.final.length a.final.length]]) (by go_simp; all_goals (first | exact rfl | (apply And.intro <;> exact rfl))) ?_
          refine (eqAutomaton_same _ _ _ _ a _ (N9.out.ext hxB) (F9.out.ext hxB) hN2 hF2).mono ?_
          rintro e w11 ⟨rfl, hx11⟩
          exact ⟨_, rfl, hx11, rfl⟩
        · intro V τ W hC hf ht h0
          have e3 : V 3 = .bool true := hf 3 (by simp [RS.at_, RS.q])
          have s57 := (ht 3 (by simp [RS.at_, RS.q]) 57 rfl).trans e3
          refine Does.val (w' := W) (v := .bool false) ?_ ⟨Ext.refl W, rfl⟩
          go_simp
      case ends =>
        intro V W hC hf
        have f0 : V 0 = .agg #[.slice (some ⟨b5, 0, none⟩) a.next.length a.next.length, .slice (some ⟨b5', 0, none⟩) a.final.length a.final.length] := hf 0 (by omega)
        have f1 : V 1 = .agg #[.slice A a.next.length c, .slice A' a.final.length c'] := hf 1 (by omega)
        obtain ⟨b2, b2', f2, -⟩ := (show ∃ b b', V 2 = _ ∧ _ from hf 2 (by omega))
        have f3 : V 3 = .bool true := hf 3 (by omega)
        have f4 : V 4 = .bool false := hf 4 (by omega)
        clear hf
        simp only [List.take_succ_cons, List.take_zero, putAll, Act.put, List.setIfInBounds_toArray, List.set_cons_succ, List.set_cons_zero, Nat.reduceAdd, f0, f1, f2, f3, f4]
        simp only [nths]
        have H11 := hide (H9.out.grow hC.1.1)
        have M11 := hide (M9.out.ext hC.1.1)
        have G11 := hide (G9.out.ext hC.1.1)
        clear hC f0 f1 f2 f3 f4 x0 x1 p0 p1 hbx hs9
        have HE11 := hide (HE4.out.grow H11.out.ext)
        have x0 := (H11.out.cellC 2 rfl 0 rfl).1
        have x1 := (H11.out.cellC 2 rfl 1 rfl).1
        have hbx : w6.heap.size < W.heap.size := (H11.out.d 2 _ rfl w6.heap.size rfl).2
        obtain ⟨⟨-, hs9⟩, -, -, p0, p1⟩ := HE11.out
        obtain ⟨w11, rfl⟩ : ∃ w11, w11 = W := ⟨W, rfl⟩
        go_wp2_with fail
        refine wp_region_relT (n := 5) (ts := []) (sp := [RS.q [] (fun _ => .agg #[.slice (some ⟨b6, 0, none⟩) b.next.length b.next.length, .slice (some ⟨b6', 0, none⟩) b.final.length b.final.length]), RS.q [] (fun _ => .agg #[.slice B b.next.length d, .slice B' b.final.length d']), RS.cp [1] b, RS.q [0, 2] (fun _ => .bool true), RS.q [3] (fun _ => .bool false)])
          (fun W => (Ext w11 W ∧ (w6.heap.size < W.heap.size ∧ w.heap.size + 1 < W.heap.size)) ∧ W.cell? ⟨w6.heap.size, 0, none⟩ = some (.slice (some ⟨b6, 0, none⟩) b.next.length b.next.length) ∧ W.cell? ⟨w6.heap.size, 1, none⟩ = some (.slice (some ⟨b6', 0, none⟩) b.final.length b.final.length) ∧ W.cell? ⟨w.heap.size + 1, 0, none⟩ = some (.slice B b.next.length d) ∧ W.cell? ⟨w.heap.size + 1, 1, none⟩ = some (.slice B' b.final.length d')) (by kernel_rfl) (relOK (D := [[], [], [1], [0, 2], [3]]) rfl (by kernel_rfl) rfl) (by kernel_rfl) (fun W W' h hx => ⟨⟨h.1.1.trans hx, Nat.lt_of_lt_of_le h.1.2.1 hx.size, Nat.lt_of_lt_of_le h.1.2.2 hx.size⟩, (hx.cells _ _ h.1.2.1).trans h.2.1, (hx.cells _ _ h.1.2.1).trans h.2.2.1, (hx.cells _ _ h.1.2.2).trans h.2.2.2.1, (hx.cells _ _ h.1.2.2).trans h.2.2.2.2⟩) ⟨⟨(Ext.refl w11).drew, hbx, show w.heap.size + 1 < w11.heap.size by omega⟩, x0, x1, p0, p1⟩ ?steps ?ends
        case steps =>
          refine ⟨?_, ?_, ?_, ?_, ?_, trivial⟩
          · intro V τ W hC hf ht h0
            have s9 : τ 9 = .pointer (some ⟨w6.heap.size, 0, none⟩) := h0 9 (by kernel_rfl)
            obtain ⟨⟨hxB, hsB⟩, k0, k1, k2, k3⟩ := hC
            refine Does.val (w' := W) (v := .agg #[.slice (some ⟨b6, 0, none⟩) b.next.length b.next.length, .slice (some ⟨b6', 0, none⟩) b.final.length b.final.length]) ?_ ⟨Ext.refl W, rfl⟩
            go_simp
          · intro V τ W hC hf ht h0
            have s3 : τ 3 = .pointer (some ⟨w.heap.size + 1, 0, none⟩) := h0 3 (by kernel_rfl)
            obtain ⟨⟨hxB, hsB⟩, k0, k1, k2, k3⟩ := hC
            refine Does.val (w' := W) (v := .agg #[.slice B b.next.length d, .slice B' b.final.length d']) ?_ ⟨Ext.refl W, rfl⟩
            go_simp
          · intro V τ W hC hf ht h0
            obtain ⟨⟨hxB, hsB⟩, k0, k1, k2, k3⟩ := hC
            have f0 : V 1 = .agg #[.slice B b.next.length d, .slice B' b.final.length d'] := hf 1 (by simp [RS.at_, RS.cp])
            have s60 : τ 60 = .agg #[.slice B b.next.length d, .slice B' b.final.length d'] := (ht 1 (by simp [RS.at_, RS.cp]) 60 rfl).trans f0
            have hxW := (HX4.out.trans H11.out.ext).trans hxB
            refine Does.call (w' := W) (f := 9) (args := #[.agg #[.slice B b.next.length d, .slice B' b.final.length d']]) (by go_simp; all_goals (first | exact rfl | (apply And.intro <;> exact rfl))) ?_
            refine (toAutomaton_any _ _ b _ (hP0.out.ext hxW) (hG0.out.ext hxW)).mono ?_
            rintro e wa ⟨ba, ba', -, -, rfl, hka, hra, hxa⟩
            exact ⟨_, rfl, hxa, ba, ba', rfl, hka.rows hNo2.out.1 hNo2.out.2.1 hNo2.out.2.2, SInts.of_row hra hFb2 hFi2.out⟩
          · intro V τ W hC hf ht h0
            obtain ⟨⟨hxB, hsB⟩, k0, k1, k2, k3⟩ := hC
            have e0 : V 0 = .agg #[.slice (some ⟨b6, 0, none⟩) b.next.length b.next.length, .slice (some ⟨b6', 0, none⟩) b.final.length b.final.length] := hf 0 (by simp [RS.at_, RS.q])
            obtain ⟨b2, b2', e2, hN2, hF2⟩ := (show ∃ b b', V 2 = _ ∧ _ ∧ _ from hf 2 (by simp [RS.at_, RS.q]))
            have s59 := (ht 0 (by simp [RS.at_, RS.q]) 59 rfl).trans e0
            have s61 := (ht 2 (by simp [RS.at_, RS.q]) 61 rfl).trans e2
            refine Does.call (w' := W) (f := 11) (args := #[.agg #[.slice (some ⟨b6, 0, none⟩) b.next.length b.next.length, .slice (some ⟨b6', 0, none⟩) b.final.length b.final.length], .agg #[.slice (some ⟨b2, 0, none⟩) b.next.length b.next.length, .slice (some ⟨b2', 0, none⟩) b.final.length b.final.length]]) (by go_simp; all_goals (first | exact rfl | (apply And.intro <;> exact rfl))) ?_
            refine (eqAutomaton_same _ _ _ _ b _ (M11.out.ext hxB) (G11.out.ext hxB) hN2 hF2).mono ?_
            rintro e w11 ⟨rfl, hx11⟩
            exact ⟨_, rfl, hx11, rfl⟩
          · intro V τ W hC hf ht h0
            have e3 : V 3 = .bool true := hf 3 (by simp [RS.at_, RS.q])
            have s62 := (ht 3 (by simp [RS.at_, RS.q]) 62 rfl).trans e3
            refine Does.val (w' := W) (v := .bool false) ?_ ⟨Ext.refl W, rfl⟩
            go_simp
        case ends =>
          intro V W hC hf
          have f0 : V 0 = .agg #[.slice (some ⟨b6, 0, none⟩) b.next.length b.next.length, .slice (some ⟨b6', 0, none⟩) b.final.length b.final.length] := hf 0 (by omega)
          have f1 : V 1 = .agg #[.slice B b.next.length d, .slice B' b.final.length d'] := hf 1 (by omega)
          obtain ⟨b2, b2', f2, -⟩ := (show ∃ b b', V 2 = _ ∧ _ from hf 2 (by omega))
          have f3 : V 3 = .bool true := hf 3 (by omega)
          have f4 : V 4 = .bool false := hf 4 (by omega)
          clear hf
          simp only [List.take_succ_cons, List.take_zero, putAll, Act.put, List.setIfInBounds_toArray, List.set_cons_succ, List.set_cons_zero, Nat.reduceAdd, f0, f1, f2, f3, f4]
          simp only [nths]
          have H11 := hide (H11.out.grow hC.1.1)
          clear hC f0 f1 f2 f3 f4 x0 x1 p0 p1 hbx hs9 HE11 HE9
          obtain ⟨w12, rfl⟩ : ∃ w12, w12 = W := ⟨W, rfl⟩
          have hMX := (show MkW w12 _ a.next kb5 ∧ MkF w12 _ b5' a.final.length from H11.out.p 5 _ rfl)
          have HKB := hide (fun i (hi : i < a.next.length) => (H11.out.d 5 _ rfl (kb5 i) (.inl ⟨i, hi, rfl⟩)).2)
          have HKB' := hide (fun (hp : 0 < a.final.length) => (H11.out.d 5 _ rfl b5' (.inr (.inr ⟨hp, rfl⟩))).2)
          have HM1 := hide hMX.1
          have HM2 := hide hMX.2
          clear hMX
          have x0 := (H11.out.cellC 4 rfl 0 rfl).1
          have x1 := (H11.out.cellC 4 rfl 1 rfl).1
          go_wp2_with fail
          refine (markAutomaton_any _ _ _ _ a.next a.final.length kb5 b5' 1 _ HM1.out HM2.out (by omega) (by omega) (by omega) (by omega) (by omega) HKB.out HKB'.out).mono ?_
          rintro e w13 hmk
          obtain rfl := hmk.1
          have H12 := hide (H11.out.markX (n := 5) rfl hmk)
          clear hmk x0 x1
          have hMX := (show MkW w13 _ b.next kb6 ∧ MkF w13 _ b6' b.final.length from H12.out.p 3 _ rfl)
          have HKB := hide (fun i (hi : i < b.next.length) => (H12.out.d 3 _ rfl (kb6 i) (.inl ⟨i, hi, rfl⟩)).2)
          have HKB' := hide (fun (hp : 0 < b.final.length) => (H12.out.d 3 _ rfl b6' (.inr (.inr ⟨hp, rfl⟩))).2)
          have HM1 := hide hMX.1
          have HM2 := hide hMX.2
          clear hMX
          have x0 := (H12.out.cellC 2 rfl 0 rfl).1
          have x1 := (H12.out.cellC 2 rfl 1 rfl).1
          go_wp2_with fail
          refine (markAutomaton_any _ _ _ _ b.next b.final.length kb6 b6' (1 + (szR a.next a.next.length : Int) + (a.final.length : Int)) _ HM1.out HM2.out (by omega) (by omega) (by omega) (by omega) (by omega) HKB.out HKB'.out).mono ?_
          rintro e w13b hmk
          obtain rfl := hmk.1
          have H12 := hide (H12.out.markX (n := 3) rfl hmk)
          clear hmk x0 x1
          have d0 := (H12.out.ext.cells _ _ hsg).trans D0.out
          have d1 := (H12.out.ext.cells _ _ hsg).trans D1.out
          have g0 := (H12.out.cellC 0 rfl 0 rfl).1
          have g1 := (H12.out.cellC 0 rfl 1 rfl).1
          have hkn : ¬ (1 + (szR a.next a.next.length : Int) + (a.final.length : Int) + (szR b.next b.next.length : Int) + (b.final.length : Int) < 0) := by omega
          go_wp2_with fail
          have hG12 := (show OutW _ w13b A7 rows kb7 ∧ OwnC w13b A7' b7 m7 f7 fins ∧ _ from H12.out.p 1 _ rfl)
          refine (eqAutomaton_same _ _ _ _ ⟨rows, fins⟩ _ (OutW.srows (fins := fins) OKA.out hG12.1 hc7) (SInts.own hc7' (show fins.length * 8 ≤ 140737488355328 by omega) hG12.2.1 OKA.out.i64) (SN.out.ext H12.out.ext) (SF.out.ext H12.out.ext)).mono ?_
          rintro e w14 ⟨rfl, hx14⟩
          have H13 := hide (H12.out.grow hx14)
          clear g0 g1 d0 d1 hG12 hx14
          have g0 := (H13.out.cellC 0 rfl 0 rfl).1
          have g1 := (H13.out.cellC 0 rfl 1 rfl).1
          have hG13 := (show OutW _ w14 A7 rows kb7 ∧ OwnC w14 A7' b7 m7 f7 fins ∧ _ from H13.out.p 1 _ rfl)
          have HM3 := hide hG13.1.mk_
          have HM4 := hide (show MkF w14 A7' b7 fins.length from fun hp => ⟨(hG13.2.1 hp).1, _, _, (hG13.2.1 hp).2.2.1, (hG13.2.1 hp).2.1⟩)
          have HKC := hide (fun i (hi : i < rows.length) => (H13.out.d 1 _ rfl (kb7 i) (.inl ⟨i, hi, rfl⟩)).2)
          have HKC' := hide (fun (hp : 0 < fins.length) => (H13.out.d 1 _ rfl b7 (.inr (.inr ⟨hp, rfl⟩))).2)
          clear hG13
          go_wp2_with fail
          refine (markAutomaton_any _ _ _ _ rows fins.length kb7 b7 1 _ HM3.out HM4.out (by omega) (by omega) (by omega) (by omega) (by omega) HKC.out HKC'.out).mono ?_
          rintro e w15 hmk
          obtain rfl := hmk.1
          have H14 := hide (H13.out.markG (n := 1) rfl hmk)
          clear hmk g0 g1
          have g0 := (H14.out.cellC 0 rfl 0 rfl).1
          have g1 := (H14.out.cellC 0 rfl 1 rfl).1
          have hqn : ¬ (1 + (szR rows rows.length : Int) + (fins.length : Int) < 0) := by omega
          have hqq : (1 + (szR rows rows.length : Int) + (fins.length : Int) != 1 + (szR rows rows.length : Int) + (fins.length : Int)) = false := by simp
          have hh14 := (show MkW w15 A7 rows kb7 ∧ (0 < fins.length → A7' = some ⟨b7, 0, none⟩) ∧ HeldW w15 rows kb7 1 rows.length ∧ HeldF w15 b7 fins.length (1 + szR rows rows.length) from H14.out.p 1 _ rfl)
          have HH14 := hide hh14
          clear hh14
          go_wp2_with fail
          refine (heldAutomaton_any _ _ _ _ rows fins.length kb7 b7 1 _ HH14.out.1 HH14.out.2.1 HH14.out.2.2.1 HH14.out.2.2.2 (by omega) (by omega) (by omega) (by omega) (by omega)).mono ?_
          rintro e w16 ⟨rfl, hx16⟩
          have H15 := hide (H14.out.grow hx16)
          clear g0 g1 hx16
          have HE15 := hide (HE4.out.grow H15.out.ext)
          obtain ⟨⟨-, hs9⟩, p0, p1, q0, q1⟩ := HE15.out
          go_wp2_with fail
          refine wp_region_relFT (n := 9) (ts := [9, 10]) (sp := [RS.q [] (fun _ => .agg #[.slice A a.next.length c, .slice A' a.final.length c']), RS.cp [0] a, RS.q [] (fun _ => .agg #[.slice B b.next.length d, .slice B' b.final.length d']), RS.cp [2] b, RS.au a b, RS.mv [4], RS.q [5] (fun vs => fst0 (vs.getD 0 undef)), RS.q [5] (fun vs => snd0 (vs.getD 0 undef)), RS.box w16.heap.size])
            (HeldE w16 w.heap.size (.slice A a.next.length c) (.slice A' a.final.length c') (.slice B b.next.length d) (.slice B' b.final.length d')) (by kernel_rfl) (relOK (D := [[], [0], [], [2], [1, 3], [4], [5], [5], []]) (fl := [7]) rfl (by kernel_rfl) rfl) (by kernel_rfl) (by intro c a d v w h; cases d <;> exact h) (by kernel_rfl) (fun W W' h hx => h.grow hx) ⟨⟨(Ext.refl w16).drew, hs9⟩, p0, p1, q0, q1⟩ ?flt ?steps ?ends
          case flt =>
            refine ⟨?_, trivial⟩
            · intro o ho V τ W hC hf ht h0
              injection ho with ho; subst ho
              obtain ⟨-, x, y, e5⟩ := (show V 5 = _ ∧ ∃ x y, V 5 = .tuple #[x, y] from hf 5 (by simp [RS.at_, RS.q]))
              have s94 := (ht 5 (by simp [RS.at_, RS.q]) 94 rfl).trans e5
              refine ⟨snd0 (V 5), ?_, rfl⟩
              rw [e5]
              intro w'
              go_simp
              rfl
          case steps =>
            refine ⟨?_, ?_, ?_, ?_, ?_, ?_, ?_, ?_, ?_, trivial⟩
            · intro V τ W hC hf ht h0
              have s2 : τ 2 = .pointer (some ⟨w.heap.size, 0, none⟩) := h0 2 (by kernel_rfl)
              obtain ⟨⟨hxB, hsB⟩, k0, k1, k2, k3⟩ := hC
              refine Does.val (w' := W) (v := .agg #[.slice A a.next.length c, .slice A' a.final.length c']) ?_ ⟨Ext.refl W, rfl⟩
              go_simp
            · intro V τ W hC hf ht h0
              obtain ⟨⟨hxB, hsB⟩, k0, k1, k2, k3⟩ := hC
              have f0 : V 0 = .agg #[.slice A a.next.length c, .slice A' a.final.length c'] := hf 0 (by simp [RS.at_, RS.cp])
              have s95 : τ 95 = .agg #[.slice A a.next.length c, .slice A' a.final.length c'] := (ht 0 (by simp [RS.at_, RS.cp]) 95 rfl).trans f0
              have hxW := (HX4.out.trans H15.out.ext).trans hxB
              refine Does.call (w' := W) (f := 9) (args := #[.agg #[.slice A a.next.length c, .slice A' a.final.length c']]) (by go_simp; all_goals (first | exact rfl | (apply And.intro <;> exact rfl))) ?_
              refine (toAutomaton_any _ _ a _ (hN0.out.ext hxW) (hF0.out.ext hxW)).mono ?_
              rintro e wa ⟨ba, ba', -, -, rfl, hka, hra, hxa⟩
              exact ⟨_, rfl, hxa, ba, ba', rfl, hka.rows hNo.out.1 hNo.out.2.1 hNo.out.2.2, SInts.of_row hra hFb hFi.out⟩
            · intro V τ W hC hf ht h0
              have s3 : τ 3 = .pointer (some ⟨w.heap.size + 1, 0, none⟩) := h0 3 (by kernel_rfl)
              obtain ⟨⟨hxB, hsB⟩, k0, k1, k2, k3⟩ := hC
              refine Does.val (w' := W) (v := .agg #[.slice B b.next.length d, .slice B' b.final.length d']) ?_ ⟨Ext.refl W, rfl⟩
              go_simp
            · intro V τ W hC hf ht h0
              obtain ⟨⟨hxB, hsB⟩, k0, k1, k2, k3⟩ := hC
              have f0 : V 2 = .agg #[.slice B b.next.length d, .slice B' b.final.length d'] := hf 2 (by simp [RS.at_, RS.cp])
              have s97 : τ 97 = .agg #[.slice B b.next.length d, .slice B' b.final.length d'] := (ht 2 (by simp [RS.at_, RS.cp]) 97 rfl).trans f0
              have hxW := (HX4.out.trans H15.out.ext).trans hxB
              refine Does.call (w' := W) (f := 9) (args := #[.agg #[.slice B b.next.length d, .slice B' b.final.length d']]) (by go_simp; all_goals (first | exact rfl | (apply And.intro <;> exact rfl))) ?_
              refine (toAutomaton_any _ _ b _ (hP0.out.ext hxW) (hG0.out.ext hxW)).mono ?_
              rintro e wa ⟨ba, ba', -, -, rfl, hka, hra, hxa⟩
              exact ⟨_, rfl, hxa, ba, ba', rfl, hka.rows hNo2.out.1 hNo2.out.2.1 hNo2.out.2.2, SInts.of_row hra hFb2 hFi2.out⟩
            · intro V τ W hC hf ht h0
              obtain ⟨b1, b1', e1, hN1, hF1⟩ := (show ∃ b b', V 1 = _ ∧ _ ∧ _ from hf 1 (by simp [RS.at_, RS.au]))
              obtain ⟨b2, b2', e2, hN2, hF2⟩ := (show ∃ b b', V 3 = _ ∧ _ ∧ _ from hf 3 (by simp [RS.at_, RS.au]))
              have s96 := (ht 1 (by simp [RS.at_, RS.au]) 96 rfl).trans e1
              have s98 := (ht 3 (by simp [RS.at_, RS.au]) 98 rfl).trans e2
              refine Does.call (w' := W) (f := 17) (args := #[.agg #[.slice (some ⟨b1, 0, none⟩) a.next.length a.next.length, .slice (some ⟨b1', 0, none⟩) a.final.length a.final.length], .agg #[.slice (some ⟨b2, 0, none⟩) b.next.length b.next.length, .slice (some ⟨b2', 0, none⟩) b.final.length b.final.length]]) (by go_simp; all_goals (first | exact rfl | (apply And.intro <;> exact rfl))) ?_
              refine (IntersectI_any _ _ _ _ a b _ hN1 hF1 hN2 hF2).mono ?_
              rintro e wa ⟨ok, rows, fins, hV, A3, c3, A4, c4, rfl, hO⟩
              obtain ⟨kb, bb, mm, ff, q1, q2, q3, q4, q5, q6⟩ := hO
              have hoa := hV.ok
              exact ⟨_, rfl, q6, ok, rows, fins, A3, c3, A4, c4, rfl, hV, OutW.srows (fins := fins) hoa q3 q1, SInts.own q2 (by have := hoa.fl; omega) q4 hoa.i64⟩
            · intro V τ W hC hf ht h0
              obtain ⟨ok, rows, fins, A3, c3, A4, c4, e4, -⟩ := (show ∃ ok rows fins A c A' c', V 4 = _ ∧ _ from hf 4 (by simp [RS.at_, RS.mv]))
              have s99 := ht 4 (by simp [RS.at_, RS.mv]) 99 rfl
              refine Does.val (w' := W) (v := V 4) ?_ ⟨Ext.refl W, rfl, _, _, e4⟩
              go_simp
            · intro V τ W hC hf ht h0
              obtain ⟨-, x, y, e5⟩ := (show V 5 = _ ∧ ∃ x y, V 5 = .tuple #[x, y] from hf 5 (by simp [RS.at_, RS.q]))
              have s94 := (ht 5 (by simp [RS.at_, RS.q]) 94 rfl).trans e5
              refine Does.val (w' := W) (v := fst0 (V 5)) ?_ ⟨Ext.refl W, rfl⟩
              rw [e5]
              go_simp
              rfl
            · intro V τ W hC hf ht h0
              obtain ⟨-, x, y, e5⟩ := (show V 5 = _ ∧ ∃ x y, V 5 = .tuple #[x, y] from hf 5 (by simp [RS.at_, RS.q]))
              have s94 := (ht 5 (by simp [RS.at_, RS.q]) 94 rfl).trans e5
              refine Does.val (w' := W) (v := snd0 (V 5)) ?_ ⟨Ext.refl W, rfl⟩
              rw [e5]
              go_simp
              rfl
            · intro V τ W hC hf ht h0
              obtain ⟨⟨hxB, hsB⟩, k0, k1, k2, k3⟩ := hC
              refine Does.val (w' := W.alloc (.cells #[.slice none 0 0, .slice none 0 0] 27)) (v := .pointer (some ⟨W.heap.size, 0, none⟩)) (by go_simp) ⟨(Ext.refl W).alloc _, W.heap.size, rfl, hxB.size, by simp, by go_simp, by go_simp, by go_simp, by go_simp⟩
          case ends =>
            intro V W hC hf
            have f0 : V 0 = .agg #[.slice A a.next.length c, .slice A' a.final.length c'] := hf 0 (by omega)
            obtain ⟨b1, b1', f1, -⟩ := (show ∃ b b', V 1 = _ ∧ _ from hf 1 (by omega))
            have f2 : V 2 = .agg #[.slice B b.next.length d, .slice B' b.final.length d'] := hf 2 (by omega)
            obtain ⟨b2, b2', f3, -⟩ := (show ∃ b b', V 3 = _ ∧ _ from hf 3 (by omega))
            obtain ⟨ok', rows', fins', A3, c3, A4, c4, f4, hV, hS3, hI3⟩ := (show ∃ ok rows fins A c A' c', V 4 = _ ∧ _ ∧ _ ∧ _ from hf 4 (by omega))
            obtain ⟨f5, -⟩ := (show V 5 = V 4 ∧ _ from hf 5 (by omega))
            have f6 : V 6 = fst0 (V 5) := hf 6 (by omega)
            have f7 : V 7 = snd0 (V 5) := hf 7 (by omega)
            rw [f5, f4] at f6 f7
            have f6 : V 6 = .agg #[.slice A3 rows'.length c3, .slice A4 fins'.length c4] := f6
            have f7 : V 7 = .bool ok' := f7
            rw [f4] at f5
            obtain ⟨g2, f8, hg0, hg1, z0, z1, y0, y1⟩ := (show ∃ g, V 8 = _ ∧ _ ∧ _ ∧ _ ∧ _ ∧ _ ∧ _ from hf 8 (by omega))
            clear hf
            simp only [List.take_succ_cons, List.take_zero, putAll, Act.put, List.setIfInBounds_toArray, List.set_cons_succ, List.set_cons_zero, Nat.reduceAdd, f0, f1, f2, f3, f4, f5, f6, f7, f8]
            simp only [nths, nth1]
            have hOK := hV.ok
            obtain ⟨rfl, rfl, rfl⟩ := HV.out.uniq hV
            have hxW := hC.1.1
            have hgw : w.heap.size + 1 + 1 ≤ g2 := by have h1 := HE15.out.1.2; omega
            have hrl : ∀ i, i < rows.length → 0 < (rw0 rows i).length := fun i hi => by rw [(OKA.out.row i hi).1]; omega
            have y1' : (W.setCell ⟨g2, 0, none⟩ (.slice A3 rows.length c3)).cell? ⟨g2, 1, none⟩ = some (.slice none 0 0) := (World.cell?_setCell_other _ _ _ _ (by intro e; injection e with e1 e2; omega)).trans y1
            have SN2 := hide ((hS3.setNo (u := .slice A3 rows.length c3) y0 hrl).setNo (u := .slice A4 fins.length c4) y1' hrl)
            have SF2 := hide ((hI3.setNo (u := .slice A3 rows.length c3) y0 (by intro n e; cases e)).setNo (u := .slice A4 fins.length c4) y1' (by intro n e; cases e))
            have hx17 := (hxW.set (p := ⟨g2, 0, none⟩) hg0 (.slice A3 rows.length c3)).set (p := ⟨g2, 1, none⟩) hg0 (.slice A4 fins.length c4)
            have H17 := hide (H15.out.grow hx17)
            have hD2 : ((W.setCell ⟨g2, 0, none⟩ (.slice A3 rows.length c3)).setCell ⟨g2, 1, none⟩ (.slice A4 fins.length c4)).cell? ⟨g2, 0, none⟩ = some (.slice A3 rows.length c3) := (World.cell?_setCell_other _ _ _ _ (by intro e; injection e with e1 e2; omega)).trans (World.cell?_setCell_same' _ _ _ (by rw [y0]; rfl))
            have hD3 : ((W.setCell ⟨g2, 0, none⟩ (.slice A3 rows.length c3)).setCell ⟨g2, 1, none⟩ (.slice A4 fins.length c4)).cell? ⟨g2, 1, none⟩ = some (.slice A4 fins.length c4) := World.cell?_setCell_same' _ _ _ (by rw [y1']; rfl)
            have D2 := hide hD2
            have D3 := hide hD3
            have n0 : ¬ g2 = g := by have h1 := H15.out.ext.size; omega
            clear hx17 hD2 hD3 hS3 hI3 hC hV y1' hxW p0 p1 q0 q1 hs9
            have d0 := (H17.out.ext.cells _ _ hsg).trans D0.out
            have d1 := (H17.out.ext.cells _ _ hsg).trans D1.out
            have e0 := D2.out
            have e1 := D3.out
            go_wp2_with fail
            generalize hw17 : (W.setCell ⟨g2, 0, none⟩ (.slice A3 rows.length c3)).setCell ⟨g2, 1, none⟩ (.slice A4 fins.length c4) = w17 at *
            clear hw17 y0 y1 z0 z1 f0 f1 f2 f3 f4 f5 f6 f7 f8 d0 d1 e0 e1
            refine (eqAutomaton_same _ _ _ _ ⟨rows, fins⟩ _ SN2.out SF2.out (SN.out.ext H17.out.ext) (SF.out.ext H17.out.ext)).mono ?_
            rintro e w18 ⟨rfl, hx18⟩
            have H18 := hide (H17.out.grow hx18)
            clear hx18
            have g0 := (H18.out.cellC 0 rfl 0 rfl).1
            have g1 := (H18.out.cellC 0 rfl 1 rfl).1
            have hh18 := (show MkW w18 A7 rows kb7 ∧ (0 < fins.length → A7' = some ⟨b7, 0, none⟩) ∧ HeldW w18 rows kb7 1 rows.length ∧ HeldF w18 b7 fins.length (1 + szR rows rows.length) from H18.out.p 1 _ rfl)
            have HH18 := hide hh18
            clear hh18
            go_wp2_with fail
            refine (heldAutomaton_any _ _ _ _ rows fins.length kb7 b7 1 _ HH18.out.1 HH18.out.2.1 HH18.out.2.2.1 HH18.out.2.2.2 (by omega) (by omega) (by omega) (by omega) (by omega)).mono ?_
            rintro e w19 ⟨rfl, hx19⟩
            have HX19 := hide (HX4.out.trans (H18.out.ext.trans hx19))
            clear hx19 g0 g1
            go_wp2
            go_ret
            exact Ret.mk rfl HX19.out
end Go.Proofs.Ytbdialoimbooeaa
