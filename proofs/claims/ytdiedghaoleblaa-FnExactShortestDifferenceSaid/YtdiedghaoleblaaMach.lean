/- The walk of machineOf. -/
import Derived.Test.YtdiedghaoleblaaAppZ
import Derived.Test.YtdiedghaoleblaaRept
import Derived.Test.YtdiedghaoleblaaAutZ
import Derived.RegionTactic
import Derived.Deep.CutRange
import Derived.Deep.CutBlock
namespace Go.Proofs.Ytdiedghaoleblaa
open Go.RowKit

/-- The successor in the machine: the last state for none. -/
def mTo (n : Nat) (t : Int) : Int := if t < 0 then (n : Int) else t
def mRow (n : Nat) (r : List Int) : List Int := r.map (mTo n)
def mRows (a : Au) : List (List Int) := a.next.map (mRow a.next.length) ++ [List.replicate 6 (a.next.length : Int)]
def mFin (f : List Int) (k : Nat) (i : Nat) : Value := .bool (decide ((i : Int) ∈ f.take k))
theorem mRow_at (n : Nat) (r : List Int) {i : Nat} (hi : i < r.length) : at0 (mRow n r) i = mTo n (at0 r i) := by
  unfold mRow at0
  rw [getD_lt _ _ (by simpa using hi), getD_lt _ _ hi, List.getElem_map]
/-- Block M holds the machine (v, fin); else memory has only grown since w1. -/
def MBox (w1 wr : World) (v fin : Value) : Prop := Ext w1 wr ∧ w1.heap.size < wr.heap.size ∧ wr.cell? ⟨w1.heap.size, 0, none⟩ = some v ∧ wr.cell? ⟨w1.heap.size, 1, none⟩ = some fin ∧ wr.frozen? ⟨w1.heap.size, 0, none⟩ = false ∧ wr.frozen? ⟨w1.heap.size, 1, none⟩ = false
theorem MBox.below {w1 wr w' : World} {v fin : Value} (h : MBox w1 wr v fin) (hb : Below (w1.heap.size + 1) wr w') : MBox w1 w' v fin := by
  obtain ⟨h1, h2, h3, h4, h5, h6⟩ := h
  refine ⟨h1.below (Below.mono hb (by omega)), Nat.lt_of_lt_of_le h2 hb.size, ?_, ?_, ?_, ?_⟩
  · exact (Below.cell hb (p := ⟨w1.heap.size, 0, none⟩) (by simp)).trans h3
  · exact (Below.cell hb (p := ⟨w1.heap.size, 1, none⟩) (by simp)).trans h4
  · exact (Below.frozen hb (p := ⟨w1.heap.size, 0, none⟩) (by simp)).trans h5
  · exact (Below.frozen hb (p := ⟨w1.heap.size, 1, none⟩) (by simp)).trans h6
theorem MBox.ext {w1 wr w' : World} {v fin : Value} (h : MBox w1 wr v fin) (hx : Ext wr w') : MBox w1 w' v fin := h.below (Below.mono hx (Nat.succ_le_of_lt h.2.1))
theorem MBox.store {w1 wr : World} {v fin : Value} (h : MBox w1 wr v fin) (u : Value) : MBox w1 (wr.setCell ⟨w1.heap.size, 0, none⟩ u) u fin := by
  obtain ⟨h1, h2, h3, h4, h5, h6⟩ := h
  exact ⟨h1.set (by simp) u, by simpa [World.setCell] using h2, by go_simp, by go_simp, by go_simp, by go_simp⟩
/-- Behind the machine's rows: the result's cells, the machine's, the row of its final states. -/
def MTail (w : World) (M : Nat) (n : Nat) (v fin : Value) (f : Nat → Value) (wr : World) : Prop :=
  Ext w wr ∧ w.heap.size + 3 ≤ M ∧ M < wr.heap.size ∧ wr.rowIs (w.heap.size + 2) 4 n f ∧ wr.cell? ⟨M, 0, none⟩ = some v ∧ wr.cell? ⟨M, 1, none⟩ = some fin ∧
    wr.cell? ⟨w.heap.size + 1, 0, none⟩ = some (.slice none 0 0) ∧ wr.cell? ⟨w.heap.size + 1, 1, none⟩ = some (.slice none 0 0) ∧ wr.frozen? ⟨w.heap.size + 1, 0, none⟩ = false ∧ wr.frozen? ⟨w.heap.size + 1, 1, none⟩ = false
theorem MTail.of_box {w w1 wr : World} {n : Nat} {v fin : Value} {f : Nat → Value} (hx : Ext w w1) (hs : w1.heap.size = w.heap.size + 3) (hr : w1.rowIs (w.heap.size + 2) 4 n f)
    (f2 : w1.cell? ⟨w.heap.size + 1, 0, none⟩ = some (.slice none 0 0)) (f3 : w1.cell? ⟨w.heap.size + 1, 1, none⟩ = some (.slice none 0 0)) (z2 : w1.frozen? ⟨w.heap.size + 1, 0, none⟩ = false) (z3 : w1.frozen? ⟨w.heap.size + 1, 1, none⟩ = false)
    (h : MBox w1 wr v fin) : MTail w w1.heap.size n v fin f wr := by
  obtain ⟨h1, h2, h3, h4, -, -⟩ := h
  exact ⟨hx.trans h1, by omega, h2, h1.row hr, h3, h4, (h1.cells _ _ (by omega)).trans f2, (h1.cells _ _ (by omega)).trans f3, (h1.frz _ _ (by omega)).trans z2, (h1.frz _ _ (by omega)).trans z3⟩
theorem MTail.set {w wr : World} {M n : Nat} {v fin : Value} {f : Nat → Value} (h : MTail w M n v fin f wr) (i : Nat) (u : Value) :
    MTail w M n v fin (fun j => if j = i then u else f j) (wr.setCell ⟨w.heap.size + 2, i, none⟩ u) := by
  obtain ⟨h1, h2, h3, h4, h5, h6, h7, h8, h9, h10⟩ := h
  have k1 : M ≠ w.heap.size + 2 := by omega
  have k2 : w.heap.size + 1 ≠ w.heap.size + 2 := by omega
  refine ⟨h1.set (by simp) u, h2, by simpa [World.setCell] using h3, h4.set i u, ?_, ?_, ?_, ?_, ?_, ?_⟩ <;> go_simp
/-- The first j numbers of a row are turned. -/
def turned (n : Nat) (xs : List Int) (j i : Nat) : Int := if i < j then mTo n (at0 xs i) else at0 xs i
theorem RowV.turned {B0 : Nat} {w : World} {g cap n : Nat} {f : Nat → Value} {xs : List Int} (hB : B0 ≤ g) (hc : xs.length ≤ cap) (hr : w.rowIs g 3 cap f) (hf : ∀ i, i < xs.length → f i = vI (turned n xs xs.length i)) : RowV B0 w (.slice (some ⟨g, 0, none⟩) xs.length cap) (mRow n xs) := by
  have hl : (mRow n xs).length = xs.length := by simp [mRow]
  refine ⟨g, cap, f, by rw [hl], hB, by omega, hr, fun i hi => ?_⟩
  rw [hf i (by omega), mRow_at n xs (by omega), Go.Proofs.Ytdiedghaoleblaa.turned, if_pos (by omega)]
theorem mFin_succ {f : List Int} {k : Nat} (hlt : k < f.length) (j : Nat) : mFin f (k + 1) j = if (j : Int) = at0 f k then .bool true else mFin f k j := by
  have e : f.take (k + 1) = f.take k ++ [at0 f k] := by rw [List.take_add_one, List.getElem?_eq_getElem hlt, at0, getD_lt _ _ hlt]; rfl
  unfold mFin
  rw [e]
  by_cases h : (j : Int) = at0 f k
  · rw [if_pos h]
    simp only [List.mem_append, List.mem_singleton, h, or_true, decide_true]
  · rw [if_neg h]
    simp only [List.mem_append, List.mem_singleton, h, or_false]
/-- A machine in new memory. -/
def NewMach (a : Au) (w : World) (e : Ending) (w' : World) : Prop :=
  ∃ vn b, e = .returned (.agg #[vn, .slice (some ⟨b, 0, none⟩) (a.next.length + 1) (a.next.length + 1)]) ∧ AppR w.heap.size w' vn (mRows a) ∧ w.heap.size ≤ b ∧ w'.rowIs b 4 (a.next.length + 1) (mFin a.final a.final.length) ∧ Ext w w'
theorem Try.infoB : (Try.prog.info? 4).map (fun i => (i.zero, i.size, i.bytes)) = some (some (.bool false), 1, 1) := by kernel_rfl
set_option maxRecDepth 100000 in
set_option maxHeartbeats 4000000 in
theorem machineOf_any (vn vf : Value) (a : Au) (w : World) (hN : SRows w vn a.next) (hF : SInts w vf a.final) (hv : vAut a = true) :
    Calls Try.prog 37 #[.agg #[vn, vf]] w (NewMach a w) := by
  have hN0 := hide hN
  have hF0 := hide hF
  obtain ⟨A, c, rfl, -, hln⟩ := hN.form
  obtain ⟨A', c', rfl, -, hlf⟩ := hF.form
  clear hN hF
  go_enter Try.func37, Try.ntmps37
  go_wp2_with (at_make; go_must (refine wpList_make_gen _ rfl _ _ 52 rfl 4 (.bool false) 1 1 Try.underlying52 Try.infoB .i64 .i64 (a.next.length + 1) rfl rfl (by omega) (by omega) (fun _ => .bool false) (fun i _ => by simp [Value.cells, Nat.mod_one]) ?_); intro w1 hrow hsz hx; have HROW := hide hrow; have HX := hide (((((Ext.refl w).alloc _).alloc _)).trans hx); have f0 := (hx.cells w.heap.size 0 (by simp <;> omega)).trans (show _ = some (.slice A a.next.length c) by go_simp); have f1 := (hx.cells w.heap.size 1 (by simp <;> omega)).trans (show _ = some (.slice A' a.final.length c') by go_simp); have f2 := (hx.cells (w.heap.size + 1) 0 (by simp <;> omega)).trans (show _ = some (.slice none 0 0) by go_simp); have f3 := (hx.cells (w.heap.size + 1) 1 (by simp <;> omega)).trans (show _ = some (.slice none 0 0) by go_simp); have z2 := (hx.frz (w.heap.size + 1) 0 (by simp <;> omega)).trans (show _ = false by go_simp); have z3 := (hx.frz (w.heap.size + 1) 1 (by simp <;> omega)).trans (show _ = false by go_simp); have HSZ : Hid (w1.heap.size = w.heap.size + 3) := hide (by simpa using hsz); have l0 : w.heap.size < w1.heap.size := (by simp at hsz; omega); have l1 : w.heap.size + 1 < w1.heap.size := (by simp at hsz; omega); clear hrow hx hsz)
  have hm0 : MBox w1 (w1.alloc (.cells #[.slice none 0 0, .slice (some ⟨w.heap.size + 1 + 1, 0, none⟩) (a.next.length + 1) (a.next.length + 1)] 54)) (.slice none 0 0) (.slice (some ⟨w.heap.size + 1 + 1, 0, none⟩) (a.next.length + 1) (a.next.length + 1)) :=
    ⟨(Ext.refl w1).alloc _, by simp, by go_simp, by go_simp, by go_simp, by go_simp⟩
  have HM0 := hide hm0; clear hm0
  have hvr : vRows a.next 6 (-1) (a.next.length - 1) = true := by have := hv; simp only [vAut, Bool.and_eq_true] at this; exact this.1
  have hn8 : a.next.length ≤ 8 := (vRows_len hvr).2
  have HV := hide hv; clear hv hvr
  go_loopw [21] (fun i wr => ∃ (k : Nat) (v : Value), k ≤ a.next.length ∧ i = .int .i64 k ∧ AppR (w1.heap.size + 1) wr v ((a.next.take k).map (mRow a.next.length)) ∧ MBox w1 wr v (.slice (some ⟨w.heap.size + 1 + 1, 0, none⟩) (a.next.length + 1) (a.next.length + 1))) (fun i _ => a.next.length - (intOf i).toNat)
  case atStart => exact ⟨0, _, Nat.zero_le _, rfl, AppR.nil_ _ _, HM0.out⟩
  case round =>
    obtain ⟨k, v, hk, rfl, hA, hB⟩ := hrel
    obtain ⟨W0, rfl⟩ : ∃ W0, W0 = wr := ⟨wr, rfl⟩
    have HA := hide hA
    have HB := hide hB
    have hxr := hB.1
    clear hA hB
    by_cases hlt : k < a.next.length
    · obtain ⟨b, off, A2, c2, rfl, hbl, f1, hrow⟩ := (hN0.out.ext (HX.out.trans hxr)).at_ hlt
      have hvr : vRows a.next 6 (-1) (a.next.length - 1) = true := by have := HV.out; simp only [vAut, Bool.and_eq_true] at this; exact this.1
      have h6 : (rw0 a.next k).length = 6 := by have := (vRows_at hvr hlt).1; omega
      have hl6 : (rw0 a.next k).length ≤ 6 := by omega
      have hp6 : 0 < (rw0 a.next k).length := by omega
      have H6 := hide h6; clear h6 hvr
      go_wp2_with (go_at_call 46; refine (Clone_any _ (rw0 a.next k) _ hrow).mono ?_; rintro e w2 ⟨v2, rfl, hA2, hx2⟩; obtain ⟨g, cap, f, rfl, hg0, hcap, hrw2, hf2⟩ := RowV.of_app hA2 hp6; clear hA2)
      have HF := hide hf2; clear hf2
      go_loopw [29] (fun i wi => ∃ (j : Nat) (f' : Nat → Value), j ≤ (rw0 a.next k).length ∧ i = .int .i64 j ∧ Ext W0 wi ∧ wi.rowIs g 3 cap f' ∧ ∀ i, i < (rw0 a.next k).length → f' i = vI (turned a.next.length (rw0 a.next k) j i)) (fun i _ => (rw0 a.next k).length - (intOf i).toNat)
      case atStart => exact ⟨0, f, Nat.zero_le _, rfl, hx2, hrw2, fun i hi => by rw [HF.out i hi, turned, if_neg (by omega)]⟩
      case round =>
        obtain ⟨j, f', hj, rfl, hxi, hri, hfi⟩ := hrel
        have HFI := hide hfi; clear hfi
        by_cases hjl : j < (rw0 a.next k).length
        · have c0 : wr.cell? ⟨g, j, none⟩ = some (.int .i64 (at0 (rw0 a.next k) j)) := by rw [hri.cell (by omega), HFI.out j hjl, turned, if_neg (by omega)]; rfl
          have z0 := hri.frozen j
          have HRI := hide hri; clear hri
          have ji1 : (j : Int) < cap := by omega
          by_cases hneg : at0 (rw0 a.next k) j < 0
          · go_wp2
            go_roundw
            case rel =>
              refine ⟨j + 1, _, by omega, by go_num, hxi.set (by omega) _, HRI.out.set j _, fun i hi => ?_⟩
              show (if i = j then _ else f' i) = _
              by_cases hij : i = j
              · subst hij; rw [if_pos rfl, turned, if_pos (by omega), mTo, if_pos hneg]; rfl
              · rw [if_neg hij, HFI.out i hi]; unfold turned; by_cases h : i < j
                · rw [if_pos h, if_pos (by omega)]
                · rw [if_neg h, if_neg (by omega)]
            case measure => simp [intOf]; omega
          · go_wp2
            go_roundw
            case rel =>
              refine ⟨j + 1, f', by omega, by go_num, hxi, HRI.out, fun i hi => ?_⟩
              rw [HFI.out i hi]; unfold turned
              by_cases hij : i = j
              · subst hij; rw [if_neg (by omega), if_pos (by omega), mTo, if_neg hneg]
              · by_cases h : i < j
                · rw [if_pos h, if_pos (by omega)]
                · rw [if_neg h, if_neg (by omega)]
            case measure => simp [intOf]; omega
        · have hjl' : j = (rw0 a.next k).length := by omega
          subst hjl'
          have hRV := RowV.turned hg0 hcap hri HFI.out
          have HRV := hide hRV; clear hRV hri
          have hB2 := HB.out.ext hxi
          have HA2 := hide (HA.out.ext hxi)
          have HB2 := hide hB2
          have m0 := hB2.2.2.1
          have m2 := hB2.2.2.2.2.1
          obtain ⟨Av, cv, hvv, -⟩ := HA.out.form
          rw [show ((a.next.take k).map (mRow a.next.length)).length = k by rw [List.length_map, List.length_take]; omega] at hvv
          subst hvv
          have hl4 := hB2.2.1
          go_wp2_with (at_builtin; go_must (refine wpList_appR _ rfl _ _ rfl (w1.heap.size + 1) _ ((a.next.take k).map (mRow a.next.length)) (mRow a.next.length (rw0 a.next k)) (.slice (some ⟨g, 0, none⟩) (rw0 a.next k).length cap) wr.heap.size 1 rfl rfl (HA2.out.ext ((Ext.refl _).alloc _)) (by first | (go_simp; done) | simp) ((HRV.out.ext ((Ext.refl _).alloc _)).mono (Nat.succ_le_of_lt HB.out.2.1)) (by first | omega | (rw [List.length_map, List.length_take]; omega)) (by first | omega | (simp; omega)) ?_); intro v' w4 hA4 hb4; have hB4 := (HB2.out.ext ((Ext.refl _).alloc _)).below hb4; have HB4 := hide hB4; have y0 := hB4.2.2.2.2.1; have y1 := hB4.2.2.1; obtain ⟨Av', cv', hvv, -⟩ := hA4.form; rw [show ((a.next.take k).map (mRow a.next.length) ++ [mRow a.next.length (rw0 a.next k)]).length = k + 1 by rw [List.length_append, List.length_map, List.length_take]; simp; omega] at hvv; subst hvv; have HA4 := hide hA4; clear hA4 hB4)
          go_roundw
          case rel =>
            refine ⟨k + 1, _, by omega, by go_num, ?_, HB4.out.store _⟩
            rw [List.take_add_one, List.map_append, show (a.next[k]?.toList) = [rw0 a.next k] by rw [List.getElem?_eq_getElem hlt, rw0, getD_lt _ _ hlt]; rfl]
            exact HA4.out.setFar (by simp) _
          case measure => simp [intOf]; omega
    · have hkl : k = a.next.length := by omega
      subst hkl
      rw [List.take_length] at HA
      obtain ⟨Av, cv, hvv, -⟩ := HA.out.form
      rw [List.length_map] at hvv
      subst hvv
      have m0 := HB.out.2.2.1
      have m1 := HB.out.2.2.2.1
      have m2 := HB.out.2.2.2.2.1
      have hl4 := HB.out.2.1
      go_upto_region 15 with (fail)
      go_cut [3] from 48 (fun n wx => ∃ v', n = .int .i64 a.next.length ∧ AppR (w1.heap.size + 1) wx v' (mRows a) ∧ MBox w1 wx v' (.slice (some ⟨w.heap.size + 1 + 1, 0, none⟩) (a.next.length + 1) (a.next.length + 1)))
      case first =>
        go_region_law (first
          | (refine step_appR _ rfl _ _ rfl (w1.heap.size + 1) _ (a.next.map (mRow a.next.length)) (List.replicate 6 (a.next.length : Int)) (.slice (some ⟨b5, 0, none⟩) 6 6) w5.heap.size 1 rfl rfl (HA5.out.ext ((Ext.refl _).alloc _)) (by first | (go_simp; done) | simp) (HR5.out.ext ((Ext.refl _).alloc _)) (by rw [List.length_map]; omega) (by first | omega | (simp; omega)) ?_; intro v6 w6 hA6 hb6; have hB6 := (HB5.out.ext ((Ext.refl _).alloc _)).below hb6; have HB6 := hide hB6; have y0 := hB6.2.2.2.2.1; have y1 := hB6.2.2.1; obtain ⟨Av6, cv6, hvv, -⟩ := hA6.form; rw [show (a.next.map (mRow a.next.length) ++ [List.replicate 6 (a.next.length : Int)]).length = a.next.length + 1 by simp] at hvv; subst hvv; have HA6 := hide hA6; clear hA6 hB6)
          | (go_simp; go_at_call 66; refine (Repeat6_any (a.next.length : Int) _ _ (by simp) (by first | (go_simp; done) | simp)).mono ?_; rintro e w5 ⟨b5, hb5, rfl, hr5, hx5⟩; have hx05 := (((Ext.refl W0).drew).alloc _).trans hx5; have hB5 := HB.out.ext hx05; have HB5 := hide hB5; have HA5 := hide (HA.out.ext hx05); have hR5 : RowV (w1.heap.size + 1) w5 (.slice (some ⟨b5, 0, none⟩) 6 6) (List.replicate 6 (a.next.length : Int)) := ⟨b5, 6, _, rfl, (by simp at hb5; omega), Nat.le_refl _, hr5, fun i hi => by rw [icell, if_pos hi]; rfl⟩; have HR5 := hide hR5; have x0 := hB5.2.2.1; have x2 := hB5.2.2.2.2.1; have hl5 := hB5.2.1; clear hB5 hR5 hr5))
        all_goals (go_wp2_with fail; go_meet; exact ⟨_, rfl, HA6.out.setFar (by simp) _, HB6.out.store _⟩)
      case rest =>
        obtain ⟨v6, rfl, hA6, hB6⟩ := hcut
        obtain ⟨Av6, cv6, hvv, -⟩ := hA6.form
        rw [show (mRows a).length = a.next.length + 1 by simp [mRows]] at hvv
        subst hvv
        have hrow0 : w1.rowIs (w.heap.size + 2) 4 (a.next.length + 1) (fun _ => .bool false) := by have := HROW.out; simpa using this
        have hM3 := MTail.of_box HX.out HSZ.out hrow0 f2 f3 z2 z3 hB6
        have HM3 := hide hM3
        have HA6 := hide (hA6.mono (show w.heap.size + 3 ≤ _ by have := HSZ.out; omega))
        have g1 : wc.cell? ⟨w.heap.size, 1, none⟩ = some (.slice A' a.final.length c') := (hB6.1.cells _ _ l0).trans f1
        clear hM3 hA6 hB6
        go_wp2_with fail
        go_loopw [59] (fun i wr => ∃ (k : Nat) (f : Nat → Value), k ≤ a.final.length ∧ i = .int .i64 k ∧ AppR (w.heap.size + 3) wr (.slice Av6 (a.next.length + 1) cv6) (mRows a) ∧ MTail w w1.heap.size (a.next.length + 1) (.slice Av6 (a.next.length + 1) cv6) (.slice (some ⟨w.heap.size + 1 + 1, 0, none⟩) (a.next.length + 1) (a.next.length + 1)) f wr ∧ ∀ j, j < a.next.length + 1 → f j = mFin a.final k j) (fun i _ => a.final.length - (intOf i).toNat)
        case atStart => exact ⟨0, _, Nat.zero_le _, rfl, HA6.out, HM3.out, fun j _ => by simp [mFin]⟩
        case round =>
          obtain ⟨k, f, hk, rfl, hA, hM, hf⟩ := hrel
          have HA := hide hA; clear hA
          have HM := hide hM
          have HFF := hide hf; clear hf
          obtain ⟨hxw, hM3, hMw, hrf, m0, m1, r0, r1, s0, s1⟩ := hM
          have Hxw := hide hxw
          by_cases hlt : k < a.final.length
          · obtain ⟨b, off, rfl, hbl, e1⟩ := (hF0.out.ext hxw).at_ hlt
            have hsv : allR a.final 0 (a.next.length - 1) = true := by have := HV.out; simp only [vAut, vFin, Bool.and_eq_true] at this; exact this.2.1
            obtain ⟨i0, i1⟩ := allR_at hsv hlt
            clear hsv
            have i2 : at0 a.final k < (a.next.length : Int) + 1 := by omega
            have c0 : wr.cell? ⟨w.heap.size + 1 + 1, (at0 a.final k).toNat, none⟩ = some (f (at0 a.final k).toNat) := hrf.cell (i := (at0 a.final k).toNat) (by omega)
            have z0 : wr.frozen? ⟨w.heap.size + 1 + 1, (at0 a.final k).toNat, none⟩ = false := hrf.frozen _
            clear hrf hxw
            go_wp2
            go_roundw
            case rel =>
              refine ⟨k + 1, _, by omega, by go_num, HA.out.setFar (by simp) _, HM.out.set _ _, fun j hj => ?_⟩
              show (if j = _ then _ else f j) = _
              rw [HFF.out j hj, mFin_succ hlt]
              by_cases hjs : j = (at0 a.final k).toNat
              · rw [if_pos hjs, if_pos (by omega)]
              · rw [if_neg hjs, if_neg (by omega)]
            case measure => simp [intOf]; omega
          · have hkl : k = a.final.length := by omega
            subst hkl
            clear hrf hxw
            go_wp2_with fail
            (try simp only [Exit.inBlock, Exit.then])
            refine bodyPost_ret (v := .agg #[.slice Av6 (a.next.length + 1) cv6, .slice (some ⟨w.heap.size + 1 + 1, 0, none⟩) (a.next.length + 1) (a.next.length + 1)]) (by simp only [results, Try.results37]; go_simp) rfl ?_
            refine ⟨_, _, rfl, ?_, ?_, ?_, ?_⟩
            · exact ((HA.out.setFar (by simp) _).setFar (by simp) _).mono (by omega)
            · omega
            · exact ((HM.out.2.2.2.1.setOther (by simp) _).setOther (by simp) _).congr fun j hj => HFF.out j hj
            · exact (Hxw.out.set (by simp) _).set (by simp) _
end Go.Proofs.Ytdiedghaoleblaa
