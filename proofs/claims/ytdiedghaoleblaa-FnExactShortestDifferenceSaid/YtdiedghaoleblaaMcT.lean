/- The machine of an automaton, in the reference. -/
import Derived.Test.YtdiedghaoleblaaMcE
import Derived.Test.YtdiedghaoleblaaMach
import Derived.Test.YtdiedghaoleblaaAutD
namespace Go.Proofs.Ytdiedghaoleblaa
open Go.RowKit

/-- The machine of an automaton. -/
def totM (a : Au) : Mc := ⟨mRows a, (List.range (a.next.length + 1)).map (fun (i : Nat) => decide ((i : Int) ∈ a.final))⟩
theorem totM_len (a : Au) : (totM a).nx.length = a.next.length + 1 := mRows_len a
theorem totM_fin (a : Au) {i : Nat} (hi : i < a.next.length + 1) : mF (totM a) i = decide ((i : Int) ∈ a.final) := by
  unfold mF totM
  rw [getD_lt _ _ (by simpa using hi)]
  simp
theorem totM_ok {a : Au} (hv : vAut a = true) : MOk (totM a) := by
  have hl := vAut_len hv
  refine ⟨by rw [totM_len]; omega, by rw [totM_len]; omega, by rw [totM_len]; simp [totM], fun i hi => ?_, fun i hi j hj => ?_⟩
  · rw [totM_len] at hi
    exact (mRows_row hv hi).1
  · rw [totM_len] at hi ⊢
    have := (mRows_row hv hi).2 j hj
    show 0 ≤ at0 (rw0 (mRows a) i) j ∧ at0 (rw0 (mRows a) i) j < ((a.next.length + 1 : Nat) : Int)
    omega
/-- Rows and a row of bools that read as a machine. -/
theorem RdM.of {w : World} {vn : Value} {m : Mc} {b off c : Nat} (hm : MOk m) (hN : SRows w vn m.nx) (hc : m.nx.length ≤ c) (hb : b < w.heap.size) (hF : Fins w b off m) : RdM w vn (.slice (some ⟨b, off, none⟩) m.nx.length c) m := by
  obtain ⟨A, cp, rfl, hl, -⟩ := hN.form
  obtain ⟨b1, off1, A1, c1, rfl, hb1, -, -⟩ := hN.at_ (k := 0) hm.pos
  refine ⟨b1, off1, cp, b, off, c, rfl, rfl, hb1, hb, hl, hc, fun s hs => ?_, hF, hm⟩
  obtain ⟨b2, off2, A2, c2, e, hb2, f1, hrow⟩ := hN.at_ hs
  injection e with e
  injection e with e1 e2
  subst e1; subst e2
  have h6 := hm.six s hs
  obtain ⟨b3, off3, rfl, hb3, -⟩ := hrow.at_ (k := 0) (by omega)
  have hcap : 6 ≤ c2 := by
    obtain ⟨A9, c9, e9, h9, -⟩ := hrow.form
    injection e9 with _ _ e9
    omega
  rw [h6] at f1
  refine ⟨b3, off3, c2, f1, hb3, hcap, fun v hv => ?_⟩
  have := hrow.cell_ (k := v) (by omega)
  rw [this, hm.to hs hv]
theorem MOk.okRows {m : Mc} (hm : MOk m) : m.nx.length * 24 ≤ 140737488355328 ∧ (∀ i, i < m.nx.length → (rw0 m.nx i).length * 8 ≤ 140737488355328) ∧ (∀ i, i < m.nx.length → ∀ j, j < (rw0 m.nx i).length → I64 (at0 (rw0 m.nx i) j)) := by
  have := hm.le
  refine ⟨by omega, fun i hi => by rw [hm.six i hi]; omega, fun i hi j hj => ?_⟩
  rw [hm.six i hi] at hj
  have := hm.rng i hi j hj
  unfold I64; omega
/-- The program's machine reads so. -/
theorem RdM.mach {a : Au} {w w' : World} {e : Ending} (hv : vAut a = true) (h : NewMach a w e w') : ∃ vn vf, e = .returned (.agg #[vn, vf]) ∧ RdM w' vn vf (totM a) ∧ Ext w w' := by
  obtain ⟨vn, b, he, hA, hb, hr, hx⟩ := h
  have hm := totM_ok hv
  obtain ⟨q1, q2, q3⟩ := hm.okRows
  refine ⟨vn, _, he, ?_, hx⟩
  have := RdM.of (c := a.next.length + 1) (off := 0) hm (hA.rows q1 q2 q3) (by rw [totM_len]; omega) hr.lt (fun s hs => by
    rw [totM_len] at hs
    rw [Nat.zero_add, hr.cell hs, totM_fin a hs, mFin, List.take_length])
  rwa [totM_len] at this
theorem AppB.cell {B : Nat} {w : World} {A : Option Addr} {n c : Nat} {bs : List Bool} (h : AppB B w (.slice A n c) bs) {i : Nat} (hi : i < bs.length) : ∃ g, A = some ⟨g, 0, none⟩ ∧ g < w.heap.size ∧ n = bs.length ∧ n ≤ c ∧ ∀ j, j < bs.length → w.cell? ⟨g, j, none⟩ = some (.bool (bs.getD j false)) := by
  rcases h.2 with ⟨h1, h2⟩ | ⟨g, cap, cur, h1, hg, hh, hnc, hm, hcs, htk⟩
  · omega
  · injection h1 with e1 e2 e3
    subst e1; subst e3
    refine ⟨g, rfl, (Array.getElem?_eq_some_iff.1 hh).1, e2, by omega, fun j hj => ?_⟩
    have e1 : (cur.toList.take (bs.length * 1))[j]? = (bs.map vB)[j]? := by rw [htk]
    rw [List.getElem?_take, if_pos (by omega), List.getElem?_map, List.getElem?_eq_getElem hj, Array.getElem?_toList] at e1
    rw [getD_lt _ _ hj]
    simp [World.cell?, hh, e1, vB]
theorem AppB.form {B : Nat} {w : World} {v : Value} {bs : List Bool} (h : AppB B w v bs) : ∃ A c, v = .slice A bs.length c ∧ bs.length ≤ c := by
  rcases h.2 with ⟨h1, h2⟩ | ⟨g, cap, cur, h1, -, -, h2, -⟩
  · exact ⟨none, 0, by rw [h1, h2], by omega⟩
  · exact ⟨_, _, h1, h2⟩
/-- A machine of its own came: its rows may be written. -/
def NewMcO (m : Mc) (w : World) (e : Ending) (w' : World) : Prop := ∃ vn vf kb, e = .returned (.agg #[vn, vf]) ∧ Apt w w' [iB w.heap.size vf m.fin, iW w.heap.size vn m.nx kb]
/-- A machine of its own came. -/
def NewMc (m : Mc) (w : World) (e : Ending) (w' : World) : Prop := ∃ vn vf, e = .returned (.agg #[vn, vf]) ∧ RdM w' vn vf m ∧ Ext w w'
/-- A machine that the call has made, as two rows that grow. -/
theorem RdM.grown {w : World} {m : Mc} {B : Nat} {vn vb : Value} {kb : Nat → Nat} (hm : MOk m) (h1 : OwnW B w vn m.nx kb) (h2 : AppB B w vb m.fin) : RdM w vn vb m := by
  obtain ⟨q1, q2, q3⟩ := hm.okRows
  obtain ⟨A, c, rfl, hc⟩ := h2.form
  obtain ⟨g, rfl, hg, -, -, hcell⟩ := h2.cell (i := 0) (by have := hm.fl; have := hm.pos; omega)
  have := RdM.of (c := c) (off := 0) hm (h1.rows q1 q2 q3) (by rw [← hm.fl]; exact hc) hg (fun s hs => by rw [Nat.zero_add, hcell s (by rw [hm.fl]; exact hs)]; rfl)
  rwa [← hm.fl] at this
theorem Apt.nilB {w0 W : World} {l : List Itm} (h : Apt w0 W l) (B : Nat) : Apt w0 W (iB B (.slice none 0 0) [] :: l) :=
  h.push _ (Ext.refl W) (World.ownsRow_nil W B _ _) (fun k hk => by cases hk) (iB_st _ _ _)
/-- The first u numbers of a row in the making. -/
def tR (r : List Int) (u j : Nat) : Value := if j < u then .int .i64 (at0 r j) else .int .i64 0
def tR1 (r : List Int) (u : Nat) (y : Int) (j : Nat) : Value := if j = u then .int .i64 y else tR r u j
theorem tR1_done {r : List Int} {u : Nat} {y : Int} (h : y = at0 r u) (j : Nat) : tR1 r u y j = tR r (u + 1) j := by
  subst h
  unfold tR1 tR
  by_cases e : j = u
  · subst e; rw [if_pos rfl, if_pos (by omega)]
  · rw [if_neg e]
    by_cases e2 : j < u
    · rw [if_pos e2, if_pos (by omega)]
    · rw [if_neg e2, if_neg (by omega)]
theorem tR_row {r : List Int} {B b : Nat} {W : World} (h6 : r.length = 6) (h : W.rowIs b 3 6 (tR r 6)) (hb : B ≤ b) : RowV B W (.slice (some ⟨b, 0, none⟩) 6 6) r := by
  refine ⟨b, 6, _, by rw [h6], hb, by rw [h6]; omega, h, fun i hi => ?_⟩
  rw [h6] at hi
  rw [tR, if_pos hi]
  rfl
def finL (a : Au) (k : Nat) : List Bool := (List.range k).map (fun (i : Nat) => decide ((i : Int) ∈ a.final))
theorem finL_succ (a : Au) (k : Nat) : finL a k ++ [decide ((k : Int) ∈ a.final)] = finL a (k + 1) := by unfold finL; rw [List.range_succ, List.map_append]; rfl
theorem finL_len (a : Au) (k : Nat) : (finL a k).length = k := by simp [finL]
theorem mRows_take (a : Au) {k : Nat} (hk : k < a.next.length + 1) : (mRows a).take k ++ [rw0 (mRows a) k] = (mRows a).take (k + 1) := by
  rw [List.take_add_one, List.getElem?_eq_getElem (by rw [mRows_len]; exact hk), rw0, getD_lt _ _ (by rw [mRows_len]; exact hk)]
  rfl
theorem mRows_tlen (a : Au) {k : Nat} (hk : k ≤ a.next.length + 1) : ((mRows a).take k).length = k := by rw [List.length_take, mRows_len]; omega
set_option maxRecDepth 100000 in
set_option maxHeartbeats 16000000 in
theorem total2_any (vn vf : Value) (a : Au) (w : World) (hN : SRows w vn a.next) (hF : SInts w vf a.final) (hv : vAut a = true) :
    Calls Try.prog 41 #[.agg #[vn, vf]] w (NewMcO (totM a) w) := by
  have hN0 := hide hN
  have hF0 := hide hF
  obtain ⟨A, c, rfl, -, hln⟩ := hN.form
  obtain ⟨A', c', rfl, -, hlf⟩ := hF.form
  have hl8 := vAut_len hv
  have HV := hide hv
  have HFR := hide (show allR a.final 0 (a.next.length - 1) = true by simp only [vAut, vFin, Bool.and_eq_true] at hv; exact hv.2.1)
  clear hN hF hv
  have h0 := ((((((Apt.nil_ (Ext.refl w)).newC [.slice A a.next.length c, .slice A' a.final.length c'] 26 rfl).newC [.slice none 0 0, .slice none 0 0] 59 rfl).newC [.slice none 0 0, .slice none 0 0] 59 rfl)).nilW w.heap.size (fun _ => 0)).nilB w.heap.size
  simp only [World.size_alloc] at h0
  have H0 := hide h0
  clear h0
  go_enter Try.func41, Try.ntmps41
  go_wp2
  go_loopw [5] (fun i wr => ∃ (k : Nat) (vR vB : Value) (kb : Nat → Nat), i = .int .i64 k ∧ k ≤ a.next.length + 1 ∧
    Apt w wr [iB w.heap.size vB (finL a k), iW w.heap.size vR ((mRows a).take k) kb, iC (w.heap.size + 1 + 1) [vR, vB], iC (w.heap.size + 1) [.slice none 0 0, .slice none 0 0], iC w.heap.size [.slice A a.next.length c, .slice A' a.final.length c']]) (fun i _ => 20 - (intOf i).toNat)
  case atStart => exact ⟨0, .slice none 0 0, .slice none 0 0, fun _ => 0, rfl, by omega, H0.out⟩
  case round =>
    obtain ⟨k, vR, vB, kb, rfl, hk, hA⟩ := hrel
    obtain ⟨W0, rfl⟩ : ∃ W0, W0 = wr := ⟨wr, rfl⟩
    have HA := hide hA
    have m0 := (hA.cellC 4 rfl 0 rfl).1
    by_cases hlt : k ≤ a.next.length
    · have hkI : (k : Int) ≤ a.next.length := by omega
      have hrow6 := hide (mRows_row HV.out (i := k) (by omega))
      obtain ⟨r, hr⟩ : ∃ r, r = rw0 (mRows a) k := ⟨_, rfl⟩
      rw [← hr] at hrow6
      have HRE := hide hr
      clear hA hr
      go_wp2_with (at_make; go_must (refine wpList_make_gen _ rfl _ _ 24 rfl 3 (.int .i64 0) 1 8 Try.underlying24 Try.infoI .i64 .i64 6 rfl rfl (by omega) (by omega) (fun _ => .int .i64 0) (fun i _ => by simp [Value.cells, Nat.mod_one]) ?_); intro w3 hrow hsz hx)
      have hbr : w.heap.size ≤ W0.heap.size := HA.out.ext.size
      have H3 := HA.out.mkR hrow (Nat.le_refl _) hx
      obtain ⟨br, hbre⟩ : ∃ br, br = W0.heap.size := ⟨_, rfl⟩
      rw [← hbre] at H3 hbr ⊢
      clear hrow hsz hx hbre
      have H3 := hide (H3.congrR 0 rfl (g := tR r 0) (fun j _ => by unfold tR; rw [if_neg (by omega)]))
      clear m0
      go_wp2
      go_loopw [7] (fun i wi => ∃ u : Nat, i = .int .i64 u ∧ u ≤ 6 ∧ Apt w wi (iR br 3 6 (tR r u) :: [iB w.heap.size vB (finL a k), iW w.heap.size vR ((mRows a).take k) kb, iC (w.heap.size + 1 + 1) [vR, vB], iC (w.heap.size + 1) [.slice none 0 0, .slice none 0 0], iC w.heap.size [.slice A a.next.length c, .slice A' a.final.length c']])) (fun i _ => 6 - (intOf i).toNat)
      case atStart => exact ⟨0, rfl, by omega, H3.out⟩
      case round =>
        obtain ⟨u, rfl, hu, hA⟩ := hrel
        obtain ⟨W1, rfl⟩ : ∃ W1, W1 = wr := ⟨wr, rfl⟩
        have HA := hide hA
        have m0 := (hA.cellC 5 rfl 0 rfl).1
        by_cases hul : u < 6
        · have huI : (u : Int) ≤ 5 := by omega
          have huI6 : (u : Int) < 6 := by omega
          have c0 := (show W1.rowIs br 3 6 _ from hA.p 0 _ rfl).cell (i := u) hul
          have z0 := (show W1.rowIs br 3 6 _ from hA.p 0 _ rfl).frozen u
          have hbrn : br ≠ w.heap.size := fun e => hA.ap 0 5 _ _ rfl rfl (by omega) br rfl e
          have hbrW : br < W1.heap.size := (hA.d 0 _ rfl br rfl).2
          have hfin : ∀ y : Int, y = at0 r u → ∀ W9, W9 = W1.setCell ⟨br, u, none⟩ (.int .i64 y) → Apt w W9 (iR br 3 6 (tR r (u + 1)) :: [iB w.heap.size vB (finL a k), iW w.heap.size vR ((mRows a).take k) kb, iC (w.heap.size + 1 + 1) [vR, vB], iC (w.heap.size + 1) [.slice none 0 0, .slice none 0 0], iC w.heap.size [.slice A a.next.length c, .slice A' a.final.length c']]) := fun y hy W9 e => by
            subst e
            exact (HA.out.setR 0 rfl u (.int .i64 y)).congrR 0 rfl (fun j _ => by rw [← tR1_done hy]; rfl)
          have hfin2 : ∀ (y z : Int), y = at0 r u → ∀ W9, W9 = (W1.setCell ⟨br, u, none⟩ (.int .i64 z)).setCell ⟨br, u, none⟩ (.int .i64 y) → Apt w W9 (iR br 3 6 (tR r (u + 1)) :: [iB w.heap.size vB (finL a k), iW w.heap.size vR ((mRows a).take k) kb, iC (w.heap.size + 1 + 1) [vR, vB], iC (w.heap.size + 1) [.slice none 0 0, .slice none 0 0], iC w.heap.size [.slice A a.next.length c, .slice A' a.final.length c']]) := fun y z hy W9 e => by
            subst e
            exact ((HA.out.setR 0 rfl u (.int .i64 z)).setR 0 rfl u (.int .i64 y)).congrR 0 rfl (fun j _ => by
              rw [← tR1_done hy]
              unfold tR1
              by_cases e : j = u <;> simp [e])
          have HFIN := hide hfin
          have HFIN2 := hide hfin2
          by_cases hkn : k < a.next.length
          · have hknI : (k : Int) < a.next.length := by omega
            obtain ⟨b, off, A3, c3, rfl, hbw, f1, hrow⟩ := hN0.out.at_ hkn
            have hvr := vRows_at (show vRows a.next 6 (-1) (a.next.length - 1) = true by have := HV.out; simp only [vAut, Bool.and_eq_true] at this; exact this.1) hkn
            have h6 : (rw0 a.next k).length = 6 := by have := hvr.1; omega
            obtain ⟨b4, off4, rfl, hb4w, f3⟩ := hrow.at_ (k := u) (by omega)
            rw [h6] at f1
            have f1 := (hA.ext.cells _ _ hbw).trans f1
            have f3 := (hA.ext.cells _ _ hb4w).trans f3
            have hrange := allR_at hvr.2 (k := u) (by omega)
            have hat : at0 r u = mTo a.next.length (at0 (rw0 a.next k) u) := by rw [HRE.out, mRows_at hkn, mRow_at _ _ (by omega)]
            have HAT := hide hat
            obtain ⟨tt, htt⟩ : ∃ tt, tt = at0 (rw0 a.next k) u := ⟨_, rfl⟩
            rw [← htt] at f3 hrange HAT
            have hb4n : b4 ≠ br := by omega
            have hbn : b ≠ br := by omega
            clear hA hvr hrow htt hat hfin hfin2
            by_cases ht : tt ≥ 0
            · have htB : (0 : Int) ≤ tt := ht
              go_wp2
              go_roundw
              case rel => exact ⟨u + 1, by go_num, by omega, HFIN2.out _ _ (by rw [HAT.out, mTo, if_neg (by omega)]) _ rfl⟩
              case measure => simp [intOf]; omega
            · have htB : ¬ ((0 : Int) ≤ tt) := by omega
              go_wp2
              go_roundw
              case rel => exact ⟨u + 1, by go_num, by omega, HFIN.out _ (by rw [HAT.out, mTo, if_pos (by omega)]) _ rfl⟩
              case measure => simp [intOf]; omega
          · have hknI : ¬ ((k : Int) < a.next.length) := by omega
            obtain rfl : k = a.next.length := by omega
            have hat : (a.next.length : Int) = at0 r u := by rw [HRE.out, mRows_last, at0_replicate _ _ hul]
            have HAT := hide hat
            clear hA hat hfin hfin2
            go_wp2
            go_roundw
            case rel => exact ⟨u + 1, by go_num, by omega, HFIN.out _ HAT.out _ rfl⟩
            case measure => simp [intOf]; omega
        · obtain rfl : u = 6 := by omega
          have HRV := hide (tR_row hrow6.out.1 (show W1.rowIs br 3 6 _ from hA.p 0 _ rfl) hbr)
          obtain ⟨An, cn, hvn, -⟩ := (show OwnW w.heap.size W1 vR ((mRows a).take k) kb from hA.p 2 _ rfl).form
          rw [mRows_tlen a hk] at hvn
          subst hvn
          obtain ⟨Ab, cb, hvb, -⟩ := (show AppB w.heap.size W1 vB (finL a k) from hA.p 1 _ rfl).form
          rw [finL_len] at hvb
          subst hvb
          have hne : ∀ i, i < ((mRows a).take k).length → (Value.slice (some ⟨br, 0, none⟩) 6 6).ownBlock ≠ some (kb i) := fun i hi e => hA.ap 0 2 _ _ rfl rfl (by omega) (kb i) (by injection e with e; exact e.symm) (.inr ⟨i, hi, rfl⟩)
          have HNE := hide hne
          have n0 := (hA.cellC 3 rfl 0 rfl).1
          have H7 := hide (HA.out.grow ((Ext.refl _).alloc (.cells #[.slice (some ⟨br, 0, none⟩) 6 6] 24)))
          clear hA hne
          go_wp2_with (at_builtin; go_must (refine wpList_appW _ rfl _ _ rfl w.heap.size _ ((mRows a).take k) kb r (.slice (some ⟨br, 0, none⟩) 6 6) _ 1 rfl rfl (H7.out.p 2 _ rfl) (by go_simp) (HRV.out.ext ((Ext.refl _).alloc _)) (by rw [mRows_tlen a hk]; omega) (by have := H7.out.ext.size; exact this) HNE.out ?_); intro v' w7 kb' hA7 h17 h27 hg7 ho7; have H8 := hide (H7.out.addW (rv := .slice (some ⟨br, 0, none⟩) 6 6) (fun k => ⟨fun h => by rw [show k = br from h]; rfl, fun h => by injection h with h; exact h.symm⟩) 1 rfl hA7 h17 h27 hg7 ho7); rw [HRE.out, mRows_take a (by omega)] at hA7 H8; have p0 := (H8.out.cellC 2 rfl 0 rfl).1; have y0 := (H8.out.cellC 2 rfl 0 rfl).2; obtain ⟨A8, c8, hv8, -⟩ := hA7.form; rw [mRows_tlen a (by omega)] at hv8; subst hv8; clear hA7 h17 h27 hg7 ho7)
          have H9 := hide (H8.out.set 2 (w.heap.size + 1 + 1) _ rfl 0 (.slice A8 (k + 1) c8) (by simp))
          generalize hW8 : w7.setCell ⟨w.heap.size + 1 + 1, 0, none⟩ (.slice A8 (k + 1) c8) = W8 at *
          clear hW8 p0 y0 n0
          have n1 := (H9.out.cellC 2 rfl 1 rfl).1
          have hmW : w.heap.size + 1 + 1 < W8.heap.size := (H9.out.d 2 _ rfl (w.heap.size + 1 + 1) rfl).2
          have a0 := (H9.out.cellC 4 rfl 0 rfl).1
          have a1 := (H9.out.cellC 4 rfl 1 rfl).1
          have haW : w.heap.size < W8.heap.size := (H9.out.d 4 _ rfl w.heap.size rfl).2
          by_cases hkn : k < a.next.length
          · have hknI : (k : Int) < a.next.length := by omega
            refine wp_region_any (by kernel_rfl) ?_
            change wpAny _ _ _ _ _ _ _ (World.drew _)
            refine wpAny_take (i := 0) (v := ?_) rfl (by kernel_rfl) (by kernel_rfl) (by kernel_rfl) (by first | exact fun _ _ _ h => h | (rintro _ _ _ ⟨h, _⟩; cases h)) (Or.inl ⟨by rfl, ?hy0⟩) ?_
            case hy0 => intro w; go_simp; with_reducible rfl
            simp only [Act.put, List.getElem_toArray, List.getElem_cons_zero, List.setIfInBounds_toArray, List.set_cons_succ, List.set_cons_zero]
            refine wpAny_ixF ((Ext.refl _).drew) 10 1 [2,3,4,5,6,7,8,9] [11,12,13] (.slice Ab k cb) rfl rfl (by kernel_rfl) rfl (And.intro (by rfl) ?hys) ?_
            case hys => intro w' hw'; have hk' := hw'.cells; go_simp; all_goals exact rfl
            simp only [nths, nth1, Act.put, List.setIfInBounds_toArray, List.set_cons_succ, List.set_cons_zero]
            iterate 6 (apply quiet_val; (focus rfl); (focus (intro w' hw'; have hk' := hw'.cells; go_simp; all_goals exact rfl)); simp only [Act.put, List.setIfInBounds_toArray, List.set_cons_succ, List.set_cons_zero])
            apply quiet_call; (focus rfl); (focus (intro w' hw'; go_simp; all_goals (first | exact rfl | (apply And.intro <;> exact rfl))))
            · exact fun w' hw' => Ret.quiet (isFinal_any _ _ a k _ (hN0.out.ext (H9.out.ext.trans hw')) (hF0.out.ext (H9.out.ext.trans hw'))) hw'
            (simp only [Act.put, List.setIfInBounds_toArray, List.set_cons_succ, List.set_cons_zero])
            (apply quiet_val; (focus rfl); (focus (intro w' hw'; have hk' := hw'.cells; go_simp; all_goals exact rfl)); simp only [Act.put, List.setIfInBounds_toArray, List.set_cons_succ, List.set_cons_zero])
            refine wpQuiet_nil ?_
            intro w9 hx9
            refine ⟨_, _, by go_simp; first | exact rfl | exact ⟨rfl, rfl⟩, (hx9.alloc _), ?_⟩; simp only [List.setIfInBounds_toArray, List.set_cons_succ, List.set_cons_zero]
            have H10 := hide (H9.out.grow (hx9.alloc (.cells #[.bool (decide ((k : Int) ∈ a.final))] 4)))
            have HDE := hide (show decide ((k : Int) ∈ a.final) = decide ((k : Int) ∈ a.final) from rfl)
            clear n1 hmW a0 a1 haW hx9
            go_wp2_with (at_builtin; go_must (refine wpList_appBO _ rfl _ _ rfl w.heap.size _ (finL a k) (decide ((k : Int) ∈ a.final)) _ 1 rfl rfl (H10.out.p 0 _ rfl) (by go_simp) (by rw [finL_len]; omega) (by have := H10.out.ext.size; exact this) ?_); intro v' w7 hA7 hg7 ho7; have H11 := hide (H10.out.appB 0 rfl hA7 hg7 ho7); rw [finL_succ] at hA7 H11; have p1 := (H11.out.cellC 2 rfl 1 rfl).1; have y1 := (H11.out.cellC 2 rfl 1 rfl).2; obtain ⟨A9, c9, hv9, -⟩ := hA7.form; rw [finL_len] at hv9; subst hv9; clear hA7 hg7 ho7)
            go_wp2
            go_roundw
            case rel => exact ⟨k + 1, .slice A8 (k + 1) c8, .slice A9 (k + 1) c9, kb', by go_num, by omega, H11.out.set 2 (w.heap.size + 1 + 1) _ rfl 1 _ (by simp)⟩
            case measure => simp [intOf]; omega
          · have hknI : ¬ ((k : Int) < a.next.length) := by omega
            have HDE := hide (show false = decide ((k : Int) ∈ a.final) by
              symm
              rw [decide_eq_false_iff_not]
              intro h
              obtain ⟨i, hi, e⟩ := List.mem_iff_getElem.1 h
              have := allR_at HFR.out hi
              unfold at0 at this
              rw [getD_lt _ _ hi, e] at this
              omega)
            refine wp_region_any (by kernel_rfl) ?_
            change wpAny _ _ _ _ _ _ _ (World.drew _)
            refine wpAny_take (i := 0) (v := ?_) rfl (by kernel_rfl) (by kernel_rfl) (by kernel_rfl) (by first | exact fun _ _ _ h => h | (rintro _ _ _ ⟨h, _⟩; cases h)) (Or.inl ⟨by rfl, ?hy0⟩) ?_
            case hy0 => intro w; go_simp; with_reducible rfl
            simp only [Act.put, List.getElem_toArray, List.getElem_cons_zero, List.setIfInBounds_toArray, List.set_cons_succ, List.set_cons_zero]
            refine wpAny_ixF ((Ext.refl _).drew) 10 1 [2,3,4,5,6,7,8,9] [11,12,13] (.slice Ab k cb) rfl rfl (by kernel_rfl) rfl (And.intro (by rfl) ?hys) ?_
            case hys => intro w' hw'; have hk' := hw'.cells; go_simp; all_goals exact rfl
            simp only [nths, nth1, Act.put, List.setIfInBounds_toArray, List.set_cons_succ, List.set_cons_zero]
            iterate 4 (apply quiet_val; (focus rfl); (focus (intro w' hw'; have hk' := hw'.cells; go_simp; all_goals exact rfl)); simp only [Act.put, List.setIfInBounds_toArray, List.set_cons_succ, List.set_cons_zero])
            iterate 3 (refine BigFrame.wpQuiet_skip (by rfl) ?_; (simp only [Act.put, List.setIfInBounds_toArray, List.set_cons_succ, List.set_cons_zero]))
            (apply quiet_val; (focus rfl); (focus (intro w' hw'; have hk' := hw'.cells; go_simp; all_goals exact rfl)); simp only [Act.put, List.setIfInBounds_toArray, List.set_cons_succ, List.set_cons_zero])
            refine wpQuiet_nil ?_
            intro w9 hx9
            refine ⟨_, _, by go_simp; first | exact rfl | exact ⟨rfl, rfl⟩, (hx9.alloc _), ?_⟩; simp only [List.setIfInBounds_toArray, List.set_cons_succ, List.set_cons_zero]
            have H10 := hide (H9.out.grow (hx9.alloc (.cells #[.bool false] 4)))
            clear n1 hmW a0 a1 haW hx9
            go_wp2_with (at_builtin; go_must (refine wpList_appBO _ rfl _ _ rfl w.heap.size _ (finL a k) false _ 1 rfl rfl (H10.out.p 0 _ rfl) (by go_simp) (by rw [finL_len]; omega) (by have := H10.out.ext.size; exact this) ?_); intro v' w7 hA7 hg7 ho7; have H11 := hide (H10.out.appB 0 rfl hA7 hg7 ho7); rw [HDE.out, finL_succ] at hA7 H11; have p1 := (H11.out.cellC 2 rfl 1 rfl).1; have y1 := (H11.out.cellC 2 rfl 1 rfl).2; obtain ⟨A9, c9, hv9, -⟩ := hA7.form; rw [finL_len] at hv9; subst hv9; clear hA7 hg7 ho7)
            go_wp2
            go_roundw
            case rel => exact ⟨k + 1, .slice A8 (k + 1) c8, .slice A9 (k + 1) c9, kb', by go_num, by omega, H11.out.set 2 (w.heap.size + 1 + 1) _ rfl 1 _ (by simp)⟩
            case measure => simp [intOf]; omega
    · obtain rfl : k = a.next.length + 1 := by omega
      have hkI : ¬ ((a.next.length + 1 : Nat) : Int) ≤ a.next.length := by omega
      have hm := totM_ok HV.out
      have hRW := (show OwnW w.heap.size W0 vR ((mRows a).take (a.next.length + 1)) kb from hA.p 1 _ rfl)
      have hFB := (show AppB w.heap.size W0 vB (finL a (a.next.length + 1)) from hA.p 0 _ rfl)
      rw [List.take_of_length_le (by rw [mRows_len]; omega)] at hRW
      have hRM := RdM.grown hm hRW hFB
      have HRM := hide hRM
      obtain ⟨An, cn, rfl, -⟩ := hRW.form
      obtain ⟨Ab, cb, rfl, -⟩ := hFB.form
      have n0 := (hA.cellC 2 rfl 0 rfl).1
      have n1 := (hA.cellC 2 rfl 1 rfl).1
      obtain ⟨r0, y0⟩ := hA.cellC 3 rfl 0 rfl
      obtain ⟨r1, y1⟩ := hA.cellC 3 rfl 1 rfl
      have HX := hide hA.ext
      have hrs : w.heap.size + 1 < W0.heap.size := (hA.d 3 _ rfl (w.heap.size + 1) rfl).2
      have HAP := hide hA
      clear hA hRW hFB hRM hm
      go_wp2
      refine bodyPost_ret (v := .agg #[.slice An (mRows a).length cn, .slice Ab (finL a (a.next.length + 1)).length cb]) ?res rfl ?_
      case res =>
        unfold results
        simp only [Try.f41]
        go_simp
      have h9 := ((HAP.out.set 3 (w.heap.size + 1) _ rfl 0 (.slice An (mRows a).length cn) (by simp)).set 3 (w.heap.size + 1) _ rfl 1 (.slice Ab (finL a (a.next.length + 1)).length cb) (by simp))
      rw [List.take_of_length_le (by rw [mRows_len]; omega)] at h9
      exact ⟨_, _, kb, rfl, h9.take 2⟩
theorem total_any (vn vf : Value) (a : Au) (w : World) (hN : SRows w vn a.next) (hF : SInts w vf a.final) (hv : vAut a = true) :
    Calls Try.prog 41 #[.agg #[vn, vf]] w (NewMc (totM a) w) := by
  refine (total2_any vn vf a w hN hF hv).mono ?_
  rintro e w' ⟨vn2, vf2, kb, he, hA⟩
  exact ⟨vn2, vf2, he, RdM.grown (totM_ok hv) (show OwnW _ _ _ _ kb from hA.p 1 _ rfl) (show AppB _ _ _ _ from hA.p 0 _ rfl), hA.ext⟩
end Go.Proofs.Ytdiedghaoleblaa
