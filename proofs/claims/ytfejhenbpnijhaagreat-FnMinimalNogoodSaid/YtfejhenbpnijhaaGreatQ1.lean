/- Draws of the generator: a model and literals. -/
import Derived.Test.YtfejhenbpnijhaaGreatRdA
import Derived.Test.YtfejhenbpnijhaaGreatDrw18
import Derived.Test.YtfejhenbpnijhaaGreatDrwB
import Derived.Test.YtfejhenbpnijhaaGreatDrwC
namespace Go.Proofs.YtfejhenbpnijhaaGreat
open Go.RowKit

theorem SLt.of_lay {w : World} {v : Value} {ls : List Lt} (h : layLt.S w v ls) : SLt w v ls := by
  obtain ⟨A, c, h1, h2, h3, h5⟩ := h
  refine ⟨A, c, h1, h2, h3, fun hp => ?_⟩
  obtain ⟨b, off, e, hb, hc⟩ := h5 hp
  refine ⟨b, off, e, hb, fun j hj => ?_⟩
  have hl : lt0 ls j = ls[j] := by simp [lt0, hj]
  have hf : ∀ t, t < 3 → (layLt.flat ls)[j * 3 + t]? = (layLt.enc ls[j])[t]? := fun t ht => LayOk.flat_at layLtOk ls j t hj ht
  refine ⟨?_, ?_, ?_⟩
  · exact hc (j * 3 + 0) _ ((hf 0 (by omega)).trans (by rw [← hl]; rfl))
  · have := hc (j * 3 + 1) _ ((hf 1 (by omega)).trans (by rw [← hl]; rfl)); rw [← Nat.add_assoc] at this; exact this
  · have := hc (j * 3 + 2) _ ((hf 2 (by omega)).trans (by rw [← hl]; rfl)); rw [← Nat.add_assoc] at this; exact this
/-- A model and literals came. -/
def DrefGot (w : World) (e : Ending) (W' : World) : Prop :=
  ∃ vd vc vl ds cs ls, e = .returned (.tuple #[.agg #[vd, vc], vl]) ∧ SInts W' vd ds ∧ SCons W' vc cs ∧ SLt W' vl ls ∧ 1 ≤ ds.length ∧ ds.length ≤ 4 ∧ Ext w W'
end Go.Proofs.YtfejhenbpnijhaaGreat
/- Draws of the generator: a hard model and literals. Printed by gendrw25.py. -/
namespace Go.Proofs.YtfejhenbpnijhaaGreat
open Go.RowKit

/-- A model stands in block mb. -/
structure MJ (w0 : World) (br N mb : Nat) (W1 W : World) (n cap g : Nat) (Ac : Option Addr) (ec : Nat) (cs : List Con) : Prop where
  m0 : W.cell? ⟨mb, 0, none⟩ = some (.slice (some ⟨g, 0, none⟩) n cap)
  m1 : W.cell? ⟨mb, 1, none⟩ = some (.slice Ac cs.length ec)
  fz : ∀ i, W.frozen? ⟨mb, i, none⟩ = false
  sz : mb < W.heap.size
  ge : W1.heap.size ≤ mb
  b0 : br < W1.heap.size
  mf : ∃ B, MF W1.heap.size B (-1) 64 W (.slice (some ⟨g, 0, none⟩) n cap) (.slice Ac cs.length ec) n cs
  ln : cs.length ≤ 6
  kp : Keep (fun k => k ≠ br) W1 W
  rd : RdSt w0 br N W
theorem MJ.keep {w0 : World} {br N M mb : Nat} {W1 W W' : World} {n cap g : Nat} {Ac : Option Addr} {ec : Nat} {cs : List Con} (h : MJ w0 br N mb W1 W n cap g Ac ec cs) (hR : RdSt w0 br M W') (hK : Keep (fun k => k ≠ br) W W') : MJ w0 br M mb W1 W' n cap g Ac ec cs := by
  have h1 := h.ge
  have h2 := h.b0
  obtain ⟨B, hm⟩ := h.mf
  exact ⟨(hK.cell (p := ⟨mb, 0, none⟩) h.sz (by show mb ≠ br; omega)).trans h.m0, (hK.cell (p := ⟨mb, 1, none⟩) h.sz (by show mb ≠ br; omega)).trans h.m1, fun i => (hK.frz (p := ⟨mb, i, none⟩) h.sz (by show mb ≠ br; omega)).trans (h.fz i), Nat.lt_of_lt_of_le h.sz hK.size, h1, h2, ⟨B, hm.keep hK (fun k hk => by omega)⟩, h.ln, h.kp.trans hK, hR⟩
theorem MJ.mono {w0 : World} {br N M mb : Nat} {W1 W : World} {n cap g : Nat} {Ac : Option Addr} {ec : Nat} {cs : List Con} (h : MJ w0 br N mb W1 W n cap g Ac ec cs) (hM : N ≤ M) : MJ w0 br M mb W1 W n cap g Ac ec cs := ⟨h.m0, h.m1, h.fz, h.sz, h.ge, h.b0, h.mf, h.ln, h.kp, h.rd.mono hM⟩
/-- Another model is stored there. -/
theorem MJ.store {w0 : World} {br N M mb : Nat} {W1 W W' : World} {n cap g : Nat} {Ac : Option Addr} {ec : Nat} {cs : List Con} {n' cap' g' B' : Nat} {Ac' : Option Addr} {ec' : Nat} {cs' : List Con} (h : MJ w0 br N mb W1 W n cap g Ac ec cs) (hw : w0.heap.size ≤ W1.heap.size)
    (hm : MF W.heap.size B' (-1) 64 W' (.slice (some ⟨g', 0, none⟩) n' cap') (.slice Ac' cs'.length ec') n' cs') (hl : cs'.length ≤ 6) (hR : RdSt w0 br M W') (hK : Keep (fun k => k ≠ br) W W') :
    MJ w0 br M mb W1 ((W'.setCell ⟨mb, 0, none⟩ (.slice (some ⟨g', 0, none⟩) n' cap')).setCell ⟨mb, 1, none⟩ (.slice Ac' cs'.length ec')) n' cap' g' Ac' ec' cs' := by
  have h1 := h.ge
  have h2 := h.b0
  have h3 := h.sz
  have hk : Keep (fun k => k ≠ mb) W' ((W'.setCell ⟨mb, 0, none⟩ (.slice (some ⟨g', 0, none⟩) n' cap')).setCell ⟨mb, 1, none⟩ (.slice Ac' cs'.length ec')) := ((Keep.refl (fun k => k ≠ mb) W').set (p := ⟨mb, 0, none⟩) (fun _ hh => hh rfl) _).set (p := ⟨mb, 1, none⟩) (fun _ hh => hh rfl) _
  have c0 := (hK.cell (p := ⟨mb, 0, none⟩) h.sz (by show mb ≠ br; omega)).trans h.m0
  have c1 := (hK.cell (p := ⟨mb, 1, none⟩) h.sz (by show mb ≠ br; omega)).trans h.m1
  exact ⟨(World.cell?_setCell_other _ _ _ _ (by simp)).trans (World.cell?_setCell_same' _ _ _ (by rw [c0]; rfl)), World.cell?_setCell_same' _ _ _ (by rw [(World.cell?_setCell_other _ _ _ _ (by simp)).trans c1]; rfl),
    fun i => (World.frozen?_setCell ..).trans ((World.frozen?_setCell ..).trans ((hK.frz (p := ⟨mb, i, none⟩) h.sz (by show mb ≠ br; omega)).trans (h.fz i))), Nat.lt_of_lt_of_le (Nat.lt_of_lt_of_le h.sz hK.size) hk.size, h1, h2,
    ⟨B', (hm.keep hk (fun k hk => by omega)).mono (by omega) (Int.le_refl _) (Int.le_refl _)⟩, hl, (h.kp.trans hK).trans9 hk (fun k hk _ => by omega), hR.keep hk (by omega) (fun k hk => by omega)⟩
/-- A model and literals came; a nil list has no room. -/
def DmnGot (w : World) (e : Ending) (W' : World) : Prop :=
  ∃ vd vc vl ds cs ls, e = .returned (.tuple #[.agg #[vd, vc], vl]) ∧ SInts W' vd ds ∧ SCons W' vc cs ∧ SLt W' vl ls ∧ (∀ n c, vl = .slice none n c → c = 0) ∧ 1 ≤ ds.length ∧ ds.length ≤ 4 ∧ Ext w W'
theorem LayApp.nil9 {α : Type} {L : Lay α} {base : Nat} {w : World} {v : Value} {xs : List α} (h : L.App base w v xs) : ∀ n c, v = .slice none n c → c = 0 := by
  rcases h.2 with ⟨e1, -⟩ | ⟨g, cap, cur, e1, -⟩
  · intro n c e; rw [e1] at e; injection e with _ _ e; exact e.symm
  · intro n c e; rw [e1] at e; injection e with e; cases e
/-- The end of the draw. -/
theorem DmnGot.done {w W1 W W' Wl : World} {br N mb n cap g : Nat} {Ac : Option Addr} {ec : Nat} {cs : List Con} {vl : Value} {ls : List Lt} (h : MJ w br N mb W1 W n cap g Ac ec cs) (hx : Ext w W1) (hws : w.heap.size < W1.heap.size) (hbr : w.heap.size < br) (hA : layLt.App Wl.heap.size W vl ls) (hl : ls.length ≤ 100) (hWl : W1.heap.size ≤ Wl.heap.size)
    (hk : Keep (fun k => k ≠ w.heap.size) W W') : DmnGot w (.returned (.tuple #[.agg #[.slice (some ⟨g, 0, none⟩) n cap, .slice Ac cs.length ec], vl])) W' := by
  obtain ⟨B, hm⟩ := h.mf
  obtain ⟨ds, q1, q2, q3⟩ := (hm.keep hk (fun k hk => by omega)).model (by omega) (by omega) (by have := h.ln; omega)
  have n1 := hm.n1
  have n4 := hm.n4
  refine ⟨_, _, _, ds, cs, ls, rfl, q2, q3, SLt.of_lay (LayApp.S (LayApp.keepT hA hk (fun k hk => by omega)) (by show _ * 24 ≤ _; omega)), LayApp.nil9 hA, by omega, by omega, ext_of_keep ((hx.keep (fun k => k < w.heap.size)).then h.kp (fun k hk hs => by omega)) hk (fun k hk => by omega)⟩
set_option maxRecDepth 100000 in
set_option maxHeartbeats 8000000 in
theorem DrawMinimalNogood_any (v : Value) (nb : Nat) (w : World) (hB : SBytes w v nb) : Calls Tryz.prog 4 #[v] w (DmnGot w) := by
  have HB := hide hB
  obtain ⟨A, c, rfl, -⟩ := hB
  go_enter Tryz.func4, Tryz.ntmps4
  go_wp2_with fail
  refine (newReader_any w _ _ nb HB.out ((Ext.refl w).alloc _)).mono ?_
  rintro e W1 ⟨br, rfl, hR1, hx1, hbr⟩
  have hbr : w.heap.size + 1 ≤ br := by simpa using hbr
  have hrb1 : RB w.heap.size 2 W1 := by
    refine RB.keep (S := fun _ => True) ⟨by simp, fun i => World.frozen?_alloc_new _ _ _ _, fun i hi => ?_⟩ (hx1.keep _) trivial
    obtain rfl | rfl : i = 0 ∨ i = 1 := by omega
    all_goals exact ⟨_, World.cell?_alloc_at _ _ _ _ rfl⟩
  have hbrl := hR1.lt
  have HX1 := hide (((Ext.refl w).alloc _).trans hx1)
  have HR1 := hide hR1
  have HRB1 := hide hrb1
  have hws := HX1.out.size
  clear hR1 hx1 hrb1
  go_upto_region 2 with fail
  go_cut [5] from 10 (fun s5 wx => ∃ mb n cap g Ac ec cs, s5 = .pointer (some ⟨mb, 0, none⟩) ∧ MJ w br 900 mb W1 wx n cap g Ac ec cs)
  case first =>
    go_wp2_with fail
    refine (hardModel_any w br 0 _ (by omega) HR1.out).mono ?_
    rintro e W2 ⟨dv, cv, n, cs, B, rfl, hmf, hcs, hR2, hK2⟩
    obtain ⟨g, cap, rfl, -, -, -⟩ := hmf.ds.form
    obtain ⟨Ac, ec, rfl, -⟩ := hmf.ca.form
    have hx2 : Ext W2 (W2.alloc (.cells #[.slice (some ⟨g, 0, none⟩) n cap, .slice Ac cs.length ec] 26)) := (Ext.refl W2).alloc _
    have HJ := hide (show MJ w br 900 W2.heap.size W1 (W2.alloc (.cells #[.slice (some ⟨g, 0, none⟩) n cap, .slice Ac cs.length ec] 26)) n cap g Ac ec cs from
      ⟨World.cell?_alloc_at _ _ _ _ rfl, World.cell?_alloc_at _ _ _ _ rfl, fun i => World.frozen?_alloc_new _ _ _ _, by simp, hK2.size, hbrl, ⟨B, ((MV.mf hmf (by omega)).mono (Nat.le_refl _) (by omega) (by omega)).ext hx2⟩, hcs, hK2.trans (hx2.keep _), hR2.grow hx2 |>.mono (by omega)⟩)
    clear hmf hR2 hK2 hx2
    go_wp2_with fail
    go_meet
    exact ⟨_, n, cap, g, Ac, ec, cs, rfl, HJ.out⟩
  case rest =>
    obtain ⟨mb, n0, cap0, g0, Ac0, ec0, cs0, rfl, hj0⟩ := hcut
    have HJ0 := hide hj0
    clear hj0
    rename_i aK0
    refine aK0 _ _ (wp_seq_k fun K2 aK2 => ?_)
    clear aK0
    go_cut [5] from 12 (fun s5 wx => ∃ n cap g Ac ec cs, s5 = .pointer (some ⟨mb, 0, none⟩) ∧ MJ w br 1500 mb W1 wx n cap g Ac ec cs)
    case first =>
      go_wp2_with fail
      refine (pick_any w br 900 12 _ (by omega) (by omega) (by omega) HJ0.out.rd).mono ?_
      rintro e W3 ⟨z, z0, z1, rfl, hR, hK⟩
      have HJ3 := hide (HJ0.out.keep hR hK)
      clear hR hK
      by_cases hz : z = 0
      · subst hz
        go_wp2_with fail
        refine (anyModel_any w br 901 _ (by omega) HJ3.out.rd).mono ?_
        rintro e W4 ⟨dv, cv, n, cs, B, rfl, hmf, hcs, hR4, hK4⟩
        obtain ⟨g, cap, rfl, -, -, -⟩ := hmf.ds.form
        obtain ⟨Ac, ec, rfl, -⟩ := hmf.ca.form
        have HJ4 := hide (HJ3.out.keep hR4 hK4)
        have HJS := hide (HJ3.out.store (by omega) hmf (by omega) hR4 hK4)
        clear hmf hR4 hK4
        have m0 := HJ4.out.m0
        have m1 := HJ4.out.m1
        have z0 := HJ4.out.fz 0
        have z1 := HJ4.out.fz 1
        have hmz := HJ4.out.sz
        go_wp2_with fail
        go_meet
        exact ⟨n, cap, g, Ac, ec, cs, rfl, HJS.out.mono (by omega)⟩
      · have hzb : (z == 0) = false := by simp [hz]
        clear hz
        go_wp2_with fail
        go_meet
        exact ⟨_, _, _, _, _, _, rfl, HJ3.out.mono (by omega)⟩
    case rest =>
      clear HJ0
      obtain ⟨n, cap, g, Ac, ec, cs, rfl, hj⟩ := hcut
      have HJ := hide hj
      have hn4 : n ≤ 4 := by obtain ⟨B, hm⟩ := hj.mf; exact hm.n4
      have hn1 : 1 ≤ n := by obtain ⟨B, hm⟩ := hj.mf; exact hm.n1
      have hWc := hj.kp.size
      clear hj
      obtain ⟨Wb, hWb⟩ : ∃ Wb, Wb = wc := ⟨wc, rfl⟩
      subst hWb
      go_wp2_with fail
      go_loopw [6, 7] (fun o i wr => ∃ (j : Nat) (xs : List Lt), i = .int .i64 j ∧ j ≤ n ∧ layLt.App Wb.heap.size wr o xs ∧ xs.length ≤ j ∧ (∀ l ∈ xs, smLt l) ∧ RdSt w br (1500 + 3 * j) wr ∧ Keep (fun k => k ≠ br) Wb wr) (fun _ i _ => n - (intOf i).toNat)
      case atStart => exact ⟨0, [], rfl, Nat.zero_le _, LayApp.empty Wb rfl, Nat.le_refl _, (fun _ h => by cases h), HJ.out.rd.grow ((Ext.refl Wb).alloc _), ((Ext.refl Wb).alloc _).keep _⟩
      case round =>
        obtain ⟨j, xs, rfl, hj, hA, hxl, hok, hRr, hKr⟩ := hrel
        have HA := hide hA
        have HOK := hide hok
        have HJr := hide (HJ.out.keep hRr hKr)
        have HKr := hide hKr
        have hsz := hKr.size
        have m0 := HJr.out.m0
        have m1 := HJr.out.m1
        have hmz := HJr.out.sz
        obtain ⟨A1, c1, rfl, -⟩ := LayApp.form hA
        clear hA hok hRr hKr
        by_cases hjn : j < n
        · have hjI : (j : Int) < n := by omega
          go_wp2_with fail
          refine (pick_any w br _ 6 _ (by omega) (by omega) ?_ HJr.out.rd).mono ?_
          · omega
          rintro e W3 ⟨a, a0, a1, rfl, hR3, hK3⟩
          have HR3 := hide hR3
          have HK3 := hide (HKr.out.trans hK3)
          have HA3 := hide (LayApp.keepT HA.out hK3 (fun k hk => by omega))
          have hsz3 := hK3.size
          clear hR3 hK3 m0 m1
          go_wp2_with (at_builtin; go_must (refine wpList_appG layLtOk _ rfl _ _ rfl Wb.heap.size (.slice A1 xs.length c1) (.slice (some ⟨W3.heap.size, 0, none⟩) 1 1) xs [⟨j, a, false⟩] rfl rfl (LayApp.ext HA3.out ((Ext.refl W3).alloc _)) (lt_one W3 ⟨j, a, false⟩) (fun n c e => by cases e) (by simp; omega) (by show _ * 24 ≤ _; simp; omega) (by simp; omega) ?_); intro v' W4 hA4 hb4; have HA4 := hide hA4; have HB4 := hide hb4; clear hA4 hb4)
          go_roundw
          case rel =>
            refine ⟨j + 1, _, by go_num, by omega, HA4.out, by simp; omega, fun l hl => ?_, RdSt.mono ((HR3.out.grow ((Ext.refl _).alloc _)).far8 HB4.out (by omega) (by omega)) (by omega), (HK3.out.alloc _).far8 HB4.out⟩
            rcases List.mem_append.1 hl with hl | hl
            · exact HOK.out l hl
            · simp at hl; subst hl; exact ⟨by show -10 ≤ (j : Int); omega, by show (j : Int) ≤ 10; omega, by show -10 ≤ a; omega, by show a ≤ 10; omega⟩
          case measure => simp [intOf]; omega
        · obtain rfl : j = n := by omega
          have hjI : ¬ ((j : Int) < j) := by omega
          go_wp2_with fail
          refine (pick_any w br _ 4 _ (by omega) (by omega) ?_ HJr.out.rd).mono ?_
          · omega
          rintro e W3 ⟨z, z0, z1, rfl, hR3, hK3⟩
          have HJ3 := hide (HJr.out.keep hR3 hK3)
          have HA3 := hide (LayApp.keepT HA.out hK3 (fun k hk => by omega))
          have HRB3 := hide (HRB1.out.keep HJ3.out.kp (by omega))
          clear hR3 hK3 m0 m1 hmz
          have m0 := HJ3.out.m0
          have m1 := HJ3.out.m1
          have hmz := HJ3.out.sz
          have hs13 := HJ3.out.kp.size
          by_cases hz : z = 0
          · subst hz
            go_upto_region 11 with fail
            refine wp_region_any (by kernel_rfl) ?_
            change wpAny _ _ _ _ _ _ _ (World.drew _)
            refine wpAny_take (i := 1) (v := ?_) rfl (by kernel_rfl) (by kernel_rfl) (by kernel_rfl) (by first | exact fun _ _ _ h => h | (rintro _ _ _ ⟨h, _⟩; cases h)) (Or.inl ⟨by rfl, ?hy1⟩) ?_
            case hy1 => intro w; go_simp; with_reducible rfl
            simp only [Act.put, List.getElem_toArray, List.getElem_cons_zero, List.getElem_cons_succ, List.setIfInBounds_toArray, List.set_cons_succ, List.set_cons_zero]
            refine wpAny_take (i := 2) (v := ?_) rfl (by kernel_rfl) (by kernel_rfl) (by kernel_rfl) (by first | exact fun _ _ _ h => h | (rintro _ _ _ ⟨h, _⟩; cases h)) (Or.inl ⟨by rfl, ?hy2⟩) ?_
            case hy2 => intro w; go_simp; with_reducible rfl
            simp only [Act.put, List.getElem_toArray, List.getElem_cons_zero, List.getElem_cons_succ, List.setIfInBounds_toArray, List.set_cons_succ, List.set_cons_zero]
            refine wpAny_flt 0 6 [3, 4, 5] [7] (.agg #[.slice (some ⟨g, 0, none⟩) j cap, .slice Ac cs.length ec]) (fun w => w.cell? ⟨mb, 0, none⟩ = some (.slice (some ⟨g, 0, none⟩) j cap) ∧ w.cell? ⟨mb, 1, none⟩ = some (.slice Ac cs.length ec)) rfl (by kernel_rfl) rfl (fun _ _ _ h => h) ⟨m0, m1⟩ (And.intro (by rfl) ?hys) ?_
            case hys => intro w' hw'; obtain ⟨hk1, hk2⟩ : w'.cell? ⟨mb, 0, none⟩ = some (.slice (some ⟨g, 0, none⟩) j cap) ∧ w'.cell? ⟨mb, 1, none⟩ = some (.slice Ac cs.length ec) := hw'; go_simp; all_goals exact rfl
            simp only [nths, nth1, Act.put, List.setIfInBounds_toArray, List.set_cons_succ, List.set_cons_zero]
            refine wpSeqC_cons fun K hK => ?_
            go_simp
            refine hK _ _ ⟨m0, m1⟩ ?_
            clear hK K
            refine wpSeqC_cons fun K hK => ?_
            go_simp
            refine hK _ _ ⟨m0, m1⟩ ?_
            clear hK K
            refine wpSeqC_cons fun K hK => ?_
            go_simp
            refine (anyConjunction_any w br _ j _ hn1 hn4 ?_ (HJ3.out.rd.grow ((Ext.refl W3).drew))).mono ?_
            · omega
            rintro e W5 ⟨vl, ls, rfl, hA5, hl5, -, hR5, hK5⟩
            have hK5 : Keep (fun k => k ≠ br) W3 W5 := (((Ext.refl W3).drew).keep _).trans hK5
            have HJ5 := hide (HJ3.out.keep hR5 hK5)
            refine hK _ _ ⟨HJ5.out.m0, HJ5.out.m1⟩ ?_
            clear hK K
            obtain ⟨hrl, u0, u1, r0, r1, z0, z1⟩ := (HRB1.out.keep HJ5.out.kp (by omega)).two
            have hW3s : (W3.drew).heap.size = W3.heap.size := rfl
            rw [hW3s] at hA5
            obtain ⟨Al, el, rfl, -⟩ := LayApp.form hA5
            have HA5 := hide hA5
            clear hA5 hK5 hR5 m0 m1
            refine wpSeqC_nil ?_
            go_wp2_with fail
            refine bodyPost_ret (v := .tuple #[.agg #[.slice (some ⟨g, 0, none⟩) j cap, .slice Ac cs.length ec], .slice Al ls.length el]) (by simp only [results, Tryz.results4]; go_simp) rfl ?_
            exact DmnGot.done (Wl := W3) HJ5.out HX1.out (by omega) (by omega) HA5.out (by omega) hs13 (((Keep.refl (fun k => k ≠ w.heap.size) W5).set (p := ⟨w.heap.size, 0, none⟩) (fun _ hh => hh rfl) _).set (p := ⟨w.heap.size, 1, none⟩) (fun _ hh => hh rfl) _)
          · have hzb : (z == 0) = false := by simp [hz]
            obtain ⟨hrl, u0, u1, r0, r1, z0, z1⟩ := HRB3.out.two
            clear hz
            go_wp2_with fail
            refine bodyPost_ret (v := .tuple #[.agg #[.slice (some ⟨g, 0, none⟩) j cap, .slice Ac cs.length ec], .slice A1 xs.length c1]) (by simp only [results, Tryz.results4]; go_simp) rfl ?_
            exact DmnGot.done (Wl := Wb) HJ3.out HX1.out (by omega) (by omega) HA3.out (by omega) hWc (((Keep.refl (fun k => k ≠ w.heap.size) W3).set (p := ⟨w.heap.size, 0, none⟩) (fun _ hh => hh rfl) _).set (p := ⟨w.heap.size, 1, none⟩) (fun _ hh => hh rfl) _)
end Go.Proofs.YtfejhenbpnijhaaGreat
