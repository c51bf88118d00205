/- Probing: the program's, and the reference's. -/
import Derived.Test.YtkjbefokgmiehaaGreatDoorSpZ
import Derived.Test.YtkjbefokgmiehaaGreatDoorPrpZ
import Derived.Test.YtkjbefokgmiehaaGreatDoorSpD
namespace Go.Proofs.YtkjbefokgmiehaaGreatDoor
open Go.RowKit
attribute [local go_sem] evalOf

theorem probD_len (ds : List Int) (v a : Nat) : (probD ds v a).length = ds.length := by simp [probD]
theorem OwnRes.len {xs : List Int} {w w' : World} {A : Option Addr} {n c : Nat} (h : OwnRes xs w (.returned (.slice A n c)) w') : n = xs.length := by
  obtain ⟨A2, c2, h⟩ := h.form
  injection h
set_option maxRecDepth 100000 in
set_option maxHeartbeats 4000000 in
theorem probeS_any (v vd : Value) (D ds : List Int) (cs : List Con) (i a : Nat) (w : World) (hM : SMod w v D cs) (hD : SInts w vd ds) (hG : GoodD cs ds.length ds) (hi : i < ds.length) (ha : a < 6) (h4 : ds.length ≤ 4) :
    Calls Tryz.prog 116 #[v, vd, .int .i64 i, .int .i64 a] w (OwnRes (probL cs ds i a) w) := by
  obtain ⟨ve, vc, rfl, hE, hC⟩ := hM
  have HG := hide hG
  obtain ⟨Ae, ce, rfl, -, hle⟩ := hE.form
  obtain ⟨Ac, cc, rfl, -, hlc⟩ := hC.form
  obtain ⟨Ad, cd, rfl, -, hld⟩ := hD.form
  obtain ⟨w0, hw0⟩ : ∃ w0, w0 = w.alloc (.cells #[.slice Ae D.length ce, .slice Ac cs.length cc] 26) := ⟨_, rfl⟩
  have hx0 : Ext w w0 := by rw [hw0]; exact (Ext.refl w).alloc _
  have k0 : w0.cell? ⟨w.heap.size, 0, none⟩ = some (.slice Ae D.length ce) := by rw [hw0]; go_simp
  have k1 : w0.cell? ⟨w.heap.size, 1, none⟩ = some (.slice Ac cs.length cc) := by rw [hw0]; go_simp
  have ks : w.heap.size < w0.heap.size := by rw [hw0]; simp
  have HX0 := hide hx0
  have hEw := hide hE
  have hCw := hide hC
  have hD0 := hide (hD.ext hx0)
  have hiI : (i : Int) < ds.length := by omega
  clear hE hC hD hG hx0
  go_enter Tryz.func116, Tryz.ntmps116
  go_wp2_with fail
  rw [← hw0]
  clear hw0
  refine (copyInts_any _ ds _ hD0.out (by omega)).mono ?_
  rintro e w1 ⟨A1, c1, b1, m1, f1, rfl, hc1, hd1, hb1, ho1, hx1⟩
  obtain ⟨rfl, hr1, hm1, hf1⟩ := ho1 (by omega)
  have HR := hide hr1
  have HX1 := hide (HX0.out.trans hx1)
  have k0 := (hx1.cells _ _ ks).trans k0
  have k1 := (hx1.cells _ _ ks).trans k1
  have ks := Nat.lt_of_lt_of_le ks hx1.size
  have hdb := HG.out.2.1 i hi
  have fc := hr1.cell (i := i) (by omega)
  rw [hf1 i hi] at fc
  have fz := hr1.frozen i
  have hbl := hr1.lt
  obtain ⟨d, hd⟩ : ∃ d, d = at0 ds i := ⟨_, rfl⟩
  rw [← hd] at fc hdb
  have hpw := pow_bd ha
  have kp : IntKind.i64.wrap (2 ^ a) = 2 ^ a := IntWalk.i64_in _ (by omega)
  have kb := bits_and hdb.1 hdb.2 ha
  have HF1 := hide hf1
  have HDE := hide hd
  have hsb : w.heap.size ≠ b1 := by have : w0.heap.size ≤ b1 := hb1; have : w.heap.size < w0.heap.size := by rw [← show w0.heap.size = w0.heap.size from rfl]; have := HX0.out.size; omega
                                    omega
  clear hx1 ho1 hr1 hf1 hd
  go_wp2_with fail
  refine wp_region_ext_tail 10 (by kernel_rfl) (by kernel_rfl) ?_
  simp only [List.take_succ_cons, List.take_zero, List.drop_succ_cons, List.drop_zero]
  iterate 10 (apply quiet_val; (focus rfl); (focus (intro w' hw'; have hk' := hw'.cells; go_simp; all_goals exact rfl)); simp only [Act.put, List.setIfInBounds_toArray, List.set_cons_succ, List.set_cons_zero])
  refine wpQuiet_nil ?_
  intro w2 hx2
  have HX2 := hide hx2
  have fz := (hx2.frz _ _ hbl).trans fz
  have fc := (hx2.cells _ _ hbl).trans fc
  have k0 := (hx2.cells _ _ ks).trans k0
  have k1 := (hx2.cells _ _ ks).trans k1
  have ks := Nat.lt_of_lt_of_le ks hx2.size
  clear hx2
  try simp only [kp, kb]
  go_wp2_with fail
  obtain ⟨u, hu⟩ : ∃ u, u = w2.setCell ⟨b1, i, none⟩ (.int .i64 (andV d a)) := ⟨_, rfl⟩
  have HU := hide (show Ext w u by rw [hu]; exact (HX1.out.trans HX2.out).set (p := ⟨b1, i, none⟩) (by show w.heap.size ≤ b1; have := HX0.out.size; omega) _)
  have HRU := hide (show u.rowIs b1 3 m1 _ by rw [hu]; exact (HX2.out.row HR.out).set i _)
  have hlen : (probD ds i a).length = ds.length := probD_len ds i a
  have hPG : GoodD cs (probD ds i a).length (probD ds i a) := by rw [hlen]; exact HG.out.prob hi ha
  have HSP := hide (show SInts u (.slice (some ⟨b1, 0, none⟩) ds.length c1) (probD ds i a) by
    have := SInts.own (xs := probD ds i a) (A := some ⟨b1, 0, none⟩) (c := c1) (b := b1) (m := m1) (by rw [hlen]; exact hc1) (by rw [hlen]; exact hd1) (fun _ => ⟨rfl, HRU.out, by rw [hlen]; exact hm1, fun j hj => by
      rw [hlen] at hj
      show (if j = i then _ else f1 j) = _
      rw [probD, at0_set _ _ _ _ hi]
      by_cases e : j = i
      · subst e; rw [if_pos rfl, if_pos rfl, ← HDE.out]
      · rw [if_neg e, if_neg (fun h => e h.symm)]; exact HF1.out j hj⟩) hPG.i64
    rwa [hlen] at this)
  rw [← hu]
  clear hu
  refine (fixpointS_any _ _ D (probD ds i a) cs _ ⟨_, _, rfl, hEw.out.ext HU.out, hCw.out.ext HU.out⟩ HSP.out hPG (by rw [hlen]; exact h4) (by rw [hlen]; omega)).mono ?_
  rintro e w3 hres
  have HRES := hide (show OwnRes (probL cs ds i a) w e w3 from OwnRes.from hres HU.out)
  obtain ⟨A3, c3, b3, m3, f3, rfl, -⟩ := hres
  obtain ⟨L, hL⟩ : ∃ L, L = (propL cs (probD ds i a)).length := ⟨_, rfl⟩
  rw [← hL] at HRES ⊢
  clear hL
  go_wp2
  go_ret
  exact HRES.out
set_option maxRecDepth 100000 in
set_option maxHeartbeats 4000000 in
theorem limitedI_any (vd : Value) (ds : List Int) (i a : Nat) (w : World) (hD : SInts w vd ds) (hd : DomL ds) (hi : i < ds.length) (ha : a < 6) :
    Calls Tryz.prog 111 #[vd, .int .i64 i, .int .i64 (2 ^ a)] w (OwnRes (probD ds i a) w) := by
  have HDM := hide hd
  obtain ⟨Ad, cd, rfl, -, hld⟩ := hD.form
  have hD0 := hide hD
  have hiI : (i : Int) < ds.length := by omega
  clear hD hd
  go_enter Tryz.func111, Tryz.ntmps111
  go_wp2_with fail
  refine (copied_any _ ds _ hD0.out).mono ?_
  rintro e w1 ⟨A1, c1, b1, m1, f1, rfl, hc1, hd1, hb1, ho1, hx1⟩
  obtain ⟨rfl, hr1, hm1, hf1⟩ := ho1 (by omega)
  have HR := hide hr1
  have HX1 := hide hx1
  have hdb := HDM.out i hi
  have fc := hr1.cell (i := i) (by omega)
  rw [hf1 i hi] at fc
  have fz := hr1.frozen i
  obtain ⟨d, hd⟩ : ∃ d, d = at0 ds i := ⟨_, rfl⟩
  rw [← hd] at fc hdb
  have kb := bits_and hdb.1 hdb.2 ha
  have HF1 := hide hf1
  have HDE := hide hd
  clear hx1 ho1 hr1 hf1 hd
  have hlen : (probD ds i a).length = ds.length := probD_len ds i a
  have HE := hide (show OwnRes (probD ds i a) w (.returned (.slice (some ⟨b1, 0, none⟩) ds.length c1)) (w1.setCell ⟨b1, i, none⟩ (.int .i64 (andV d a))) from
    ⟨some ⟨b1, 0, none⟩, c1, b1, m1, _, by rw [hlen], by rw [hlen]; exact hc1, by rw [hlen]; exact hd1, hb1, fun _ => ⟨rfl, HR.out.set i _, by rw [hlen]; exact hm1, fun j hj => by
      rw [hlen] at hj
      show (if j = i then _ else f1 j) = _
      rw [probD, at0_set _ _ _ _ hi]
      by_cases e : j = i
      · subst e; rw [if_pos rfl, if_pos rfl, ← HDE.out]
      · rw [if_neg e, if_neg (fun h => e h.symm)]; exact HF1.out j hj⟩, HX1.out.set (p := ⟨b1, i, none⟩) hb1 _⟩)
  go_wp2
  go_ret
  exact HE.out
/-- A slice of its own that reads as xs. -/
def RS.ow (D : List Nat) (xs : List Int) (B : World) : RS := ⟨D, fun _ v W => OwnRes xs B (.returned v) W, fun _ _ _ _ h hx => h.grow hx⟩
set_option maxRecDepth 100000 in
set_option maxHeartbeats 4000000 in
theorem probeI_any (v vd : Value) (D ds : List Int) (cs : List Con) (i a : Nat) (w : World) (hM : SMod w v D cs) (hD : SInts w vd ds) (hG : GoodD cs ds.length ds) (hi : i < ds.length) (ha : a < 6) (h4 : ds.length ≤ 4) :
    Calls Tryz.prog 71 #[v, vd, .int .i64 i, .int .i64 a] w (OwnRes (probL cs ds i a) w) := by
  have hM0 := hide hM
  obtain ⟨ve, vc, rfl, hE, hC⟩ := hM
  have HG := hide hG
  obtain ⟨Ae, ce, rfl, -, hle⟩ := hE.form
  obtain ⟨Ac, cc, rfl, -, hlc⟩ := hC.form
  obtain ⟨Ad, cd, rfl, -, hld⟩ := hD.form
  obtain ⟨w0, hw0⟩ : ∃ w0, w0 = w.alloc (.cells #[.slice Ae D.length ce, .slice Ac cs.length cc] 26) := ⟨_, rfl⟩
  have hx0 : Ext w w0 := by rw [hw0]; exact (Ext.refl w).alloc _
  have k0 : w0.cell? ⟨w.heap.size, 0, none⟩ = some (.slice Ae D.length ce) := by rw [hw0]; go_simp
  have k1 : w0.cell? ⟨w.heap.size, 1, none⟩ = some (.slice Ac cs.length cc) := by rw [hw0]; go_simp
  have ks : w.heap.size < w0.heap.size := by rw [hw0]; simp
  have HX0 := hide hx0
  have hD0 := hide hD
  have hlen : (probD ds i a).length = ds.length := probD_len ds i a
  have hPG : GoodD cs (probD ds i a).length (probD ds i a) := by rw [hlen]; exact hG.prob hi ha
  have HPG := hide hPG
  have hpw := pow_bd ha
  have kp : IntKind.i64.wrap (2 ^ a) = 2 ^ a := IntWalk.i64_in _ (by omega)
  clear hE hC hD hG hx0 hPG
  go_enter Tryz.func71, Tryz.ntmps71
  go_wp2
  rw [← hw0]
  clear hw0
  refine wp_region_relT (n := 7) (ts := [7]) (sp := [RS.q [] (fun _ => .agg #[.slice Ae D.length ce, .slice Ac cs.length cc]), RS.q [] (fun _ => .slice Ad ds.length cd), RS.q [] (fun _ => .int .i64 i), RS.q [] (fun _ => .int .i64 a), RS.q [3] (fun _ => .int .i64 (2 ^ a)), RS.ow [1, 2, 4] (probD ds i a) w0, RS.ow [0, 5] (probL cs ds i a) w0])
    (fun W => Ext w0 W) (by kernel_rfl) (relOK (D := [[], [], [], [], [3], [1, 2, 4], [0, 5]]) rfl (by kernel_rfl) rfl) (by kernel_rfl) (fun W W' h hx => h.trans hx) (Ext.refl w0).drew ?steps ?ends
  case steps =>
    refine ⟨?_, ?_, ?_, ?_, ?_, ?_, ?_, trivial⟩
    · intro V τ W hC hf ht h0
      have s4 : τ 4 = .pointer (some ⟨w.heap.size, 0, none⟩) := h0 4 (by kernel_rfl)
      have k0 := (hC.cells _ _ ks).trans k0
      have k1 := (hC.cells _ _ ks).trans k1
      refine Does.val (w' := W) (v := .agg #[.slice Ae D.length ce, .slice Ac cs.length cc]) ?_ ⟨Ext.refl W, rfl⟩
      go_simp
    · intro V τ W hC hf ht h0
      have s1 : τ 1 = .slice Ad ds.length cd := h0 1 (by kernel_rfl)
      refine Does.val (w' := W) (v := .slice Ad ds.length cd) ?_ ⟨Ext.refl W, rfl⟩
      go_simp
    · intro V τ W hC hf ht h0
      have s2 : τ 2 = .int .i64 i := h0 2 (by kernel_rfl)
      refine Does.val (w' := W) (v := .int .i64 i) ?_ ⟨Ext.refl W, rfl⟩
      go_simp
    · intro V τ W hC hf ht h0
      have s3 : τ 3 = .int .i64 a := h0 3 (by kernel_rfl)
      refine Does.val (w' := W) (v := .int .i64 a) ?_ ⟨Ext.refl W, rfl⟩
      go_simp
    · intro V τ W hC hf ht h0
      have f3 : V 3 = .int .i64 a := hf 3 (by simp [RS.at_, RS.q])
      have s12 := (ht 3 (by simp [RS.at_, RS.q]) 12 rfl).trans f3
      refine Does.val (w' := W) (v := .int .i64 (2 ^ a)) ?_ ⟨Ext.refl W, rfl⟩
      go_simp
    · intro V τ W hC hf ht h0
      have f1 : V 1 = .slice Ad ds.length cd := hf 1 (by simp [RS.at_, RS.ow])
      have f2 : V 2 = .int .i64 i := hf 2 (by simp [RS.at_, RS.ow])
      have f4 : V 4 = .int .i64 (2 ^ a) := hf 4 (by simp [RS.at_, RS.ow])
      have s10 := (ht 1 (by simp [RS.at_, RS.ow]) 10 rfl).trans f1
      have s11 := (ht 2 (by simp [RS.at_, RS.ow]) 11 rfl).trans f2
      have s13 := (ht 4 (by simp [RS.at_, RS.ow]) 13 rfl).trans f4
      refine Does.call (w' := W) (f := 111) (args := #[.slice Ad ds.length cd, .int .i64 i, .int .i64 (2 ^ a)]) (by go_simp; all_goals (first | exact rfl | (apply And.intro <;> exact rfl))) ?_
      refine (limitedI_any _ ds i a _ (hD0.out.ext (HX0.out.trans hC)) HG.out.2.1 hi ha).mono ?_
      rintro e wa hres
      have hr2 := OwnRes.from hres hC
      obtain ⟨A3, c3, b3, m3, f3, rfl, -, -, -, -, hxa⟩ := hres
      exact ⟨_, rfl, hxa, hr2⟩
    · intro V τ W hC hf ht h0
      have f0 : V 0 = .agg #[.slice Ae D.length ce, .slice Ac cs.length cc] := hf 0 (by simp [RS.at_, RS.ow])
      have f5 : OwnRes (probD ds i a) w0 (.returned (V 5)) W := hf 5 (by simp [RS.at_, RS.ow])
      have s9 := (ht 0 (by simp [RS.at_, RS.ow]) 9 rfl).trans f0
      have s14 : τ 14 = V 5 := ht 5 (by simp [RS.at_, RS.ow]) 14 rfl
      have hS5 := f5.ints HPG.out.i64
      refine Does.call (w' := W) (f := 34) (args := #[.agg #[.slice Ae D.length ce, .slice Ac cs.length cc], V 5]) (by go_simp; all_goals (first | exact rfl | (apply And.intro <;> exact rfl))) ?_
      refine (propagate_any _ _ D (probD ds i a) cs _ (hM0.out.ext (HX0.out.trans hC)) hS5 HPG.out (by rw [hlen]; exact h4) (by rw [hlen]; omega)).mono ?_
      rintro e wa hres
      have hr2 := OwnRes.from hres hC
      obtain ⟨A3, c3, b3, m3, f3, rfl, -, -, -, -, hxa⟩ := hres
      exact ⟨_, rfl, hxa, hr2⟩
  case ends =>
    intro V W hC hf
    have hres : OwnRes (probL cs ds i a) w0 (.returned (V 6)) W := hf 6 (by omega)
    have HRES := hide (OwnRes.from hres HX0.out)
    obtain ⟨A3, c3, f6⟩ := hres.form
    have f0 : V 0 = .agg #[.slice Ae D.length ce, .slice Ac cs.length cc] := hf 0 (by omega)
    have f1 : V 1 = .slice Ad ds.length cd := hf 1 (by omega)
    have f2 : V 2 = .int .i64 i := hf 2 (by omega)
    have f3 : V 3 = .int .i64 a := hf 3 (by omega)
    have f4 : V 4 = .int .i64 (2 ^ a) := hf 4 (by omega)
    obtain ⟨A5, c5, f5⟩ := (show OwnRes (probD ds i a) w0 (.returned (V 5)) W from hf 5 (by omega)).form
    obtain ⟨L, hL⟩ : ∃ L, L = (probL cs ds i a).length := ⟨_, rfl⟩
    rw [f6, ← hL] at HRES
    rw [← hL] at f6
    clear hf hres hL
    simp only [List.take_succ_cons, List.take_zero, putAll, Act.put, List.setIfInBounds_toArray, List.set_cons_succ, List.set_cons_zero, Nat.reduceAdd, f0, f1, f2, f3, f4, f5, f6]
    simp only [nths, nth1]
    clear f0 f1 f2 f3 f4 f5 f6
    go_wp2
    go_ret
    exact HRES.out
end Go.Proofs.YtkjbefokgmiehaaGreatDoor
/- Probe: the program's, and the reference's. -/
namespace Go.Proofs.YtkjbefokgmiehaaGreatDoor
open Go.RowKit

def prbOk (ds : List Int) (cs : List Con) (i a : Int) : Bool := vMod ds cs && (inR i 0 (ds.length - 1) && inR a 0 5)
def prbV (ds : List Int) (cs : List Con) (i a : Int) : List Int := if prbOk ds cs i a = true then probL cs ds i.toNat a.toNat else []
theorem prbOk_of {ds : List Int} {cs : List Con} {i a : Int} (h : prbOk ds cs i a = true) : ∃ n m : Nat, i = n ∧ a = m ∧ n < ds.length ∧ m < 6 ∧ GoodD cs ds.length ds ∧ ds.length ≤ 4 ∧ prbV ds cs i a = probL cs ds n m := by
  have h0 := h
  simp only [prbOk, Bool.and_eq_true, inR, decide_eq_true_eq] at h
  obtain ⟨h1, ⟨h2, h3⟩, h4, h5⟩ := h
  obtain ⟨hG, hp, h6⟩ := vMod_good h1
  refine ⟨i.toNat, a.toNat, by omega, by omega, by omega, by omega, hG, h6, ?_⟩
  rw [prbV, if_pos h0]
theorem prbV_no {ds : List Int} {cs : List Con} {i a : Int} (h : prbOk ds cs i a = false) : prbV ds cs i a = [] := by rw [prbV, h]; rfl
theorem prbV_i64 (ds : List Int) (cs : List Con) (i a : Int) : ∀ j, j < (prbV ds cs i a).length → I64 (at0 (prbV ds cs i a) j) := by
  intro j hj
  cases h : prbOk ds cs i a with
  | false => rw [prbV_no h] at hj; simp at hj
  | true =>
    obtain ⟨n, m, rfl, rfl, hn, hm, hG, h4, e⟩ := prbOk_of h
    rw [e] at hj ⊢
    exact (propL_R (hG.prob hn hm) h4).good.i64 j hj
theorem prbV_len (ds : List Int) (cs : List Con) (i a : Int) : (prbV ds cs i a).length ≤ 4 := by
  cases h : prbOk ds cs i a with
  | false => rw [prbV_no h]; simp
  | true =>
    obtain ⟨n, m, rfl, rfl, hn, hm, hG, h4, e⟩ := prbOk_of h
    rw [e, show (probL cs ds n m).length = ds.length from (propL_R (hG.prob hn hm) h4).good.1]
    exact h4
theorem valueOk_any (a : Int) (w : World) :
    Calls Tryz.prog 32 #[.int .i64 a] w fun e w' => e = .returned (.bool (inR a 0 5)) ∧ w = w' := by
  go_enter Tryz.func32, Tryz.ntmps32
  go_wp2_with fail
  refine (within_any _ _ _ _).mono ?_
  rintro e w' ⟨rfl, rfl⟩
  go_wp2
  go_ret
  exact ⟨rfl, rfl⟩
end Go.Proofs.YtkjbefokgmiehaaGreatDoor
