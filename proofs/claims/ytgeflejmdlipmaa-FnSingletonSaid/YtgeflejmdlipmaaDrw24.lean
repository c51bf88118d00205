/- Draws of the generator: a model that is often singleton consistent. Printed by gendrw24.py. -/
import Derived.Test.YtgeflejmdlipmaaDrwC
import Derived.Test.YtgeflejmdlipmaaSpD
import Derived.Test.YtgeflejmdlipmaaShvI
import Derived.Test.YtgeflejmdlipmaaShvS
namespace Go.Proofs.Ytgeflejmdlipmaa
open Go.RowKit

theorem MF.smod {A B : Nat} {lo hi : Int} {w w' : World} {dv cv : Value} {n : Nat} {cs : List Con} {ds : List Int} {S : Nat → Prop} (h : MF A B lo hi w dv cv n cs) (hi : IV (fun k => A ≤ k) w dv ds) (hk : Keep S w w') (hS : ∀ k, A ≤ k → S k) (hc : cs.length ≤ 1000) : SInts w' dv ds ∧ SCons w' cv cs :=
  ⟨(hi.keep hk hS).ints, (h.keep hk hS).ca.cons (by omega)⟩
theorem Keep.then2 {S T : Nat → Prop} {a b c : World} (h : Keep S a b) (k : Keep T b c) : Keep (fun k => S k ∧ T k) a c := (h.mono (fun _ _ h => h.1)).then (k.mono (fun _ _ h => h)) (fun _ _ h => h.2)
set_option maxRecDepth 100000 in
set_option maxHeartbeats 4000000 in
theorem DrawIsSingletonConsistent_any (v : Value) (nb : Nat) (w : World) (hB : SBytes w v nb) : Calls Try.prog 11 #[v] w (DModGot w) := by
  have HB := hide hB
  obtain ⟨A, c, rfl, -⟩ := hB
  go_enter Try.func11, Try.ntmps11
  go_wp2_with fail
  refine (newReader_any w _ _ nb HB.out ((Ext.refl w).alloc _)).mono ?_
  rintro e W1 ⟨br, rfl, hR1, hx1, hbr⟩
  have hbr : w.heap.size + 1 ≤ br := by simpa using hbr
  have hrb1 : RB w.heap.size 2 W1 := by
    refine RB.keep (S := fun _ => True) ⟨by simp, fun i => World.frozen?_alloc_new _ _ _ _, fun i hi => ?_⟩ (hx1.keep _) trivial
    obtain rfl | rfl : i = 0 ∨ i = 1 := by omega
    all_goals exact ⟨_, World.cell?_alloc_at _ _ _ _ rfl⟩
  have hbrl := hR1.lt
  have HX1 := hide (((Ext.refl w).alloc _).trans hx1)
  have HR1 := hide hR1
  have HRB1 := hide hrb1
  have hws := HX1.out.size
  clear hR1 hx1 hrb1
  go_wp2_with fail
  refine (searchModel_any w br 0 _ (by omega) HR1.out).mono ?_
  rintro e W2 ⟨dv, cv, n, cs, B, rfl, hmf, hcs, hR2, hK2⟩
  obtain ⟨g, cap, rfl, -, -, -⟩ := hmf.ds.form
  obtain ⟨Ac, ec, rfl, -⟩ := hmf.ca.form
  have hn1 := hmf.n1
  have hn4 := hmf.n4
  have hs2 := hK2.size
  have HMF2 := hide hmf
  have HR2 := hide hR2
  have HK2 := hide hK2
  have HRB2 := hide (HRB1.out.keep hK2 (by omega))
  clear hmf hR2 hK2
  go_upto_region 3 with fail
  obtain ⟨W3, hW3⟩ : ∃ W3, W3 = W2.alloc (.cells #[.slice (some ⟨g, 0, none⟩) n cap, .slice Ac cs.length ec] 26) := ⟨_, rfl⟩
  have hx3 : Ext W2 W3 := by rw [hW3]; exact (Ext.refl W2).alloc _
  have m0 : W3.cell? ⟨W2.heap.size, 0, none⟩ = some (.slice (some ⟨g, 0, none⟩) n cap) := by rw [hW3]; go_simp
  have m1 : W3.cell? ⟨W2.heap.size, 1, none⟩ = some (.slice Ac cs.length ec) := by rw [hW3]; go_simp
  have z6 : ∀ i, W3.frozen? ⟨W2.heap.size, i, none⟩ = false := by rw [hW3]; exact fun i => World.frozen?_alloc_new _ _ _ _
  have hs3 : W2.heap.size < W3.heap.size := by rw [hW3]; simp
  rw [← hW3]
  clear hW3
  have hmb : W2.heap.size ≠ br := by omega
  have HS := hide (show MS w br 920 W2 W3 n cap g Ac ec cs from ⟨m0, m1, z6, hs3, hx3.keep _, HR2.out.grow hx3 |>.mono (by omega)⟩)
  clear hx3 m0 m1 z6
  obtain ⟨ds, hdl, hiv, -⟩ := LN.iv (.inr HMF2.out.ds) (by omega) (by omega) (by omega)
  have HDL := hide hdl
  have HIV := hide hiv
  clear hdl hiv
  have hS9 : ∀ k, W1.heap.size ≤ k → k ≠ br := fun k hk => by omega
  have HM3 := hide (MF.smod HMF2.out HIV.out HS.out.kp hS9 (by omega))
  have m0 := HS.out.m0
  have m1 := HS.out.m1
  go_wp2_with fail
  refine (validModelS_any _ ds cs _ (show SMod W3 (.agg #[.slice (some ⟨g, 0, none⟩) n cap, .slice Ac cs.length ec]) ds cs from ⟨_, _, rfl, HM3.out.1, HM3.out.2⟩)).mono ?_
  rintro e W4 ⟨rfl, hx4⟩
  have HS := hide (HS.out.keep hmb (HS.out.rd.grow hx4) (hx4.keep _))
  have HX4 := hide hx4
  clear hx4
  cases hv : vMod ds cs with
  | false =>
    have HKW := hide HS.out.kp
    have m0 := HS.out.m0
    have m1 := HS.out.m1
    clear hv
    have hk1 : Keep (fun k => k ≠ w.heap.size) W4 ((W4.setCell ⟨w.heap.size, 0, none⟩ (.slice (some ⟨g, 0, none⟩) n cap)).setCell ⟨w.heap.size, 1, none⟩ (.slice Ac cs.length ec)) :=
      ((Keep.refl (fun k => k ≠ w.heap.size) W4).set (p := ⟨w.heap.size, 0, none⟩) (fun _ hh => hh rfl) _).set (p := ⟨w.heap.size, 1, none⟩) (fun _ hh => hh rfl) _
    have HT := hide (ext_of_keep (((HX1.out.keep (fun k => k < w.heap.size)).then HK2.out (fun k hk hs => by omega)).then HKW.out (fun k hk hs => by omega)) hk1 (fun k hk => by omega))
    have HMF := hide (MF.smod HMF2.out HIV.out (HKW.out.then2 hk1) (fun k hk => by omega) (by omega))
    obtain ⟨hrl, u0, u1, r0, r1, z0, z1⟩ := (HRB2.out.keep HKW.out (by omega)).two
    clear hk1
    go_wp2_with fail
    refine bodyPost_ret (v := .agg #[(.slice (some ⟨g, 0, none⟩) n cap), .slice Ac cs.length ec]) (by simp only [results, Try.results11]; go_simp) rfl ?_
    exact ⟨_, _, _, cs, rfl, HMF.out.1, HMF.out.2, by have := HDL.out; omega, by have := HDL.out; omega, HT.out⟩
  | true =>
    have hvg := vMod_good hv
    rw [HDL.out] at hvg
    have HVG := hide hvg
    clear hv hvg
    go_wp2_with fail
    refine (pick_any w br 920 2 _ (by omega) (by omega) (by omega) HS.out.rd).mono ?_
    rintro e W5 ⟨z, z0, z1, rfl, hR, hK⟩
    have HS := hide (HS.out.keep hmb hR hK)
    clear hR hK
    by_cases hz : z = 0
    · subst hz
      have HM5 := hide (MF.smod HMF2.out HIV.out HS.out.kp hS9 (by omega))
      have m0 := HS.out.m0
      have m1 := HS.out.m1
      go_wp2_with fail
      refine (shaveS_any _ ds cs _ (show SMod W5 (.agg #[.slice (some ⟨g, 0, none⟩) n cap, .slice Ac cs.length ec]) ds cs from ⟨_, _, rfl, HM5.out.1, HM5.out.2⟩) (by rw [HDL.out]; exact HVG.out.1) (by rw [HDL.out]; exact HVG.out.2.2) (by rw [HDL.out]; exact HVG.out.2.1)).mono ?_
      rintro e W6 hres
      have hg := shaveL_good HVG.out.1 HVG.out.2.2
      have hx : Ext W5 W6 := by obtain ⟨_, _, _, _, _, _, _, _, _, _, hx⟩ := hres; exact hx
      have hi6 := fun A c (he : e = .returned (.slice A (shaveL cs ds).length c)) => OwnRes.ints (show OwnRes (shaveL cs ds) W5 (.returned (.slice A (shaveL cs ds).length c)) W6 by rw [← he]; exact hres) hg.i64
      obtain ⟨A6, c6, b6, m6, f6, rfl, hc6, h86, hb6, ho6, -⟩ := hres
      have hi6 := hi6 _ _ rfl
      obtain ⟨rfl, hrow, hml, hf6⟩ := ho6 (by rw [hg.1]; exact HVG.out.2.1)
      have hs50 := HS.out.sz
      have HS := hide (HS.out.keep hmb (HS.out.rd.grow hx) (hx.keep _))
      have HX6 := hide hx
      have HG := hide hg
      have HROW := hide (show RowS W6 b6 m6 (shaveL cs ds) from ⟨f6, hrow, hml, hf6⟩)
      have HI6 := hide hi6
      have hs6 := HS.out.sz
      have hs5 := HX6.out.size
      have hb6 : W2.heap.size < b6 := by omega
      generalize hL : shaveL cs ds = L at *
      have hLn : L.length = n := HG.out.1
      have HLN := hide hLn
      clear ho6 hrow hml hf6 hg hi6 hx hL hLn
      go_wp2_with fail
      refine (hasEmpty_any _ L _ HI6.out).mono ?_
      rintro e W7 ⟨rfl, rfl⟩
      cases he : hasI L 0 with
      | true =>
        clear he
        have HKW := hide HS.out.kp
        have m0 := HS.out.m0
        have m1 := HS.out.m1
        have hk1 : Keep (fun k => k ≠ w.heap.size) W6 ((W6.setCell ⟨w.heap.size, 0, none⟩ (.slice (some ⟨g, 0, none⟩) n cap)).setCell ⟨w.heap.size, 1, none⟩ (.slice Ac cs.length ec)) :=
          ((Keep.refl (fun k => k ≠ w.heap.size) W6).set (p := ⟨w.heap.size, 0, none⟩) (fun _ hh => hh rfl) _).set (p := ⟨w.heap.size, 1, none⟩) (fun _ hh => hh rfl) _
        have HT := hide (ext_of_keep (((HX1.out.keep (fun k => k < w.heap.size)).then HK2.out (fun k hk hs => by omega)).then HKW.out (fun k hk hs => by omega)) hk1 (fun k hk => by omega))
        have HMF := hide (MF.smod HMF2.out HIV.out (HKW.out.then2 hk1) (fun k hk => by omega) (by omega))
        obtain ⟨hrl, u0, u1, r0, r1, z0, z1⟩ := (HRB2.out.keep HKW.out (by omega)).two
        clear hk1
        go_wp2_with fail
        refine bodyPost_ret (v := .agg #[(.slice (some ⟨g, 0, none⟩) n cap), .slice Ac cs.length ec]) (by simp only [results, Try.results11]; go_simp) rfl ?_
        exact ⟨_, _, _, cs, rfl, HMF.out.1, HMF.out.2, by have := HDL.out; omega, by have := HDL.out; omega, HT.out⟩
      | false =>
        clear he
        have m0 := HS.out.m0
        have m1 := HS.out.m1
        have z6 := HS.out.fz 0
        go_upto_region 7 with fail
        obtain ⟨W7, hW7⟩ : ∃ W7, W7 = W6.setCell ⟨W2.heap.size, 0, none⟩ (.slice (some ⟨b6, 0, none⟩) L.length c6) := ⟨_, rfl⟩
        have hk7 : Keep (fun k => k ≠ W2.heap.size) W6 W7 := by rw [hW7]; exact (Keep.refl _ _).set (p := ⟨W2.heap.size, 0, none⟩) (fun _ hh => hh rfl) _
        have m0 : W7.cell? ⟨W2.heap.size, 0, none⟩ = some (.slice (some ⟨b6, 0, none⟩) L.length c6) := by rw [hW7]; exact World.cell?_setCell_same' _ _ _ (by rw [m0]; rfl)
        have m1 : W7.cell? ⟨W2.heap.size, 1, none⟩ = some (.slice Ac cs.length ec) := by rw [hW7]; exact (World.cell?_setCell_other _ _ _ _ (by simp)).trans m1
        rw [← hW7]
        clear hW7 z6
        have HKW := hide (HS.out.kp.then hk7 (fun k hk hs => by omega))
        have HR7 := hide (HROW.out.keep hk7 (by omega))
        clear hk7
        have hk1 : Keep (fun k => k ≠ w.heap.size) W7 ((W7.setCell ⟨w.heap.size, 0, none⟩ (.slice (some ⟨b6, 0, none⟩) L.length c6)).setCell ⟨w.heap.size, 1, none⟩ (.slice Ac cs.length ec)) :=
          ((Keep.refl (fun k => k ≠ w.heap.size) W7).set (p := ⟨w.heap.size, 0, none⟩) (fun _ hh => hh rfl) _).set (p := ⟨w.heap.size, 1, none⟩) (fun _ hh => hh rfl) _
        have HT := hide (ext_of_keep (((HX1.out.keep (fun k => k < w.heap.size)).then HK2.out (fun k hk hs => by omega)).then HKW.out (fun k hk hs => by omega)) hk1 (fun k hk => by omega))
        have HMF := hide (MF.smod HMF2.out HIV.out (HKW.out.then2 hk1) (fun k hk => by omega) (by omega))
        have HSF := hide (RowS.sints (HR7.out.keep hk1 (by omega)) hc6 h86 HG.out.i64)
        obtain ⟨hrl, u0, u1, r0, r1, z0, z1⟩ := (HRB2.out.keep HKW.out (by omega)).two
        clear hk1
        go_wp2_with fail
        refine bodyPost_ret (v := .agg #[(.slice (some ⟨b6, 0, none⟩) L.length c6), .slice Ac cs.length ec]) (by simp only [results, Try.results11]; go_simp) rfl ?_
        exact ⟨_, _, _, cs, rfl, HSF.out, HMF.out.2, by have := HLN.out; omega, by have := HLN.out; omega, HT.out⟩
    · have hzb : (z == 0) = false := by simp [hz]
      have HKW := hide HS.out.kp
      have m0 := HS.out.m0
      have m1 := HS.out.m1
      clear hz
      have hk1 : Keep (fun k => k ≠ w.heap.size) W5 ((W5.setCell ⟨w.heap.size, 0, none⟩ (.slice (some ⟨g, 0, none⟩) n cap)).setCell ⟨w.heap.size, 1, none⟩ (.slice Ac cs.length ec)) :=
        ((Keep.refl (fun k => k ≠ w.heap.size) W5).set (p := ⟨w.heap.size, 0, none⟩) (fun _ hh => hh rfl) _).set (p := ⟨w.heap.size, 1, none⟩) (fun _ hh => hh rfl) _
      have HT := hide (ext_of_keep (((HX1.out.keep (fun k => k < w.heap.size)).then HK2.out (fun k hk hs => by omega)).then HKW.out (fun k hk hs => by omega)) hk1 (fun k hk => by omega))
      have HMF := hide (MF.smod HMF2.out HIV.out (HKW.out.then2 hk1) (fun k hk => by omega) (by omega))
      obtain ⟨hrl, u0, u1, r0, r1, z0, z1⟩ := (HRB2.out.keep HKW.out (by omega)).two
      clear hk1
      go_wp2_with fail
      refine bodyPost_ret (v := .agg #[(.slice (some ⟨g, 0, none⟩) n cap), .slice Ac cs.length ec]) (by simp only [results, Try.results11]; go_simp) rfl ?_
      exact ⟨_, _, _, cs, rfl, HMF.out.1, HMF.out.2, by have := HDL.out; omega, by have := HDL.out; omega, HT.out⟩
end Go.Proofs.Ytgeflejmdlipmaa
