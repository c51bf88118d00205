/- The dead class of the reference. -/
import Derived.Test.YtdiedghaoleblaaMcC
import Derived.Test.YtdiedghaoleblaaAutA
import Derived.Test.YtdiedghaoleblaaFltZ
namespace Go.Proofs.Ytdiedghaoleblaa
open Go.RowKit

theorem contains_dec (xs : List Int) (x : Int) : xs.contains x = decide (x ∈ xs) := by simp
theorem AppI.lit1 (w : World) (x : Int) {o : Obj} (ho : o = .cells #[.int .i64 x] 3) : AppI w.heap.size (w.alloc o) (.slice (some ⟨w.heap.size, 0, none⟩) 1 1) [x] := by
  subst ho
  exact World.ownsRow_lit (size := 1) (e := 3) w #[.int .i64 x] 1 (Nat.le_refl _) (by unfold maxLen; omega) rfl
theorem AppI.base {b1 b2 : Nat} {w : World} {v : Value} {xs : List Int} (h : AppI b2 w v xs) (hb : b1 ≤ b2) : AppI b1 w v xs := ownsRow_base h hb
theorem AppI.oext {B : Nat} {w0 w w' : World} {v : Value} {xs : List Int} (hx : Ext w0 w) (h : AppI B w v xs) (hB : w0.heap.size ≤ B) (hg : w.grownBy w' v.ownBlock) : Ext w0 w' :=
  Below.trans hx ((Keep.of_grown hg).below hx.size (fun k hk e => by have := (World.ownsRow.lt h k e).1; omega))
theorem AppI.ocell {B : Nat} {w w' : World} {v : Value} {xs : List Int} (h : AppI B w v xs) (hg : w.grownBy w' v.ownBlock) {b : Nat} (hb : b < B) (hbw : b < w.heap.size) (o : Nat) : w'.cell? ⟨b, o, none⟩ = w.cell? ⟨b, o, none⟩ ∧ w'.frozen? ⟨b, o, none⟩ = w.frozen? ⟨b, o, none⟩ :=
  ⟨(Keep.of_grown hg).cell (p := ⟨b, o, none⟩) hbw (fun e => by have := (World.ownsRow.lt h b e).1; omega), (Keep.of_grown hg).frz (p := ⟨b, o, none⟩) hbw (fun e => by have := (World.ownsRow.lt h b e).1; omega)⟩
/-- What is known of the states seen when k of them have been looked at. -/
structure RfSt (m : Mc) (s : Nat) (xs : List Int) (k : Nat) : Prop where
  ok : MetOk m.nx.length xs
  lv : ∀ x ∈ xs, Live m x.toNat → Live m s
  me : (s : Int) ∈ xs
  dn : ∀ j, j < k → mF m (at0 xs j).toNat = false ∧ ∀ v, v < 6 → (mT m (at0 xs j).toNat v : Int) ∈ xs
  le : k ≤ xs.length
theorem RfSt.start {m : Mc} {s : Nat} (hs : s < m.nx.length) : RfSt m s [(s : Int)] 0 :=
  ⟨⟨by simp, fun x hx => by simp at hx; subst hx; omega⟩, fun x hx h => by simp at hx; subst hx; exact h, by simp, fun j hj => by omega, by omega⟩
theorem RfSt.snoc {m : Mc} {s : Nat} {xs : List Int} {k y v : Nat} (hm : MOk m) (h : RfSt m s xs k) (hy : at0 xs k = (y : Int)) (hk : k < xs.length) (hv : v < 6) (hn : decide ((mT m y v : Int) ∈ xs) = false) : RfSt m s (xs ++ [(mT m y v : Int)]) k := by
  have hyn := h.ok.at_ hk
  rw [hy] at hyn
  have hlt := hm.lt (s := y) (v := v) (by omega) hv
  have hymem := at0_mem hk
  rw [hy] at hymem
  refine ⟨h.ok.snoc (by omega) (by rw [contains_dec]; exact hn), fun x hx hl => ?_, by simp [h.me], fun j hj => ?_, by simp; have := h.le; omega⟩
  · rcases List.mem_append.1 hx with hx | hx
    · exact h.lv x hx hl
    · rw [List.mem_singleton] at hx
      subst hx
      exact h.lv _ hymem (Live.step hv (by simpa using hl))
  · rw [at0_snoc_lt _ _ (by have := h.le; omega)]
    obtain ⟨h1, h2⟩ := h.dn j hj
    exact ⟨h1, fun u hu => List.mem_append_left _ (h2 u hu)⟩
theorem RfSt.next {m : Mc} {s : Nat} {xs : List Int} {k y : Nat} (h : RfSt m s xs k) (hy : at0 xs k = (y : Int)) (hk : k < xs.length) (hf : mF m y = false) (hv : ∀ v, v < 6 → (mT m y v : Int) ∈ xs) : RfSt m s xs (k + 1) :=
  ⟨h.ok, h.lv, h.me, fun j hj => by
    by_cases e : j = k
    · subst e; rw [hy]; simpa using ⟨hf, hv⟩
    · exact h.dn j (by omega), hk⟩
theorem RfSt.dead {m : Mc} {s : Nat} {xs : List Int} (hm : MOk m) (hs : s < m.nx.length) (h : RfSt m s xs xs.length) : ¬ Live m s := by
  have key : ∀ x : Nat, (x : Int) ∈ xs → mF m x = false ∧ ∀ v, v < 6 → (mT m x v : Int) ∈ xs := fun x hx => by
    obtain ⟨j, hj, e⟩ := List.mem_iff_getElem.1 hx
    have e' : at0 xs j = x := by unfold at0; rw [getD_lt _ _ hj]; exact e
    have := h.dn j hj
    rw [e'] at this
    simpa using this
  exact dead_of hm (fun x => (x : Int) ∈ xs) (fun x _ hx => (key x hx).1) (fun x _ hx => (key x hx).2) hs h.me
set_option maxRecDepth 100000 in
set_option maxHeartbeats 4000000 in
theorem reachesFinal_any (vn vf : Value) (m : Mc) (s : Nat) (w : World) (hM : RdM w vn vf m) (hs : s < m.nx.length) :
    Calls Try.prog 92 #[.agg #[vn, vf], .int .i64 s] w fun e w' => ∃ r : Bool, (r = true ↔ Live m s) ∧ Ret (.bool r) w e w' := by
  have HM := hide hM
  obtain ⟨b, off, c, b2, off2, c2, rfl, rfl, hb, hb2, hc, hc2, hR, hF, hm⟩ := hM
  have HR := hide hR
  have HF := hide hF
  have HMM := hide hm
  have hn := hm.le
  clear hm hR hF
  have hA0 := hide (AppI.lit1 (w.alloc (.cells #[.slice (some ⟨b, off, none⟩) m.nx.length c, .slice (some ⟨b2, off2, none⟩) m.nx.length c2] 59)) (s : Int) rfl)
  go_enter Try.func92, Try.ntmps92
  go_wp2
  go_loopw [5, 6] (fun o i wr => ∃ (k : Nat) (xs : List Int), i = .int .i64 k ∧ AppI (w.heap.size + 1) wr o xs ∧ Ext w wr ∧ w.heap.size < wr.heap.size ∧ wr.cell? ⟨w.heap.size, 0, none⟩ = some (.slice (some ⟨b, off, none⟩) m.nx.length c) ∧ wr.cell? ⟨w.heap.size, 1, none⟩ = some (.slice (some ⟨b2, off2, none⟩) m.nx.length c2) ∧ RfSt m s xs k) (fun _ i _ => 100 - (intOf i).toNat)
  case atStart =>
    refine ⟨0, _, rfl, ?_, ((Ext.refl w).alloc _).alloc _, by simp <;> omega, by go_simp, by go_simp, RfSt.start hs⟩
    simpa using hA0.out
  case round =>
    obtain ⟨k, xs, rfl, hA, hxr, hws, m0, m1, hS⟩ := hrel
    obtain ⟨W0, rfl⟩ : ∃ W0, W0 = wr := ⟨wr, rfl⟩
    have HA := hide hA
    have HXR := hide hxr
    have HS := hide hS
    have hlen := hS.ok.len
    have hkl := hS.le
    have HI := hide (hA.sints (by omega) (fun i hi => by have := hS.ok.at_ hi; unfold I64; omega))
    obtain ⟨A, ca, rfl, hca⟩ := hA.form
    by_cases hlt : k < xs.length
    · have hkI : (k : Int) < xs.length := by omega
      obtain ⟨y, hy⟩ : ∃ y : Nat, at0 xs k = y := ⟨(at0 xs k).toNat, by have := hS.ok.at_ hlt; omega⟩
      have hyn : y < m.nx.length := by have := hS.ok.at_ hlt; omega
      have hynI : (y : Int) < m.nx.length := by omega
      obtain ⟨ba, oa, rfl, hba, g1⟩ := HI.out.at_ hlt
      rw [hy] at g1
      have HY := hide hy
      have f0 := (hxr.cells _ _ hb2).trans (HF.out y hyn)
      obtain ⟨bs, os, cs, fs, hbs, -, hrs⟩ := HR.out y hyn
      have HRS := hide hrs
      have fs := (hxr.cells _ _ hb).trans fs
      have hbW := Nat.lt_of_lt_of_le hb hxr.size
      have hb2W := Nat.lt_of_lt_of_le hb2 hxr.size
      have hbsW := Nat.lt_of_lt_of_le hbs hxr.size
      clear hA hxr hS hy hrs
      go_wp2
      refine wp_region_ext (by kernel_rfl) (by kernel_rfl) ?_
      iterate 8 (apply quiet_val; (focus rfl); (focus (intro w' hw'; have hk' := hw'.cells; go_simp; all_goals exact rfl)); simp only [Act.put, List.setIfInBounds_toArray, List.set_cons_succ, List.set_cons_zero])
      refine wpQuiet_nil ?_
      intro w2 hx2
      have HX2 := hide hx2
      have m0 := (hx2.cells _ _ hws).trans m0
      have m1 := (hx2.cells _ _ hws).trans m1
      have hws := Nat.lt_of_lt_of_le hws hx2.size
      have HXR := hide (HXR.out.trans hx2)
      have HA := hide (HA.out.ext hx2)
      clear hx2 g1 f0 fs hbW hb2W hbsW hba HI
      cases hf : mF m y with
      | true =>
        have HFY := hide hf
        clear hf
        go_wp2
        go_ret
        refine ⟨true, ⟨fun _ => ?_, fun _ => rfl⟩, Ret.mk rfl HXR.out⟩
        have := at0_mem hlt
        exact HS.out.lv _ this (by rw [HY.out]; exact Live.fin (by simpa using HFY.out))
      | false =>
        have HFY := hide hf
        clear hf
        go_wp2
        go_loopw [5, 7] (fun o i wi => ∃ (u : Nat) (zs : List Int), u ≤ 6 ∧ i = .int .i64 u ∧ AppI (w.heap.size + 1) wi o zs ∧ Ext w wi ∧ w.heap.size < wi.heap.size ∧ wi.cell? ⟨w.heap.size, 0, none⟩ = some (.slice (some ⟨b, off, none⟩) m.nx.length c) ∧ wi.cell? ⟨w.heap.size, 1, none⟩ = some (.slice (some ⟨b2, off2, none⟩) m.nx.length c2) ∧ RfSt m s zs k ∧ at0 zs k = y ∧ k < zs.length ∧ ∀ v, v < u → (mT m y v : Int) ∈ zs) (fun _ i _ => 6 - (intOf i).toNat)
        case atStart => exact ⟨0, xs, by omega, rfl, HA.out, HXR.out, hws, m0, m1, HS.out, HY.out, hlt, fun v hv => by omega⟩
        case round =>
          obtain ⟨u, zs, hu, rfl, hA, hxi, hws, m0, m1, hS, hy, hkz, hv⟩ := hrel
          obtain ⟨W1, rfl⟩ : ∃ W1, W1 = wr := ⟨wr, rfl⟩
          have HA := hide hA
          have HXI := hide hxi
          have HS := hide hS
          have HY := hide hy
          have HV := hide hv
          have hlen := hS.ok.len
          have HI := hide (hA.sints (by omega) (fun i hi => by have := hS.ok.at_ hi; unfold I64; omega))
          obtain ⟨A, ca, rfl, hca⟩ := hA.form
          by_cases hul : u < 6
          · have huI : (u : Int) ≤ 5 := by omega
            have huI6 : (u : Int) < 6 := by omega
            have hkI : (k : Int) < zs.length := by omega
            obtain ⟨ba, oa, rfl, hba, g1⟩ := HI.out.at_ hkz
            rw [hy] at g1
            obtain ⟨bs, os, cs, fs, hbs, -, hrs⟩ := HR.out y hyn
            have fs := (hxi.cells _ _ hb).trans fs
            have f3 := (hxi.cells _ _ hbs).trans (hrs u hul)
            have hbW := Nat.lt_of_lt_of_le hb hxi.size
            have hbsW := Nat.lt_of_lt_of_le hbs hxi.size
            clear hA hxi hS hy hv hrs
            go_wp2
            refine wp_region_ext (by kernel_rfl) (by kernel_rfl) ?_
            iterate 12 (apply quiet_val; (focus rfl); (focus (intro w' hw'; have hk' := hw'.cells; go_simp; all_goals exact rfl)); simp only [Act.put, List.setIfInBounds_toArray, List.set_cons_succ, List.set_cons_zero])
            apply quiet_call; (focus rfl); (focus (intro w' hw'; go_simp; all_goals (first | exact rfl | (apply And.intro <;> exact rfl))))
            · exact fun w' hw' => same_quiet (containsInt_any _ zs _ _ (HI.out.ext hw')) hw'
            (simp only [Act.put, List.setIfInBounds_toArray, List.set_cons_succ, List.set_cons_zero])
            (apply quiet_val; (focus rfl); (focus (intro w' hw'; have hk' := hw'.cells; go_simp; all_goals exact rfl)); simp only [Act.put, List.setIfInBounds_toArray, List.set_cons_succ, List.set_cons_zero])
            refine wpQuiet_nil ?_
            intro w5 hx5
            have HX5 := hide hx5
            have n0 := (hx5.cells _ _ hws).trans m0
            have n1 := (hx5.cells _ _ hws).trans m1
            have g1 := (hx5.cells _ _ hba).trans g1
            have fs := (hx5.cells _ _ hbW).trans fs
            have f3 := (hx5.cells _ _ hbsW).trans f3
            have hws := Nat.lt_of_lt_of_le hws hx5.size
            have hba := Nat.lt_of_lt_of_le hba hx5.size
            have hbW := Nat.lt_of_lt_of_le hbW hx5.size
            have hbsW := Nat.lt_of_lt_of_le hbsW hx5.size
            clear hx5 m0 m1
            cases hq : decide ((mT m y u : Int) ∈ zs) with
            | true =>
              have HQ := hide (show (mT m y u : Int) ∈ zs by simpa using hq)
              clear hq
              go_wp2
              go_roundw
              case rel => exact ⟨u + 1, zs, by omega, by go_num, HA.out.ext HX5.out, HXI.out.trans HX5.out, hws, n0, n1, HS.out, HY.out, hkz, fun v hv => by
                by_cases e : v = u
                · subst e; exact HQ.out
                · exact HV.out v (by omega)⟩
              case measure => simp [intOf]; omega
            | false =>
              have HQ := hide hq
              have HS' := hide (HS.out.snoc HMM.out HY.out hkz hul hq)
              clear hq
              go_wp2
              refine wp_region_any (by kernel_rfl) ?_
              change wpAny _ _ _ _ _ _ _ (World.drew _)
              refine wpAny_take (i := 0) (v := ?_) rfl (by kernel_rfl) (by kernel_rfl) (by kernel_rfl) (by first | exact fun _ _ _ h => h | (rintro _ _ _ ⟨h, _⟩; cases h)) (Or.inl ⟨by rfl, ?hy0⟩) ?_
              case hy0 => intro w; go_simp; with_reducible rfl
              simp only [Act.put, List.getElem_toArray, List.getElem_cons_zero, List.setIfInBounds_toArray, List.set_cons_succ, List.set_cons_zero]
              refine wpAny_ix ((Ext.refl _).drew) 12 [1,2,3,4,5,6,7,8,9,10,11] [12,13,14] (by kernel_rfl) rfl ?_; simp only [nths, nth1]
              iterate 11 (apply quiet_val; (focus rfl); (focus (intro w' hw'; have hk' := hw'.cells; go_simp; all_goals exact rfl)); simp only [Act.put, List.setIfInBounds_toArray, List.set_cons_succ, List.set_cons_zero])
              refine wpQuiet_nil ?_
              intro w6 hx6
              have o0 := (hx6.cells _ _ hws).trans n0
              have o1 := (hx6.cells _ _ hws).trans n1
              have hws := Nat.lt_of_lt_of_le hws hx6.size
              have HX6 := hide (HXI.out.trans (HX5.out.trans hx6))
              have HA6 := hide (((HA.out.ext HX5.out).ext hx6).ext ((Ext.refl w6).alloc (.cells #[.int .i64 (mT m y u)] 3)))
              clear hx6 n0 n1 g1 fs f3
              go_wp2_with (at_builtin; go_must (refine wpList_appIO _ rfl _ _ rfl (w.heap.size + 1) _ zs (mT m y u : Int) w6.heap.size 1 rfl rfl HA6.out (by go_simp) (by omega) (by simp; omega) ?_); intro v' w7 hA7 hg7 ho7)
              have HA7 := hide hA7
              have hx7 := AppI.oext (HX6.out.alloc _) HA6.out (by omega) hg7
              have HX7 := hide hx7
              have p0 := (AppI.ocell HA6.out hg7 (b := w.heap.size) (by omega) (by simp; omega) 0).1.trans ((((Ext.refl w6).alloc _).cells w.heap.size 0 hws).trans o0)
              have p1 := (AppI.ocell HA6.out hg7 (b := w.heap.size) (by omega) (by simp; omega) 1).1.trans ((((Ext.refl w6).alloc _).cells w.heap.size 1 hws).trans o1)
              have hws7 : w.heap.size < w7.heap.size := by have := hg7.size; simp at this; omega
              obtain ⟨A9, c9, rfl, -⟩ := hA7.form
              clear hA7 hg7 ho7 hx7 o0 o1
              go_wp2
              go_roundw
              case rel => exact ⟨u + 1, _, by omega, by go_num, HA7.out, HX7.out, hws7, p0, p1, HS'.out, by rw [at0_snoc_lt _ _ hkz]; exact HY.out, by simp; omega, fun v hv => by
                by_cases e : v = u
                · subst e; simp
                · exact List.mem_append_left _ (HV.out v (by omega))⟩
              case measure => simp [intOf]; omega
          · obtain rfl : u = 6 := by omega
            clear hA hxi hS hy hv
            go_wp2
            go_roundw
            case rel => exact ⟨k + 1, zs, by go_num, HA.out, HXI.out, hws, m0, m1, HS.out.next HY.out hkz HFY.out HV.out⟩
            case measure => simp [intOf]; omega
    · obtain rfl : k = xs.length := by omega
      clear hA hxr hS
      go_wp2
      go_ret
      exact ⟨false, ⟨fun h => (by cases h), fun h => absurd h (HS.out.dead HMM.out hs)⟩, Ret.mk rfl HXR.out⟩
set_option maxHeartbeats 4000000 in
theorem deadClass_any (vn vf vc : Value) (m : Mc) (w : World) (hM : RdM w vn vf m) (hC : RdC w vc m.nx.length (clF m)) :
    Calls Try.prog 76 #[.agg #[vn, vf], vc] w fun e w' => ∃ d : Int, DeadIs m d ∧ -1 ≤ d ∧ d ≤ 100 ∧ Ret (.int .i64 d) w e w' := by
  have HM := hide hM
  obtain ⟨b, off, c, b2, off2, c2, rfl, rfl, hb, hb2, hc, hc2, hR, hF, hm⟩ := hM
  have HMM := hide hm
  have hn := hm.le
  clear hm hR hF
  obtain ⟨b4, off4, c4, rfl, hb4, hc4, hcl⟩ := hC
  have HCL := hide hcl
  clear hcl
  go_enter Try.func76, Try.ntmps76
  go_wp2
  go_loopw [5] (fun i wr => ∃ k : Nat, k ≤ m.nx.length ∧ i = .int .i64 k ∧ Ext w wr ∧ w.heap.size < wr.heap.size ∧ wr.cell? ⟨w.heap.size, 0, none⟩ = some (.slice (some ⟨b, off, none⟩) m.nx.length c) ∧ wr.cell? ⟨w.heap.size, 1, none⟩ = some (.slice (some ⟨b2, off2, none⟩) m.nx.length c2) ∧ ∀ x, x < k → clF m x = x → Live m x) (fun i _ => m.nx.length - (intOf i).toNat)
  case atStart => exact ⟨0, Nat.zero_le _, rfl, (Ext.refl w).alloc _, by simp, by go_simp, by go_simp, fun x hx => by omega⟩
  case round =>
    obtain ⟨k, hk, rfl, hxr, hws, m0, m1, hl⟩ := hrel
    have HXR := hide hxr
    have HL := hide hl
    by_cases hlt : k < m.nx.length
    · have hkI : (k : Int) < m.nx.length := by omega
      have g := (hxr.cells _ _ hb4).trans (HCL.out k hlt)
      clear hxr hl
      by_cases hq : clF m k = k
      · have hq' : ((clF m k : Int) == (k : Int)) = true := by rw [hq]; simp
        have HQ := hide hq
        rw [hq] at g
        clear hq hq'
        go_wp2_with fail
        refine (reachesFinal_any _ _ m k _ (HM.out.ext HXR.out) hlt).mono ?_
        rintro e w5 ⟨r, hr, rfl, hx5⟩
        have n0 := (hx5.cells _ _ hws).trans m0
        have n1 := (hx5.cells _ _ hws).trans m1
        have hws := Nat.lt_of_lt_of_le hws hx5.size
        have HX5 := hide (HXR.out.trans hx5)
        have HRR := hide hr
        clear hx5 hr m0 m1
        cases hrr : r with
        | true =>
          go_wp2
          go_roundw
          case rel => exact ⟨k + 1, by omega, by go_num, HX5.out, hws, n0, n1, fun x hx hcx => by
            by_cases e : x = k
            · subst e; exact HRR.out.1 hrr
            · exact HL.out x (by omega) hcx⟩
          case measure => simp [intOf]; omega
        | false =>
          go_wp2
          go_ret
          exact ⟨k, dead_some HMM.out hlt HQ.out (fun h => (by have := HRR.out.2 h; rw [hrr] at this; cases this)), by omega, by omega, Ret.mk rfl HX5.out⟩
      · have hq' : ((clF m k : Int) == (k : Int)) = false := by rw [beq_eq_false_iff_ne]; omega
        have HQ := hide hq
        clear hq
        go_wp2
        go_roundw
        case rel => exact ⟨k + 1, by omega, by go_num, HXR.out, hws, m0, m1, fun x hx hcx => by
          by_cases e : x = k
          · subst e; exact absurd hcx HQ.out
          · exact HL.out x (by omega) hcx⟩
        case measure => simp [intOf]; omega
    · obtain rfl : k = m.nx.length := by omega
      clear hxr hl
      go_wp2
      go_ret
      exact ⟨-1, dead_none HMM.out HL.out, by omega, by omega, Ret.mk rfl HXR.out⟩
set_option maxHeartbeats 1000000 in
theorem placeOf_any (v : Value) (xs : List Int) (x : Int) (w : World) (hS : SInts w v xs) : Calls Try.prog 77 #[v, .int .i64 x] w fun e w' => e = .returned (.int .i64 (plc xs x)) ∧ w = w' := by
  have hS0 := hide hS
  obtain ⟨A, c, rfl, -, hln⟩ := hS.form
  clear hS
  go_enter Try.func77, Try.ntmps77
  go_wp2
  go_loop [5] (fun i => ∃ k : Nat, k ≤ xs.length ∧ i = .int .i64 k ∧ ∀ j, j < k → (x == at0 xs j) = false) (fun i => xs.length - (intOf i).toNat)
  case atStart => exact ⟨0, Nat.zero_le _, rfl, fun j hj => by omega⟩
  case round =>
    obtain ⟨k, hk, rfl, hno⟩ := hrel
    have HNO := hide hno
    clear hno
    by_cases hlt : k < xs.length
    · obtain ⟨b, off, rfl, hbl, f1⟩ := hS0.out.at_ hlt
      have hkI : (k : Int) < xs.length := by omega
      by_cases hx : (x == at0 xs k) = true
      · have HF := hide (fidx_some hlt hx HNO.out)
        have hx2 : (at0 xs k == x) = true := by rw [beq_iff_eq] at hx ⊢; exact hx.symm
        clear hx
        go_wp2
        go_ret
        exact ⟨ret_i HF.out.symm, rfl⟩
      · have hx' : (x == at0 xs k) = false := Bool.eq_false_iff.2 hx
        have hx2 : (at0 xs k == x) = false := by rw [beq_eq_false_iff_ne] at hx' ⊢; exact fun e => hx' e.symm
        have HX := hide hx'
        clear hx hx'
        go_wp2
        go_round
        case rel => exact ⟨k + 1, by omega, by go_num, fun j hj => by
          by_cases e : j = k
          · subst e; exact HX.out
          · exact HNO.out j (by omega)⟩
        case measure => simp [intOf]; omega
    · obtain rfl : k = xs.length := by omega
      have HF := hide (fidx_none HNO.out)
      go_wp2
      go_ret
      exact ⟨ret_i HF.out.symm, rfl⟩
end Go.Proofs.Ytdiedghaoleblaa
