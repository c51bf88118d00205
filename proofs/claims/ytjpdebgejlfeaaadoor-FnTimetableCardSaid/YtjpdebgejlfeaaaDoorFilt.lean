/- filter of the program: what a constraint leaves of the domains. -/
import Derived.Test.YtjpdebgejlfeaaaDoorSatZ
import Derived.Test.YtjpdebgejlfeaaaDoorTupA
import Derived.Test.YtjpdebgejlfeaaaDoorRFR
import Derived.Test.YtjpdebgejlfeaaaDoorCpA
namespace Go.Proofs.YtjpdebgejlfeaaaDoor
open Go.RowKit Go.Shelf
attribute [local go_sem] Oper.semAt_some

/-- What a constraint leaves of the domains. -/
def filtL (c : Con) (ds : List Int) : List Int := filtP (satB c) c.vars ds
theorem SInts.stay {S : Nat → Prop} {w w' : World} {b off n c : Nat} {xs : List Int} (h : SInts w (.slice (some ⟨b, off, none⟩) n c) xs) (hk : Keep S w w') (hb : S b) : SInts w' (.slice (some ⟨b, off, none⟩) n c) xs := by
  obtain ⟨A, c', e1, e2, e3, e4, e5⟩ := h
  refine ⟨A, c', e1, e2, e3, e4, fun hp => ?_⟩
  obtain ⟨b', o, ea, hb', hc⟩ := e5 hp
  injection e1 with e1
  have e1 := Option.some.inj (e1.trans ea)
  injection e1 with e6 e7
  subst e6
  exact ⟨b, o, ea, Nat.lt_of_lt_of_le hb' hk.size, fun i hi => (hk.cell (p := ⟨b, o + i, none⟩) hb' hb).trans (hc i hi)⟩
/-- What holds between two rounds: row g holds what the tuples so far have. -/
structure FilI (p : List Int → Bool) (n g B : Nat) (w1 : World) (pre : List (List Int)) (own : Nat → Prop) (W : World) : Prop where
  row : W.rowIs g 3 n (fun i => .int .i64 (at0 (leftT p (zer n) pre) i))
  box : W.cell? ⟨B, 0, none⟩ = some (.slice (some ⟨g, 0, none⟩) n n)
  ext : Ext w1 W
  own : ∀ k, own k ↔ k = g
  gw : w1.heap.size ≤ g
  bb : B < W.heap.size
  bg : B ≠ g
theorem FilI.stays {p : List Int → Bool} {n g B : Nat} {w1 : World} {z : Nat} (hz : g < z ∧ B < z ∧ w1.heap.size ≤ z) : Stays z 6 (FilI p n g B w1) := by
  intro s own W1 W2 h hk
  exact ⟨hk.row (.inl hz.1) h.row, (hk.cell (p := ⟨B, 0, none⟩) h.bb (.inl hz.2.1)).trans h.box, Below.trans h.ext (hk.below h.ext.size (fun k hk' => .inl (by omega))), h.own, h.gw, Nat.lt_of_lt_of_le h.bb hk.size, h.bg⟩
theorem leftT_snoc (p : List Int → Bool) (l : List Int) (pre : List (List Int)) (x : List Int) : leftT p l (pre ++ [x]) = if p x then orT (leftT p l pre) x else leftT p l pre := by
  unfold leftT; rw [List.foldl_append]; rfl
/-- The first k places of the row have been laid over. -/
def orK (l x : List Int) (k j : Nat) : Int := if j < k then orV (at0 l j) (at0 x j) else at0 l j
theorem orK_zero (l x : List Int) (j : Nat) : orK l x 0 j = at0 l j := by simp [orK]
theorem orK_step (l x : List Int) (k j : Nat) : (if j = k then Value.int .i64 (orV (at0 l k) (at0 x k)) else .int .i64 (orK l x k j)) = .int .i64 (orK l x (k + 1) j) := by
  unfold orK
  by_cases h : j = k
  · subst h; simp
  · rw [if_neg h]
    by_cases h2 : j < k
    · rw [if_pos h2, if_pos (by omega)]
    · rw [if_neg h2, if_neg (by omega)]
theorem bits_or {d : Int} (h0 : 0 ≤ d) (h1 : d ≤ 63) {v : Nat} (hv : v < 6) : bits .or .i64 d (2 ^ v) = orV d v := by
  have := fin_dv (p := fun d v => bits .or .i64 d (2 ^ v) == orV d v) (by decide +kernel) h0 h1 hv
  simpa using this
set_option maxRecDepth 100000 in
set_option maxHeartbeats 8000000 in
theorem filter_any (v vd : Value) (c : Con) (ds : List Int) (w : World) (hC : SCon w v c) (hD : SInts w vd ds) (hv : vCon c ds.length = true) (hd : DomL ds) :
    Calls Tryd.prog 75 #[v, vd] w (OwnRes (filtL c ds) w) := by
  have hvl := vCon_len hv
  have HOK := hide (vCon_var hv)
  have HV := hide hv
  have HDM := hide hd
  have hC0 := hide hC
  have hD0 := hide hD
  obtain ⟨vv, va, vr, rfl, hV, hA, hR⟩ := hC
  obtain ⟨Av, cv, rfl, -, hlv⟩ := hV.form
  obtain ⟨Aa, ca, rfl, -, hla⟩ := hA.form
  obtain ⟨Ar, cr, rfl, -, hlr⟩ := hR.form
  obtain ⟨Ad, cd, rfl, -, hld⟩ := hD.form
  have hV0 := hide hV
  obtain ⟨n, hn⟩ : ∃ n, n = c.vars.length := ⟨_, rfl⟩
  have hn4 : n ≤ 4 := by omega
  have hn0 : 0 < n := by omega
  have HN := hide hn
  rw [← hn] at hlv hV0 hC0
  have hx0 := (Ext.refl w).alloc (.cells #[.int .i64 c.kk, .slice Av n cv, .slice Aa c.args.length ca, .int .i64 c.bound, .slice Ar c.rows.length cr] 60)
  obtain ⟨w0, hw0⟩ : ∃ w0, w0 = w.alloc (.cells #[.int .i64 c.kk, .slice Av n cv, .slice Aa c.args.length ca, .int .i64 c.bound, .slice Ar c.rows.length cr] 60) := ⟨_, rfl⟩
  have k0 : w0.cell? ⟨w.heap.size, 0, none⟩ = some (.int .i64 c.kk) := by rw [hw0]; go_simp
  have k1 : w0.cell? ⟨w.heap.size, 1, none⟩ = some (.slice Av n cv) := by rw [hw0]; go_simp
  have k2 : w0.cell? ⟨w.heap.size, 2, none⟩ = some (.slice Aa c.args.length ca) := by rw [hw0]; go_simp
  have k3 : w0.cell? ⟨w.heap.size, 3, none⟩ = some (.int .i64 c.bound) := by rw [hw0]; go_simp
  have k4 : w0.cell? ⟨w.heap.size, 4, none⟩ = some (.slice Ar c.rows.length cr) := by rw [hw0]; go_simp
  have hs0 : w.heap.size < w0.heap.size := by rw [hw0, World.size_alloc]; omega
  rw [← hw0] at hx0
  have HX0 := hide hx0
  have HW0 := hide hw0
  have hz0 : w0.heap.size = w.heap.size + 1 := by rw [hw0]; simp
  have HZ0 := hide hz0
  have K0 := hide k0
  have K1 := hide k1
  have K2 := hide k2
  have K3 := hide k3
  have K4 := hide k4
  clear hD hV hA hR hv hd hn hvl hx0 k0 k1 k2 k3 k4 hw0 hz0
  refine calls_marks Tryd.func75 rfl ?_
  simp only [Tryd.ntmps75, List.size_toArray, List.length_cons, List.length_nil, Nat.reduceAdd, Nat.reduceSub, Array.replicate_succ, Array.replicate_zero, List.push_toArray, List.append_toArray, List.nil_append, List.cons_append]
  rw [← HN.out]
  go_wp2_with (at_make; rw [← HW0.out]; go_must (refine wpList_make_gen _ rfl _ _ 24 rfl 3 (.int .i64 0) 1 8 Tryd.underlying24 Tryd.infoI .i64 .i64 n rfl rfl (by omega) (by omega) (fun _ => .int .i64 0) (fun i _ => by simp [Value.cells, Nat.mod_one]) ?_); intro w1 hrow1 hsz1 hx1; rw [Nat.mul_one] at hrow1; have HROW1 := hide hrow1; have HSZ1 := hide hsz1; have HX1 := hide hx1; have hs1 := Nat.lt_of_lt_of_le hs0 hx1.size; have k0 := (hx1.cells _ _ hs0).trans K0.out; have k1 := (hx1.cells _ _ hs0).trans K1.out; have k2 := (hx1.cells _ _ hs0).trans K2.out; have k3 := (hx1.cells _ _ hs0).trans K3.out; have k4 := (hx1.cells _ _ hs0).trans K4.out; clear hrow1 hsz1 hx1)
  have hxa := (Ext.refl w1).alloc (.cells #[.slice (some ⟨w0.heap.size, 0, none⟩) n n] 24)
  have hx1a := HX1.out.trans hxa
  refine (word_any _ _ c ds _ (hC0.out.ext (HX0.out.trans hx1a)) (hD0.out.ext (HX0.out.trans hx1a)) HOK.out (by have := HN.out; omega)).mono ?_
  rintro e w2 ⟨Aw, cw, bw, mw, fw, rfl, hcw, hww, hbw, how, hx2⟩
  have hwl : (wordL c.vars ds).length = n := by rw [wordL_len, HN.out]
  obtain ⟨rfl, hrw, hmw, hfw⟩ := how (by omega)
  have HWD := hide (show ∀ i, i < (wordL c.vars ds).length → 0 ≤ at0 (wordL c.vars ds) i ∧ at0 (wordL c.vars ds) i ≤ 9223372036854775807 from fun i hi => by
    rw [wordL_at ds (by have := HN.out; omega)]
    have h1 := HOK.out.rg i (by have := HN.out; omega)
    have := HDM.out _ h1.2
    omega)
  have hS2 := hide (SInts.own hcw hww (fun _ => ⟨rfl, hrw, hmw, hfw⟩) (fun i hi => by have := HWD.out i hi; unfold I64; omega))
  have HWL := hide hwl
  have hx02 := hide (hx1a.trans hx2)
  have hz1 : w0.heap.size < w1.heap.size := by have := HSZ1.out; omega
  have hz2 : w1.heap.size + 1 ≤ w2.heap.size := by have := hx2.size; rwa [World.size_alloc] at this
  have hbw2 : w1.heap.size + 1 ≤ bw := by rwa [World.size_alloc] at hbw
  have hbwl : bw < w2.heap.size := hrw.lt
  have bx0 : w2.cell? ⟨w1.heap.size, 0, none⟩ = some (.slice (some ⟨w0.heap.size, 0, none⟩) n n) := (hx2.cells _ _ (by simp)).trans (by go_simp)
  have hrow2 := hide (hx2.row (hxa.row HROW1.out))
  have BX0 := hide bx0
  clear how hrw hmw hfw hxa hx1a hcw hww hbw k0 k1 k2 k3 k4 bx0 hx2 hwl
  go_wp2_with fail
  refine (tuples_any _ _ _ _).mono ?_
  rintro e w3 ⟨rfl, rfl⟩
  go_wp2_with fail
  have hstay : Stays (w2.alloc (.cells #[.slice (some ⟨bw, 0, none⟩) (wordL c.vars ds).length cw] 24)).heap.size 6 (FilI (satB c) n w0.heap.size w1.heap.size w0) := by rw [World.size_alloc]; exact FilI.stays (by omega)
  have hsl : 0 < (wordL c.vars ds).length := by rw [HWL.out]; omega
  have hsl4 : (wordL c.vars ds).length ≤ 100 := by rw [HWL.out]; omega
  refine wpIn_wide.1 (wpIn_tups (n := 3) (F := Fence.wide) rfl (by omega) (gf := 92) (lb := #[.pointer (some ⟨w2.heap.size, 0, none⟩)]) rfl trivial (enters_of Tryd.func92 (by kernel_rfl) rfl)
    (tuples_at 2 bw 0 cw (wordL c.vars ds) w2 hsl hsl4 HWD.out hS2.out) (Ext.refl _) rfl
    (FilI (satB c) n w0.heap.size w1.heap.size w0) (fun _ _ _ _ => False) hstay (fun _ _ _ _ _ h _ => h) (fun _ _ W h => fun k hk => by have h1 := (h.own k).1 hk; subst h1; exact h.row.lt)
    (fun k => k = w0.heap.size) (fun k h h' => by have h1 : k = w2.heap.size ∨ k = bw := h; have h2 : k = w0.heap.size := h'; omega) (fun k h => by have h2 : k = w0.heap.size := h; rw [World.size_alloc]; omega) ?start (fun v => { tmps := #[.agg #[.int .i64 c.kk, .slice Av n cv, .slice Aa c.args.length ca, .int .i64 c.bound, .slice Ar c.rows.length cr], .slice Ad ds.length cd, .pointer (some ⟨w.heap.size, 0, none⟩), undef, .slice none 0 0, .pointer (some ⟨w1.heap.size, 0, none⟩), v, undef, undef, undef, undef, undef, .pointer (some ⟨w.heap.size, 1, none⟩), .slice Av n cv, .int .i64 (n : Int), .slice (some ⟨w0.heap.size, 0, none⟩) n n, .agg #[.int .i64 c.kk, .slice Av n cv, .slice Aa c.args.length ca, .int .i64 c.bound, .slice Ar c.rows.length cr], .slice Ad ds.length cd, .slice (some ⟨bw, 0, none⟩) (wordL c.vars ds).length cw, .func (.func 92) #[] #[.pointer (some ⟨w2.heap.size, 0, none⟩)], v, undef, undef, undef, undef, undef, undef, undef, undef, undef, undef, undef, undef, undef, undef, undef, undef, undef, undef, undef, undef, undef, undef, undef, undef, undef, undef, undef, undef, undef, undef, undef, undef, undef, undef, undef, undef, undef, undef], defers := [] }) ?assign ?body ?done ?stop)
  case start =>
    exact ⟨(((Ext.refl w2).alloc _).row hrow2.out).congr (fun j _ => by show _ = Value.int .i64 (at0 (zer n) j); rw [zer_at]), (((Ext.refl w2).alloc _).cells _ _ (by omega)).trans BX0.out, hx02.out.trans ((Ext.refl w2).alloc _), fun k => Iff.rfl, Nat.le_refl _, by rw [World.size_alloc]; omega, by omega⟩
  case assign =>
    intro l x W K hK
    gi_wp2
    exact hK
  case body =>
    intro l pre x b own W hI hpre ht hz
    rw [World.size_alloc] at hz
    have HI := hide hI
    have HTA := hide ht
    have hxm : x ∈ tups (wordL c.vars ds) := hpre.subset (by simp)
    obtain ⟨hxl, hxv⟩ := tups_val hxm
    rw [HWL.out] at hxl
    have HXV := hide hxv
    have hxW := hI.ext
    have hsW := hxW.size
    have k0 := (hxW.cells _ _ hs0).trans K0.out
    have k1 := (hxW.cells _ _ hs0).trans K1.out
    have k2 := (hxW.cells _ _ hs0).trans K2.out
    have k3 := (hxW.cells _ _ hs0).trans K3.out
    have k4 := (hxW.cells _ _ hs0).trans K4.out
    have hCW := hide (hC0.out.ext (HX0.out.trans hxW))
    have hXS := hide ht.1
    have HLL := hide (show (leftT (satB c) (zer n) pre).length = n from by
      obtain ⟨q1, q2, -⟩ := leftT_spec (satB c) pre (zer n) (DomL.zer n) (fun y hy => by
        obtain ⟨q3, q4⟩ := tups_val (hpre.subset (List.mem_append_left _ hy))
        rw [HWL.out] at q3
        exact ⟨by rw [zer_len, q3], q4⟩)
      rw [q1, zer_len])
    have HLB := hide (show ∀ i, i < n → 0 ≤ at0 (leftT (satB c) (zer n) pre) i ∧ at0 (leftT (satB c) (zer n) pre) i ≤ 63 from fun i hi => by
      obtain ⟨q1, q2, -⟩ := leftT_spec (satB c) pre (zer n) (DomL.zer n) (fun y hy => by
        obtain ⟨q3, q4⟩ := tups_val (hpre.subset (List.mem_append_left _ hy))
        rw [HWL.out] at q3
        exact ⟨by rw [zer_len, q3], q4⟩)
      exact q2 i (by rw [q1, zer_len]; exact hi))
    clear hI hpre ht hxm hxv hxW
    gi_wp2_with fail
    refine ⟨trivial, ?_⟩
    refine (CallsIn.inRound l (callsIn_wide.2 (satisfied_any _ (.slice (some ⟨b, 0, none⟩) n n) c x ds.length W hCW.out (by have := hXS.out; rwa [hxl] at this) HV.out HXV.out (by rw [hxl, HN.out])))).mono ?_
    rintro e W1 ⟨rfl, hxs⟩
    have hI1 : FilI (satB c) n w0.heap.size w1.heap.size w0 pre own W1 := ⟨hxs.row HI.out.row, (hxs.cells _ _ HI.out.bb).trans HI.out.box, HI.out.ext.trans hxs, HI.out.own, HI.out.gw, Nat.lt_of_lt_of_le HI.out.bb hxs.size, HI.out.bg⟩
    have HI1 := hide hI1
    have HXS := hide hxs
    clear hI1 hxs k0 k1 k2 k3 k4
    cases hsat : satB c x with
    | false =>
      have HR := hide (show leftT (satB c) (zer n) (pre ++ [x]) = leftT (satB c) (zer n) pre by rw [leftT_snoc, hsat]; rfl)
      clear hsat
      gi_wp2
      exact ⟨own, Own.same (HXS.out.keep _), by have h := HI1.out; exact ⟨by rw [HR.out]; exact h.row, h.box, h.ext, h.own, h.gw, h.bb, h.bg⟩⟩
    | true =>
      have HR := hide (show leftT (satB c) (zer n) (pre ++ [x]) = orT (leftT (satB c) (zer n) pre) x by rw [leftT_snoc, hsat]; rfl)
      clear hsat
      gi_wp2
      gi_loopw [26] (fun i wr => ∃ k : Nat, i = .int .i64 k ∧ k ≤ n ∧ wr.rowIs w0.heap.size 3 n (fun j => .int .i64 (orK (leftT (satB c) (zer n) pre) x k j)) ∧ Keep (fun j => j ≠ w0.heap.size) W1 wr) (fun i _ => n - (intOf i).toNat)
      case atStart => exact ⟨0, rfl, by omega, HI1.out.row.congr (fun j _ => by rw [orK_zero]), Keep.refl _ _⟩
      case round =>
        obtain ⟨k, rfl, hk, hrow, hkp⟩ := hrel
        obtain ⟨W3, rfl⟩ : ∃ W3, W3 = wr := ⟨wr, rfl⟩
        have HROW := hide hrow
        have HKP := hide hkp
        have hbg : b ≠ w0.heap.size := fun e => HTA.out.2.1 ((HI1.out.own b).2 e)
        by_cases hlt : k < n
        · have hkI : (k : Int) < n := by omega
          have hxS := (hXS.out.ext HXS.out).stay hkp hbg
          obtain ⟨v, hv6, hve⟩ := HXV.out.at_ (i := k) (by omega)
          have fx := hxS.cell_ (k := k) (by omega)
          rw [Nat.zero_add, hve] at fx
          have hbW : b < W3.heap.size := Nat.lt_of_lt_of_le HTA.out.2.2.1 (Nat.le_trans HXS.out.size hkp.size)
          have fc := hrow.cell hlt
          have hok : orK (leftT (satB c) (zer n) pre) x k k = at0 (leftT (satB c) (zer n) pre) k := by unfold orK; rw [if_neg (by omega)]
          rw [hok] at fc
          have hdb : 0 ≤ at0 (leftT (satB c) (zer n) pre) k ∧ at0 (leftT (satB c) (zer n) pre) k ≤ 63 := HLB.out k hlt
          obtain ⟨d, hd⟩ : ∃ d, d = at0 (leftT (satB c) (zer n) pre) k := ⟨_, rfl⟩
          rw [← hd] at fc hdb
          have HDE := hide hd
          have hpw : (1 : Int) ≤ 2 ^ v ∧ (2 : Int) ^ v ≤ 32 := by
            have := fin_dv (p := fun _ v => decide ((1 : Int) ≤ 2 ^ v) && decide ((2 : Int) ^ v ≤ 32)) (by decide +kernel) (Int.le_refl 0) (by omega) hv6
            simpa using this
          obtain ⟨o, ho⟩ : ∃ o, o = orV d v := ⟨_, rfl⟩
          have kb := bits_or hdb.1 hdb.2 hv6
          rw [← ho] at kb
          have HO := hide ho
          have kp : IntKind.i64.wrap (2 ^ v) = 2 ^ v := IntWalk.i64_in _ (by omega)
          clear ho
          have fz := hrow.frozen k
          have hgW : w0.heap.size < W3.heap.size := hrow.lt
          have fb := (hkp.cell (p := ⟨w1.heap.size, 0, none⟩) HI1.out.bb HI1.out.bg).trans HI1.out.box
          have hB3 : w1.heap.size < W3.heap.size := Nat.lt_of_lt_of_le HI1.out.bb hkp.size
          have HVE := hide hve
          clear hrow hkp hxS hok hd hve
          gi_wp2
          refine round_region_ext_tail 8 (by kernel_rfl) (by kernel_rfl) (by kernel_rfl) (by rintro ⟨a, w, h⟩; exact h) ?_
          simp only [List.take_succ_cons, List.take_zero]
          iterate 8 (apply quiet_val; (focus rfl); (focus (intro w' hw'; have hk' := hw'.cells; go_simp; all_goals exact rfl)); simp only [Act.put, List.setIfInBounds_toArray, List.set_cons_succ, List.set_cons_zero])
          refine wpQuiet_nil ?_
          intro w5 hx5
          have HX5 := hide hx5
          have fz := (hx5.frz _ _ hgW).trans fz
          have fc := (hx5.cells _ _ hgW).trans fc
          clear hx5 kb kp fb fx
          simp only [List.drop_succ_cons, List.drop_zero]
          go_wp2
          gi_wp2
          go_roundw
          case rel =>
            refine ⟨k + 1, by go_num, by omega, ((HX5.out.row HROW.out).set k _).congr (fun j _ => ?_), (HKP.out.trans (HX5.out.keep _)).set (fun _ hh => hh rfl) _⟩
            rw [← orK_step, HVE.out, ← HDE.out, HO.out]
          case measure => simp [intOf]; omega
        · obtain rfl : k = n := by omega
          have hkI : ¬ ((k : Int) < k) := by omega
          clear hrow hkp
          gi_wp2
          refine ⟨own, Own.same ((HXS.out.keep _).then HKP.out (fun j _ hj e => hj ((HI1.out.own j).2 e))), ?_⟩
          exact ⟨HROW.out.congr (fun j hj => by rw [HR.out, orT_at x (by rw [HLL.out]; exact hj)]; unfold orK; rw [if_pos hj]), (HKP.out.cell (p := ⟨w1.heap.size, 0, none⟩) HI1.out.bb HI1.out.bg).trans HI1.out.box, Below.trans HI1.out.ext (HKP.out.below HI1.out.ext.size (fun j hj => by omega)), HI1.out.own, HI1.out.gw, Nat.lt_of_lt_of_le HI1.out.bb HKP.out.size, HI1.out.bg⟩
  case done =>
    intro D own W hD hnD hI hK
    have hDl : D < W.heap.size := (Array.getElem?_eq_some_iff.1 hK).1
    have HI := hide hI
    have hxW := hI.ext
    have HXW := hide hxW
    have HXW2 := hide (HX0.out.trans hxW)
    have hDW : w.heap.size ≤ D := by rw [World.size_alloc] at hD; omega
    have HKD := hide hK
    have hsW : w.heap.size < W.heap.size := Nat.lt_of_lt_of_le hs0 hxW.size
    have hgW : w0.heap.size < W.heap.size := hI.row.lt
    have hdl : 0 < ds.length := by have := HOK.out.rg 0 (by rw [← HN.out]; exact hn0); omega
    clear hI hxW hK hD hnD
    go_wp2_with fail
    refine (copied_any _ ds _ (hD0.out.ext HXW2.out)).mono ?_
    rintro e w5 ⟨A5, c5, b5, m5, f5, rfl, hc5, hds5, hb5, ho5, hx5⟩
    obtain ⟨rfl, hr5, hm5, hf5⟩ := ho5 hdl
    have HR5 := hide hr5
    have HF5 := hide hf5
    have HX5 := hide hx5
    have k1 := ((HXW.out.trans hx5).cells _ _ hs0).trans K1.out
    have hs5 := Nat.lt_of_lt_of_le hsW hx5.size
    obtain ⟨L, hL⟩ : ∃ L, L = leftT (satB c) (zer n) (tups (wordL c.vars ds)) := ⟨_, rfl⟩
    have HL := hide hL
    have HR0 := hide (hx5.row HI.out.row)
    have hB5 : w1.heap.size < w5.heap.size := Nat.lt_of_lt_of_le HI.out.bb hx5.size
    have hB5n : w1.heap.size ≠ b5 := by have := HI.out.bb; omega
    have hg5n : w0.heap.size ≠ b5 := by omega
    have HBX := hide ((hx5.cells _ _ HI.out.bb).trans HI.out.box)
    have HVW := hide (hV0.out.ext (HXW2.out.trans hx5))
    have HVB := hide (fun (k : Nat) (hk : k < n) => hV0.out.at_ (k := k) (by rw [← HN.out]; exact hk))
    have hwb : w.heap.size ≤ b5 := by omega
    have hwb2 : w.heap.size ≠ b5 := by omega
    clear hr5 hf5 hx5 ho5 hL
    go_wp2
    go_loopw [45] (fun i wr => ∃ k : Nat, i = .int .i64 k ∧ k ≤ n ∧ wr.rowIs b5 3 m5 (fun j => if j < ds.length then .int .i64 (at0 (putV ds c.vars L k) j) else f5 j) ∧ Keep (fun j => j ≠ b5) w5 wr) (fun i _ => n - (intOf i).toNat)
    case atStart => exact ⟨0, rfl, by omega, HR5.out.congr (fun j _ => by by_cases h : j < ds.length; rw [if_pos h, HF5.out j h]; rfl; rw [if_neg h]), Keep.refl _ _⟩
    case round =>
      obtain ⟨k, rfl, hk, hrow, hkp⟩ := hrel
      obtain ⟨W6, rfl⟩ : ∃ W6, W6 = wr := ⟨wr, rfl⟩
      have HROW := hide hrow
      have HKP := hide hkp
      by_cases hlt : k < n
      · have hkI : (k : Int) < n := by omega
        have hkv : k < c.vars.length := by rw [← HN.out]; exact hlt
        obtain ⟨bv, ov, rfl, hbv, f1⟩ := HVB.out k hlt
        have hbv5 : bv < w5.heap.size := by omega
        have f1 := (hkp.cell (p := ⟨bv, ov + k, none⟩) hbv5 (by show bv ≠ b5; omega)).trans (((HXW2.out.trans HX5.out).cells _ _ hbv).trans f1)
        obtain ⟨hu0, hu1⟩ := HOK.out.rg k hkv
        obtain ⟨u, hu⟩ : ∃ u : Nat, at0 c.vars k = u := ⟨(at0 c.vars k).toNat, by omega⟩
        rw [hu] at f1 hu0 hu1
        have hul : u < ds.length := by omega
        have hulI : (u : Int) < ds.length := by omega
        have fb := (hkp.cell (p := ⟨w1.heap.size, 0, none⟩) hB5 hB5n).trans HBX.out
        have fl := (hkp.row hg5n HR0.out).cell hlt
        rw [← HL.out] at fl
        have fo := hrow.cell (i := u) (by omega)
        rw [if_pos hul] at fo
        have fz := hrow.frozen u
        have HU := hide hu
        obtain ⟨y, hy⟩ : ∃ y, y = at0 L k := ⟨_, rfl⟩
        rw [← hy] at fl
        have HY := hide hy
        clear hrow hkp hu hy
        go_wp2
        go_roundw
        case rel =>
          refine ⟨k + 1, by go_num, by omega, (HROW.out.set u _).congr (fun j _ => ?_), HKP.out.set (fun _ hh => hh rfl) _⟩
          show _ = if j < ds.length then Value.int .i64 (at0 ((putV ds c.vars L k).set (at0 c.vars k).toNat (at0 L k)) j) else f5 j
          rw [HU.out, Int.toNat_natCast, at0_set _ _ _ _ (by rw [putV_len]; exact hul), ← HY.out]
          by_cases hj : j = u
          · subst hj; rw [if_pos rfl, if_pos hul, if_pos rfl]
          · rw [if_neg hj, if_neg (Ne.symm hj)]
        case measure => simp [intOf]; omega
      · obtain rfl : k = n := by omega
        have hkI : ¬ ((k : Int) < k) := by omega
        have HQ := hide (show putV ds c.vars L k = filtL c ds by rw [HL.out, HN.out]; rfl)
        have hDb : D ≠ b5 := by omega
        have hbl : W6.heap[D]? = some (.deferred (some [])) := (hkp.block D (Nat.lt_of_lt_of_le hDl HX5.out.size) hDb).trans ((HX5.out.block D hDl).trans HKD.out)
        have HBL := hide hbl
        have HR := hide (show OwnRes (filtL c ds) w (.returned (.slice (some ⟨b5, 0, none⟩) ds.length c5)) W6 from ⟨_, c5, b5, m5, _, by rw [show (filtL c ds).length = ds.length from filtP_len _ _ _], by rw [show (filtL c ds).length = ds.length from filtP_len _ _ _]; exact hc5, by rw [show (filtL c ds).length = ds.length from filtP_len _ _ _]; exact hds5, by omega,
          fun _ => ⟨rfl, HROW.out, by rw [show (filtL c ds).length = ds.length from filtP_len _ _ _]; exact hm5, fun i hi => by rw [show (filtL c ds).length = ds.length from filtP_len _ _ _] at hi; rw [if_pos hi, HQ.out]⟩, Below.trans (HXW2.out.trans HX5.out) (HKP.out.below (HXW2.out.trans HX5.out).size (fun j hj => by omega))⟩)
        have HRP := hide (HR.out.put (o := .deferred none) hDW hbl)
        clear hrow hkp hbl
        go_wp2
        refine ⟨by simp, .inl ⟨_, _, rfl, run_takeDeferred HBL.out, ?_⟩⟩
        exact ⟨.slice (some ⟨b5, 0, none⟩) ds.length c5, by simp only [results, Tryd.results75]; go_simp, HRP.out⟩
  case stop =>
    rintro D c pre own W _ _ _ h _
    exact h.elim
end Go.Proofs.YtjpdebgejlfeaaaDoor
