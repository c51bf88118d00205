/- supported of the reference: what a constraint leaves of the domains. -/
import Derived.Test.YtpnlambndbfenaaSpW2
import Derived.Test.YtpnlambndbfenaaRelM
import Derived.Test.YtpnlambndbfenaaCpI
namespace Go.Proofs.Ytpnlambndbfenaa
open Go.RowKit
attribute [local go_sem] evalOf

/-- A new row of n zeros. -/
def RS.zr (D : List Nat) (B n : Nat) : RS := ⟨D, fun _ v W => ∃ b, v = .slice (some ⟨b, 0, none⟩) n n ∧ B ≤ b ∧ W.rowIs b 3 n (fun _ => .int .i64 0), fun _ _ _ _ h hx => by obtain ⟨b, h1, h2, h3⟩ := h; exact ⟨b, h1, h2, hx.row h3⟩⟩
/-- A new box that holds the parts of a struct of eight cells. -/
def RS.en (D : List Nat) (B : Nat) : RS := ⟨D, fun vs v W => ∃ (b : Nat) (cs : Array Value), vs.getD 0 undef = .agg cs ∧ cs.size = 8 ∧ v = .pointer (some ⟨b, 0, none⟩) ∧ B ≤ b ∧ W.rowIs b 125 8 (fun k => cs.getD k undef), fun _ _ _ _ h hx => by obtain ⟨b, cs, h1, h2, h3, h4, h5⟩ := h; exact ⟨b, cs, h1, h2, h3, h4, hx.row h5⟩⟩
/-- A struct of which two parts are slices that have been made. -/
def RS.bd (D : List Nat) (n : Nat) (F : Nat → Nat → Array Value) : RS := ⟨D, fun vs v _ => ∃ gx gs, vs.getD 2 undef = .slice (some ⟨gx, 0, none⟩) n n ∧ vs.getD 3 undef = .slice (some ⟨gs, 0, none⟩) n n ∧ v = .agg (F gx gs), fun _ _ _ _ h _ => h⟩
theorem row_ty {W : World} {b : Nat} {t u : TypeId} {n m : Nat} {f g : Nat → Value} (h : W.rowIs b t n f) (k : W.rowIs b u m g) : t = u := by
  obtain ⟨c1, p1, -⟩ := h
  obtain ⟨c2, p2, -⟩ := k
  rw [p1] at p2
  injection p2 with p2
  injection p2 with _ p3
theorem getD_some {cs : Array Value} {i : Nat} (hi : i < cs.size) : cs[i]? = some (cs.getD i undef) := by simp [Array.getD_eq_getD_getElem?, hi]
theorem leftW {c : Con} {ds : List Int} (p : List Int → Bool) : (leftT p (zer c.vars.length) (tups (wordL c.vars ds))).length = c.vars.length := (left_spec p c.vars ds).1
set_option maxRecDepth 100000 in
set_option maxHeartbeats 8000000 in
theorem supported_any (v vd : Value) (c : Con) (ds : List Int) (w : World) (hC : SCon w v c) (hD : SInts w vd ds) (hcv : vCon c ds.length = true) (hd : DomL ds) :
    Calls Try.prog 89 #[v, vd] w (OwnRes (filtL c ds) w) := by
  have hvl := vCon_len hcv
  have HOK := hide (vCon_var hcv)
  have HCV := hide hcv
  have HDM := hide hd
  have hC0 := hide hC
  have hD0 := hide hD
  obtain ⟨vv, va, vr, rfl, hV, hA, hR⟩ := hC
  obtain ⟨Av, cv, rfl, -, hlv⟩ := hV.form
  obtain ⟨Aa, ca, rfl, -, hla⟩ := hA.form
  obtain ⟨Ar, cr, rfl, -, hlr⟩ := hR.form
  obtain ⟨Ad, cd, rfl, -, hld⟩ := hD.form
  have hV0 := hide hV
  have hA0 := hide hA
  have hR0 := hide hR
  have hn4 : c.vars.length ≤ 4 := by omega
  have hn0 : 0 < c.vars.length := by omega
  have hdp : 0 < ds.length := by omega
  obtain ⟨w0, hw0⟩ : ∃ w0, w0 = w.alloc (.cells #[.int .i64 c.kk, .slice Av c.vars.length cv, .slice Aa c.args.length ca, .int .i64 c.bound, .slice Ar c.rows.length cr] 32) := ⟨_, rfl⟩
  have hx0 : Ext w w0 := by rw [hw0]; exact (Ext.refl w).alloc _
  have k0 : w0.cell? ⟨w.heap.size, 0, none⟩ = some (.int .i64 c.kk) := by rw [hw0]; go_simp
  have k1 : w0.cell? ⟨w.heap.size, 1, none⟩ = some (.slice Av c.vars.length cv) := by rw [hw0]; go_simp
  have k2 : w0.cell? ⟨w.heap.size, 2, none⟩ = some (.slice Aa c.args.length ca) := by rw [hw0]; go_simp
  have k3 : w0.cell? ⟨w.heap.size, 3, none⟩ = some (.int .i64 c.bound) := by rw [hw0]; go_simp
  have k4 : w0.cell? ⟨w.heap.size, 4, none⟩ = some (.slice Ar c.rows.length cr) := by rw [hw0]; go_simp
  have ks : w.heap.size < w0.heap.size := by rw [hw0]; simp
  have HX0 := hide hx0
  have K1 := hide k1
  clear hV hA hR hD hcv hd hvl
  go_enter Try.func89, Try.ntmps89
  go_wp2
  rw [← hw0]
  refine wp_region_relMT (mk := [5, 9]) OldS ApS OldS.ext (n := 12) (ts := [12]) (sp := [RS.q [] (fun _ => .agg #[.int .i64 c.kk, .slice Av c.vars.length cv, .slice Aa c.args.length ca, .int .i64 c.bound, .slice Ar c.rows.length cr]), RS.q [] (fun _ => .slice Ad ds.length cd), RS.q [] (fun _ => .pointer (some ⟨w.heap.size, 1, none⟩)), RS.q [2] (fun _ => .slice Av c.vars.length cv), RS.q [3] (fun _ => .int .i64 c.vars.length), RS.zr [4] w0.heap.size c.vars.length, RS.q [] (fun _ => .pointer (some ⟨w.heap.size, 1, none⟩)), RS.q [6] (fun _ => .slice Av c.vars.length cv), RS.q [7] (fun _ => .int .i64 c.vars.length), RS.zr [8] w0.heap.size c.vars.length, RS.bd [0, 1, 5, 9] c.vars.length (fun gx gs => #[.int .i64 c.kk, .slice Av c.vars.length cv, .slice Aa c.args.length ca, .int .i64 c.bound, .slice Ar c.rows.length cr, .slice Ad ds.length cd, .slice (some ⟨gx, 0, none⟩) c.vars.length c.vars.length, .slice (some ⟨gs, 0, none⟩) c.vars.length c.vars.length]), RS.en [10] w0.heap.size])
    (fun W => Ext w0 W) (by kernel_rfl) (relOK (D := [[], [], [], [2], [3], [4], [], [6], [7], [8], [0, 1, 5, 9], [10]]) rfl (by kernel_rfl) rfl) (by kernel_rfl) (fun W W' h hx => h.trans hx) (Ext.refl w0).drew (by decide) ?steps ?ends
  case steps =>
    refine ⟨?_, ?_, ?_, ?_, ?_, ?_, ?_, ?_, ?_, ?_, ?_, ?_, trivial⟩
    · intro V τ W hC hf ht h0
      have s2 : τ 2 = .pointer (some ⟨w.heap.size, 0, none⟩) := h0 2 (by kernel_rfl)
      have k0 := (hC.cells _ _ ks).trans k0
      have k1 := (hC.cells _ _ ks).trans k1
      have k2 := (hC.cells _ _ ks).trans k2
      have k3 := (hC.cells _ _ ks).trans k3
      have k4 := (hC.cells _ _ ks).trans k4
      refine Does.val (w' := W) (v := .agg #[.int .i64 c.kk, .slice Av c.vars.length cv, .slice Aa c.args.length ca, .int .i64 c.bound, .slice Ar c.rows.length cr]) ?_ ⟨⟨Ext.refl W, rfl⟩, fun h => absurd h (by decide)⟩
      clear h0 ht hf
      have e2 : evalOf τ (.tmp 2) = .pointer (some ⟨w.heap.size, 0, none⟩) := s2
      clear hw0
      go_simp
      try simp only [e2]
      try go_simp
    · intro V τ W hC hf ht h0
      have s1 : τ 1 = .slice Ad ds.length cd := h0 1 (by kernel_rfl)
      refine Does.val (w' := W) (v := .slice Ad ds.length cd) ?_ ⟨⟨Ext.refl W, rfl⟩, fun h => absurd h (by decide)⟩
      go_simp
    · intro V τ W hC hf ht h0
      have s2 : τ 2 = .pointer (some ⟨w.heap.size, 0, none⟩) := h0 2 (by kernel_rfl)
      refine Does.val (w' := W) (v := .pointer (some ⟨w.heap.size, 1, none⟩)) ?_ ⟨⟨Ext.refl W, rfl⟩, fun h => absurd h (by decide)⟩
      go_simp
    · intro V τ W hC hf ht h0
      have f2 : V 2 = .pointer (some ⟨w.heap.size, 1, none⟩) := hf 2 (by simp [RS.at_, RS.q])
      have s10 := (ht 2 (by simp [RS.at_, RS.q]) 10 rfl).trans f2
      have k1 := (hC.cells _ _ ks).trans k1
      refine Does.val (w' := W) (v := .slice Av c.vars.length cv) ?_ ⟨⟨Ext.refl W, rfl⟩, fun h => absurd h (by decide)⟩
      go_simp
    · intro V τ W hC hf ht h0
      have f3 : V 3 = .slice Av c.vars.length cv := hf 3 (by simp [RS.at_, RS.q])
      have s11 := (ht 3 (by simp [RS.at_, RS.q]) 11 rfl).trans f3
      refine Does.val (w' := W) (v := .int .i64 c.vars.length) ?_ ⟨⟨Ext.refl W, rfl⟩, fun h => absurd h (by decide)⟩
      go_simp
    · intro V τ W hC hf ht h0
      have f4 : V 4 = .int .i64 c.vars.length := hf 4 (by simp [RS.at_, RS.zr])
      have s12 := (ht 4 (by simp [RS.at_, RS.zr]) 12 rfl).trans f4
      refine Does.make _ _ 22 rfl 3 (.int .i64 0) 1 8 Try.underlying22 Try.infoI .i64 .i64 c.vars.length s12 s12 (by omega) (by omega) (fun _ => .int .i64 0) (fun i _ => by simp [Value.cells, Nat.mod_one]) ?_
      intro W' hrow hsz hx
      rw [Nat.mul_one] at hrow
      exact ⟨⟨hx, W.heap.size, rfl, hC.size, hrow⟩, fun _ => ⟨⟨_, _, rfl, by omega⟩, fun u hu => hu.new _ _⟩⟩
    · intro V τ W hC hf ht h0
      have s2 : τ 2 = .pointer (some ⟨w.heap.size, 0, none⟩) := h0 2 (by kernel_rfl)
      refine Does.val (w' := W) (v := .pointer (some ⟨w.heap.size, 1, none⟩)) ?_ ⟨⟨Ext.refl W, rfl⟩, fun h => absurd h (by decide)⟩
      go_simp
    · intro V τ W hC hf ht h0
      have f6 : V 6 = .pointer (some ⟨w.heap.size, 1, none⟩) := hf 6 (by simp [RS.at_, RS.q])
      have s14 := (ht 6 (by simp [RS.at_, RS.q]) 14 rfl).trans f6
      have k1 := (hC.cells _ _ ks).trans k1
      refine Does.val (w' := W) (v := .slice Av c.vars.length cv) ?_ ⟨⟨Ext.refl W, rfl⟩, fun h => absurd h (by decide)⟩
      go_simp
    · intro V τ W hC hf ht h0
      have f7 : V 7 = .slice Av c.vars.length cv := hf 7 (by simp [RS.at_, RS.q])
      have s15 := (ht 7 (by simp [RS.at_, RS.q]) 15 rfl).trans f7
      refine Does.val (w' := W) (v := .int .i64 c.vars.length) ?_ ⟨⟨Ext.refl W, rfl⟩, fun h => absurd h (by decide)⟩
      go_simp
    · intro V τ W hC hf ht h0
      have f8 : V 8 = .int .i64 c.vars.length := hf 8 (by simp [RS.at_, RS.zr])
      have s16 := (ht 8 (by simp [RS.at_, RS.zr]) 16 rfl).trans f8
      refine Does.make _ _ 22 rfl 3 (.int .i64 0) 1 8 Try.underlying22 Try.infoI .i64 .i64 c.vars.length s16 s16 (by omega) (by omega) (fun _ => .int .i64 0) (fun i _ => by simp [Value.cells, Nat.mod_one]) ?_
      intro W' hrow hsz hx
      rw [Nat.mul_one] at hrow
      exact ⟨⟨hx, W.heap.size, rfl, hC.size, hrow⟩, fun _ => ⟨⟨_, _, rfl, by omega⟩, fun u hu => hu.new _ _⟩⟩
    · intro V τ W hC hf ht h0
      have f0 : V 0 = .agg #[.int .i64 c.kk, .slice Av c.vars.length cv, .slice Aa c.args.length ca, .int .i64 c.bound, .slice Ar c.rows.length cr] := hf 0 (by simp [RS.at_, RS.bd])
      have f1 : V 1 = .slice Ad ds.length cd := hf 1 (by simp [RS.at_, RS.bd])
      obtain ⟨b5, f5, -, -⟩ := (show ∃ b, V 5 = _ ∧ _ ∧ _ from hf 5 (by simp [RS.at_, RS.bd]))
      obtain ⟨b9, f9, -, -⟩ := (show ∃ b, V 9 = _ ∧ _ ∧ _ from hf 9 (by simp [RS.at_, RS.bd]))
      have s8 := (ht 0 (by simp [RS.at_, RS.bd]) 8 rfl).trans f0
      have s9 := (ht 1 (by simp [RS.at_, RS.bd]) 9 rfl).trans f1
      have s13 := (ht 5 (by simp [RS.at_, RS.bd]) 13 rfl).trans f5
      have s17 := (ht 9 (by simp [RS.at_, RS.bd]) 17 rfl).trans f9
      refine Does.val (w' := W) (v := .agg #[.int .i64 c.kk, .slice Av c.vars.length cv, .slice Aa c.args.length ca, .int .i64 c.bound, .slice Ar c.rows.length cr, .slice Ad ds.length cd, .slice (some ⟨b5, 0, none⟩) c.vars.length c.vars.length, .slice (some ⟨b9, 0, none⟩) c.vars.length c.vars.length]) ?_ ⟨⟨Ext.refl W, b5, b9, f5, f9, rfl⟩, fun h => absurd h (by decide)⟩
      go_simp
    · intro V τ W hC hf ht h0
      obtain ⟨gx, gs, -, -, f10⟩ := (show ∃ gx gs, _ ∧ _ ∧ V 10 = .agg _ from hf 10 (by simp [RS.at_, RS.en]))
      have s18 := (ht 10 (by simp [RS.at_, RS.en]) 18 rfl).trans f10
      refine Does.val (w' := W.alloc (.cells #[.int .i64 c.kk, .slice Av c.vars.length cv, .slice Aa c.args.length ca, .int .i64 c.bound, .slice Ar c.rows.length cr, .slice Ad ds.length cd, .slice (some ⟨gx, 0, none⟩) c.vars.length c.vars.length, .slice (some ⟨gs, 0, none⟩) c.vars.length c.vars.length] 125)) (v := .pointer (some ⟨W.heap.size, 0, none⟩)) ?_ ⟨⟨(Ext.refl W).alloc _, W.heap.size, _, f10, rfl, rfl, hC.size, World.rowIs_alloc _ _ _ _ (fun i hi => getD_some hi)⟩, fun h => absurd h (by decide)⟩
      clear h0 ht hf hw0
      go_simp
  case ends =>
    intro V W hC hf hp
    have f0 : V 0 = .agg #[.int .i64 c.kk, .slice Av c.vars.length cv, .slice Aa c.args.length ca, .int .i64 c.bound, .slice Ar c.rows.length cr] := hf 0 (by omega)
    have f1 : V 1 = .slice Ad ds.length cd := hf 1 (by omega)
    have f2 : V 2 = .pointer (some ⟨w.heap.size, 1, none⟩) := hf 2 (by omega)
    have f3 : V 3 = .slice Av c.vars.length cv := hf 3 (by omega)
    have f4 : V 4 = .int .i64 c.vars.length := hf 4 (by omega)
    obtain ⟨gx, f5, hgx, hrx⟩ := (show ∃ b, V 5 = _ ∧ _ ∧ _ from hf 5 (by omega))
    have f6 : V 6 = .pointer (some ⟨w.heap.size, 1, none⟩) := hf 6 (by omega)
    have f7 : V 7 = .slice Av c.vars.length cv := hf 7 (by omega)
    have f8 : V 8 = .int .i64 c.vars.length := hf 8 (by omega)
    obtain ⟨gs, f9, hgs, hrs⟩ := (show ∃ b, V 9 = _ ∧ _ ∧ _ from hf 9 (by omega))
    obtain ⟨gx', gs', f5', f9', f10⟩ := (show ∃ gx gs, V 5 = _ ∧ V 9 = _ ∧ V 10 = .agg _ from hf 10 (by omega))
    obtain rfl : gx' = gx := by rw [f5] at f5'; injection f5' with e; injection e with e; injection e with e; exact e.symm
    obtain rfl : gs' = gs := by rw [f9] at f9'; injection f9' with e; injection e with e; injection e with e; exact e.symm
    obtain ⟨bs, cs, f10', -, f11, hbs, hrb⟩ := (show ∃ b cs, V 10 = .agg cs ∧ _ ∧ V 11 = _ ∧ _ ∧ _ from hf 11 (by omega))
    rw [f10] at f10'
    injection f10' with f10'
    subst f10'
    have hne : gx' ≠ gs' := hp 5 (by simp) 9 (by simp) (by decide) gx' _ _ gs' _ _ f5 f9
    clear hf hp
    simp only [List.take_succ_cons, List.take_zero, putAll, Act.put, List.setIfInBounds_toArray, List.set_cons_succ, List.set_cons_zero, Nat.reduceAdd, f0, f1, f2, f3, f4, f5, f6, f7, f8, f9, f10, f11]
    simp only [nths, nth1]
    have HC := hide hC
    have HRX := hide hrx
    have HRB := hide hrb
    have HRS := hide hrs
    have hsz := hC.size
    have hgxl := hrx.lt
    have hgsl := hrs.lt
    clear hC hrx hrs hrb f0 f1 f2 f3 f4 f5 f6 f7 f8 f9 f10 f11 f5' f9' k0 k2 k3 k4
    have hst : WkSt c (.slice Av c.vars.length cv) (.slice Aa c.args.length ca) (.slice Ar c.rows.length cr) (.slice Ad ds.length cd) gx' gs' bs [] (zer c.vars.length) W :=
      ⟨HRB.out.cell (i := 0) (by omega), HRB.out.cell (i := 1) (by omega), HRB.out.cell (i := 2) (by omega), HRB.out.cell (i := 3) (by omega), HRB.out.cell (i := 4) (by omega), HRB.out.cell (i := 5) (by omega), HRB.out.cell (i := 6) (by omega), HRB.out.cell (i := 7) (by omega),
       ⟨_, HRX.out, fun j hj => absurd hj (by simp)⟩, HRS.out.congr (fun j _ => by rw [zer_at]), fun i hi => absurd hi (by simp), DomL.zer _, zer_len _, Nat.zero_le _, hne,
       fun e => by have h := HRX.out; rw [e] at h; have := row_ty h HRB.out; revert this; decide,
       fun e => by have h := HRS.out; rw [e] at h; have := row_ty h HRB.out; revert this; decide, HRB.out.lt⟩
    have he := walk_any c ds _ _ _ _ gx' gs' bs w0 HCV.out (hV0.out.ext HX0.out) (hA0.out.ext HX0.out) (hR0.out.ext HX0.out) (hD0.out.ext HX0.out) HDM.out hgx hgs (wordL c.vars ds) [] [] (zer c.vars.length) W rfl rfl HC.out hst
    have hmap : (tups (wordL c.vars ds)).map (fun t => [] ++ t) = tups (wordL c.vars ds) := by simp
    rw [hmap] at he
    clear hst hmap hw0
    go_wp2_with fail
    refine he.mono ?_
    clear he
    rintro e W4 ⟨rfl, hS4, hK4⟩
    have HS4 := hide hS4
    have hE4 : Ext w0 W4 := Below.trans HC.out (hK4.below hsz (fun k hk => by omega))
    have HE4 := hide hE4
    have g1 := (hE4.cells _ _ ks).trans K1.out
    have ks4 := Nat.lt_of_lt_of_le ks hE4.size
    clear hS4 hK4 hE4 k1
    go_wp2_with fail
    refine (copyInts_any _ ds _ (hD0.out.ext (HX0.out.trans HE4.out)) hdp).mono ?_
    rintro e W5 ⟨Ao, co, bo, mo, fo, rfl, hco, hdo, hbo, hoo, hx5⟩
    obtain ⟨rfl, hro, hmo, hfo⟩ := hoo hdp
    have HS5 := hide (HS4.out.ext hx5)
    have HX5 := hide ((HX0.out.trans HE4.out).trans hx5)
    have HXO := hide (HX0.out.trans HE4.out)
    have HRO := hide hro
    have HFO := hide hfo
    have hbol := hro.lt
    have hbs4 := HS4.out.lt
    have g1 := (hx5.cells _ _ ks4).trans g1
    have ks5 := Nat.lt_of_lt_of_le ks4 hx5.size
    have hgs4 := HS4.out.rs.lt
    have hbsn : bs ≠ bo := by omega
    have hgsn : gs' ≠ bo := by omega
    have hwn : w.heap.size ≠ bo := by omega
    have hbow : w.heap.size ≤ bo := Nat.le_trans (HX0.out.trans HE4.out).size hbo
    obtain ⟨L, hL⟩ : ∃ L, L = leftT (satB c) (zer c.vars.length) (tups (wordL c.vars ds)) := ⟨_, rfl⟩
    have HL := hide hL
    rw [← hL] at HS4 HS5
    have c7 := HS5.out.c7
    clear hx5 hro hfo hoo hL
    go_wp2
    go_loopw [7] (fun i wr => ∃ (k : Nat) (f : Nat → Value), i = .int .i64 k ∧ k ≤ c.vars.length ∧ wr.rowIs bo 3 mo f ∧ (∀ j, j < ds.length → f j = .int .i64 (at0 (putV ds c.vars L k) j)) ∧ Keep (fun j => j ≠ bo) W5 wr) (fun i _ => c.vars.length - (intOf i).toNat)
    case atStart => exact ⟨0, fo, rfl, Nat.zero_le _, HRO.out, HFO.out, Keep.refl _ _⟩
    case round =>
      obtain ⟨k, f, rfl, hk, hrow, hf, hkp⟩ := hrel
      have HROW := hide hrow
      have HF := hide hf
      have HKP := hide hkp
      have g1 := (hkp.cell (p := ⟨w.heap.size, 1, none⟩) ks5 hwn).trans g1
      have ksr := Nat.lt_of_lt_of_le ks5 hkp.size
      have c7 := (hkp.cell (p := ⟨bs, 7, none⟩) HS5.out.lt hbsn).trans c7
      have hbsr := Nat.lt_of_lt_of_le HS5.out.lt hkp.size
      by_cases hlt : k < c.vars.length
      · have hkI : (k : Int) < c.vars.length := by omega
        have hrs := hkp.row (g := gs') hgsn HS5.out.rs
        have fs := hrs.cell hlt
        have hgsr := hrs.lt
        obtain ⟨bv, ov, rfl, hbv, f1⟩ := hV0.out.at_ hlt
        obtain ⟨hu0, hul⟩ := HOK.out.rg k hlt
        obtain ⟨u, hu⟩ : ∃ u : Nat, at0 c.vars k = u := ⟨(at0 c.vars k).toNat, by omega⟩
        rw [hu] at f1 hu0 hul
        have hul : u < ds.length := hul
        have hulI : (u : Int) < ds.length := by omega
        have hbv5 := Nat.lt_of_lt_of_le hbv HX5.out.size
        have f1 := (hkp.cell (p := ⟨bv, ov + k, none⟩) hbv5 (by show bv ≠ bo; omega)).trans ((HX5.out.cells _ _ hbv).trans f1)
        have hbvr := Nat.lt_of_lt_of_le hbv5 hkp.size
        have fo0 := hrow.cell (i := u) (by omega)
        have foz := hrow.frozen u
        have hbor := hrow.lt
        have HP := hide (show ∀ j, j < ds.length → (if j = u then Value.int .i64 (at0 L k) else f j) = .int .i64 (at0 (putV ds c.vars L (k + 1)) j) from fun j hj => by
          rw [putV, hu, Int.toNat_natCast, at0_set _ _ _ _ (by rw [putV_len]; exact hul)]
          by_cases e : j = u
          · subst e; rw [if_pos rfl, if_pos rfl]
          · rw [if_neg e, if_neg (fun h => e h.symm)]; exact hf j hj)
        clear hrow hf hkp hrs hu
        go_wp2
        refine wp_region_ext_tail 14 (by kernel_rfl) (by kernel_rfl) ?_
        simp only [List.take_succ_cons, List.take_zero, List.drop_succ_cons, List.drop_zero]
        iterate 14 (apply quiet_val; (focus rfl); (focus (intro w' hw'; have hk' := hw'.cells; go_simp; all_goals exact rfl)); simp only [Act.put, List.setIfInBounds_toArray, List.set_cons_succ, List.set_cons_zero])
        refine wpQuiet_nil ?_
        intro w7 hx7
        have HX7 := hide hx7
        have foz := (hx7.frz _ _ hbor).trans foz
        have fo0 := (hx7.cells _ _ hbor).trans fo0
        have hbor := Nat.lt_of_lt_of_le hbor hx7.size
        clear hx7
        go_wp2
        go_roundw
        case rel => exact ⟨k + 1, _, by go_num, by omega, (HX7.out.row HROW.out).set u _, HP.out, (HKP.out.trans (HX7.out.keep _)).set (fun _ hh => hh rfl) _⟩
        case measure => simp [intOf]; omega
      · obtain rfl : k = c.vars.length := by omega
        have hkI : ¬ ((c.vars.length : Int) < c.vars.length) := by omega
        have HE := hide (show OwnRes (filtL c ds) w (.returned (.slice (some ⟨bo, 0, none⟩) ds.length co)) wr by
          have hfl : filtL c ds = putV ds c.vars L c.vars.length := by rw [HL.out]; rfl
          have hlen : (filtL c ds).length = ds.length := filtP_len _ _ _
          refine ⟨some ⟨bo, 0, none⟩, co, bo, mo, f, by rw [hlen], by rw [hlen]; exact hco, by rw [hlen]; exact hdo, hbow, fun _ => ⟨rfl, HROW.out, by rw [hlen]; exact hmo, fun i hi => ?_⟩, ?_⟩
          · rw [hfl]; exact HF.out i (by rw [hlen] at hi; exact hi)
          · exact Below.trans HX5.out (HKP.out.below HX5.out.size (fun j hj => by omega)))
        go_wp2
        go_ret
        exact HE.out
end Go.Proofs.Ytpnlambndbfenaa
