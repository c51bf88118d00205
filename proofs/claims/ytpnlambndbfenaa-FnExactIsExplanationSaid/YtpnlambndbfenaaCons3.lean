/- Constraints and models: how they read; slices.ContainsFunc over constraints; whether they are valid. -/
import Derived.Test.YtpnlambndbfenaaCons2
namespace Go.Proofs.Ytpnlambndbfenaa
open Go.RowKit

/-- A constraint. -/
structure Con where
  kk : Int
  vars : List Int
  args : List Int
  bound : Int
  rows : List (List Int)
def con0 (cs : List Con) (i : Nat) : Con := cs.getD i ⟨0, [], [], 0, []⟩
/-- v is a slice whose cells read as the constraints cs. -/
def SCons (w : World) (v : Value) (cs : List Con) : Prop :=
  ∃ A c, v = .slice A cs.length c ∧ cs.length ≤ c ∧ cs.length * 88 ≤ 140737488355328 ∧
    (0 < cs.length → ∃ b off, A = some ⟨b, off, none⟩ ∧ b < w.heap.size ∧ ∀ i, i < cs.length → ∃ vv va vr,
      w.cell? ⟨b, off + i * 5, none⟩ = some (.int .i64 (con0 cs i).kk) ∧ w.cell? ⟨b, off + i * 5 + 1, none⟩ = some vv ∧ w.cell? ⟨b, off + i * 5 + 2, none⟩ = some va ∧
      w.cell? ⟨b, off + i * 5 + 3, none⟩ = some (.int .i64 (con0 cs i).bound) ∧ w.cell? ⟨b, off + i * 5 + 4, none⟩ = some vr ∧
      SInts w vv (con0 cs i).vars ∧ SInts w va (con0 cs i).args ∧ SRows w vr (con0 cs i).rows)
theorem SCons.ext {w w' : World} {v : Value} {cs : List Con} (h : SCons w v cs) (hx : Ext w w') : SCons w' v cs := by
  obtain ⟨A, c, h1, h2, h3, h5⟩ := h
  refine ⟨A, c, h1, h2, h3, fun hp => ?_⟩
  obtain ⟨b, off, e, hb, hc⟩ := h5 hp
  refine ⟨b, off, e, Nat.lt_of_lt_of_le hb hx.size, fun i hi => ?_⟩
  obtain ⟨vv, va, vr, g1, g2, g3, g4, g5, s1, s2, s3⟩ := hc i hi
  exact ⟨vv, va, vr, (hx.cell (p := ⟨b, _, none⟩) hb).trans g1, (hx.cell (p := ⟨b, _, none⟩) hb).trans g2, (hx.cell (p := ⟨b, _, none⟩) hb).trans g3, (hx.cell (p := ⟨b, _, none⟩) hb).trans g4, (hx.cell (p := ⟨b, _, none⟩) hb).trans g5, s1.ext hx, s2.ext hx, s3.ext hx⟩
theorem SCons.form {w : World} {v : Value} {cs : List Con} (h : SCons w v cs) : ∃ A c, v = .slice A cs.length c ∧ cs.length ≤ c ∧ cs.length ≤ 5864062014805 := by
  obtain ⟨A, c, h1, h2, h3, -⟩ := h
  exact ⟨A, c, h1, h2, by omega⟩
theorem SCons.at_ {w : World} {A : Option Addr} {n c : Nat} {cs : List Con} (h : SCons w (.slice A n c) cs) {k : Nat} (hk : k < cs.length) :
    ∃ b off, A = some ⟨b, off, none⟩ ∧ b < w.heap.size ∧ ∃ vv va vr,
      w.cell? ⟨b, off + k * 5, none⟩ = some (.int .i64 (con0 cs k).kk) ∧ w.cell? ⟨b, off + k * 5 + 1, none⟩ = some vv ∧ w.cell? ⟨b, off + k * 5 + 2, none⟩ = some va ∧
      w.cell? ⟨b, off + k * 5 + 3, none⟩ = some (.int .i64 (con0 cs k).bound) ∧ w.cell? ⟨b, off + k * 5 + 4, none⟩ = some vr ∧
      SInts w vv (con0 cs k).vars ∧ SInts w va (con0 cs k).args ∧ SRows w vr (con0 cs k).rows := by
  obtain ⟨A', c', h1, -, -, h5⟩ := h
  injection h1 with e1 e2 e3
  subst e1
  obtain ⟨b, off, e, hb, hc⟩ := h5 (by omega)
  exact ⟨b, off, e, hb, hc k hk⟩
/-- f answers as p at the constraints. -/
def OnCons (f : Nat) (caps : Array Value) (cs : List Con) (p : Nat → Bool) (w : World) : Prop :=
  ∀ i, i < cs.length → ∀ vv va vr W, Ext w W → SInts W vv (con0 cs i).vars → SInts W va (con0 cs i).args → SRows W vr (con0 cs i).rows →
    Calls Try.prog f (#[.agg #[.int .i64 (con0 cs i).kk, vv, va, .int .i64 (con0 cs i).bound, vr]] ++ caps) W (Ret (.bool (p i)) W)
set_option maxHeartbeats 1000000 in
theorem IndexFuncC_any (v : Value) (cs : List Con) (g : Nat) (caps : Array Value) (p : Nat → Bool) (w : World) (hS : SCons w v cs)
    (hg : ∀ args W, (callFunc g args).run Try.prog W = .ok (.enter g args) W) (hp : Hid (OnCons g caps cs p w)) :
    Calls Try.prog 131 #[v, .func (.func g) #[] caps] w (Ret (.int .i64 (fidx p cs.length)) w) := by
  have hS0 := hide hS
  obtain ⟨A, cp, rfl, hl, hlen⟩ := hS.form
  clear hS
  go_enter Try.func131, Try.ntmps131
  go_wp2
  go_loopw [8] (fun i wr => ∃ k : Nat, k ≤ cs.length ∧ i = .int .i64 k ∧ (∀ j, j < k → p j = false) ∧ Ext w wr) (fun i _ => cs.length - (intOf i).toNat)
  case atStart => exact ⟨0, Nat.zero_le _, rfl, fun j hj => absurd hj (by omega), Ext.refl w⟩
  case round =>
    obtain ⟨k, hk, rfl, hv, hx⟩ := hrel
    have Hv := hide hv; clear hv
    by_cases hlt : k < cs.length
    · obtain ⟨b, off, rfl, hbl, vv, va, vr, f1, f2, f3, f4, f5, s1, s2, s3⟩ := (hS0.out.ext hx).at_ hlt
      obtain ⟨Av, cv, rfl, -, -⟩ := s1.form
      obtain ⟨Aa, ca, rfl, -, -⟩ := s2.form
      obtain ⟨Ar, cr, rfl, -, -⟩ := s3.form
      have S1 := hide s1
      have S2 := hide s2
      have S3 := hide s3
      clear s1 s2 s3
      by_cases hpk : p k = true
      · go_wp2_with fail
        refine (hp.out k hlt _ _ _ _ hx S1.out S2.out S3.out).mono ?_
        rintro e w2 ⟨rfl, hx2⟩
        go_wp2
        go_ret
        exact Ret.mk (ret_i (fidx_some hlt hpk Hv.out).symm) (hx.trans hx2)
      · have hpk' : p k = false := Bool.eq_false_iff.2 hpk
        clear hpk
        go_wp2_with fail
        refine (hp.out k hlt _ _ _ _ hx S1.out S2.out S3.out).mono ?_
        rintro e w2 ⟨rfl, hx2⟩
        go_wp2
        go_roundw
        case rel => exact ⟨k + 1, by omega, by go_num, upto_succ Hv.out hpk', hx.trans hx2⟩
        case measure => simp [intOf]; omega
    · have hkl : k = cs.length := by omega
      subst hkl
      go_wp2
      go_ret
      exact Ret.mk (ret_i (fidx_none Hv.out).symm) hx
theorem ContainsFuncC_any (v : Value) (cs : List Con) (g : Nat) (caps : Array Value) (p : Nat → Bool) (w : World) (hS : SCons w v cs)
    (hg : ∀ args W, (callFunc g args).run Try.prog W = .ok (.enter g args) W) (hp : Hid (OnCons g caps cs p w)) :
    Calls Try.prog 101 #[v, .func (.func g) #[] caps] w (Ret (.bool (anyB p cs.length)) w) := by
  go_enter Try.func101, Try.ntmps101
  go_wp2_with fail
  refine (IndexFuncC_any v cs g caps p w hS hg hp).mono ?_
  rintro e w2 ⟨rfl, hx2⟩
  go_wp2
  go_ret
  exact Ret.mk (ret_b (fidx_any p _)) hx2
theorem domainsOk_any (v : Value) (xs : List Int) (w : World) (hS : SInts w v xs) :
    Calls Try.prog 80 #[v] w (Ret (.bool (inR xs.length 1 4 && allR xs 0 63)) w) := by
  have hS0 := hide hS
  obtain ⟨A, c, rfl, -, hln⟩ := hS.form
  clear hS
  cases hq : inR xs.length 1 4 with
  | true =>
    go_enter Try.func80, Try.ntmps80
    go_wp2_with (first | (go_at_call 91; refine (within_any _ _ _ _).mono ?_; rintro e w' ⟨rfl, rfl⟩; rw [hq]) | (go_at_call 92; refine (allIn_any _ xs _ _ _ hS0.out).mono ?_; rintro e w' ⟨rfl, hx⟩))
    go_ret
    exact Ret.mk rfl hx
  | false =>
    go_enter Try.func80, Try.ntmps80
    go_wp2_with (go_at_call 91; refine (within_any _ _ _ _).mono ?_; rintro e w' ⟨rfl, rfl⟩; rw [hq])
    go_ret
    exact Ret.mk rfl (Ext.refl w)
/-- fits answers right at this constraint. -/
def FitsOK (c : Con) : Prop := ∀ vv va vr W, SInts W vv c.vars → SInts W va c.args → SRows W vr c.rows → c.vars.length ≤ 1000 →
  Calls Try.prog 94 #[.agg #[.int .i64 c.kk, vv, va, .int .i64 c.bound, vr]] W (Ret (.bool (fitB c.kk c.vars c.args c.bound c.rows)) W)
/-- A constraint is valid for n variables. -/
def vCon (c : Con) (n : Int) : Bool := inR n 1 4 && (inR c.vars.length 1 n && (allR c.vars 0 (n - 1) && (dst c.vars && fitB c.kk c.vars c.args c.bound c.rows)))
set_option maxHeartbeats 2000000 in
theorem ValidConstraintI_any (c : Con) (vv va vr : Value) (n : Int) (w : World) (hF : FitsOK c) (hV : SInts w vv c.vars) (hA : SInts w va c.args) (hR : SRows w vr c.rows) :
    Calls Try.prog 46 #[.agg #[.int .i64 c.kk, vv, va, .int .i64 c.bound, vr], .int .i64 n] w (Ret (.bool (vCon c n)) w) := by
  have hV0 := hide hV
  have hA0 := hide hA
  have hR0 := hide hR
  have HFI := hide hF
  obtain ⟨Av, cv, rfl, -, hlv⟩ := hV.form
  obtain ⟨Aa, ca, rfl, -, hla⟩ := hA.form
  obtain ⟨Ar, cr, rfl, -, hlr⟩ := hR.form
  clear hV hA hR hF
  have hx0 := (Ext.refl w).alloc (.cells #[.int .i64 c.kk, .slice Av c.vars.length cv, .slice Aa c.args.length ca, .int .i64 c.bound, .slice Ar c.rows.length cr] 32)
  have HX0 := hide hx0
  clear hx0
  cases hq : inR n 1 4 with
  | false =>
    have HV := hide (show vCon c n = false by rw [vCon, hq]; rfl)
    go_enter Try.func46, Try.ntmps46
    go_wp2_with (go_at_call 91; refine (within_any _ _ _ _).mono ?_; rintro e w' ⟨rfl, rfl⟩; rw [hq])
    go_ret
    exact Ret.mk (ret_b HV.out.symm) HX0.out
  | true =>
    have hnb : 1 ≤ n ∧ n ≤ 4 := by simpa [inR] using hq
    cases hq2 : inR c.vars.length 1 n with
    | false =>
      have HV := hide (show vCon c n = false by rw [vCon, hq, hq2]; rfl)
      go_enter Try.func46, Try.ntmps46
      go_wp2_with (go_at_call 91; refine (within_any _ _ _ _).mono ?_; rintro e w' ⟨rfl, rfl⟩; first | rw [hq] | rw [hq2])
      go_ret
      exact Ret.mk (ret_b HV.out.symm) HX0.out
    | true =>
      have hvb : c.vars.length ≤ 1000 := by have : 1 ≤ (c.vars.length : Int) ∧ (c.vars.length : Int) ≤ n := by simpa [inR] using hq2
                                            omega
      cases hq3 : allR c.vars 0 (n - 1) with
      | false =>
        have HV := hide (show vCon c n = false by rw [vCon, hq, hq2, hq3]; rfl)
        go_enter Try.func46, Try.ntmps46
        go_wp2_with (first | (go_at_call 91; refine (within_any _ _ _ _).mono ?_; rintro e w' ⟨rfl, rfl⟩; first | rw [hq] | rw [hq2]) | (go_at_call 92; refine (allIn_any _ c.vars _ _ _ (hV0.out.ext HX0.out)).mono ?_; rintro e w' ⟨rfl, hx⟩; rw [hq3]))
        go_ret
        exact Ret.mk (ret_b HV.out.symm) (HX0.out.trans hx)
      | true =>
        cases hq4 : dst c.vars with
        | false =>
          have HV := hide (show vCon c n = false by rw [vCon, hq, hq2, hq3, hq4]; rfl)
          go_enter Try.func46, Try.ntmps46
          go_wp2_with (first | (go_at_call 91; refine (within_any _ _ _ _).mono ?_; rintro e w' ⟨rfl, rfl⟩; first | rw [hq] | rw [hq2]))
          refine (allIn_any _ c.vars _ _ _ (hV0.out.ext HX0.out)).mono ?_
          rintro e w2 ⟨rfl, hx⟩
          rw [hq3]
          have b1 := (hx.cells w.heap.size 1 (by simp)).trans (show (w.alloc (.cells #[.int .i64 c.kk, .slice Av c.vars.length cv, .slice Aa c.args.length ca, .int .i64 c.bound, .slice Ar c.rows.length cr] 32)).cell? ⟨w.heap.size, 1, none⟩ = some (.slice Av c.vars.length cv) by go_simp)
          have HX := hide (HX0.out.trans hx)
          clear hx
          go_wp2_with (go_at_call 93; refine (distinct_any _ c.vars _ (hV0.out.ext HX.out)).mono ?_; rintro e w' ⟨rfl, rfl⟩; rw [hq4])
          go_ret
          exact Ret.mk (ret_b HV.out.symm) HX.out
        | true =>
          have HV := hide (show vCon c n = fitB c.kk c.vars c.args c.bound c.rows by rw [vCon, hq, hq2, hq3, hq4]; rfl)
          go_enter Try.func46, Try.ntmps46
          go_wp2_with (first | (go_at_call 91; refine (within_any _ _ _ _).mono ?_; rintro e w' ⟨rfl, rfl⟩; first | rw [hq] | rw [hq2]))
          refine (allIn_any _ c.vars _ _ _ (hV0.out.ext HX0.out)).mono ?_
          rintro e w2 ⟨rfl, hx⟩
          rw [hq3]
          have b0 := (hx.cells w.heap.size 0 (by simp)).trans (show (w.alloc (.cells #[.int .i64 c.kk, .slice Av c.vars.length cv, .slice Aa c.args.length ca, .int .i64 c.bound, .slice Ar c.rows.length cr] 32)).cell? ⟨w.heap.size, 0, none⟩ = some (.int .i64 c.kk) by go_simp)
          have b1 := (hx.cells w.heap.size 1 (by simp)).trans (show (w.alloc (.cells #[.int .i64 c.kk, .slice Av c.vars.length cv, .slice Aa c.args.length ca, .int .i64 c.bound, .slice Ar c.rows.length cr] 32)).cell? ⟨w.heap.size, 1, none⟩ = some (.slice Av c.vars.length cv) by go_simp)
          have b2 := (hx.cells w.heap.size 2 (by simp)).trans (show (w.alloc (.cells #[.int .i64 c.kk, .slice Av c.vars.length cv, .slice Aa c.args.length ca, .int .i64 c.bound, .slice Ar c.rows.length cr] 32)).cell? ⟨w.heap.size, 2, none⟩ = some (.slice Aa c.args.length ca) by go_simp)
          have b3 := (hx.cells w.heap.size 3 (by simp)).trans (show (w.alloc (.cells #[.int .i64 c.kk, .slice Av c.vars.length cv, .slice Aa c.args.length ca, .int .i64 c.bound, .slice Ar c.rows.length cr] 32)).cell? ⟨w.heap.size, 3, none⟩ = some (.int .i64 c.bound) by go_simp)
          have b4 := (hx.cells w.heap.size 4 (by simp)).trans (show (w.alloc (.cells #[.int .i64 c.kk, .slice Av c.vars.length cv, .slice Aa c.args.length ca, .int .i64 c.bound, .slice Ar c.rows.length cr] 32)).cell? ⟨w.heap.size, 4, none⟩ = some (.slice Ar c.rows.length cr) by go_simp)
          have HX := hide (HX0.out.trans hx)
          clear hx
          go_wp2_with (go_at_call 93; refine (distinct_any _ c.vars _ (hV0.out.ext HX.out)).mono ?_; rintro e w' ⟨rfl, rfl⟩; rw [hq4])
          refine (HFI.out _ _ _ _ (hV0.out.ext HX.out) (hA0.out.ext HX.out) (hR0.out.ext HX.out) hvb).mono ?_
          rintro e w3 ⟨rfl, hx3⟩
          rw [← HV.out]
          have HX3 := hide (HX.out.trans hx3)
          clear hx3
          go_wp2
          go_ret
          exact Ret.mk rfl HX3.out
/-- A model is valid. -/
def vMod (ds : List Int) (cs : List Con) : Bool := (inR ds.length 1 4 && allR ds 0 63) && (decide (cs.length ≤ 6) && !anyB (fun i => !vCon (con0 cs i) ds.length) cs.length)
set_option maxHeartbeats 1000000 in
theorem ValidModel1_any (c : Con) (vv va vr vd : Value) (ds : List Int) (bm : Nat) (w : World) (hF : FitsOK c) (hV : SInts w vv c.vars) (hA : SInts w va c.args) (hR : SRows w vr c.rows)
    (hm : w.cell? ⟨bm, 0, none⟩ = some vd) (hbm : bm < w.heap.size) (hD : SInts w vd ds) :
    Calls Try.prog 102 #[.agg #[.int .i64 c.kk, vv, va, .int .i64 c.bound, vr], .pointer (some ⟨bm, 0, none⟩)] w (Ret (.bool (!vCon c ds.length)) w) := by
  have hV0 := hide hV
  have hA0 := hide hA
  have hR0 := hide hR
  obtain ⟨Av, cv, rfl, -, hlv⟩ := hV.form
  obtain ⟨Aa, ca, rfl, -, hla⟩ := hA.form
  obtain ⟨Ar, cr, rfl, -, hlr⟩ := hR.form
  obtain ⟨Ad, cd, rfl, -, hld⟩ := hD.form
  clear hV hA hR hD
  have hx0 := (Ext.refl w).alloc (.cells #[.int .i64 c.kk, .slice Av c.vars.length cv, .slice Aa c.args.length ca, .int .i64 c.bound, .slice Ar c.rows.length cr] 32)
  have hm' := (hx0.cells bm 0 hbm).trans hm
  have HX0 := hide hx0
  clear hx0
  go_enter Try.func102, Try.ntmps102
  go_wp2_with fail
  refine (ValidConstraintI_any c _ _ _ _ _ hF (hV0.out.ext HX0.out) (hA0.out.ext HX0.out) (hR0.out.ext HX0.out)).mono ?_
  rintro e w3 ⟨rfl, hx3⟩
  have HX3 := hide (HX0.out.trans hx3)
  clear hx3
  go_wp2
  go_ret
  exact Ret.mk rfl HX3.out
set_option maxHeartbeats 2000000 in
theorem ValidModelI_any (vd vc : Value) (ds : List Int) (cs : List Con) (w : World) (hD : SInts w vd ds) (hC : SCons w vc cs) (hF : ∀ i, i < cs.length → FitsOK (con0 cs i)) :
    Calls Try.prog 59 #[.agg #[vd, vc]] w (Ret (.bool (vMod ds cs)) w) := by
  have hD0 := hide hD
  have hC0 := hide hC
  have HFI := hide hF
  obtain ⟨Ad, cd, rfl, -, hld⟩ := hD.form
  obtain ⟨Ac, cc, rfl, -, hlc⟩ := hC.form
  clear hD hC hF
  have hx0 := (Ext.refl w).alloc (.cells #[.slice Ad ds.length cd, .slice Ac cs.length cc] 48)
  have hz0 : w.heap.size < (w.alloc (.cells #[.slice Ad ds.length cd, .slice Ac cs.length cc] 48)).heap.size := by simp
  have a0 : (w.alloc (.cells #[.slice Ad ds.length cd, .slice Ac cs.length cc] 48)).cell? ⟨w.heap.size, 0, none⟩ = some (.slice Ad ds.length cd) := by go_simp
  have a1 : (w.alloc (.cells #[.slice Ad ds.length cd, .slice Ac cs.length cc] 48)).cell? ⟨w.heap.size, 1, none⟩ = some (.slice Ac cs.length cc) := by go_simp
  have HX0 := hide hx0
  clear hx0
  go_enter Try.func59, Try.ntmps59
  go_wp2_with fail
  refine (domainsOk_any _ ds _ (hD0.out.ext HX0.out)).mono ?_
  rintro e w2 ⟨rfl, hx⟩
  have b0 := (hx.cells w.heap.size 0 hz0).trans a0
  have b1 := (hx.cells w.heap.size 1 hz0).trans a1
  have hz2 := Nat.lt_of_lt_of_le hz0 hx.size
  clear a0 a1
  have HX := hide (HX0.out.trans hx)
  clear hx
  cases hq : (inR ds.length 1 4 && allR ds 0 63) with
  | false =>
    have HV := hide (show vMod ds cs = false by rw [vMod, hq]; rfl)
    clear hq
    go_wp2_with fail
    go_ret
    exact Ret.mk (ret_b HV.out.symm) HX.out
  | true =>
    by_cases hc6 : cs.length ≤ 6
    · have HV := hide (show vMod ds cs = !anyB (fun i => !vCon (con0 cs i) ds.length) cs.length by rw [vMod, hq, decide_eq_true hc6]; rfl)
      clear hq
      go_wp2_with fail
      refine (ContainsFuncC_any _ cs 102 #[.pointer (some ⟨w.heap.size, 0, none⟩)] (fun i => !vCon (con0 cs i) ds.length) _ (hC0.out.ext HX.out) (callFunc_body Try.func102 (by decide) rfl) (hide fun i hi vv va vr W hW h1 h2 h3 => ?_)).mono ?_
      · exact ValidModel1_any (con0 cs i) vv va vr _ ds _ W (HFI.out i hi) h1 h2 h3 ((hW.cells _ _ hz2).trans b0) (Nat.lt_of_lt_of_le hz2 hW.size) ((hD0.out.ext HX.out).ext hW)
      rintro e w3 ⟨rfl, hx3⟩
      have HX3 := hide (HX.out.trans hx3)
      clear hx3
      go_wp2
      go_ret
      exact Ret.mk (ret_b HV.out.symm) HX3.out
    · have HV := hide (show vMod ds cs = false by rw [vMod, hq, decide_eq_false hc6]; rfl)
      clear hq
      go_wp2_with fail
      go_ret
      exact Ret.mk (ret_b HV.out.symm) HX.out
end Go.Proofs.Ytpnlambndbfenaa
