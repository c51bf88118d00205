/- Constraints: how they read; slices.Contains; distinct. -/
import Derived.Test.YtjpdebgejlfeaaaDoorAutZ
import Derived.Test.YtjpdebgejlfeaaaDoorUtlA
namespace Go.Proofs.YtjpdebgejlfeaaaDoor
open Go.RowKit

theorem SInts.take {w : World} {A : Option Addr} {n c : Nat} {xs : List Int} (h : SInts w (.slice A n c) xs) (k : Nat) (hk : k ≤ n) : SInts w (.slice A k c) (xs.take k) := by
  obtain ⟨A', c', e1, h2, h3, h4, h5⟩ := h
  injection e1 with e1 e2 e3
  subst e1; subst e3
  have hl : (xs.take k).length = k := by rw [List.length_take]; omega
  have hat : ∀ i, i < k → at0 (xs.take k) i = at0 xs i := fun i hi => by
    unfold at0
    rw [getD_lt _ _ (by rw [hl]; exact hi), getD_lt _ _ (by omega), List.getElem_take]
  refine ⟨A, c, by rw [hl], by rw [hl]; omega, by rw [hl]; omega, fun i hi => ?_, fun hp => ?_⟩
  · rw [hl] at hi; rw [hat i hi]; exact h4 i (by omega)
  · rw [hl] at hp ⊢
    obtain ⟨b, off, e, hb, hc⟩ := h5 (by omega)
    exact ⟨b, off, e, hb, fun i hi => by rw [hat i hi]; exact hc i (by omega)⟩
/-- x is one of the numbers. -/
def hasI (xs : List Int) (x : Int) : Bool := anyB (fun i => x == at0 xs i) xs.length
set_option maxHeartbeats 1000000 in
theorem Index_any (v : Value) (xs : List Int) (x : Int) (w : World) (hS : SInts w v xs) : Calls Tryd.prog 65 #[v, .int .i64 x] w fun e w' => e = .returned (.int .i64 (fidx (fun i => x == at0 xs i) xs.length)) ∧ w = w' := by
  have hS0 := hide hS
  obtain ⟨A, c, rfl, -, hln⟩ := hS.form
  clear hS
  go_enter Tryd.func65, Tryd.ntmps65
  go_wp2
  go_loop [8] (fun i => ∃ k : Nat, k ≤ xs.length ∧ i = .int .i64 k ∧ ∀ j, j < k → (x == at0 xs j) = false) (fun i => xs.length - (intOf i).toNat)
  case atStart => exact ⟨0, Nat.zero_le _, rfl, fun j hj => by omega⟩
  case round =>
    obtain ⟨k, hk, rfl, hno⟩ := hrel
    have HNO := hide hno
    clear hno
    by_cases hlt : k < xs.length
    · obtain ⟨b, off, rfl, hbl, f1⟩ := hS0.out.at_ hlt
      have hkI : (k : Int) < xs.length := by omega
      by_cases hx : (x == at0 xs k) = true
      · have HF := hide (fidx_some hlt hx HNO.out)
        go_wp2
        go_ret
        exact ⟨ret_i HF.out.symm, rfl⟩
      · have hx' : (x == at0 xs k) = false := Bool.eq_false_iff.2 hx
        have HX := hide hx'
        clear hx
        go_wp2
        go_round
        case rel => exact ⟨k + 1, by omega, by go_num, fun j hj => by
          by_cases e : j = k
          · subst e; exact HX.out
          · exact HNO.out j (by omega)⟩
        case measure => simp [intOf]; omega
    · obtain rfl : k = xs.length := by omega
      have HF := hide (fidx_none HNO.out)
      go_wp2
      go_ret
      exact ⟨ret_i HF.out.symm, rfl⟩
set_option maxHeartbeats 1000000 in
theorem Contains_any (v : Value) (xs : List Int) (x : Int) (w : World) (hS : SInts w v xs) : Calls Tryd.prog 43 #[v, .int .i64 x] w fun e w' => e = .returned (.bool (hasI xs x)) ∧ w = w' := by
  have hS0 := hide hS
  obtain ⟨A, c, rfl, -, hln⟩ := hS.form
  clear hS
  have HF := hide (fidx_any (fun i => x == at0 xs i) xs.length)
  go_enter Tryd.func43, Tryd.ntmps43
  go_wp2_with (go_at_call 65; refine (Index_any _ xs x _ hS0.out).mono ?_; rintro e w' ⟨rfl, rfl⟩)
  go_ret
  exact ⟨ret_b (by rw [hasI, ← HF.out]), rfl⟩
/-- No number is there twice. -/
def dst (xs : List Int) : Bool := !anyB (fun i => hasI (xs.take i) (at0 xs i)) xs.length
set_option maxHeartbeats 1000000 in
theorem distinct_any (v : Value) (xs : List Int) (w : World) (hS : SInts w v xs) : Calls Tryd.prog 73 #[v] w fun e w' => e = .returned (.bool (dst xs)) ∧ w = w' := by
  have hS0 := hide hS
  obtain ⟨A, c, rfl, hlc, hln⟩ := hS.form
  clear hS
  go_enter Tryd.func73, Tryd.ntmps73
  go_wp2
  go_loop [7] (fun i => ∃ k : Nat, k ≤ xs.length ∧ i = .int .i64 k ∧ ∀ j, j < k → hasI (xs.take j) (at0 xs j) = false) (fun i => xs.length - (intOf i).toNat)
  case atStart => exact ⟨0, Nat.zero_le _, rfl, fun j hj => by omega⟩
  case round =>
    obtain ⟨k, hk, rfl, hno⟩ := hrel
    have HNO := hide hno
    clear hno
    by_cases hlt : k < xs.length
    · obtain ⟨b, off, rfl, hbl, f1⟩ := hS0.out.at_ hlt
      have hkI : (k : Int) < xs.length := by omega
      have hkc : (k : Int) ≤ c := by omega
      have HT := hide (hS0.out.take k (by omega))
      by_cases hx : hasI (xs.take k) (at0 xs k) = true
      · have HD := hide (show dst xs = false by rw [dst, anyB_iff.2 ⟨k, hlt, hx⟩]; rfl)
        have HX := hide hx
        clear hx
        go_wp2_with (go_at_call 43; refine (Contains_any _ (xs.take k) _ _ HT.out).mono ?_; rintro e w' ⟨rfl, rfl⟩; rw [HX.out])
        go_ret
        exact ⟨ret_b HD.out.symm, rfl⟩
      · have HX := hide (Bool.eq_false_iff.2 hx)
        clear hx
        go_wp2_with (go_at_call 43; refine (Contains_any _ (xs.take k) _ _ HT.out).mono ?_; rintro e w' ⟨rfl, rfl⟩; rw [HX.out])
        go_round
        case rel => exact ⟨k + 1, by omega, by go_num, fun j hj => by
          by_cases e : j = k
          · subst e; exact HX.out
          · exact HNO.out j (by omega)⟩
        case measure => simp [intOf]; omega
    · obtain rfl : k = xs.length := by omega
      have HD := hide (show dst xs = true by rw [dst, anyB_false.2 HNO.out]; rfl)
      go_wp2
      go_ret
      exact ⟨ret_b HD.out.symm, rfl⟩
end Go.Proofs.YtjpdebgejlfeaaaDoor
/- Constraints of the program: whether the numbers are those of the kind. -/
namespace Go.Proofs.YtjpdebgejlfeaaaDoor
open Go.RowKit

def argsB (args : List Int) (m lo hi : Int) : Bool := ((args.length : Int) == m) && allR args lo hi
set_option maxHeartbeats 1000000 in
theorem args_any (va : Value) (args : List Int) (m lo hi : Int) (bc : Nat) (w : World) (h2 : w.cell? ⟨bc, 2, none⟩ = some va) (hS : SInts w va args) :
    Calls Tryd.prog 84 #[.int .i64 m, .int .i64 lo, .int .i64 hi, .pointer (some ⟨bc, 0, none⟩)] w (Ret (.bool (argsB args m lo hi)) w) := by
  have hS0 := hide hS
  obtain ⟨A, c, rfl, -, hln⟩ := hS.form
  clear hS
  by_cases hm : ((args.length : Int) == m) = true
  · have HM := hide (show argsB args m lo hi = allR args lo hi by rw [argsB, hm]; rfl)
    have HE := hide hm
    clear hm
    have hm2 : m = args.length := by have := HE.out; simp at this; omega
    subst hm2
    go_enter Tryd.func84, Tryd.ntmps84
    go_wp2_with fail
    refine (allIn_any _ args lo hi _ hS0.out).mono ?_
    rintro e w2 ⟨rfl, hx⟩
    rw [← HM.out]
    have HX := hide hx
    clear hx
    go_wp2
    go_ret
    exact Ret.mk rfl HX.out
  · have hm' : ((args.length : Int) == m) = false := Bool.eq_false_iff.2 hm
    have HM := hide (show argsB args m lo hi = false by rw [argsB, hm']; rfl)
    clear hm
    go_enter Tryd.func84, Tryd.ntmps84
    go_wp2
    go_ret
    exact Ret.mk (ret_b HM.out.symm) (Ext.refl _)
/-- The numbers of a constraint are those of its kind. -/
def fitB (kk : Int) (vars args : List Int) (b : Int) (rows : List (List Int)) : Bool :=
  if kk = 1 then argsB args vars.length (-9) 9 && (inR b (-999) 999 && ((rows.length : Int) == 0))
  else if kk = 2 then ((vars.length : Int) == 2) && (argsB args 1 (-9) 9 && ((b == 0) && ((rows.length : Int) == 0)))
  else if kk = 3 ∨ kk = 9 then ((args.length : Int) == 0) && ((b == 0) && ((rows.length : Int) == 0))
  else if kk = 4 then ((vars.length : Int) == 2) && (inR args.length 1 6 && (allR args 0 5 && ((b == 0) && ((rows.length : Int) == 0))))
  else if kk = 5 then ((args.length : Int) == 0) && ((b == 0) && vRows rows vars.length 0 5)
  else if kk = 6 then argsB args 1 0 5 && (inR b 0 4 && ((rows.length : Int) == 0))
  else if kk = 7 then argsB args (2 * vars.length) 0 9 && (inR b 0 9 && ((rows.length : Int) == 0))
  else if kk = 8 then vRows rows 6 (-1) (rows.length - 1) && (dst args && (allR args 0 (rows.length - 1) && (b == 0)))
  else false
set_option maxRecDepth 100000 in
set_option maxHeartbeats 4000000 in
theorem fits_7 (vv va vr : Value) (vars args : List Int) (b : Int) (rows : List (List Int)) (w : World) (hV : SInts w vv vars) (hA : SInts w va args) (hR : SRows w vr rows) (hl : vars.length ≤ 1000) :
    Calls Tryd.prog 74 #[.agg #[.int .i64 7, vv, va, .int .i64 b, vr]] w (Ret (.bool (fitB 7 vars args b rows)) w) := by
  have hV0 := hide hV
  have hA0 := hide hA
  have hR0 := hide hR
  obtain ⟨Av, cv, rfl, -, hlv⟩ := hV.form
  obtain ⟨Aa, ca, rfl, -, hla⟩ := hA.form
  obtain ⟨Ar, cr, rfl, -, hlr⟩ := hR.form
  have HF := hide (show fitB 7 vars args b rows = (argsB args (2 * vars.length) 0 9 && (inR b 0 9 && ((rows.length : Int) == 0))) from rfl)
  clear hV hA hR
  go_enter Tryd.func74, Tryd.ntmps74
  go_wp2_with fail
  have hx0 := (Ext.refl w).alloc (.cells #[.int .i64 7, .slice Av vars.length cv, .slice Aa args.length ca, .int .i64 b, .slice Ar rows.length cr] 60)
  have hz0 : w.heap.size < (w.alloc (.cells #[.int .i64 7, .slice Av vars.length cv, .slice Aa args.length ca, .int .i64 b, .slice Ar rows.length cr] 60)).heap.size := by simp
  refine wp_region_ext (by kernel_rfl) (by kernel_rfl) ?_
  iterate 9 (apply quiet_val; (focus rfl); (focus (intro w' hw'; have hk' := hw'.cells; go_simp; all_goals exact rfl)); simp only [Act.put, List.setIfInBounds_toArray, List.set_cons_succ, List.set_cons_zero])
  refine wpQuiet_nil ?_
  intro w2 hx2
  have b0 : w2.cell? ⟨w.heap.size, 0, none⟩ = some (.int .i64 7) := (hx2.cells _ _ hz0).trans (by go_simp)
  have b2 : w2.cell? ⟨w.heap.size, 2, none⟩ = some (.slice Aa args.length ca) := (hx2.cells _ _ hz0).trans (by go_simp)
  have b3 : w2.cell? ⟨w.heap.size, 3, none⟩ = some (.int .i64 b) := (hx2.cells _ _ hz0).trans (by go_simp)
  have hz2 := Nat.lt_of_lt_of_le hz0 hx2.size
  have HX2 := hide (hx0.trans hx2)
  clear hx0 hx2 hz0
  go_wp2_with fail
  refine (args_any _ args (2 * vars.length) 0 9 w.heap.size _ b2 (hA0.out.ext HX2.out)).mono ?_
  rintro e w3 ⟨rfl, hx3⟩
  have b3 := (hx3.cells _ _ hz2).trans b3
  have HX3 := hide (HX2.out.trans hx3)
  clear hx3
  cases hq : argsB args (2 * vars.length) 0 9 with
  | false =>
    have HQ := hide (show fitB 7 vars args b rows = false by rw [HF.out, hq]; rfl)
    clear hq
    go_wp2_with fail
    go_ret
    exact Ret.mk (ret_b HQ.out.symm) HX3.out
  | true =>
    have HQ := hide (show fitB 7 vars args b rows = (inR b 0 9 && ((rows.length : Int) == 0)) by rw [HF.out, hq]; rfl)
    clear hq
    go_wp2_with fail
    refine (within_any _ _ _ _).mono ?_
    rintro e w' ⟨rfl, rfl⟩
    cases hq : inR b 0 9 with
    | false =>
      have HQ2 := hide (show fitB 7 vars args b rows = false by rw [HQ.out, hq]; rfl)
      clear hq
      go_wp2_with fail
      go_ret
      exact Ret.mk (ret_b HQ2.out.symm) HX3.out
    | true =>
      have HQ2 := hide (show fitB 7 vars args b rows = ((rows.length : Int) == 0) by rw [HQ.out, hq]; rfl)
      clear hq
      go_wp2_with fail
      go_ret
      exact Ret.mk (ret_b HQ2.out.symm) HX3.out
end Go.Proofs.YtjpdebgejlfeaaaDoor
/- Constraints and models: how they read; slices.ContainsFunc over constraints; whether they are valid. -/
namespace Go.Proofs.YtjpdebgejlfeaaaDoor
open Go.RowKit

/-- A constraint. -/
structure Con where
  kk : Int
  vars : List Int
  args : List Int
  bound : Int
  rows : List (List Int)
def con0 (cs : List Con) (i : Nat) : Con := cs.getD i ⟨0, [], [], 0, []⟩
/-- v is a slice whose cells read as the constraints cs. -/
def SCons (w : World) (v : Value) (cs : List Con) : Prop :=
  ∃ A c, v = .slice A cs.length c ∧ cs.length ≤ c ∧ cs.length * 88 ≤ 140737488355328 ∧
    (0 < cs.length → ∃ b off, A = some ⟨b, off, none⟩ ∧ b < w.heap.size ∧ ∀ i, i < cs.length → ∃ vv va vr,
      w.cell? ⟨b, off + i * 5, none⟩ = some (.int .i64 (con0 cs i).kk) ∧ w.cell? ⟨b, off + i * 5 + 1, none⟩ = some vv ∧ w.cell? ⟨b, off + i * 5 + 2, none⟩ = some va ∧
      w.cell? ⟨b, off + i * 5 + 3, none⟩ = some (.int .i64 (con0 cs i).bound) ∧ w.cell? ⟨b, off + i * 5 + 4, none⟩ = some vr ∧
      SInts w vv (con0 cs i).vars ∧ SInts w va (con0 cs i).args ∧ SRows w vr (con0 cs i).rows)
theorem SCons.ext {w w' : World} {v : Value} {cs : List Con} (h : SCons w v cs) (hx : Ext w w') : SCons w' v cs := by
  obtain ⟨A, c, h1, h2, h3, h5⟩ := h
  refine ⟨A, c, h1, h2, h3, fun hp => ?_⟩
  obtain ⟨b, off, e, hb, hc⟩ := h5 hp
  refine ⟨b, off, e, Nat.lt_of_lt_of_le hb hx.size, fun i hi => ?_⟩
  obtain ⟨vv, va, vr, g1, g2, g3, g4, g5, s1, s2, s3⟩ := hc i hi
  exact ⟨vv, va, vr, (hx.cell (p := ⟨b, _, none⟩) hb).trans g1, (hx.cell (p := ⟨b, _, none⟩) hb).trans g2, (hx.cell (p := ⟨b, _, none⟩) hb).trans g3, (hx.cell (p := ⟨b, _, none⟩) hb).trans g4, (hx.cell (p := ⟨b, _, none⟩) hb).trans g5, s1.ext hx, s2.ext hx, s3.ext hx⟩
theorem SCons.form {w : World} {v : Value} {cs : List Con} (h : SCons w v cs) : ∃ A c, v = .slice A cs.length c ∧ cs.length ≤ c ∧ cs.length ≤ 5864062014805 := by
  obtain ⟨A, c, h1, h2, h3, -⟩ := h
  exact ⟨A, c, h1, h2, by omega⟩
theorem SCons.at_ {w : World} {A : Option Addr} {n c : Nat} {cs : List Con} (h : SCons w (.slice A n c) cs) {k : Nat} (hk : k < cs.length) :
    ∃ b off, A = some ⟨b, off, none⟩ ∧ b < w.heap.size ∧ ∃ vv va vr,
      w.cell? ⟨b, off + k * 5, none⟩ = some (.int .i64 (con0 cs k).kk) ∧ w.cell? ⟨b, off + k * 5 + 1, none⟩ = some vv ∧ w.cell? ⟨b, off + k * 5 + 2, none⟩ = some va ∧
      w.cell? ⟨b, off + k * 5 + 3, none⟩ = some (.int .i64 (con0 cs k).bound) ∧ w.cell? ⟨b, off + k * 5 + 4, none⟩ = some vr ∧
      SInts w vv (con0 cs k).vars ∧ SInts w va (con0 cs k).args ∧ SRows w vr (con0 cs k).rows := by
  obtain ⟨A', c', h1, -, -, h5⟩ := h
  injection h1 with e1 e2 e3
  subst e1
  obtain ⟨b, off, e, hb, hc⟩ := h5 (by omega)
  exact ⟨b, off, e, hb, hc k hk⟩
/-- f answers as p at the constraints. -/
def OnCons (f : Nat) (caps : Array Value) (cs : List Con) (p : Nat → Bool) (w : World) : Prop :=
  ∀ i, i < cs.length → ∀ vv va vr W, Ext w W → SInts W vv (con0 cs i).vars → SInts W va (con0 cs i).args → SRows W vr (con0 cs i).rows →
    Calls Tryd.prog f (#[.agg #[.int .i64 (con0 cs i).kk, vv, va, .int .i64 (con0 cs i).bound, vr]] ++ caps) W (Ret (.bool (p i)) W)
set_option maxHeartbeats 1000000 in
theorem IndexFuncC_any (v : Value) (cs : List Con) (g : Nat) (caps : Array Value) (p : Nat → Bool) (w : World) (hS : SCons w v cs)
    (hg : ∀ args W, (callFunc g args).run Tryd.prog W = .ok (.enter g args) W) (hp : Hid (OnCons g caps cs p w)) :
    Calls Tryd.prog 72 #[v, .func (.func g) #[] caps] w (Ret (.int .i64 (fidx p cs.length)) w) := by
  have hS0 := hide hS
  obtain ⟨A, cp, rfl, hl, hlen⟩ := hS.form
  clear hS
  go_enter Tryd.func72, Tryd.ntmps72
  go_wp2
  go_loopw [8] (fun i wr => ∃ k : Nat, k ≤ cs.length ∧ i = .int .i64 k ∧ (∀ j, j < k → p j = false) ∧ Ext w wr) (fun i _ => cs.length - (intOf i).toNat)
  case atStart => exact ⟨0, Nat.zero_le _, rfl, fun j hj => absurd hj (by omega), Ext.refl w⟩
  case round =>
    obtain ⟨k, hk, rfl, hv, hx⟩ := hrel
    have Hv := hide hv; clear hv
    by_cases hlt : k < cs.length
    · obtain ⟨b, off, rfl, hbl, vv, va, vr, f1, f2, f3, f4, f5, s1, s2, s3⟩ := (hS0.out.ext hx).at_ hlt
      obtain ⟨Av, cv, rfl, -, -⟩ := s1.form
      obtain ⟨Aa, ca, rfl, -, -⟩ := s2.form
      obtain ⟨Ar, cr, rfl, -, -⟩ := s3.form
      have S1 := hide s1
      have S2 := hide s2
      have S3 := hide s3
      clear s1 s2 s3
      by_cases hpk : p k = true
      · go_wp2_with fail
        refine (hp.out k hlt _ _ _ _ hx S1.out S2.out S3.out).mono ?_
        rintro e w2 ⟨rfl, hx2⟩
        go_wp2
        go_ret
        exact Ret.mk (ret_i (fidx_some hlt hpk Hv.out).symm) (hx.trans hx2)
      · have hpk' : p k = false := Bool.eq_false_iff.2 hpk
        clear hpk
        go_wp2_with fail
        refine (hp.out k hlt _ _ _ _ hx S1.out S2.out S3.out).mono ?_
        rintro e w2 ⟨rfl, hx2⟩
        go_wp2
        go_roundw
        case rel => exact ⟨k + 1, by omega, by go_num, upto_succ Hv.out hpk', hx.trans hx2⟩
        case measure => simp [intOf]; omega
    · have hkl : k = cs.length := by omega
      subst hkl
      go_wp2
      go_ret
      exact Ret.mk (ret_i (fidx_none Hv.out).symm) hx
theorem ContainsFuncC_any (v : Value) (cs : List Con) (g : Nat) (caps : Array Value) (p : Nat → Bool) (w : World) (hS : SCons w v cs)
    (hg : ∀ args W, (callFunc g args).run Tryd.prog W = .ok (.enter g args) W) (hp : Hid (OnCons g caps cs p w)) :
    Calls Tryd.prog 55 #[v, .func (.func g) #[] caps] w (Ret (.bool (anyB p cs.length)) w) := by
  go_enter Tryd.func55, Tryd.ntmps55
  go_wp2_with fail
  refine (IndexFuncC_any v cs g caps p w hS hg hp).mono ?_
  rintro e w2 ⟨rfl, hx2⟩
  go_wp2
  go_ret
  exact Ret.mk (ret_b (fidx_any p _)) hx2
theorem domainsOk_any (v : Value) (xs : List Int) (w : World) (hS : SInts w v xs) :
    Calls Tryd.prog 54 #[v] w (Ret (.bool (inR xs.length 1 4 && allR xs 0 63)) w) := by
  have hS0 := hide hS
  obtain ⟨A, c, rfl, -, hln⟩ := hS.form
  clear hS
  cases hq : inR xs.length 1 4 with
  | true =>
    go_enter Tryd.func54, Tryd.ntmps54
    go_wp2_with (first | (go_at_call 61; refine (within_any _ _ _ _).mono ?_; rintro e w' ⟨rfl, rfl⟩; rw [hq]) | (go_at_call 71; refine (allIn_any _ xs _ _ _ hS0.out).mono ?_; rintro e w' ⟨rfl, hx⟩))
    go_ret
    exact Ret.mk rfl hx
  | false =>
    go_enter Tryd.func54, Tryd.ntmps54
    go_wp2_with (go_at_call 61; refine (within_any _ _ _ _).mono ?_; rintro e w' ⟨rfl, rfl⟩; rw [hq])
    go_ret
    exact Ret.mk rfl (Ext.refl w)
/-- fits answers right at this constraint. -/
def FitsOK (c : Con) : Prop := ∀ vv va vr W, SInts W vv c.vars → SInts W va c.args → SRows W vr c.rows → c.vars.length ≤ 1000 →
  Calls Tryd.prog 74 #[.agg #[.int .i64 c.kk, vv, va, .int .i64 c.bound, vr]] W (Ret (.bool (fitB c.kk c.vars c.args c.bound c.rows)) W)
/-- A constraint is valid for n variables. -/
def vCon (c : Con) (n : Int) : Bool := inR n 1 4 && (inR c.vars.length 1 n && (allR c.vars 0 (n - 1) && (dst c.vars && fitB c.kk c.vars c.args c.bound c.rows)))
set_option maxHeartbeats 2000000 in
theorem ValidConstraintI_any (c : Con) (vv va vr : Value) (n : Int) (w : World) (hF : FitsOK c) (hV : SInts w vv c.vars) (hA : SInts w va c.args) (hR : SRows w vr c.rows) :
    Calls Tryd.prog 57 #[.agg #[.int .i64 c.kk, vv, va, .int .i64 c.bound, vr], .int .i64 n] w (Ret (.bool (vCon c n)) w) := by
  have hV0 := hide hV
  have hA0 := hide hA
  have hR0 := hide hR
  have HFI := hide hF
  obtain ⟨Av, cv, rfl, -, hlv⟩ := hV.form
  obtain ⟨Aa, ca, rfl, -, hla⟩ := hA.form
  obtain ⟨Ar, cr, rfl, -, hlr⟩ := hR.form
  clear hV hA hR hF
  have hx0 := (Ext.refl w).alloc (.cells #[.int .i64 c.kk, .slice Av c.vars.length cv, .slice Aa c.args.length ca, .int .i64 c.bound, .slice Ar c.rows.length cr] 60)
  have HX0 := hide hx0
  clear hx0
  cases hq : inR n 1 4 with
  | false =>
    have HV := hide (show vCon c n = false by rw [vCon, hq]; rfl)
    go_enter Tryd.func57, Tryd.ntmps57
    go_wp2_with (go_at_call 61; refine (within_any _ _ _ _).mono ?_; rintro e w' ⟨rfl, rfl⟩; rw [hq])
    go_ret
    exact Ret.mk (ret_b HV.out.symm) HX0.out
  | true =>
    have hnb : 1 ≤ n ∧ n ≤ 4 := by simpa [inR] using hq
    cases hq2 : inR c.vars.length 1 n with
    | false =>
      have HV := hide (show vCon c n = false by rw [vCon, hq, hq2]; rfl)
      go_enter Tryd.func57, Tryd.ntmps57
      go_wp2_with (go_at_call 61; refine (within_any _ _ _ _).mono ?_; rintro e w' ⟨rfl, rfl⟩; first | rw [hq] | rw [hq2])
      go_ret
      exact Ret.mk (ret_b HV.out.symm) HX0.out
    | true =>
      have hvb : c.vars.length ≤ 1000 := by have : 1 ≤ (c.vars.length : Int) ∧ (c.vars.length : Int) ≤ n := by simpa [inR] using hq2
                                            omega
      cases hq3 : allR c.vars 0 (n - 1) with
      | false =>
        have HV := hide (show vCon c n = false by rw [vCon, hq, hq2, hq3]; rfl)
        go_enter Tryd.func57, Tryd.ntmps57
        go_wp2_with (first | (go_at_call 61; refine (within_any _ _ _ _).mono ?_; rintro e w' ⟨rfl, rfl⟩; first | rw [hq] | rw [hq2]) | (go_at_call 71; refine (allIn_any _ c.vars _ _ _ (hV0.out.ext HX0.out)).mono ?_; rintro e w' ⟨rfl, hx⟩; rw [hq3]))
        go_ret
        exact Ret.mk (ret_b HV.out.symm) (HX0.out.trans hx)
      | true =>
        cases hq4 : dst c.vars with
        | false =>
          have HV := hide (show vCon c n = false by rw [vCon, hq, hq2, hq3, hq4]; rfl)
          go_enter Tryd.func57, Tryd.ntmps57
          go_wp2_with (first | (go_at_call 61; refine (within_any _ _ _ _).mono ?_; rintro e w' ⟨rfl, rfl⟩; first | rw [hq] | rw [hq2]))
          refine (allIn_any _ c.vars _ _ _ (hV0.out.ext HX0.out)).mono ?_
          rintro e w2 ⟨rfl, hx⟩
          rw [hq3]
          have b1 := (hx.cells w.heap.size 1 (by simp)).trans (show (w.alloc (.cells #[.int .i64 c.kk, .slice Av c.vars.length cv, .slice Aa c.args.length ca, .int .i64 c.bound, .slice Ar c.rows.length cr] 60)).cell? ⟨w.heap.size, 1, none⟩ = some (.slice Av c.vars.length cv) by go_simp)
          have HX := hide (HX0.out.trans hx)
          clear hx
          go_wp2_with (go_at_call 73; refine (distinct_any _ c.vars _ (hV0.out.ext HX.out)).mono ?_; rintro e w' ⟨rfl, rfl⟩; rw [hq4])
          go_ret
          exact Ret.mk (ret_b HV.out.symm) HX.out
        | true =>
          have HV := hide (show vCon c n = fitB c.kk c.vars c.args c.bound c.rows by rw [vCon, hq, hq2, hq3, hq4]; rfl)
          go_enter Tryd.func57, Tryd.ntmps57
          go_wp2_with (first | (go_at_call 61; refine (within_any _ _ _ _).mono ?_; rintro e w' ⟨rfl, rfl⟩; first | rw [hq] | rw [hq2]))
          refine (allIn_any _ c.vars _ _ _ (hV0.out.ext HX0.out)).mono ?_
          rintro e w2 ⟨rfl, hx⟩
          rw [hq3]
          have b0 := (hx.cells w.heap.size 0 (by simp)).trans (show (w.alloc (.cells #[.int .i64 c.kk, .slice Av c.vars.length cv, .slice Aa c.args.length ca, .int .i64 c.bound, .slice Ar c.rows.length cr] 60)).cell? ⟨w.heap.size, 0, none⟩ = some (.int .i64 c.kk) by go_simp)
          have b1 := (hx.cells w.heap.size 1 (by simp)).trans (show (w.alloc (.cells #[.int .i64 c.kk, .slice Av c.vars.length cv, .slice Aa c.args.length ca, .int .i64 c.bound, .slice Ar c.rows.length cr] 60)).cell? ⟨w.heap.size, 1, none⟩ = some (.slice Av c.vars.length cv) by go_simp)
          have b2 := (hx.cells w.heap.size 2 (by simp)).trans (show (w.alloc (.cells #[.int .i64 c.kk, .slice Av c.vars.length cv, .slice Aa c.args.length ca, .int .i64 c.bound, .slice Ar c.rows.length cr] 60)).cell? ⟨w.heap.size, 2, none⟩ = some (.slice Aa c.args.length ca) by go_simp)
          have b3 := (hx.cells w.heap.size 3 (by simp)).trans (show (w.alloc (.cells #[.int .i64 c.kk, .slice Av c.vars.length cv, .slice Aa c.args.length ca, .int .i64 c.bound, .slice Ar c.rows.length cr] 60)).cell? ⟨w.heap.size, 3, none⟩ = some (.int .i64 c.bound) by go_simp)
          have b4 := (hx.cells w.heap.size 4 (by simp)).trans (show (w.alloc (.cells #[.int .i64 c.kk, .slice Av c.vars.length cv, .slice Aa c.args.length ca, .int .i64 c.bound, .slice Ar c.rows.length cr] 60)).cell? ⟨w.heap.size, 4, none⟩ = some (.slice Ar c.rows.length cr) by go_simp)
          have HX := hide (HX0.out.trans hx)
          clear hx
          go_wp2_with (go_at_call 73; refine (distinct_any _ c.vars _ (hV0.out.ext HX.out)).mono ?_; rintro e w' ⟨rfl, rfl⟩; rw [hq4])
          refine (HFI.out _ _ _ _ (hV0.out.ext HX.out) (hA0.out.ext HX.out) (hR0.out.ext HX.out) hvb).mono ?_
          rintro e w3 ⟨rfl, hx3⟩
          rw [← HV.out]
          have HX3 := hide (HX.out.trans hx3)
          clear hx3
          go_wp2
          go_ret
          exact Ret.mk rfl HX3.out
/-- A model is valid. -/
def vMod (ds : List Int) (cs : List Con) : Bool := (inR ds.length 1 4 && allR ds 0 63) && (decide (cs.length ≤ 6) && !anyB (fun i => !vCon (con0 cs i) ds.length) cs.length)
set_option maxHeartbeats 1000000 in
theorem ValidModel1_any (c : Con) (vv va vr vd : Value) (ds : List Int) (bm : Nat) (w : World) (hF : FitsOK c) (hV : SInts w vv c.vars) (hA : SInts w va c.args) (hR : SRows w vr c.rows)
    (hm : w.cell? ⟨bm, 0, none⟩ = some vd) (hbm : bm < w.heap.size) (hD : SInts w vd ds) :
    Calls Tryd.prog 56 #[.agg #[.int .i64 c.kk, vv, va, .int .i64 c.bound, vr], .pointer (some ⟨bm, 0, none⟩)] w (Ret (.bool (!vCon c ds.length)) w) := by
  have hV0 := hide hV
  have hA0 := hide hA
  have hR0 := hide hR
  obtain ⟨Av, cv, rfl, -, hlv⟩ := hV.form
  obtain ⟨Aa, ca, rfl, -, hla⟩ := hA.form
  obtain ⟨Ar, cr, rfl, -, hlr⟩ := hR.form
  obtain ⟨Ad, cd, rfl, -, hld⟩ := hD.form
  clear hV hA hR hD
  have hx0 := (Ext.refl w).alloc (.cells #[.int .i64 c.kk, .slice Av c.vars.length cv, .slice Aa c.args.length ca, .int .i64 c.bound, .slice Ar c.rows.length cr] 60)
  have hm' := (hx0.cells bm 0 hbm).trans hm
  have HX0 := hide hx0
  clear hx0
  go_enter Tryd.func56, Tryd.ntmps56
  go_wp2_with fail
  refine (ValidConstraintI_any c _ _ _ _ _ hF (hV0.out.ext HX0.out) (hA0.out.ext HX0.out) (hR0.out.ext HX0.out)).mono ?_
  rintro e w3 ⟨rfl, hx3⟩
  have HX3 := hide (HX0.out.trans hx3)
  clear hx3
  go_wp2
  go_ret
  exact Ret.mk rfl HX3.out
set_option maxHeartbeats 2000000 in
theorem ValidModelI_any (vd vc : Value) (ds : List Int) (cs : List Con) (w : World) (hD : SInts w vd ds) (hC : SCons w vc cs) (hF : ∀ i, i < cs.length → FitsOK (con0 cs i)) :
    Calls Tryd.prog 34 #[.agg #[vd, vc]] w (Ret (.bool (vMod ds cs)) w) := by
  have hD0 := hide hD
  have hC0 := hide hC
  have HFI := hide hF
  obtain ⟨Ad, cd, rfl, -, hld⟩ := hD.form
  obtain ⟨Ac, cc, rfl, -, hlc⟩ := hC.form
  clear hD hC hF
  have hx0 := (Ext.refl w).alloc (.cells #[.slice Ad ds.length cd, .slice Ac cs.length cc] 38)
  have hz0 : w.heap.size < (w.alloc (.cells #[.slice Ad ds.length cd, .slice Ac cs.length cc] 38)).heap.size := by simp
  have a0 : (w.alloc (.cells #[.slice Ad ds.length cd, .slice Ac cs.length cc] 38)).cell? ⟨w.heap.size, 0, none⟩ = some (.slice Ad ds.length cd) := by go_simp
  have a1 : (w.alloc (.cells #[.slice Ad ds.length cd, .slice Ac cs.length cc] 38)).cell? ⟨w.heap.size, 1, none⟩ = some (.slice Ac cs.length cc) := by go_simp
  have HX0 := hide hx0
  clear hx0
  go_enter Tryd.func34, Tryd.ntmps34
  go_wp2_with fail
  refine (domainsOk_any _ ds _ (hD0.out.ext HX0.out)).mono ?_
  rintro e w2 ⟨rfl, hx⟩
  have b0 := (hx.cells w.heap.size 0 hz0).trans a0
  have b1 := (hx.cells w.heap.size 1 hz0).trans a1
  have hz2 := Nat.lt_of_lt_of_le hz0 hx.size
  clear a0 a1
  have HX := hide (HX0.out.trans hx)
  clear hx
  cases hq : (inR ds.length 1 4 && allR ds 0 63) with
  | false =>
    have HV := hide (show vMod ds cs = false by rw [vMod, hq]; rfl)
    clear hq
    go_wp2_with fail
    go_ret
    exact Ret.mk (ret_b HV.out.symm) HX.out
  | true =>
    by_cases hc6 : cs.length ≤ 6
    · have HV := hide (show vMod ds cs = !anyB (fun i => !vCon (con0 cs i) ds.length) cs.length by rw [vMod, hq, decide_eq_true hc6]; rfl)
      clear hq
      go_wp2_with fail
      refine (ContainsFuncC_any _ cs 56 #[.pointer (some ⟨w.heap.size, 0, none⟩)] (fun i => !vCon (con0 cs i) ds.length) _ (hC0.out.ext HX.out) (callFunc_body Tryd.func56 (by decide) rfl) (hide fun i hi vv va vr W hW h1 h2 h3 => ?_)).mono ?_
      · exact ValidModel1_any (con0 cs i) vv va vr _ ds _ W (HFI.out i hi) h1 h2 h3 ((hW.cells _ _ hz2).trans b0) (Nat.lt_of_lt_of_le hz2 hW.size) ((hD0.out.ext HX.out).ext hW)
      rintro e w3 ⟨rfl, hx3⟩
      have HX3 := hide (HX.out.trans hx3)
      clear hx3
      go_wp2
      go_ret
      exact Ret.mk (ret_b HV.out.symm) HX3.out
    · have HV := hide (show vMod ds cs = false by rw [vMod, hq, decide_eq_false hc6]; rfl)
      clear hq
      go_wp2_with fail
      go_ret
      exact Ret.mk (ret_b HV.out.symm) HX.out
end Go.Proofs.YtjpdebgejlfeaaaDoor
