/- The lower bound by shaving: the walks of both sides. -/
import Derived.Test.YtalgilgfoekioaaGreatDoorShvS
import Derived.Test.YtalgilgfoekioaaGreatDoorCompS
namespace Go.Proofs.YtalgilgfoekioaaGreatDoor
open Go.RowKit

def objB (ds obj : List Int) : Bool := decide (obj.length = ds.length) && allR obj (-9) 9
/-- The value that serves a coefficient. -/
def endV (a d : Int) : Int := if a < 0 then (topB d.toNat : Int) else (lowB d.toNat : Int)
def lbK (obj ds : List Int) : Nat → Int
  | 0 => 0
  | k + 1 => lbK obj ds k + at0 obj k * endV (at0 obj k) (at0 ds k)
theorem endV_bd {a d : Int} (h1 : 1 ≤ d) (h2 : d ≤ 63) : 0 ≤ endV a d ∧ endV a d ≤ 5 := by
  obtain ⟨n, rfl⟩ : ∃ n : Nat, d = n := ⟨d.toNat, by omega⟩
  obtain ⟨-, -, -, q1, q2⟩ := domL_ends (n := n) (by omega) (by omega)
  unfold endV
  rw [Int.toNat_natCast]
  split <;> omega
theorem obj_mul {a x : Int} (h1 : -9 ≤ a) (h2 : a ≤ 9) (h3 : 0 ≤ x) (h4 : x ≤ 5) : -45 ≤ a * x ∧ a * x ≤ 45 := by
  have := mul_bdS (A := 9) (X := 5) h1 h2 h3 h4 (by omega)
  omega
/-- Domains without an empty one. -/
def FullD (ds : List Int) : Prop := ∀ i, i < ds.length → 1 ≤ at0 ds i ∧ at0 ds i ≤ 63
theorem lbK_bd {obj ds : List Int} (ho : allR obj (-9) 9 = true) (hl : obj.length = ds.length) (hd : FullD ds) : ∀ k, k ≤ ds.length → -(45 * (k : Int)) ≤ lbK obj ds k ∧ lbK obj ds k ≤ 45 * k
  | 0, _ => by simp [lbK]
  | k + 1, hk => by
    have ih := lbK_bd ho hl hd k (by omega)
    have h1 := allR_at ho (k := k) (by omega)
    have h2 := hd k (by omega)
    have h3 := endV_bd (a := at0 obj k) h2.1 h2.2
    have h4 := obj_mul h1.1 h1.2 h3.1 h3.2
    rw [lbK]
    constructor <;> push_cast <;> omega
theorem FullD.of {cs : List Con} {n : Nat} {ds : List Int} (h : GoodD cs n ds) (h0 : hasI ds 0 = false) : FullD ds := fun i hi => by
  have h1 := h.2.1 i hi
  have : at0 ds i ≠ 0 := fun e => by
    rw [hasI_iff.2 ⟨i, hi, e⟩] at h0; cases h0
  omega
set_option maxRecDepth 100000 in
set_option maxHeartbeats 8000000 in
theorem lowest_any (v vo : Value) (ds obj : List Int) (w : World) (hD : SInts w v ds) (hO : SInts w vo obj) (hl : obj.length = ds.length) (hd : FullD ds) (ho : allR obj (-9) 9 = true) (h4 : ds.length ≤ 4) (hT : TzTab w) (hb : 1 < w.heap.size) :
    Calls Tryz.prog 32 #[v, vo] w (Ret (.int .i64 (lbK obj ds obj.length)) w) := by
  have hD0 := hide hD
  have hO0 := hide hO
  have HT := hide hT
  have HL := hide hl
  have HD := hide hd
  have HO := hide ho
  obtain ⟨Ad, cd, rfl, -, hld⟩ := hD.form
  obtain ⟨Ao, co, rfl, -, hlo⟩ := hO.form
  have ho4 : obj.length ≤ 4 := by omega
  clear hD hO hT hl hd ho
  go_enter Tryz.func32, Tryz.ntmps32
  go_wp2_with fail
  go_loopw [5, 10] (fun s i wr => ∃ k : Nat, k ≤ obj.length ∧ i = .int .i64 k ∧ s = .int .i64 (lbK obj ds k) ∧ Ext w wr) (fun _ i _ => obj.length - (intOf i).toNat)
  case atStart => exact ⟨0, Nat.zero_le _, rfl, rfl, Ext.refl w⟩
  case round =>
    obtain ⟨k, hk, rfl, rfl, hx⟩ := hrel
    have HX := hide hx
    clear hx
    by_cases hlt : k < obj.length
    · have hkI : (k : Int) < obj.length := by omega
      have hkD : k < ds.length := by have := HL.out; omega
      have hkDI : (k : Int) < ds.length := by omega
      obtain ⟨bo, oo, rfl, hbo, fo⟩ := (hO0.out.ext HX.out).at_ hlt
      obtain ⟨bd, od, rfl, hbd, fd⟩ := (hD0.out.ext HX.out).at_ hkD
      have hab := allR_at HO.out hlt
      have hdb := HD.out k hkD
      have hsb := lbK_bd HO.out HL.out HD.out k (by omega)
      have hev := endV_bd (a := at0 obj k) hdb.1 hdb.2
      have hmb := obj_mul hab.1 hab.2 hev.1 hev.2
      have HNX := hide (show lbK obj ds (k + 1) = lbK obj ds k + at0 obj k * endV (at0 obj k) (at0 ds k) from rfl)
      obtain ⟨n, hn⟩ : ∃ n : Nat, at0 ds k = n := ⟨(at0 ds k).toNat, by omega⟩
      obtain ⟨a, ha⟩ : ∃ a, a = at0 obj k := ⟨_, rfl⟩
      obtain ⟨s, hs⟩ : ∃ s, s = lbK obj ds k := ⟨_, rfl⟩
      rw [hn] at fd hdb hmb hev HNX
      rw [← ha] at fo hab hmb hev HNX
      rw [← hs] at hsb HNX ⊢
      have hTW := hide (TzTab.ext HT.out hb HX.out)
      clear hn ha hs
      by_cases hneg : a < 0
      · have hdec : decide (a < 0) = true := decide_eq_true hneg
        have he : endV a n = (topB n : Int) := by rw [endV, if_pos hneg, Int.toNat_natCast]
        rw [he] at hmb HNX
        obtain ⟨p, hp⟩ : ∃ p, p = a * (topB n : Int) := ⟨_, rfl⟩
        rw [← hp] at hmb HNX
        have kp : IntKind.i64.wrap (a * (topB n : Int)) = p := by rw [← hp]; exact IntWalk.i64_in _ (by omega)
        have ks : IntKind.i64.wrap (s + p) = s + p := IntWalk.i64_in _ (by omega)
        clear hp he
        go_wp2_with fail
        refine (most_any n (by omega) (by omega) _).mono ?_
        rintro e w2 ⟨rfl, rfl⟩
        go_wp2_with fail
        go_roundw
        case rel => exact ⟨k + 1, by omega, by go_num, by rw [HNX.out], HX.out⟩
        case measure => simp [intOf]; omega
      · have hdec : decide (a < 0) = false := decide_eq_false hneg
        have he : endV a n = (lowB n : Int) := by rw [endV, if_neg hneg, Int.toNat_natCast]
        rw [he] at hmb HNX
        obtain ⟨p, hp⟩ : ∃ p, p = a * (lowB n : Int) := ⟨_, rfl⟩
        rw [← hp] at hmb HNX
        have kp : IntKind.i64.wrap (a * (lowB n : Int)) = p := by rw [← hp]; exact IntWalk.i64_in _ (by omega)
        have ks : IntKind.i64.wrap (s + p) = s + p := IntWalk.i64_in _ (by omega)
        clear hp he
        go_wp2_with fail
        refine (least_any n (by omega) (by omega) _ hTW.out).mono ?_
        rintro e w2 ⟨rfl, rfl⟩
        go_wp2_with fail
        go_roundw
        case rel => exact ⟨k + 1, by omega, by go_num, by rw [HNX.out], HX.out⟩
        case measure => simp [intOf]; omega
    · obtain rfl : k = obj.length := by omega
      have hkI : ¬ ((obj.length : Int) < obj.length) := by omega
      go_wp2
      go_ret
      exact Ret.mk rfl HX.out
set_option maxRecDepth 100000 in
set_option maxHeartbeats 8000000 in
theorem domainsBound_any (v vo : Value) (ds obj : List Int) (w : World) (hD : SInts w v ds) (hO : SInts w vo obj) (hl : obj.length = ds.length) (hd : FullD ds) (ho : allR obj (-9) 9 = true) (h4 : ds.length ≤ 4) :
    Calls Tryz.prog 20 #[vo, v] w (Ret (.int .i64 (lbK obj ds ds.length)) w) := by
  have hD0 := hide hD
  have hO0 := hide hO
  have HL := hide hl
  have HD := hide hd
  have HO := hide ho
  obtain ⟨Ad, cd, rfl, -, hld⟩ := hD.form
  obtain ⟨Ao, co, rfl, -, hlo⟩ := hO.form
  clear hD hO hl hd ho
  go_enter Tryz.func20, Tryz.ntmps20
  go_wp2_with fail
  go_loopw [5, 6] (fun s i wr => ∃ k : Nat, k ≤ ds.length ∧ i = .int .i64 k ∧ s = .int .i64 (lbK obj ds k) ∧ Ext w wr) (fun _ i _ => ds.length - (intOf i).toNat)
  case atStart => exact ⟨0, Nat.zero_le _, rfl, rfl, Ext.refl w⟩
  case round =>
    obtain ⟨k, hk, rfl, rfl, hx⟩ := hrel
    have HX := hide hx
    clear hx
    by_cases hlt : k < ds.length
    · have hkI : (k : Int) < ds.length := by omega
      have hkO : k < obj.length := by have := HL.out; omega
      have hkOI : (k : Int) < obj.length := by omega
      obtain ⟨bo, oo, rfl, hbo, fo⟩ := (hO0.out.ext HX.out).at_ hkO
      obtain ⟨bd, od, rfl, hbd, fd⟩ := (hD0.out.ext HX.out).at_ hlt
      have hab := allR_at HO.out hkO
      have hdb := HD.out k hlt
      have hsb := lbK_bd HO.out HL.out HD.out k (by omega)
      have hev := endV_bd (a := at0 obj k) hdb.1 hdb.2
      have hmb := obj_mul hab.1 hab.2 hev.1 hev.2
      have HNX := hide (show lbK obj ds (k + 1) = lbK obj ds k + at0 obj k * endV (at0 obj k) (at0 ds k) from rfl)
      obtain ⟨n, hn⟩ : ∃ n : Nat, at0 ds k = n := ⟨(at0 ds k).toNat, by omega⟩
      obtain ⟨a, ha⟩ : ∃ a, a = at0 obj k := ⟨_, rfl⟩
      obtain ⟨s, hs⟩ : ∃ s, s = lbK obj ds k := ⟨_, rfl⟩
      rw [hn] at fd hdb hmb hev HNX
      rw [← ha] at fo hab hmb hev HNX
      rw [← hs] at hsb HNX ⊢
      obtain ⟨e0, e1, e2, e3, e4⟩ := domL_ends (n := n) (by omega) (by omega)
      have hl6 := domL_len n
      have E1 := hide e1
      have E2 := hide e2
      clear hn ha hs e1 e2
      go_wp2_with fail
      refine (domainValues_any (n : Int) _ (by omega) (by omega)).mono ?_
      rintro e w1 ⟨A1, cc1, b1, m1, f1, rfl, hc1, hd1, -, ho1, hx1⟩
      obtain ⟨rfl, hr, hm, hf⟩ := ho1 e0
      obtain ⟨t, ht⟩ : ∃ t, (domL n).length = t + 1 := ⟨(domL n).length - 1, by omega⟩
      have g0 := hr.cell (i := 0) (by omega)
      rw [hf 0 (by omega), E1.out] at g0
      have g1 := hr.cell (i := t) (by omega)
      rw [hf t (by omega), show at0 (domL n) t = topB n by rw [← E2.out, ht]; rfl] at g1
      have hb1 := hr.lt
      have fo := (hx1.cells _ _ hbo).trans fo
      have HX1 := hide (HX.out.trans hx1)
      obtain ⟨L, hL⟩ : ∃ L, L = (domL n).length := ⟨_, rfl⟩
      rw [← hL] at ht hl6 ⊢
      have hkw : IntKind.i64.wrap ((L : Int) - 1) = (t : Int) := by
        rw [show (L : Int) - 1 = (t : Int) by omega]
        exact IntWalk.i64_in (t : Int) (by omega)
      have hkl : (t : Int) < (L : Int) := by omega
      have hk0 : (0 : Int) < (L : Int) := by omega
      have hk0n : 0 < L := by omega
      clear hr hf hm E1 E2 ho1 hx1 hd1 hc1 hL ht e0 hl6
      by_cases hneg : a < 0
      · have hdec : decide (a < 0) = true := decide_eq_true hneg
        have he : endV a n = (topB n : Int) := by rw [endV, if_pos hneg, Int.toNat_natCast]
        rw [he] at hmb HNX
        obtain ⟨p, hp⟩ : ∃ p, p = a * (topB n : Int) := ⟨_, rfl⟩
        rw [← hp] at hmb HNX
        have kp : IntKind.i64.wrap (a * (topB n : Int)) = p := by rw [← hp]; exact IntWalk.i64_in _ (by omega)
        have ks : IntKind.i64.wrap (s + p) = s + p := IntWalk.i64_in _ (by omega)
        clear hp he
        go_wp2_with fail
        go_roundw
        case rel => exact ⟨k + 1, by omega, by go_num, by rw [HNX.out], HX1.out⟩
        case measure => simp [intOf]; omega
      · have hdec : decide (a < 0) = false := decide_eq_false hneg
        have he : endV a n = (lowB n : Int) := by rw [endV, if_neg hneg, Int.toNat_natCast]
        rw [he] at hmb HNX
        obtain ⟨p, hp⟩ : ∃ p, p = a * (lowB n : Int) := ⟨_, rfl⟩
        rw [← hp] at hmb HNX
        have kp : IntKind.i64.wrap (a * (lowB n : Int)) = p := by rw [← hp]; exact IntWalk.i64_in _ (by omega)
        have ks : IntKind.i64.wrap (s + p) = s + p := IntWalk.i64_in _ (by omega)
        clear hp he
        go_wp2_with fail
        go_roundw
        case rel => exact ⟨k + 1, by omega, by go_num, by rw [HNX.out], HX1.out⟩
        case measure => simp [intOf]; omega
    · obtain rfl : k = ds.length := by omega
      have hkI : ¬ ((ds.length : Int) < ds.length) := by omega
      go_wp2
      go_ret
      exact Ret.mk rfl HX.out
def sbG (ds : List Int) (cs : List Con) (obj : List Int) : Bool := (vMod ds cs && objB ds obj) && !hasI (shaveL cs ds) 0
def sbI (ds : List Int) (cs : List Con) (obj : List Int) : Int := if sbG ds cs obj then lbK obj (shaveL cs ds) ds.length else 0
set_option maxRecDepth 100000 in
set_option maxHeartbeats 8000000 in
theorem objectiveOk_any (v vo : Value) (ds obj : List Int) (cs : List Con) (w : World) (hM : SMod w v ds cs) (hO : SInts w vo obj) :
    Calls Tryz.prog 13 #[v, vo] w (Ret (.bool (vMod ds cs && objB ds obj)) w) := by
  have hO0 := hide hO
  obtain ⟨vd, vc, rfl, hD, hC⟩ := hM
  have hD0 := hide hD
  have hC0 := hide hC
  obtain ⟨Ad, cd, rfl, -, hld⟩ := hD.form
  obtain ⟨Ac, cc, rfl, -, hlc⟩ := hC.form
  obtain ⟨Ao, co, rfl, -, hlo⟩ := hO.form
  obtain ⟨w0, hw0⟩ : ∃ w0, w0 = w.alloc (.cells #[.slice Ad ds.length cd, .slice Ac cs.length cc] 26) := ⟨_, rfl⟩
  have HX0 := hide (show Ext w w0 by rw [hw0]; exact (Ext.refl w).alloc _)
  have k0 : w0.cell? ⟨w.heap.size, 0, none⟩ = some (.slice Ad ds.length cd) := by rw [hw0]; go_simp
  have ks : w.heap.size < w0.heap.size := by rw [hw0]; simp
  have k1 : w0.cell? ⟨w.heap.size, 1, none⟩ = some (.slice Ac cs.length cc) := by rw [hw0]; go_simp
  clear hD hC hO
  go_enter Tryz.func13, Tryz.ntmps13
  go_wp2_with fail
  rw [← hw0]
  clear hw0
  refine (ValidModelI_any _ _ ds cs _ (hD0.out.ext HX0.out) (hC0.out.ext HX0.out) (fun i _ => fits_all (con0 cs i))).mono ?_
  rintro e w1 ⟨rfl, hx1⟩
  have HX1 := hide (HX0.out.trans hx1)
  have k0 := (hx1.cells _ _ ks).trans k0
  clear hx1 k1
  cases hv : vMod ds cs with
  | false =>
    go_wp2
    go_ret
    exact Ret.mk (ret_b (by rw [hv, Bool.false_and])) HX1.out
  | true =>
    by_cases hl : obj.length = ds.length
    · have hne : ((obj.length : Int) == (ds.length : Int)) = true := by simp [hl]
      have HV := hide (show (vMod ds cs && objB ds obj) = allR obj (-9) 9 by rw [hv, objB, decide_eq_true hl]; rfl)
      clear hl hv
      go_wp2_with fail
      refine (allIn_any _ obj (-9) 9 _ (hO0.out.ext HX1.out)).mono ?_
      rintro e w2 ⟨rfl, hx2⟩
      have HX2 := hide (HX1.out.trans hx2)
      clear hx2
      go_wp2
      go_ret
      exact Ret.mk (ret_b HV.out.symm) HX2.out
    · have hne : ((obj.length : Int) == (ds.length : Int)) = false := by rw [beq_eq_false_iff_ne]; omega
      have HV := hide (show (vMod ds cs && objB ds obj) = false by rw [objB, decide_eq_false hl, Bool.false_and, Bool.and_false])
      clear hl hv
      go_wp2
      go_ret
      exact Ret.mk (ret_b HV.out.symm) HX1.out
set_option maxRecDepth 100000 in
set_option maxHeartbeats 8000000 in
theorem boundBy_any (v vo : Value) (ds obj : List Int) (cs : List Con) (w : World) (hD : SInts w v ds) (hO : SInts w vo obj) (hl : obj.length = ds.length) (hG : GoodD cs ds.length ds) (ho : allR obj (-9) 9 = true) (h4 : ds.length ≤ 4) (hT : TzTab w) (hb : 1 < w.heap.size) :
    Calls Tryz.prog 14 #[v, vo] w (Ret (.tuple #[.int .i64 (if hasI ds 0 then 0 else lbK obj ds obj.length), .bool (!hasI ds 0)]) w) := by
  have hD0 := hide hD
  have hO0 := hide hO
  have HL := hide hl
  have HO := hide ho
  obtain ⟨Ad, cd, rfl, -, hld⟩ := hD.form
  obtain ⟨Ao, co, rfl, -, hlo⟩ := hO.form
  clear hD hO hl ho
  obtain ⟨r, hr⟩ : ∃ r, r = (if hasI ds 0 then 0 else lbK obj ds obj.length) := ⟨_, rfl⟩
  have HR := hide hr
  obtain ⟨rb, hrb⟩ : ∃ r, r = (!hasI ds 0) := ⟨_, rfl⟩
  have HRB := hide hrb
  rw [← hr, ← hrb]
  clear hr hrb
  go_enter Tryz.func14, Tryz.ntmps14
  go_wp2_with fail
  refine (Contains_any _ ds 0 _ hD0.out).mono ?_
  rintro e w1 ⟨rfl, rfl⟩
  cases hh : hasI ds 0 with
  | true =>
    have HR2 := hide (show r = 0 by rw [HR.out, hh]; rfl)
    have HB2 := hide (show rb = false by rw [HRB.out, hh]; rfl)
    clear hh
    go_wp2
    go_ret2
    exact Ret.mk (by rw [HR2.out, HB2.out]; rfl) (Ext.refl _)
  | false =>
    have HF := hide (FullD.of hG hh)
    have HR2 := hide (show r = lbK obj ds obj.length by rw [HR.out, hh]; rfl)
    have HB2 := hide (show rb = true by rw [HRB.out, hh]; rfl)
    clear hh hG
    go_wp2_with fail
    refine (lowest_any _ _ ds obj _ hD0.out hO0.out HL.out HF.out HO.out h4 hT hb).mono ?_
    rintro e w2 ⟨rfl, hx2⟩
    have HX2 := hide hx2
    clear hx2
    go_wp2
    go_ret2
    exact Ret.mk (by rw [HR2.out, HB2.out]; rfl) HX2.out
set_option maxRecDepth 100000 in
set_option maxHeartbeats 8000000 in
theorem ShavedBoundI_any (v vo : Value) (ds : List Int) (cs : List Con) (obj : List Int) (w : World) (hM : SMod w v ds cs) (hO : SInts w vo obj) (hT : TzTab w) (hb : 1 < w.heap.size) :
    Calls Tryz.prog 5 #[v, vo] w (Ret (.tuple #[.int .i64 (sbI ds cs obj), .bool (sbG ds cs obj)]) w) := by
  have hM0 := hide hM
  have hO0 := hide hO
  have HT := hide hT
  obtain ⟨vd, vc, rfl, hD, hC⟩ := hM
  obtain ⟨Ad, cd, rfl, -, hld⟩ := hD.form
  obtain ⟨Ac, cc, rfl, -, hlc⟩ := hC.form
  obtain ⟨Ao, co, rfl, -, hlo⟩ := hO.form
  obtain ⟨w0, hw0⟩ : ∃ w0, w0 = w.alloc (.cells #[.slice Ad ds.length cd, .slice Ac cs.length cc] 26) := ⟨_, rfl⟩
  have HX0 := hide (show Ext w w0 by rw [hw0]; exact (Ext.refl w).alloc _)
  have k0 : w0.cell? ⟨w.heap.size, 0, none⟩ = some (.slice Ad ds.length cd) := by rw [hw0]; go_simp
  have k1 : w0.cell? ⟨w.heap.size, 1, none⟩ = some (.slice Ac cs.length cc) := by rw [hw0]; go_simp
  have ks : w.heap.size < w0.heap.size := by rw [hw0]; simp
  obtain ⟨ri, hri⟩ : ∃ r, r = sbI ds cs obj := ⟨_, rfl⟩
  obtain ⟨rb, hrb⟩ : ∃ r, r = sbG ds cs obj := ⟨_, rfl⟩
  have HRI := hide hri
  have HRB := hide hrb
  rw [← hri, ← hrb]
  clear hD hC hO hT hri hrb
  go_enter Tryz.func5, Tryz.ntmps5
  go_wp2_with fail
  rw [← hw0]
  clear hw0
  refine (objectiveOk_any _ _ ds obj cs _ (hM0.out.ext HX0.out) (hO0.out.ext HX0.out)).mono ?_
  rintro e w1 ⟨rfl, hx1⟩
  have HX1 := hide (HX0.out.trans hx1)
  have k0 := (hx1.cells _ _ ks).trans k0
  have k1 := (hx1.cells _ _ ks).trans k1
  clear hx1
  cases hv : (vMod ds cs && objB ds obj) with
  | false =>
    have HB := hide (show rb = false by rw [HRB.out, sbG, hv]; rfl)
    have HI := hide (show ri = 0 by rw [HRI.out, sbI, sbG, hv]; rfl)
    clear hv
    go_wp2
    go_ret2
    exact Ret.mk (by rw [HB.out, HI.out]; rfl) HX1.out
  | true =>
    obtain ⟨hv1, hv2⟩ := Bool.and_eq_true_iff.1 hv
    obtain ⟨hG, h1, h4⟩ := vMod_good hv1
    have hob : obj.length = ds.length ∧ allR obj (-9) 9 = true := by simpa [objB] using hv2
    have HB := hide (show rb = !hasI (shaveL cs ds) 0 by rw [HRB.out, sbG, hv]; rfl)
    have HG := hide hG
    have hgs := shaveL_good hG h4
    have HGS := hide hgs
    have HOL := hide hob.1
    have HOR := hide hob.2
    have HI := hide (show ri = if hasI (shaveL cs ds) 0 then 0 else lbK obj (shaveL cs ds) obj.length by
      rw [HRI.out, sbI, sbG, hv, Bool.true_and, hob.1]
      cases hasI (shaveL cs ds) 0 <;> rfl)
    clear hv hv1 hv2 hG hob hgs
    go_wp2_with fail
    refine (shaveI_any _ ds cs _ (hM0.out.ext HX1.out) HG.out h4 h1).mono ?_
    rintro e w2 ⟨A2, c2, b2, m2, f2, rfl, hc2, hd2, hb2, ho2, hx2⟩
    have HS := hide (SInts.own hc2 hd2 ho2 HGS.out.i64)
    have HX2 := hide (HX1.out.trans hx2)
    obtain ⟨q, hq⟩ : ∃ q, q = shaveL cs ds := ⟨_, rfl⟩
    rw [← hq] at HS HGS HB HI ⊢
    have hql : q.length = ds.length := HGS.out.1
    have HQL := hide hql
    clear hx2 ho2 hc2 hd2 hb2 hq k0 k1 hql
    go_wp2_with fail
    refine (boundBy_any _ _ q obj cs _ HS.out (hO0.out.ext HX2.out) (by rw [HQL.out]; exact HOL.out) (by rw [HQL.out]; exact HGS.out) HOR.out (by rw [HQL.out]; exact h4) (TzTab.ext HT.out hb HX2.out) (Nat.lt_of_lt_of_le hb HX2.out.size)).mono ?_
    rintro e w3 ⟨rfl, hx3⟩
    have HX3 := hide (HX2.out.trans hx3)
    clear hx3
    rw [← HI.out, ← HB.out]
    go_wp2
    go_ret2
    exact Ret.mk rfl HX3.out
set_option maxRecDepth 100000 in
set_option maxHeartbeats 8000000 in
theorem validObjective_any (v vo : Value) (ds obj : List Int) (cs : List Con) (w : World) (hM : SMod w v ds cs) (hO : SInts w vo obj) :
    Calls Tryz.prog 17 #[v, vo] w (Ret (.bool (objB ds obj)) w) := by
  have hO0 := hide hO
  obtain ⟨vd, vc, rfl, hD, hC⟩ := hM
  obtain ⟨Ad, cd, rfl, -, hld⟩ := hD.form
  obtain ⟨Ac, cc, rfl, -, hlc⟩ := hC.form
  obtain ⟨Ao, co, rfl, -, hlo⟩ := hO.form
  obtain ⟨w0, hw0⟩ : ∃ w0, w0 = w.alloc (.cells #[.slice Ad ds.length cd, .slice Ac cs.length cc] 26) := ⟨_, rfl⟩
  have HX0 := hide (show Ext w w0 by rw [hw0]; exact (Ext.refl w).alloc _)
  clear hD hC hO
  by_cases hl : obj.length = ds.length
  · have hne : ((obj.length : Int) == (ds.length : Int)) = true := by simp [hl]
    have HV := hide (show objB ds obj = allR obj (-9) 9 by rw [objB, decide_eq_true hl, Bool.true_and])
    clear hl
    go_enter Tryz.func17, Tryz.ntmps17
    go_wp2_with fail
    rw [← hw0]
    clear hw0
    refine (allInRange_any _ obj (-9) 9 _ (hO0.out.ext HX0.out)).mono ?_
    rintro e w2 ⟨rfl, rfl⟩
    go_wp2
    go_ret
    exact Ret.mk (ret_b HV.out.symm) HX0.out
  · have hne : ((obj.length : Int) == (ds.length : Int)) = false := by rw [beq_eq_false_iff_ne]; omega
    have HV := hide (show objB ds obj = false by rw [objB, decide_eq_false hl, Bool.false_and])
    clear hl
    go_enter Tryz.func17, Tryz.ntmps17
    go_wp2
    go_ret
    exact Ret.mk (ret_b HV.out.symm) (by rw [← hw0]; exact HX0.out)
set_option maxRecDepth 100000 in
set_option maxHeartbeats 8000000 in
theorem ShavedBoundS_any (v vo : Value) (ds : List Int) (cs : List Con) (obj : List Int) (w : World) (hM : SMod w v ds cs) (hO : SInts w vo obj) :
    Calls Tryz.prog 6 #[v, vo] w (Ret (.tuple #[.int .i64 (sbI ds cs obj), .bool (sbG ds cs obj)]) w) := by
  have hM0 := hide hM
  have hO0 := hide hO
  obtain ⟨vd, vc, rfl, hD, hC⟩ := hM
  obtain ⟨Ad, cd, rfl, -, hld⟩ := hD.form
  obtain ⟨Ac, cc, rfl, -, hlc⟩ := hC.form
  obtain ⟨Ao, co, rfl, -, hlo⟩ := hO.form
  obtain ⟨w0, hw0⟩ : ∃ w0, w0 = w.alloc (.cells #[.slice Ad ds.length cd, .slice Ac cs.length cc] 26) := ⟨_, rfl⟩
  have HX0 := hide (show Ext w w0 by rw [hw0]; exact (Ext.refl w).alloc _)
  have k0 : w0.cell? ⟨w.heap.size, 0, none⟩ = some (.slice Ad ds.length cd) := by rw [hw0]; go_simp
  have k1 : w0.cell? ⟨w.heap.size, 1, none⟩ = some (.slice Ac cs.length cc) := by rw [hw0]; go_simp
  have ks : w.heap.size < w0.heap.size := by rw [hw0]; simp
  obtain ⟨ri, hri⟩ : ∃ r, r = sbI ds cs obj := ⟨_, rfl⟩
  obtain ⟨rb, hrb⟩ : ∃ r, r = sbG ds cs obj := ⟨_, rfl⟩
  have HRI := hide hri
  have HRB := hide hrb
  rw [← hri, ← hrb]
  clear hD hC hO hri hrb
  go_enter Tryz.func6, Tryz.ntmps6
  go_wp2_with fail
  rw [← hw0]
  clear hw0
  refine (validModelS_any _ ds cs _ (hM0.out.ext HX0.out)).mono ?_
  rintro e w1 ⟨rfl, hx1⟩
  have HX1 := hide (HX0.out.trans hx1)
  have k0 := (hx1.cells _ _ ks).trans k0
  have k1 := (hx1.cells _ _ ks).trans k1
  have ks := Nat.lt_of_lt_of_le ks hx1.size
  clear hx1
  cases hv1 : vMod ds cs with
  | false =>
    have HB := hide (show rb = false by rw [HRB.out, sbG, hv1]; rfl)
    have HI := hide (show ri = 0 by rw [HRI.out, sbI, sbG, hv1]; rfl)
    clear hv1
    go_wp2
    go_ret2
    exact Ret.mk (by rw [HB.out, HI.out]; rfl) HX1.out
  | true =>
    have HV1 := hide hv1
    clear hv1
    go_wp2_with fail
    refine (validObjective_any _ _ ds obj cs _ (hM0.out.ext HX1.out) (hO0.out.ext HX1.out)).mono ?_
    rintro e w2 ⟨rfl, hx2⟩
    have HX2 := hide (HX1.out.trans hx2)
    have k0 := (hx2.cells _ _ ks).trans k0
    have k1 := (hx2.cells _ _ ks).trans k1
    clear hx2
    cases hv2 : objB ds obj with
    | false =>
      have HB := hide (show rb = false by rw [HRB.out, sbG, hv2, Bool.and_false]; rfl)
      have HI := hide (show ri = 0 by rw [HRI.out, sbI, sbG, hv2, Bool.and_false]; rfl)
      clear hv2
      go_wp2
      go_ret2
      exact Ret.mk (by rw [HB.out, HI.out]; rfl) HX2.out
    | true =>
      have hv : (vMod ds cs && objB ds obj) = true := by rw [HV1.out, hv2]; rfl
      obtain ⟨hG, h1, h4⟩ := vMod_good HV1.out
      have hob : obj.length = ds.length ∧ allR obj (-9) 9 = true := by simpa [objB] using hv2
      have HG := hide hG
      have hgs := shaveL_good hG h4
      have HGS := hide hgs
      have HOL := hide hob.1
      have HOR := hide hob.2
      have HB := hide (show rb = !hasI (shaveL cs ds) 0 by rw [HRB.out, sbG, hv]; rfl)
      have HI := hide (show ri = if hasI (shaveL cs ds) 0 then 0 else lbK obj (shaveL cs ds) ds.length by
        rw [HRI.out, sbI, sbG, hv, Bool.true_and]
        cases hasI (shaveL cs ds) 0 <;> rfl)
      clear hv hv2 hG hob hgs
      go_wp2_with fail
      refine (shaveS_any _ ds cs _ (hM0.out.ext HX2.out) HG.out h4 h1).mono ?_
      rintro e w3 ⟨A3, c3, b3, m3, f3, rfl, hc3, hd3, hb3, ho3, hx3⟩
      have HS := hide (SInts.own hc3 hd3 ho3 HGS.out.i64)
      have HX3 := hide (HX2.out.trans hx3)
      obtain ⟨q, hq⟩ : ∃ q, q = shaveL cs ds := ⟨_, rfl⟩
      rw [← hq] at HS HGS HB HI ⊢
      have hql : q.length = ds.length := HGS.out.1
      have HQL := hide hql
      clear hx3 ho3 hc3 hd3 hb3 hq k0 k1 hql
      go_wp2_with fail
      refine (hasEmpty_any _ q _ HS.out).mono ?_
      rintro e w4 ⟨rfl, rfl⟩
      cases hh : hasI q 0 with
      | true =>
        have HB2 := hide (show rb = false by rw [HB.out, hh]; rfl)
        have HI2 := hide (show ri = 0 by rw [HI.out, hh]; rfl)
        clear hh
        go_wp2
        go_ret2
        exact Ret.mk (by rw [HB2.out, HI2.out]; rfl) HX3.out
      | false =>
        have HB2 := hide (show rb = true by rw [HB.out, hh]; rfl)
        have HI2 := hide (show ri = lbK obj q ds.length by rw [HI.out, hh]; rfl)
        have HF := hide (FullD.of HGS.out hh)
        clear hh
        go_wp2_with fail
        refine (domainsBound_any _ _ q obj _ HS.out (hO0.out.ext HX3.out) (by rw [HQL.out]; exact HOL.out) HF.out HOR.out (by rw [HQL.out]; exact h4)).mono ?_
        rintro e w5 ⟨rfl, hx5⟩
        have HX5 := hide (HX3.out.trans hx5)
        clear hx5
        rw [HQL.out, ← HI2.out]
        go_wp2
        go_ret2
        exact Ret.mk (by rw [HB2.out]; rfl) HX5.out
end Go.Proofs.YtalgilgfoekioaaGreatDoor
