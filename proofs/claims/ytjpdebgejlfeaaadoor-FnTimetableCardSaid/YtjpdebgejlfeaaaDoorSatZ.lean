/- When the values of its variables satisfy a constraint: plain Lean. -/
import Derived.Test.YtjpdebgejlfeaaaDoorPrp
import Derived.Test.YtjpdebgejlfeaaaDoorConsA
import Derived.Test.YtjpdebgejlfeaaaDoorUtlA
import Derived.Test.YtjpdebgejlfeaaaDoorFltZ
namespace Go.Proofs.YtjpdebgejlfeaaaDoor
open Go.RowKit

/-- The sum of the first k products. -/
def wsum (a x : List Int) : Nat → Int
  | 0 => 0
  | k + 1 => wsum a x k + at0 a k * at0 x k
/-- How many of the first k numbers are v. -/
def cntV (x : List Int) (v : Int) : Nat → Int
  | 0 => 0
  | k + 1 => if at0 x k == v then cntV x v k + 1 else cntV x v k
/-- Task i runs at time t. -/
def runsB (a x : List Int) (t : Int) (i : Nat) : Bool := decide (at0 x i ≤ t) && decide (t < at0 x i + at0 a i)
/-- What the first k tasks use at time t. -/
def loadT (a x : List Int) (n : Nat) (t : Int) : Nat → Int
  | 0 => 0
  | k + 1 => if runsB a x t k then loadT a x n t k + at0 a (n + k) else loadT a x n t k
def roomB (a : List Int) (b : Int) (x : List Int) : Bool := !anyB (fun t => decide (b < loadT a x x.length t x.length)) 15
/-- The state behind the first k values; below 0: none. -/
def runA (rs : List (List Int)) (x : List Int) : Nat → Int
  | 0 => 0
  | k + 1 => if runA rs x k < 0 then -1 else at0 (rw0 rs (runA rs x k).toNat) (at0 x k).toNat
def acceptB (rs : List (List Int)) (f x : List Int) : Bool := decide (0 ≤ runA rs x x.length) && hasI f (runA rs x x.length)
/-- Where the successors lead to from position 0. -/
def posC (x : List Int) : Nat → Int
  | 0 => 0
  | k + 1 => at0 x (posC x k).toNat
def cycB (x : List Int) : Bool := allR x 0 (x.length - 1) && ((posC x x.length == 0) && !anyB (fun k => decide (0 < k) && posC x k == 0) x.length)
/-- A constraint is satisfied by the values of its variables. -/
def satB (c : Con) (x : List Int) : Bool :=
  if c.kk = 1 then decide (wsum c.args x x.length ≤ c.bound)
  else if c.kk = 2 then at0 x 0 != at0 x 1 + at0 c.args 0
  else if c.kk = 3 then dst x
  else if c.kk = 4 then decide (at0 x 0 < c.args.length) && (at0 c.args (at0 x 0).toNat == at0 x 1)
  else if c.kk = 5 then anyB (fun i => decide (rw0 c.rows i = x)) c.rows.length
  else if c.kk = 6 then cntV x (at0 c.args 0) x.length == c.bound
  else if c.kk = 7 then roomB c.args c.bound x
  else if c.kk = 8 then acceptB c.rows c.args x
  else cycB x
theorem mul_bdS {a x A X : Int} (h1 : -A ≤ a) (h2 : a ≤ A) (h3 : 0 ≤ x) (h4 : x ≤ X) (hA : 0 ≤ A) : -(A * X) ≤ a * x ∧ a * x ≤ A * X := by
  have e1 : a * x ≤ A * x := Int.mul_le_mul_of_nonneg_right h2 h3
  have e2 : A * x ≤ A * X := Int.mul_le_mul_of_nonneg_left h4 hA
  have e3 : -A * x ≤ a * x := Int.mul_le_mul_of_nonneg_right h1 h3
  have e4 : -A * x = -(A * x) := Int.neg_mul A x
  omega
theorem wsum_bd {a x : List Int} (ha : allR a (-9) 9 = true) (hx : ValL x) (hl : a.length = x.length) : ∀ k, k ≤ x.length → -(45 * (k : Int)) ≤ wsum a x k ∧ wsum a x k ≤ 45 * k
  | 0, _ => by simp [wsum]
  | k + 1, h => by
    have ih := wsum_bd ha hx hl k (by omega)
    have h1 := allR_at ha (k := k) (by omega)
    have h2 := hx k (by omega)
    have := mul_bdS (A := 9) (X := 5) h1.1 h1.2 h2.1 h2.2 (by omega)
    rw [wsum]
    omega
theorem cntV_bd (x : List Int) (v : Int) : ∀ k, 0 ≤ cntV x v k ∧ cntV x v k ≤ k
  | 0 => by simp [cntV]
  | k + 1 => by
    have ih := cntV_bd x v k
    rw [cntV]
    split <;> omega
theorem loadT_bd {a x : List Int} {n : Nat} {t : Int} (ha : allR a 0 9 = true) (hl : a.length = 2 * n) : ∀ k, k ≤ n → 0 ≤ loadT a x n t k ∧ loadT a x n t k ≤ 9 * k
  | 0, _ => by simp [loadT]
  | k + 1, h => by
    have ih := loadT_bd (t := t) (x := x) ha hl k (by omega)
    have h1 := allR_at ha (k := n + k) (by omega)
    rw [loadT]
    split <;> omega
theorem posC_bd {x : List Int} (h : allR x 0 (x.length - 1) = true) (hp : 0 < x.length) : ∀ k, 0 ≤ posC x k ∧ posC x k < x.length
  | 0 => by simp [posC]; omega
  | k + 1 => by
    have ih := posC_bd h hp k
    have := allR_at h (k := (posC x k).toNat) (by omega)
    rw [posC]
    omega
theorem runA_neg {rs : List (List Int)} {x : List Int} {k : Nat} (h : runA rs x k < 0) : ∀ j, runA rs x (k + j) < 0
  | 0 => h
  | j + 1 => by
    rw [← Nat.add_assoc, runA, if_pos (runA_neg h j)]
    omega
theorem acceptB_no {rs : List (List Int)} {f x : List Int} {k : Nat} (hk : k ≤ x.length) (h : runA rs x k < 0) : acceptB rs f x = false := by
  have := runA_neg h (x.length - k)
  rw [show k + (x.length - k) = x.length by omega] at this
  unfold acceptB
  rw [decide_eq_false (by omega)]
  rfl
theorem roomB_no {a x : List Int} {b : Int} {t : Nat} (ht : t < 15) (h : b < loadT a x x.length t x.length) : roomB a b x = false := by
  unfold roomB
  rw [anyB_iff.2 ⟨t, ht, by simpa using h⟩]
  rfl
theorem roomB_yes {a x : List Int} {b : Int} (h : ∀ t, t < 15 → ¬ b < loadT a x x.length (t : Nat) x.length) : roomB a b x = true := by
  unfold roomB
  rw [anyB_false.2 fun i hi => by simpa using h i hi]
  rfl
/-- At the first return the positions decide. -/
theorem cycB_at {x : List Int} (hr : allR x 0 (x.length - 1) = true) {s : Nat} (h0 : 0 < s) (hs : s ≤ x.length) (hz : posC x s = 0) (hn : ∀ k, 0 < k → k < s → posC x k ≠ 0) : cycB x = decide (s = x.length) := by
  unfold cycB
  rw [hr]
  by_cases e : s = x.length
  · subst e
    rw [hz, anyB_false.2 fun k hk => by
      by_cases h0 : 0 < k
      · have := hn k h0 hk; simp [this]
      · simp [h0]]
    simp
  · rw [anyB_iff.2 ⟨s, by omega, by simp [h0, hz]⟩]
    simp [e]
theorem cycB_none {x : List Int} (hn : ∀ k, 0 < k → k ≤ x.length → posC x k ≠ 0) (h0 : 0 < x.length) : cycB x = false := by
  unfold cycB
  have := hn x.length h0 (Nat.le_refl _)
  simp [this]
theorem cycB_big {x : List Int} (hr : allR x 0 (x.length - 1) = false) : cycB x = false := by
  unfold cycB; rw [hr]; rfl
end Go.Proofs.YtjpdebgejlfeaaaDoor
/- When a constraint is satisfied: the walks of the program. -/
namespace Go.Proofs.YtjpdebgejlfeaaaDoor
open Go.RowKit

/-- v is a constraint that reads as c. -/
def SCon (w : World) (v : Value) (c : Con) : Prop := ∃ vv va vr, v = .agg #[.int .i64 c.kk, vv, va, .int .i64 c.bound, vr] ∧ SInts w vv c.vars ∧ SInts w va c.args ∧ SRows w vr c.rows
theorem SCon.ext {w w' : World} {v : Value} {c : Con} (h : SCon w v c) (hx : Ext w w') : SCon w' v c := by
  obtain ⟨vv, va, vr, h1, h2, h3, h4⟩ := h
  exact ⟨vv, va, vr, h1, h2.ext hx, h3.ext hx, h4.ext hx⟩
theorem AppI.lower {b b' : Nat} {w : World} {v : Value} {xs : List Int} (h : AppI b w v xs) (hb : b' ≤ b) : AppI b' w v xs := by
  refine ⟨h.1, ?_⟩
  rcases h.2 with hn | ⟨g, cap, cur, e, hg, rest⟩
  · exact .inl hn
  · exact .inr ⟨g, cap, cur, e, Nat.le_trans hb hg, rest⟩
set_option maxHeartbeats 2000000 in
theorem word_any (v vx : Value) (c : Con) (xs : List Int) (w : World) (hC : SCon w v c) (hX : SInts w vx xs) (hok : VarOK c.vars xs.length) (h4 : c.vars.length ≤ 100) :
    Calls Tryd.prog 87 #[v, vx] w (OwnRes (wordL c.vars xs) w) := by
  obtain ⟨vv, va, vr, rfl, hV, hA, hR⟩ := hC
  have hV0 := hide hV
  have hX0 := hide hX
  have HOK := hide hok
  obtain ⟨Av, cv, rfl, -, hlv⟩ := hV.form
  obtain ⟨Aa, ca, rfl, -, hla⟩ := hA.form
  obtain ⟨Ar, cr, rfl, -, hlr⟩ := hR.form
  obtain ⟨Ax, cx, rfl, -, hlx⟩ := hX.form
  clear hV hA hR hX hok
  have hx0 := (Ext.refl w).alloc (.cells #[.int .i64 c.kk, .slice Av c.vars.length cv, .slice Aa c.args.length ca, .int .i64 c.bound, .slice Ar c.rows.length cr] 60)
  have HX0 := hide hx0
  clear hx0
  go_enter Tryd.func87, Tryd.ntmps87
  go_wp2_with (at_make; go_must (refine wpList_mk0 _ rfl _ _ rfl c.vars.length rfl rfl (by omega) ?_); intro v1 w1 hA1 hx1; have k1 : w1.cell? ⟨w.heap.size, 1, none⟩ = some (.slice Av c.vars.length cv) := (hx1.cells _ _ (by simp)).trans (by go_simp))
  have HA1 := hide hA1
  have HX1 := hide (HX0.out.trans hx1)
  have HS := hide (Nat.le_trans HX0.out.size hx1.size)
  clear hA1 hx1
  go_loopw [5, 15] (fun v i wr => ∃ k : Nat, k ≤ c.vars.length ∧ i = .int .i64 k ∧ Ext w wr ∧ AppI w.heap.size wr v (wordL (c.vars.take k) xs)) (fun _ i _ => c.vars.length - (intOf i).toNat)
  case atStart => exact ⟨0, Nat.zero_le _, rfl, HX1.out, HA1.out.lower HX0.out.size⟩
  case round =>
    obtain ⟨k, hk, rfl, hx, hA⟩ := hrel
    have HA := hide hA
    have hlen : (wordL (c.vars.take k) xs).length = k := by rw [wordL_len, List.length_take]; omega
    obtain ⟨A, cc, hv, -⟩ := hA.form
    rw [hlen] at hv
    subst hv
    have HLEN := hide hlen
    have HXX := hide hx
    clear hA hlen
    by_cases hlt : k < c.vars.length
    · obtain ⟨b, off, rfl, hbl, f1⟩ := (hV0.out.ext hx).at_ hlt
      obtain ⟨hv0, hvl⟩ := HOK.out.rg k hlt
      obtain ⟨u, hu⟩ : ∃ u : Nat, at0 c.vars k = u := ⟨(at0 c.vars k).toNat, by omega⟩
      rw [hu] at f1 hv0 hvl
      have hul : u < xs.length := by omega
      have hulI : (u : Int) < xs.length := by omega
      obtain ⟨bx, ox, rfl, hbx, f2⟩ := (hX0.out.ext hx).at_ hul
      have HK := hide (show wordL (c.vars.take k) xs ++ [at0 xs u] = wordL (c.vars.take (k + 1)) xs by
        unfold wordL
        rw [List.take_add_one, List.map_append, List.getElem?_eq_getElem hlt]
        have e : at0 c.vars k = c.vars[k] := getD_lt _ _ hlt
        have : (c.vars[k]).toNat = u := by rw [← e, hu]; rfl
        simp [this])
      have hs := hx.size
      have HI := hide ((hX0.out.ext hx).i64 hul)
      clear hu hx hv0 hvl
      go_wp2_with (at_builtin; go_must (refine wpList_app1 _ rfl _ _ rfl w.heap.size _ (wordL (c.vars.take k) xs) (at0 xs u) _ 1 rfl rfl (HA.out.ext ((Ext.refl _).alloc _)) (by go_simp) (by rw [HLEN.out]; omega) (by simp; omega) ?_); intro v' w2 hA2 hb2)
      go_roundw
      case rel => exact ⟨k + 1, by omega, by go_num, (HXX.out.alloc _).below hb2, by rw [← HK.out]; exact hA2⟩
      case measure => simp [intOf]; omega
    · obtain rfl : k = c.vars.length := by omega
      have HT := hide (show wordL (c.vars.take c.vars.length) xs = wordL c.vars xs by rw [List.take_length])
      go_wp2
      go_ret
      have hr := HA.out.res HXX.out (by rw [HLEN.out]; omega)
      rw [HT.out] at hr
      exact hr
set_option maxHeartbeats 1000000 in
theorem weighted_any (va vx : Value) (a x : List Int) (w : World) (hA : SInts w va a) (hX : SInts w vx x) (ha : allR a (-9) 9 = true) (hx : ValL x) (hl : a.length = x.length) (h4 : x.length ≤ 100) :
    Calls Tryd.prog 94 #[va, vx] w fun e w' => e = .returned (.int .i64 (wsum a x x.length)) ∧ w = w' := by
  have hA0 := hide hA
  have hX0 := hide hX
  have HA := hide ha
  have HX := hide hx
  have HL := hide hl
  obtain ⟨Aa, ca, rfl, -, hla⟩ := hA.form
  obtain ⟨Ax, cx, rfl, -, hlx⟩ := hX.form
  clear hA hX ha hx hl
  go_enter Tryd.func94, Tryd.ntmps94
  go_wp2
  go_loop [5, 10] (fun s i => ∃ k : Nat, k ≤ a.length ∧ i = .int .i64 k ∧ s = .int .i64 (wsum a x k)) (fun _ i => a.length - (intOf i).toNat)
  case atStart => exact ⟨0, Nat.zero_le _, rfl, rfl⟩
  case round =>
    obtain ⟨k, hk, rfl, rfl⟩ := hrel
    by_cases hlt : k < a.length
    · have hlx2 : k < x.length := by rw [← HL.out]; exact hlt
      have hkI : (k : Int) < x.length := by omega
      obtain ⟨b, off, rfl, hbl, f1⟩ := hA0.out.at_ hlt
      obtain ⟨bx, ox, rfl, hbx, f2⟩ := hX0.out.at_ hlx2
      have h1 := wsum_bd HA.out HX.out HL.out k (by have := HL.out; omega)
      have h2 := allR_at HA.out hlt
      have h3 := HX.out k hlx2
      have h5 := mul_bdS (A := 9) (X := 5) h2.1 h2.2 h3.1 h3.2 (by omega)
      obtain ⟨p, hp⟩ : ∃ p, p = at0 a k * at0 x k := ⟨_, rfl⟩
      have HK := hide (show wsum a x k + p = wsum a x (k + 1) by rw [hp]; rfl)
      rw [← hp] at h5
      have kp : IntKind.i64.wrap (at0 a k * at0 x k) = p := by rw [← hp]; exact IntWalk.i64_in _ (by omega)
      clear hp
      go_wp2
      go_round
      case rel => exact ⟨k + 1, by omega, by go_num, by rw [← HK.out]⟩
      case measure => simp [intOf]; omega
    · obtain rfl : k = a.length := by omega
      have HE := hide HL.out
      have hkI : ¬ ((a.length : Int) < a.length) := by omega
      go_wp2
      go_ret
      exact ⟨ret_i (congrArg (wsum a x) HE.out), rfl⟩
set_option maxHeartbeats 4000000 in
theorem roomy_any (v vx : Value) (c : Con) (x : List Int) (w : World) (hC : SCon w v c) (hX : SInts w vx x) (ha : allR c.args 0 9 = true) (hb : inR c.bound 0 9 = true) (hx : ValL x) (hl : c.args.length = 2 * x.length) (h4 : x.length ≤ 100) :
    Calls Tryd.prog 96 #[v, vx] w (Ret (.bool (roomB c.args c.bound x)) w) := by
  obtain ⟨vv, va, vr, rfl, hV, hA, hR⟩ := hC
  have hX0 := hide hX
  have HAR := hide ha
  have HXV := hide hx
  have HL := hide hl
  obtain ⟨Av, cv, rfl, -, hlv⟩ := hV.form
  obtain ⟨Aa, ca, rfl, -, hla⟩ := hA.form
  obtain ⟨Ar, cr, rfl, -, hlr⟩ := hR.form
  obtain ⟨Ax, cx, rfl, -, hlx⟩ := hX.form
  have hx0 := (Ext.refl w).alloc (.cells #[.int .i64 c.kk, .slice Av c.vars.length cv, .slice Aa c.args.length ca, .int .i64 c.bound, .slice Ar c.rows.length cr] 60)
  have HX0 := hide hx0
  have hA0 := hide (hA.ext hx0)
  have hX0 := hide (hX.ext hx0)
  have hbb : 0 ≤ c.bound ∧ c.bound ≤ 9 := by simpa [inR] using hb
  clear hx0 hV hA hR hX ha hx hl hb
  go_enter Tryd.func96, Tryd.ntmps96
  go_wp2
  go_loop [12] (fun i => ∃ t : Nat, t ≤ 15 ∧ i = .int .i64 t ∧ ∀ u, u < t → ¬ c.bound < loadT c.args x x.length (u : Nat) x.length) (fun i => 15 - (intOf i).toNat)
  case atStart => exact ⟨0, by omega, rfl, fun u hu => by omega⟩
  case round =>
    obtain ⟨t, ht, rfl, hno⟩ := hrel
    have HNO := hide hno
    clear hno
    by_cases htl : t < 15
    · have htI : (t : Int) < 15 := by omega
      have htI2 : (t : Int) ≤ 14 := by omega
      go_wp2
      go_loop [7, 17] (fun s i => ∃ k : Nat, k ≤ x.length ∧ i = .int .i64 k ∧ s = .int .i64 (loadT c.args x x.length t k)) (fun _ i => x.length - (intOf i).toNat)
      case atStart => exact ⟨0, by omega, rfl, rfl⟩
      case round =>
        obtain ⟨k, hk, rfl, rfl⟩ := hrel
        by_cases hlt : k < x.length
        · have hkI : (k : Int) < x.length := by omega
          have hka : k < c.args.length := by have := HL.out; omega
          have hka2 : x.length + k < c.args.length := by have := HL.out; omega
          have hkaI : (k : Int) < c.args.length := by omega
          have hka2I : (x.length : Int) + (k : Int) < c.args.length := by omega
          obtain ⟨bx, ox, rfl, hbx, f2⟩ := hX0.out.at_ hlt
          obtain ⟨b, off, rfl, hbl, f1⟩ := hA0.out.at_ hka
          have f3 := hA0.out.cell_ hka2
          have hld := loadT_bd (x := x) (t := t) HAR.out HL.out k hk
          have h1 := allR_at HAR.out hka
          have h2 := allR_at HAR.out hka2
          have h3 := HXV.out k hlt
          by_cases hr : runsB c.args x t k = true
          · have HK := hide (show loadT c.args x x.length t k + at0 c.args (x.length + k) = loadT c.args x x.length t (k + 1) by rw [loadT, if_pos hr])
            have hr2 : at0 x k ≤ t ∧ (t : Int) < at0 x k + at0 c.args k := by simpa [runsB] using hr
            obtain ⟨hr3, hr4⟩ := hr2
            clear hr
            go_wp2
            go_round
            case rel => exact ⟨k + 1, by omega, by go_num, by rw [← HK.out]⟩
            case measure => simp [intOf]; omega
          · have HK := hide (show loadT c.args x x.length t k = loadT c.args x x.length t (k + 1) by rw [loadT, if_neg hr])
            by_cases hr3 : at0 x k ≤ t
            · have hr4 : ¬ (t : Int) < at0 x k + at0 c.args k := by
                intro h; exact hr (by simp [runsB, hr3, h])
              clear hr
              go_wp2
              go_round
              case rel => exact ⟨k + 1, by omega, by go_num, by rw [← HK.out]⟩
              case measure => simp [intOf]; omega
            · clear hr
              go_wp2
              go_round
              case rel => exact ⟨k + 1, by omega, by go_num, by rw [← HK.out]⟩
              case measure => simp [intOf]; omega
        · obtain rfl : k = x.length := by omega
          have hkI : ¬ ((x.length : Int) < x.length) := by omega
          have hld := loadT_bd (x := x) (t := t) HAR.out HL.out x.length (Nat.le_refl _)
          by_cases hbl : c.bound < loadT c.args x x.length t x.length
          · have HR := hide (roomB_no htl hbl)
            go_wp2
            go_ret
            exact Ret.mk (ret_b HR.out.symm) HX0.out
          · have HB := hide hbl
            go_wp2
            go_round
            case rel => exact ⟨t + 1, by omega, by go_num, fun u hu => by
              by_cases e : u = t
              · subst e; exact HB.out
              · have := HNO.out u (by omega); omega⟩
            case measure => simp [intOf]; omega
    · obtain rfl : t = 15 := by omega
      have HR := hide (roomB_yes HNO.out)
      go_wp2
      go_ret
      exact Ret.mk (ret_b HR.out.symm) HX0.out
set_option maxHeartbeats 4000000 in
theorem accepts_any (v vx : Value) (c : Con) (x : List Int) (w : World) (hC : SCon w v c) (hX : SInts w vx x) (hr : vRows c.rows 6 (-1) (c.rows.length - 1) = true) (hx : ValL x) (h4 : x.length ≤ 100) :
    Calls Tryd.prog 97 #[v, vx] w (Ret (.bool (acceptB c.rows c.args x)) w) := by
  obtain ⟨vv, va, vr, rfl, hV, hA, hR⟩ := hC
  have HVR := hide hr
  have HXV := hide hx
  obtain ⟨Av, cv, rfl, -, hlv⟩ := hV.form
  obtain ⟨Aa, ca, rfl, -, hla⟩ := hA.form
  obtain ⟨Ar, cr, rfl, -, hlr⟩ := hR.form
  obtain ⟨Ax, cx, rfl, -, hlx⟩ := hX.form
  have hrl := vRows_len hr
  have hx0 := (Ext.refl w).alloc (.cells #[.int .i64 c.kk, .slice Av c.vars.length cv, .slice Aa c.args.length ca, .int .i64 c.bound, .slice Ar c.rows.length cr] 60)
  have HX0 := hide hx0
  have hA0 := hide (hA.ext hx0)
  have hR0 := hide (hR.ext hx0)
  have hX0 := hide (hX.ext hx0)
  clear hx0 hV hA hR hX hr hx
  go_enter Tryd.func97, Tryd.ntmps97
  go_wp2
  go_loop [5, 10] (fun s i => ∃ k : Nat, k ≤ x.length ∧ i = .int .i64 k ∧ s = .int .i64 (runA c.rows x k) ∧ 0 ≤ runA c.rows x k ∧ runA c.rows x k < c.rows.length) (fun _ i => x.length - (intOf i).toNat)
  case atStart => exact ⟨0, by omega, rfl, rfl, by simp [runA], by simp [runA]; omega⟩
  case round =>
    obtain ⟨k, hk, rfl, rfl, hs0, hs1⟩ := hrel
    by_cases hlt : k < x.length
    · have hkI : (k : Int) < x.length := by omega
      obtain ⟨s, hs⟩ : ∃ s : Nat, runA c.rows x k = s := ⟨(runA c.rows x k).toNat, by omega⟩
      rw [hs] at hs0 hs1
      have hsl : s < c.rows.length := by omega
      obtain ⟨bx, ox, rfl, hbx, f1⟩ := hX0.out.at_ hlt
      have h3 := HXV.out k hlt
      obtain ⟨u, hu⟩ : ∃ u : Nat, at0 x k = u := ⟨(at0 x k).toNat, by omega⟩
      rw [hu] at f1 h3
      obtain ⟨br, orr, A', c', rfl, hbl, f2, hrow⟩ := hR0.out.at_ hsl
      obtain ⟨q1, q2⟩ := vRows_at HVR.out hsl
      have hul : u < (rw0 c.rows s).length := by omega
      have hulI : (u : Int) < (rw0 c.rows s).length := by omega
      obtain ⟨b3, o3, rfl, hb3, f3⟩ := hrow.at_ hul
      have h5 := allR_at q2 hul
      have HK := hide (show runA c.rows x (k + 1) = at0 (rw0 c.rows s) u by rw [runA, hs, hu, if_neg (by omega)]; rfl)
      have HS := hide hs
      have HI := hide (hrow.i64 hul)
      have hq1 := hide q1
      rw [hs]
      clear hs hu hrow q2 q1
      by_cases hneg : at0 (rw0 c.rows s) u < 0
      · have HN := hide (acceptB_no (f := c.args) (show k + 1 ≤ x.length by omega) (by rw [HK.out]; exact hneg))
        go_wp2
        go_ret
        exact Ret.mk (ret_b HN.out.symm) HX0.out
      · have HN := hide hneg
        go_wp2
        go_round
        case rel => exact ⟨k + 1, by omega, by go_num, by rw [HK.out], by rw [HK.out]; omega, by rw [HK.out]; omega⟩
        case measure => simp [intOf]; omega
    · obtain rfl : k = x.length := by omega
      have hkI : ¬ ((x.length : Int) < x.length) := by omega
      have HQ := hide (show acceptB c.rows c.args x = hasI c.args (runA c.rows x x.length) by unfold acceptB; rw [decide_eq_true hs0, Bool.true_and])
      clear hs0 hs1
      go_wp2_with (go_at_call 43; refine (Contains_any _ c.args _ _ hA0.out).mono ?_; rintro e w' ⟨rfl, rfl⟩)
      go_ret
      exact Ret.mk (ret_b HQ.out.symm) HX0.out
theorem cycle1_any (n : Int) (A : Option Addr) (m c b : Nat) (w : World) (h : w.cell? ⟨b, 0, none⟩ = some (.slice A m c)) :
    Calls Tryd.prog 100 #[.int .i64 n, .pointer (some ⟨b, 0, none⟩)] w (Ret (.bool (decide ((m : Int) ≤ n))) w) := by
  go_enter Tryd.func100, Tryd.ntmps100
  go_wp2
  go_ret
  exact Ret.same rfl
theorem bigs {x : List Int} (hx : ValL x) : anyB (fun i => decide ((x.length : Int) ≤ at0 x i)) x.length = !allR x 0 (x.length - 1) := by
  rw [Bool.eq_iff_iff, anyB_iff, Bool.not_eq_true']
  constructor
  · rintro ⟨i, hi, h⟩
    exact allR_no hi (by simp [inR] at h ⊢; omega)
  · intro h
    rw [← Bool.not_eq_true] at h
    by_cases hh : ∃ i, i < x.length ∧ (x.length : Int) ≤ at0 x i
    · obtain ⟨i, hi, h2⟩ := hh; exact ⟨i, hi, by simpa using h2⟩
    · refine absurd (allR_of fun j hj => ?_) h
      have h1 := hx j hj
      have h2 : ¬ (x.length : Int) ≤ at0 x j := fun e => hh ⟨j, hj, e⟩
      simp [inR]; omega
set_option maxHeartbeats 4000000 in
theorem cycle_any (vx : Value) (x : List Int) (w : World) (hX : SInts w vx x) (hx : ValL x) (h0 : 0 < x.length) (h4 : x.length ≤ 100) :
    Calls Tryd.prog 98 #[vx] w (Ret (.bool (cycB x)) w) := by
  have HXV := hide hx
  have hb := hide (bigs hx)
  obtain ⟨Ax, cx, rfl, -, hlx⟩ := hX.form
  have hx0 := (Ext.refl w).alloc (.cells #[.slice Ax x.length cx] 24)
  have HX0 := hide hx0
  have hX0 := hide (hX.ext hx0)
  have k0 := hide (show (w.alloc (.cells #[.slice Ax x.length cx] 24)).cell? ⟨w.heap.size, 0, none⟩ = some (.slice Ax x.length cx) by go_simp)
  clear hX hx hx0
  go_enter Tryd.func98, Tryd.ntmps98
  go_wp2_with fail
  refine (ContainsFuncI_any _ x 100 #[.pointer (some ⟨w.heap.size, 0, none⟩)] (fun i => decide ((x.length : Int) ≤ at0 x i)) _ hX0.out (fun args W => callFunc_body Tryd.func100 (by kernel_rfl) (by kernel_rfl) args W) (hide fun i hi W hW => cycle1_any _ Ax x.length cx w.heap.size W ((hW.cells _ _ (by simp)).trans k0.out))).mono ?_
  rintro e w2 ⟨rfl, hx2⟩
  rw [hb.out]
  have b0 : w2.cell? ⟨w.heap.size, 0, none⟩ = some (.slice Ax x.length cx) := (hx2.cells _ _ (by simp)).trans k0.out
  have HX2 := hide (HX0.out.trans hx2)
  have hX2 := hide (hX0.out.ext hx2)
  clear hx2
  cases hq : allR x 0 (x.length - 1) with
  | false =>
    have HQ := hide (cycB_big hq)
    clear hq
    go_wp2
    go_ret
    exact Ret.mk (ret_b HQ.out.symm) HX2.out
  | true =>
    have HQ := hide hq
    clear hq
    have h0I : (0 : Int) < x.length := by omega
    obtain ⟨bx, ox, rfl, hbx, f1⟩ := hX2.out.at_ h0
    have hp1 : at0 x 0 = posC x 1 := rfl
    rw [hp1] at f1
    have f1 : w2.cell? ⟨bx, ox, none⟩ = some (.int .i64 (posC x 1)) := f1
    clear hp1
    go_wp2
    go_loop [3, 4] (fun a i => ∃ s : Nat, 0 < s ∧ s ≤ x.length + 1 ∧ i = .int .i64 s ∧ a = .int .i64 (posC x s) ∧ ∀ k, 0 < k → k < s → posC x k ≠ 0) (fun _ i => x.length + 1 - (intOf i).toNat)
    case atStart => exact ⟨1, by omega, by omega, rfl, rfl, fun k h1 h2 => by omega⟩
    case round =>
      obtain ⟨s, hs0, hs1, rfl, rfl, hno⟩ := hrel
      have HNO := hide hno
      clear hno
      have hpb := posC_bd HQ.out h0 s
      by_cases hz : posC x s = 0
      · rw [hz]
        by_cases hsl : s ≤ x.length
        · have HR := hide (cycB_at HQ.out hs0 hsl hz HNO.out)
          have HZ := hide hz
          clear hz
          go_wp2
          go_ret
          exact Ret.mk (ret_b (by rw [HR.out]; rw [Bool.eq_iff_iff]; simp; try omega)) HX2.out
        · have HR := hide (cycB_none (fun k h1 h2 => HNO.out k h1 (by omega)) h0)
          have hne : ((s : Int) == x.length) = false := by simp; omega
          have hne2 : decide (s = x.length) = false := by simp; omega
          have hne3 : (s == x.length) = false := by simp; omega
          have HZ := hide hz
          clear hz
          go_wp2
          go_ret
          exact Ret.mk (ret_b HR.out.symm) HX2.out
      · have hzb : (posC x s == 0) = false := by simpa using hz
        have hzb2 : (posC x s != 0) = true := by simpa using hz
        have HZ := hide hz
        clear hz
        by_cases hsl : s ≤ x.length
        · obtain ⟨u, hu⟩ : ∃ u : Nat, posC x s = u := ⟨(posC x s).toNat, by omega⟩
          have HS := hide (show posC x (s + 1) = at0 x u by rw [posC, hu]; rfl)
          rw [hu] at hpb hzb hzb2 ⊢
          have hul : u < x.length := by omega
          have f2 := hX2.out.cell_ hul
          have hsI : (s : Int) ≤ x.length := by omega
          have HU := hide hu
          clear hu
          go_wp2
          go_round
          case rel => exact ⟨s + 1, by omega, by omega, by go_num, by rw [HS.out], fun k h1 h2 => by
            by_cases e : k = s
            · subst e; exact HZ.out
            · exact HNO.out k h1 (by omega)⟩
          case measure => simp [intOf]; omega
        · have HR := hide (cycB_none (fun k h1 h2 => HNO.out k h1 (by omega)) h0)
          have hsI : ¬ (s : Int) ≤ x.length := by omega
          go_wp2
          go_ret
          exact Ret.mk (ret_b HR.out.symm) HX2.out
end Go.Proofs.YtjpdebgejlfeaaaDoor
/- When a constraint is satisfied: satisfied of the program, kind by kind. -/
namespace Go.Proofs.YtjpdebgejlfeaaaDoor
open Go.RowKit

theorem eqRow_any (v vx : Value) (xs x : List Int) (b : Nat) (w : World) (hS : SInts w v xs) (hX : SInts w vx x) (h : w.cell? ⟨b, 0, none⟩ = some vx) :
    Calls Tryd.prog 95 #[v, .pointer (some ⟨b, 0, none⟩)] w (Ret (.bool (decide (xs = x))) w) := by
  have hS0 := hide hS
  have hX0 := hide hX
  obtain ⟨A, c, rfl, -⟩ := hS.form
  obtain ⟨A', c', rfl, -⟩ := hX.form
  clear hS hX
  go_enter Tryd.func95, Tryd.ntmps95
  go_wp2_with fail
  refine (EqualI_any _ _ xs x _ hS0.out hX0.out).mono ?_
  rintro e w2 ⟨rfl, hx2⟩
  go_wp2
  go_ret
  exact Ret.mk rfl hx2
set_option maxRecDepth 100000 in
set_option maxHeartbeats 4000000 in
theorem sat_1 (vv va vr vx : Value) (vars args : List Int) (b : Int) (rows : List (List Int)) (x : List Int) (w : World) (hV : SInts w vv vars) (hA : SInts w va args) (hR : SRows w vr rows) (hX : SInts w vx x) (hx : ValL x) (hl : x.length = vars.length) (h4 : x.length ≤ 4) (h1 : 1 ≤ x.length) (ha : allR args (-9) 9 = true) (hal : args.length = vars.length) :
    Calls Tryd.prog 88 #[.agg #[.int .i64 1, vv, va, .int .i64 b, vr], vx] w (Ret (.bool (satB ⟨1, vars, args, b, rows⟩ x)) w) := by
  have HXV := hide hx
  have HL := hide hl
  obtain ⟨Av, cv, rfl, -, hlv⟩ := hV.form
  obtain ⟨Aa, ca, rfl, -, hla⟩ := hA.form
  obtain ⟨Ar, cr, rfl, -, hlr⟩ := hR.form
  obtain ⟨Ax, cx, rfl, -, hlx⟩ := hX.form
  have hx0 := ((Ext.refl w).alloc (.cells #[.int .i64 1, .slice Av vars.length cv, .slice Aa args.length ca, .int .i64 b, .slice Ar rows.length cr] 60)).alloc (.cells #[.slice Ax x.length cx] 24)
  have HX0 := hide hx0
  have hV0 := hide (hV.ext hx0)
  have hA0 := hide (hA.ext hx0)
  have hR0 := hide (hR.ext hx0)
  have hX0 := hide (hX.ext hx0)
  clear hx0 hV hA hR hX hx hl
  have HA := hide ha
  have HAL := hide (hal.trans HL.out.symm)
  have HS := hide (show satB ⟨1, vars, args, b, rows⟩ x = decide (wsum args x x.length ≤ b) from rfl)
  clear ha hal
  go_enter Tryd.func88, Tryd.ntmps88
  go_wp2
  refine wp_region_ext (by kernel_rfl) (by kernel_rfl) ?_
  iterate 3 (apply quiet_val; (focus rfl); (focus (intro w' hw'; have hk' := hw'.cells; go_simp; all_goals exact rfl)); simp only [Act.put, List.setIfInBounds_toArray, List.set_cons_succ, List.set_cons_zero])
  apply quiet_call; (focus rfl); (focus (intro w' hw'; go_simp; all_goals (first | exact rfl | (apply And.intro <;> exact rfl))))
  · exact fun w' hw' => same_quiet (weighted_any _ _ args x w' (hA0.out.ext hw') (hX0.out.ext hw') HA.out HXV.out HAL.out (by omega)) hw'
  (simp only [Act.put, List.setIfInBounds_toArray, List.set_cons_succ, List.set_cons_zero])
  iterate 4 (apply quiet_val; (focus rfl); (focus (intro w' hw'; have hk' := hw'.cells; go_simp; all_goals exact rfl)); simp only [Act.put, List.setIfInBounds_toArray, List.set_cons_succ, List.set_cons_zero])
  refine wpQuiet_nil ?_
  intro w2 hx2
  have HX2 := hide (HX0.out.trans hx2)
  clear hx2
  go_wp2
  go_ret
  exact Ret.mk (ret_b HS.out.symm) HX2.out
set_option maxRecDepth 100000 in
set_option maxHeartbeats 4000000 in
theorem sat_2 (vv va vr vx : Value) (vars args : List Int) (b : Int) (rows : List (List Int)) (x : List Int) (w : World) (hV : SInts w vv vars) (hA : SInts w va args) (hR : SRows w vr rows) (hX : SInts w vx x) (hx : ValL x) (hl : x.length = vars.length) (_h4 : x.length ≤ 4) (_h1 : 1 ≤ x.length) (ha : allR args (-9) 9 = true) (hal : args.length = 1) (hv2 : vars.length = 2) :
    Calls Tryd.prog 88 #[.agg #[.int .i64 2, vv, va, .int .i64 b, vr], vx] w (Ret (.bool (satB ⟨2, vars, args, b, rows⟩ x)) w) := by
  have HXV := hide hx
  have HL := hide hl
  obtain ⟨Av, cv, rfl, -, hlv⟩ := hV.form
  obtain ⟨Aa, ca, rfl, -, hla⟩ := hA.form
  obtain ⟨Ar, cr, rfl, -, hlr⟩ := hR.form
  obtain ⟨Ax, cx, rfl, -, hlx⟩ := hX.form
  have hx0 := ((Ext.refl w).alloc (.cells #[.int .i64 2, .slice Av vars.length cv, .slice Aa args.length ca, .int .i64 b, .slice Ar rows.length cr] 60)).alloc (.cells #[.slice Ax x.length cx] 24)
  have HX0 := hide hx0
  have hV0 := hide (hV.ext hx0)
  have hA0 := hide (hA.ext hx0)
  have hR0 := hide (hR.ext hx0)
  have hX0 := hide (hX.ext hx0)
  clear hx0 hV hA hR hX hx hl
  have HS := hide (show satB ⟨2, vars, args, b, rows⟩ x = (at0 x 0 != at0 x 1 + at0 args 0) from rfl)
  have hx2l : x.length = 2 := HL.out.trans hv2
  have g0 := HXV.out 0 (by omega)
  have g1 := HXV.out 1 (by omega)
  have g2 := allR_at ha (k := 0) (by omega)
  have c2 : ((w.alloc (.cells #[.int .i64 2, .slice Av vars.length cv, .slice Aa args.length ca, .int .i64 b, .slice Ar rows.length cr] 60)).alloc (.cells #[.slice Ax x.length cx] 24)).cell? ⟨w.heap.size, 2, none⟩ = some (.slice Aa args.length ca) := by go_simp
  have cx0 : ((w.alloc (.cells #[.int .i64 2, .slice Av vars.length cv, .slice Aa args.length ca, .int .i64 b, .slice Ar rows.length cr] 60)).alloc (.cells #[.slice Ax x.length cx] 24)).cell? ⟨w.heap.size + 1, 0, none⟩ = some (.slice Ax x.length cx) := by go_simp
  have z0 : w.heap.size < ((w.alloc (.cells #[.int .i64 2, .slice Av vars.length cv, .slice Aa args.length ca, .int .i64 b, .slice Ar rows.length cr] 60)).alloc (.cells #[.slice Ax x.length cx] 24)).heap.size := by rw [World.size_alloc, World.size_alloc]; omega
  have z1 : w.heap.size + 1 < ((w.alloc (.cells #[.int .i64 2, .slice Av vars.length cv, .slice Aa args.length ca, .int .i64 b, .slice Ar rows.length cr] 60)).alloc (.cells #[.slice Ax x.length cx] 24)).heap.size := by simp
  obtain ⟨W0, hW0⟩ : ∃ W0, W0 = ((w.alloc (.cells #[.int .i64 2, .slice Av vars.length cv, .slice Aa args.length ca, .int .i64 b, .slice Ar rows.length cr] 60)).alloc (.cells #[.slice Ax x.length cx] 24)) := ⟨_, rfl⟩
  rw [← hW0] at c2 cx0 z0 z1 hX0 hA0 HX0
  obtain ⟨bx, ox, rfl, hbx, f0⟩ := hX0.out.at_ (k := 0) (by omega)
  have f1 := hX0.out.cell_ (k := 1) (by omega)
  obtain ⟨ba, oa, rfl, hba, f2⟩ := hA0.out.at_ (k := 0) (by omega)
  have i0 : 0 < x.length := by omega
  have i1 : (1 : Int) < x.length := by omega
  have i2 : 0 < args.length := by omega
  simp only [Nat.add_zero] at f0 f2
  have ks : IntKind.i64.wrap (at0 x 1 + at0 args 0) = at0 x 1 + at0 args 0 := IntWalk.i64_in _ (by omega)
  have HH := hide hx2l
  clear hx2l ha hal hv2
  go_enter Tryd.func88, Tryd.ntmps88
  go_wp2
  rw [← hW0]
  clear hW0
  refine wp_region_ext (by kernel_rfl) (by kernel_rfl) ?_
  iterate 13 (apply quiet_val; (focus rfl); (focus (intro w' hw'; have hk' := hw'.cells; go_simp; all_goals exact rfl)); simp only [Act.put, List.setIfInBounds_toArray, List.set_cons_succ, List.set_cons_zero])
  refine wpQuiet_nil ?_
  intro w2 hx2
  have HX2 := hide (HX0.out.trans hx2)
  clear hx2 ks
  go_wp2
  go_ret
  exact Ret.mk (ret_b HS.out.symm) HX2.out
set_option maxRecDepth 100000 in
set_option maxHeartbeats 4000000 in
theorem sat_3 (vv va vr vx : Value) (vars args : List Int) (b : Int) (rows : List (List Int)) (x : List Int) (w : World) (hV : SInts w vv vars) (hA : SInts w va args) (hR : SRows w vr rows) (hX : SInts w vx x) (hx : ValL x) (hl : x.length = vars.length) (_h4 : x.length ≤ 4) (_h1 : 1 ≤ x.length)  :
    Calls Tryd.prog 88 #[.agg #[.int .i64 3, vv, va, .int .i64 b, vr], vx] w (Ret (.bool (satB ⟨3, vars, args, b, rows⟩ x)) w) := by
  have HXV := hide hx
  have HL := hide hl
  obtain ⟨Av, cv, rfl, -, hlv⟩ := hV.form
  obtain ⟨Aa, ca, rfl, -, hla⟩ := hA.form
  obtain ⟨Ar, cr, rfl, -, hlr⟩ := hR.form
  obtain ⟨Ax, cx, rfl, -, hlx⟩ := hX.form
  have hx0 := ((Ext.refl w).alloc (.cells #[.int .i64 3, .slice Av vars.length cv, .slice Aa args.length ca, .int .i64 b, .slice Ar rows.length cr] 60)).alloc (.cells #[.slice Ax x.length cx] 24)
  have HX0 := hide hx0
  have hV0 := hide (hV.ext hx0)
  have hA0 := hide (hA.ext hx0)
  have hR0 := hide (hR.ext hx0)
  have hX0 := hide (hX.ext hx0)
  clear hx0 hV hA hR hX hx hl
  have HS := hide (show satB ⟨3, vars, args, b, rows⟩ x = dst x from rfl)
  go_enter Tryd.func88, Tryd.ntmps88
  go_wp2_with (go_at_call 73; refine (distinct_any _ x _ hX0.out).mono ?_; rintro e w' ⟨rfl, rfl⟩)
  go_ret
  exact Ret.mk (ret_b HS.out.symm) HX0.out
set_option maxRecDepth 100000 in
set_option maxHeartbeats 4000000 in
theorem sat_5 (vv va vr vx : Value) (vars args : List Int) (b : Int) (rows : List (List Int)) (x : List Int) (w : World) (hV : SInts w vv vars) (hA : SInts w va args) (hR : SRows w vr rows) (hX : SInts w vx x) (hx : ValL x) (hl : x.length = vars.length) (_h4 : x.length ≤ 4) (_h1 : 1 ≤ x.length)  :
    Calls Tryd.prog 88 #[.agg #[.int .i64 5, vv, va, .int .i64 b, vr], vx] w (Ret (.bool (satB ⟨5, vars, args, b, rows⟩ x)) w) := by
  have HXV := hide hx
  have HL := hide hl
  obtain ⟨Av, cv, rfl, -, hlv⟩ := hV.form
  obtain ⟨Aa, ca, rfl, -, hla⟩ := hA.form
  obtain ⟨Ar, cr, rfl, -, hlr⟩ := hR.form
  obtain ⟨Ax, cx, rfl, -, hlx⟩ := hX.form
  have hx0 := ((Ext.refl w).alloc (.cells #[.int .i64 5, .slice Av vars.length cv, .slice Aa args.length ca, .int .i64 b, .slice Ar rows.length cr] 60)).alloc (.cells #[.slice Ax x.length cx] 24)
  have HX0 := hide hx0
  have hV0 := hide (hV.ext hx0)
  have hA0 := hide (hA.ext hx0)
  have hR0 := hide (hR.ext hx0)
  have hX0 := hide (hX.ext hx0)
  clear hx0 hV hA hR hX hx hl
  have HS := hide (show satB ⟨5, vars, args, b, rows⟩ x = anyB (fun i => decide (rw0 rows i = x)) rows.length from rfl)
  have k1 := hide (show ((w.alloc (.cells #[.int .i64 5, .slice Av vars.length cv, .slice Aa args.length ca, .int .i64 b, .slice Ar rows.length cr] 60)).alloc (.cells #[.slice Ax x.length cx] 24)).cell? ⟨w.heap.size + 1, 0, none⟩ = some (.slice Ax x.length cx) by go_simp)
  go_enter Tryd.func88, Tryd.ntmps88
  go_wp2_with fail
  refine (ContainsFuncR_any _ rows 95 #[.pointer (some ⟨w.heap.size + 1, 0, none⟩)] (fun i => decide (rw0 rows i = x)) _ hR0.out (fun args W => callFunc_body Tryd.func95 (by kernel_rfl) (by kernel_rfl) args W) (hide fun i hi rv W hW hrv => eqRow_any rv (.slice Ax x.length cx) (rw0 rows i) x (w.heap.size + 1) W hrv (hX0.out.ext hW) ((hW.cells _ _ (by simp)).trans k1.out))).mono ?_
  rintro e w2 ⟨rfl, hx2⟩
  have HX2 := hide (HX0.out.trans hx2)
  clear hx2
  go_wp2
  go_ret
  exact Ret.mk (ret_b HS.out.symm) HX2.out
set_option maxRecDepth 100000 in
set_option maxHeartbeats 4000000 in
theorem sat_7 (vv va vr vx : Value) (vars args : List Int) (b : Int) (rows : List (List Int)) (x : List Int) (w : World) (hV : SInts w vv vars) (hA : SInts w va args) (hR : SRows w vr rows) (hX : SInts w vx x) (hx : ValL x) (hl : x.length = vars.length) (h4 : x.length ≤ 4) (h1 : 1 ≤ x.length) (ha : allR args 0 9 = true) (hal : args.length = 2 * vars.length) (hb : inR b 0 9 = true) :
    Calls Tryd.prog 88 #[.agg #[.int .i64 7, vv, va, .int .i64 b, vr], vx] w (Ret (.bool (satB ⟨7, vars, args, b, rows⟩ x)) w) := by
  have HXV := hide hx
  have HL := hide hl
  obtain ⟨Av, cv, rfl, -, hlv⟩ := hV.form
  obtain ⟨Aa, ca, rfl, -, hla⟩ := hA.form
  obtain ⟨Ar, cr, rfl, -, hlr⟩ := hR.form
  obtain ⟨Ax, cx, rfl, -, hlx⟩ := hX.form
  have hx0 := ((Ext.refl w).alloc (.cells #[.int .i64 7, .slice Av vars.length cv, .slice Aa args.length ca, .int .i64 b, .slice Ar rows.length cr] 60)).alloc (.cells #[.slice Ax x.length cx] 24)
  have HX0 := hide hx0
  have hV0 := hide (hV.ext hx0)
  have hA0 := hide (hA.ext hx0)
  have hR0 := hide (hR.ext hx0)
  have hX0 := hide (hX.ext hx0)
  clear hx0 hV hA hR hX hx hl
  have HA := hide ha
  have HAL := hide (show args.length = 2 * x.length by rw [hal, HL.out])
  have HB := hide hb
  have HS := hide (show satB ⟨7, vars, args, b, rows⟩ x = roomB args b x from rfl)
  clear ha hal hb
  go_enter Tryd.func88, Tryd.ntmps88
  go_wp2_with fail
  refine (roomy_any _ _ ⟨7, vars, args, b, rows⟩ x _ ⟨_, _, _, rfl, hV0.out, hA0.out, hR0.out⟩ hX0.out HA.out HB.out HXV.out HAL.out (by omega)).mono ?_
  rintro e w2 ⟨rfl, hx2⟩
  have HX2 := hide (HX0.out.trans hx2)
  clear hx2
  go_wp2
  go_ret
  exact Ret.mk (ret_b HS.out.symm) HX2.out
set_option maxRecDepth 100000 in
set_option maxHeartbeats 4000000 in
theorem sat_8 (vv va vr vx : Value) (vars args : List Int) (b : Int) (rows : List (List Int)) (x : List Int) (w : World) (hV : SInts w vv vars) (hA : SInts w va args) (hR : SRows w vr rows) (hX : SInts w vx x) (hx : ValL x) (hl : x.length = vars.length) (h4 : x.length ≤ 4) (h1 : 1 ≤ x.length) (hr : vRows rows 6 (-1) (rows.length - 1) = true) :
    Calls Tryd.prog 88 #[.agg #[.int .i64 8, vv, va, .int .i64 b, vr], vx] w (Ret (.bool (satB ⟨8, vars, args, b, rows⟩ x)) w) := by
  have HXV := hide hx
  have HL := hide hl
  obtain ⟨Av, cv, rfl, -, hlv⟩ := hV.form
  obtain ⟨Aa, ca, rfl, -, hla⟩ := hA.form
  obtain ⟨Ar, cr, rfl, -, hlr⟩ := hR.form
  obtain ⟨Ax, cx, rfl, -, hlx⟩ := hX.form
  have hx0 := ((Ext.refl w).alloc (.cells #[.int .i64 8, .slice Av vars.length cv, .slice Aa args.length ca, .int .i64 b, .slice Ar rows.length cr] 60)).alloc (.cells #[.slice Ax x.length cx] 24)
  have HX0 := hide hx0
  have hV0 := hide (hV.ext hx0)
  have hA0 := hide (hA.ext hx0)
  have hR0 := hide (hR.ext hx0)
  have hX0 := hide (hX.ext hx0)
  clear hx0 hV hA hR hX hx hl
  have HR := hide hr
  have HS := hide (show satB ⟨8, vars, args, b, rows⟩ x = acceptB rows args x from rfl)
  clear hr
  go_enter Tryd.func88, Tryd.ntmps88
  go_wp2_with fail
  refine (accepts_any _ _ ⟨8, vars, args, b, rows⟩ x _ ⟨_, _, _, rfl, hV0.out, hA0.out, hR0.out⟩ hX0.out HR.out HXV.out (by omega)).mono ?_
  rintro e w2 ⟨rfl, hx2⟩
  have HX2 := hide (HX0.out.trans hx2)
  clear hx2
  go_wp2
  go_ret
  exact Ret.mk (ret_b HS.out.symm) HX2.out
set_option maxRecDepth 100000 in
set_option maxHeartbeats 4000000 in
theorem sat_9 (vv va vr vx : Value) (vars args : List Int) (b : Int) (rows : List (List Int)) (x : List Int) (w : World) (hV : SInts w vv vars) (hA : SInts w va args) (hR : SRows w vr rows) (hX : SInts w vx x) (hx : ValL x) (hl : x.length = vars.length) (h4 : x.length ≤ 4) (h1 : 1 ≤ x.length)  :
    Calls Tryd.prog 88 #[.agg #[.int .i64 9, vv, va, .int .i64 b, vr], vx] w (Ret (.bool (satB ⟨9, vars, args, b, rows⟩ x)) w) := by
  have HXV := hide hx
  have HL := hide hl
  obtain ⟨Av, cv, rfl, -, hlv⟩ := hV.form
  obtain ⟨Aa, ca, rfl, -, hla⟩ := hA.form
  obtain ⟨Ar, cr, rfl, -, hlr⟩ := hR.form
  obtain ⟨Ax, cx, rfl, -, hlx⟩ := hX.form
  have hx0 := ((Ext.refl w).alloc (.cells #[.int .i64 9, .slice Av vars.length cv, .slice Aa args.length ca, .int .i64 b, .slice Ar rows.length cr] 60)).alloc (.cells #[.slice Ax x.length cx] 24)
  have HX0 := hide hx0
  have hV0 := hide (hV.ext hx0)
  have hA0 := hide (hA.ext hx0)
  have hR0 := hide (hR.ext hx0)
  have hX0 := hide (hX.ext hx0)
  clear hx0 hV hA hR hX hx hl
  have HS := hide (show satB ⟨9, vars, args, b, rows⟩ x = cycB x from rfl)
  go_enter Tryd.func88, Tryd.ntmps88
  go_wp2_with fail
  refine (cycle_any _ x _ hX0.out HXV.out (by omega) (by omega)).mono ?_
  rintro e w2 ⟨rfl, hx2⟩
  have HX2 := hide (HX0.out.trans hx2)
  clear hx2
  go_wp2
  go_ret
  exact Ret.mk (ret_b HS.out.symm) HX2.out
set_option maxRecDepth 100000 in
set_option maxHeartbeats 4000000 in
theorem sat_6 (vv va vr vx : Value) (vars args : List Int) (b : Int) (rows : List (List Int)) (x : List Int) (w : World) (hV : SInts w vv vars) (hA : SInts w va args) (hR : SRows w vr rows) (hX : SInts w vx x) (hx : ValL x) (hl : x.length = vars.length) (h4 : x.length ≤ 4) (h1 : 1 ≤ x.length) (hal : args.length = 1) :
    Calls Tryd.prog 88 #[.agg #[.int .i64 6, vv, va, .int .i64 b, vr], vx] w (Ret (.bool (satB ⟨6, vars, args, b, rows⟩ x)) w) := by
  have HXV := hide hx
  have HL := hide hl
  obtain ⟨Av, cv, rfl, -, hlv⟩ := hV.form
  obtain ⟨Aa, ca, rfl, -, hla⟩ := hA.form
  obtain ⟨Ar, cr, rfl, -, hlr⟩ := hR.form
  obtain ⟨Ax, cx, rfl, -, hlx⟩ := hX.form
  have hx0 := ((Ext.refl w).alloc (.cells #[.int .i64 6, .slice Av vars.length cv, .slice Aa args.length ca, .int .i64 b, .slice Ar rows.length cr] 60)).alloc (.cells #[.slice Ax x.length cx] 24)
  have HX0 := hide hx0
  have hV0 := hide (hV.ext hx0)
  have hA0 := hide (hA.ext hx0)
  have hR0 := hide (hR.ext hx0)
  have hX0 := hide (hX.ext hx0)
  clear hx0 hV hA hR hX hx hl
  have HS := hide (show satB ⟨6, vars, args, b, rows⟩ x = (cntV x (at0 args 0) x.length == b) from rfl)
  obtain ⟨ba, oa, rfl, hba, f2⟩ := hA0.out.at_ (k := 0) (by omega)
  have f2 : ((w.alloc (.cells #[.int .i64 6, .slice Av vars.length cv, .slice (some ⟨ba, oa, none⟩) args.length ca, .int .i64 b, .slice Ar rows.length cr] 60)).alloc (.cells #[.slice Ax x.length cx] 24)).cell? ⟨ba, oa, none⟩ = some (.int .i64 (at0 args 0)) := f2
  have i2 : (0 : Int) < args.length := by omega
  have HAL := hide hal
  clear hal
  go_enter Tryd.func88, Tryd.ntmps88
  go_wp2
  go_loop [5, 69] (fun s i => ∃ k : Nat, k ≤ x.length ∧ i = .int .i64 k ∧ s = .int .i64 (cntV x (at0 args 0) k)) (fun _ i => x.length - (intOf i).toNat)
  case atStart => exact ⟨0, by omega, rfl, rfl⟩
  case round =>
    obtain ⟨k, hk, rfl, rfl⟩ := hrel
    have hcb := cntV_bd x (at0 args 0) k
    by_cases hlt : k < x.length
    · have hkI : (k : Int) < x.length := by omega
      obtain ⟨bx, ox, rfl, hbx, f1⟩ := hX0.out.at_ hlt
      cases he : (at0 x k == at0 args 0) with
      | true =>
        have HK := hide (show cntV x (at0 args 0) k + 1 = cntV x (at0 args 0) (k + 1) by rw [cntV, if_pos he])
        go_wp2
        go_round
        case rel => exact ⟨k + 1, by omega, by go_num, by rw [← HK.out]⟩
        case measure => simp [intOf]; omega
      | false =>
        have HK := hide (show cntV x (at0 args 0) k = cntV x (at0 args 0) (k + 1) by rw [cntV, he]; rfl)
        go_wp2
        go_round
        case rel => exact ⟨k + 1, by omega, by go_num, by rw [← HK.out]⟩
        case measure => simp [intOf]; omega
    · obtain rfl : k = x.length := by omega
      have hkI : ¬ ((x.length : Int) < x.length) := by omega
      go_wp2
      go_ret
      exact Ret.mk (ret_b HS.out.symm) HX0.out
set_option maxRecDepth 100000 in
set_option maxHeartbeats 4000000 in
theorem sat_4 (vv va vr vx : Value) (vars args : List Int) (b : Int) (rows : List (List Int)) (x : List Int) (w : World) (hV : SInts w vv vars) (hA : SInts w va args) (hR : SRows w vr rows) (hX : SInts w vx x) (hx : ValL x) (hl : x.length = vars.length) (_h4 : x.length ≤ 4) (_h1 : 1 ≤ x.length) (hv2 : vars.length = 2) :
    Calls Tryd.prog 88 #[.agg #[.int .i64 4, vv, va, .int .i64 b, vr], vx] w (Ret (.bool (satB ⟨4, vars, args, b, rows⟩ x)) w) := by
  have HXV := hide hx
  have HL := hide hl
  obtain ⟨Av, cv, rfl, -, hlv⟩ := hV.form
  obtain ⟨Aa, ca, rfl, -, hla⟩ := hA.form
  obtain ⟨Ar, cr, rfl, -, hlr⟩ := hR.form
  obtain ⟨Ax, cx, rfl, -, hlx⟩ := hX.form
  have hx0 := ((Ext.refl w).alloc (.cells #[.int .i64 4, .slice Av vars.length cv, .slice Aa args.length ca, .int .i64 b, .slice Ar rows.length cr] 60)).alloc (.cells #[.slice Ax x.length cx] 24)
  have HX0 := hide hx0
  have hV0 := hide (hV.ext hx0)
  have hA0 := hide (hA.ext hx0)
  have hR0 := hide (hR.ext hx0)
  have hX0 := hide (hX.ext hx0)
  clear hx0 hV hA hR hX hx hl
  have HS := hide (show satB ⟨4, vars, args, b, rows⟩ x = (decide (at0 x 0 < args.length) && (at0 args (at0 x 0).toNat == at0 x 1)) from rfl)
  have hx2l : x.length = 2 := HL.out.trans hv2
  have g0 := HXV.out 0 (by omega)
  have g1 := HXV.out 1 (by omega)
  have c2 : ((w.alloc (.cells #[.int .i64 4, .slice Av vars.length cv, .slice Aa args.length ca, .int .i64 b, .slice Ar rows.length cr] 60)).alloc (.cells #[.slice Ax x.length cx] 24)).cell? ⟨w.heap.size, 2, none⟩ = some (.slice Aa args.length ca) := by go_simp
  have cx0 : ((w.alloc (.cells #[.int .i64 4, .slice Av vars.length cv, .slice Aa args.length ca, .int .i64 b, .slice Ar rows.length cr] 60)).alloc (.cells #[.slice Ax x.length cx] 24)).cell? ⟨w.heap.size + 1, 0, none⟩ = some (.slice Ax x.length cx) := by go_simp
  have z0 : w.heap.size < ((w.alloc (.cells #[.int .i64 4, .slice Av vars.length cv, .slice Aa args.length ca, .int .i64 b, .slice Ar rows.length cr] 60)).alloc (.cells #[.slice Ax x.length cx] 24)).heap.size := by rw [World.size_alloc, World.size_alloc]; omega
  have z1 : w.heap.size + 1 < ((w.alloc (.cells #[.int .i64 4, .slice Av vars.length cv, .slice Aa args.length ca, .int .i64 b, .slice Ar rows.length cr] 60)).alloc (.cells #[.slice Ax x.length cx] 24)).heap.size := by simp
  obtain ⟨W0, hW0⟩ : ∃ W0, W0 = ((w.alloc (.cells #[.int .i64 4, .slice Av vars.length cv, .slice Aa args.length ca, .int .i64 b, .slice Ar rows.length cr] 60)).alloc (.cells #[.slice Ax x.length cx] 24)) := ⟨_, rfl⟩
  rw [← hW0] at c2 cx0 z0 z1 hX0 hA0 HX0
  obtain ⟨bx, ox, rfl, hbx, f0⟩ := hX0.out.at_ (k := 0) (by omega)
  have f1 := hX0.out.cell_ (k := 1) (by omega)
  have i0 : 0 < x.length := by omega
  have i1 : (1 : Int) < x.length := by omega
  simp only [Nat.add_zero] at f0
  obtain ⟨u, hu⟩ : ∃ u : Nat, at0 x 0 = u := ⟨(at0 x 0).toNat, by omega⟩
  rw [hu] at f0 g0 HS
  by_cases hul : u < args.length
  · obtain ⟨ba, oa, rfl, hba, f2⟩ := hA0.out.at_ hul
    have huI : (u : Int) < args.length := by omega
    have HU := hide (show (decide ((u : Int) < args.length) && (at0 args (u : Int).toNat == at0 x 1)) = (at0 args u == at0 x 1) by rw [decide_eq_true huI]; rfl)
    have HH := hide hx2l
    clear hx2l hv2 hu
    go_enter Tryd.func88, Tryd.ntmps88
    go_wp2
    rw [← hW0]
    clear hW0
    refine wp_region_ext (by kernel_rfl) (by kernel_rfl) ?_
    iterate 8 (apply quiet_val; (focus rfl); (focus (intro w' hw'; have hk' := hw'.cells; go_simp; all_goals exact rfl)); simp only [Act.put, List.setIfInBounds_toArray, List.set_cons_succ, List.set_cons_zero])
    iterate 11 (go_big_quiet_want; apply quietK_val; (focus (intro w' hw'; have hk' := hw'.cells; go_simp; all_goals exact rfl)); simp only [Act.put, List.setIfInBounds_toArray, List.set_cons_succ, List.set_cons_zero]; go_big_quiet_on)
    iterate 2 (apply quiet_val; (focus rfl); (focus (intro w' hw'; have hk' := hw'.cells; go_simp; all_goals exact rfl)); simp only [Act.put, List.setIfInBounds_toArray, List.set_cons_succ, List.set_cons_zero])
    refine wpQuiet_nil ?_
    intro w2 hx2
    have HX2 := hide (HX0.out.trans hx2)
    clear hx2
    go_wp2
    go_ret
    exact Ret.mk (ret_b (by rw [HS.out, HU.out])) HX2.out
  · have huI : ¬ (u : Int) < args.length := by omega
    have huD : decide ((u : Int) < args.length) = false := by simp; omega
    have HU := hide (show (decide ((u : Int) < args.length) && (at0 args (u : Int).toNat == at0 x 1)) = false by rw [decide_eq_false huI]; rfl)
    have HH := hide hx2l
    clear hx2l hv2 hu
    go_enter Tryd.func88, Tryd.ntmps88
    go_wp2
    rw [← hW0]
    clear hW0
    refine wp_region_ext (by kernel_rfl) (by kernel_rfl) ?_
    iterate 8 (apply quiet_val; (focus rfl); (focus (intro w' hw'; have hk' := hw'.cells; go_simp; all_goals exact rfl)); simp only [Act.put, List.setIfInBounds_toArray, List.set_cons_succ, List.set_cons_zero])
    iterate 11 go_big_quiet_skip
    iterate 2 (apply quiet_val; (focus rfl); (focus (intro w' hw'; have hk' := hw'.cells; go_simp; all_goals exact rfl)); simp only [Act.put, List.setIfInBounds_toArray, List.set_cons_succ, List.set_cons_zero])
    refine wpQuiet_nil ?_
    intro w2 hx2
    have HX2 := hide (HX0.out.trans hx2)
    clear hx2
    go_wp2
    go_ret
    exact Ret.mk (ret_b (by rw [HS.out, HU.out])) HX2.out
theorem vCon_len {c : Con} {n : Int} (h : vCon c n = true) : 1 ≤ c.vars.length ∧ (c.vars.length : Int) ≤ n ∧ n ≤ 4 ∧ allR c.vars 0 (n - 1) = true ∧ dst c.vars = true ∧ fitB c.kk c.vars c.args c.bound c.rows = true := by
  simp only [vCon, Bool.and_eq_true, inR, decide_eq_true_eq] at h
  obtain ⟨⟨h1, h2⟩, ⟨h3, h4⟩, h5, h6, h7⟩ := h
  exact ⟨by omega, h4, h2, h5, h6, h7⟩
theorem vCon_var {c : Con} {n : Nat} (h : vCon c n = true) : VarOK c.vars n := by
  obtain ⟨-, -, -, h4, h5, -⟩ := vCon_len h
  exact VarOK.of h4 h5
theorem satisfied_any (v vx : Value) (c : Con) (x : List Int) (n : Int) (w : World) (hC : SCon w v c) (hX : SInts w vx x) (hv : vCon c n = true) (hx : ValL x) (hl : x.length = c.vars.length) :
    Calls Tryd.prog 88 #[v, vx] w (Ret (.bool (satB c x)) w) := by
  obtain ⟨v1, v2, v3, -, -, hf⟩ := vCon_len hv
  obtain ⟨vv, va, vr, rfl, hV, hA, hR⟩ := hC
  obtain ⟨kk, vars, args, b, rows⟩ := c
  simp only at hV hA hR hl v1 v2 hf ⊢
  have h1 : 1 ≤ x.length := by omega
  have h4 : x.length ≤ 4 := by omega
  unfold fitB argsB at hf
  split at hf
  · subst kk
    simp only [Bool.and_eq_true, beq_iff_eq] at hf
    exact sat_1 _ _ _ _ vars args b rows x w hV hA hR hX hx hl h4 h1 hf.1.2 (by omega)
  split at hf
  · subst kk
    simp only [Bool.and_eq_true, beq_iff_eq] at hf
    exact sat_2 _ _ _ _ vars args b rows x w hV hA hR hX hx hl h4 h1 hf.2.1.2 (by omega) (by omega)
  split at hf
  · rename_i hk
    rcases hk with rfl | rfl
    · exact sat_3 _ _ _ _ vars args b rows x w hV hA hR hX hx hl h4 h1
    · exact sat_9 _ _ _ _ vars args b rows x w hV hA hR hX hx hl h4 h1
  split at hf
  · subst kk
    simp only [Bool.and_eq_true, beq_iff_eq] at hf
    exact sat_4 _ _ _ _ vars args b rows x w hV hA hR hX hx hl h4 h1 (by omega)
  split at hf
  · subst kk
    exact sat_5 _ _ _ _ vars args b rows x w hV hA hR hX hx hl h4 h1
  split at hf
  · subst kk
    simp only [Bool.and_eq_true, beq_iff_eq] at hf
    exact sat_6 _ _ _ _ vars args b rows x w hV hA hR hX hx hl h4 h1 (by omega)
  split at hf
  · subst kk
    simp only [Bool.and_eq_true, beq_iff_eq] at hf
    exact sat_7 _ _ _ _ vars args b rows x w hV hA hR hX hx hl h4 h1 hf.1.2 (by omega) hf.2.1
  split at hf
  · subst kk
    simp only [Bool.and_eq_true] at hf
    exact sat_8 _ _ _ _ vars args b rows x w hV hA hR hX hx hl h4 h1 hf.1
  · cases hf
end Go.Proofs.YtjpdebgejlfeaaaDoor
