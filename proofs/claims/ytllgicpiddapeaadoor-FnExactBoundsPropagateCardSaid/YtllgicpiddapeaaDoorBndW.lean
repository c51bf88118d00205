/- Bounds consistency: the walks of both sides. -/
import Derived.Test.YtllgicpiddapeaaDoorBndP
import Derived.Test.YtllgicpiddapeaaDoorShvI
import Derived.Test.YtllgicpiddapeaaDoorCompI
namespace Go.Proofs.YtllgicpiddapeaaDoor
open Go.RowKit

/-- The sum of the values at the places lo .. hi-1 of a domain's list. -/
def sumR (d : Int) (lo : Nat) : Nat → Int
  | 0 => 0
  | k + 1 => sumR d lo k + 2 ^ (at0 (domL d) (lo + k)).toNat
theorem sumR_has {d : Int} (h0 : 0 ≤ d) (h1 : d ≤ 63) {lo k : Nat} (hk : lo + k ≤ (domL d).length) : sumR d lo k = sumB (fun v => (List.range 6).any fun t => decide (lo ≤ t) && (decide (t < lo + k) && (at0 (domL d) t == v))) := by
  have hl := domL_len d
  have : ∀ n : Fin 64, ∀ lo : Fin 7, ∀ k : Fin 7, lo.val + k.val ≤ (domL (n.val : Int)).length → sumR (n.val : Int) lo.val k.val = sumB (fun v => (List.range 6).any fun t => decide (lo.val ≤ t) && (decide (t < lo.val + k.val) && (at0 (domL (n.val : Int)) t == v))) := by decide +kernel
  obtain ⟨n, rfl⟩ : ∃ n : Nat, d = n := ⟨d.toNat, by omega⟩
  exact this ⟨n, by omega⟩ ⟨lo, by omega⟩ ⟨k, by omega⟩ hk
theorem sumR_bd {d : Int} (h0 : 0 ≤ d) (h1 : d ≤ 63) {lo k : Nat} (hk : lo + k ≤ (domL d).length) : 0 ≤ sumR d lo k ∧ sumR d lo k ≤ 63 := by
  rw [sumR_has h0 h1 hk]; exact sumB_bd _
/-- What the three loops of trim leave. -/
theorem trim_sum {d k : Int} (h0 : 0 ≤ d) (h1 : d ≤ 63) {lo m : Nat} (hlm : lo ≤ m) (hm : m ≤ (domL d).length)
    (n1 : ∀ j, j < lo → hasB k (at0 (domL d) j).toNat = false) (n2 : ∀ j, m ≤ j → j < (domL d).length → hasB k (at0 (domL d) j).toNat = false)
    (p1 : lo < (domL d).length → hasB k (at0 (domL d) lo).toNat = true) (p2 : lo < m → hasB k (at0 (domL d) (m - 1)).toNat = true) : sumR d lo (m - lo) = trimV d k := by
  rw [sumR_has h0 h1 (by omega)]
  unfold trimV
  have hl := domL_len d
  have hat : ∀ v, v < 6 → hasB d v = true → ∃ t, t < (domL d).length ∧ at0 (domL d) t = v := fun v hv hh => by
    have := (domL_in d v).2 ⟨hv, hh⟩
    obtain ⟨t, ht, e⟩ := List.getElem_of_mem this
    exact ⟨t, ht, by rw [at0, getD_lt _ _ ht, e]⟩
  have hmono : ∀ s t, s < (domL d).length → t < (domL d).length → at0 (domL d) s ≤ at0 (domL d) t → s ≤ t := fun s t hs ht hle => by
    by_cases h : s ≤ t
    · exact h
    · have := domL_lt d (i := t) (j := s) (by omega) hs; omega
  have hmono2 : ∀ s t, s ≤ t → t < (domL d).length → at0 (domL d) s ≤ at0 (domL d) t := fun s t hst ht => by
    by_cases h : s = t
    · subst h; omega
    · have := domL_lt d (i := s) (j := t) (by omega) ht; omega
  refine dom_ext (sumB_bd _) (sumB_bd _) fun v hv => ?_
  rw [sumB_has _ hv, sumB_has _ hv, Bool.eq_iff_iff]
  simp only [List.any_eq_true, List.mem_range, Bool.and_eq_true, decide_eq_true_eq, beq_iff_eq]
  constructor
  · rintro ⟨t, ht6, hlt, htm, he⟩
    have htl : t < (domL d).length := by omega
    have hdv := domL_at d htl
    rw [he, Int.toNat_natCast] at hdv
    have q1 := p1 (by omega)
    have q2 := p2 (by omega)
    obtain ⟨a, ha, ha6⟩ := domL_val d (k := lo) (by omega)
    obtain ⟨b, hb, hb6⟩ := domL_val d (k := m - 1) (by omega)
    have hda := domL_at d (k := lo) (by omega)
    have hdb := domL_at d (k := m - 1) (by omega)
    rw [ha, Int.toNat_natCast] at q1 hda
    rw [hb, Int.toNat_natCast] at q2 hdb
    have m1 := hmono2 lo t (by omega) htl
    have m2 := hmono2 t (m - 1) (by omega) (by omega)
    rw [ha, he] at m1
    rw [hb, he] at m2
    exact ⟨hdv, ⟨a, ha6, by omega, hda, q1⟩, ⟨b, hb6, by omega, hdb, q2⟩⟩
  · rintro ⟨hdv, ⟨a, ha6, hav, hda, hka⟩, ⟨b, hb6, hvb, hdb, hkb⟩⟩
    obtain ⟨t, ht, he⟩ := hat v hv hdv
    obtain ⟨s, hs, hse⟩ := hat a ha6 hda
    obtain ⟨r, hr, hre⟩ := hat b hb6 hdb
    have st := hmono s t hs ht (by rw [hse, he]; omega)
    have tr := hmono t r ht hr (by rw [hre, he]; omega)
    refine ⟨t, by omega, ?_, ?_, he⟩
    · by_cases h : lo ≤ s
      · omega
      · have := n1 s (by omega)
        rw [hse, Int.toNat_natCast, hka] at this; cases this
    · by_cases h : r < m
      · omega
      · have := n2 r (by omega) hr
        rw [hre, Int.toNat_natCast, hkb] at this; cases this
/-- The program's mask. -/
theorem edge_bits {d : Nat} (h1 : 1 ≤ d) (h2 : d ≤ 63) {k : Int} (k0 : 0 ≤ k) (k1 : k ≤ 63) : bits .andNot .i64 d (bits .andNot .i64 (bits .or .i64 (2 ^ topB d) (2 ^ lowB d)) k) = edgeV d k := by
  have : ∀ n : Fin 64, ∀ k : Fin 64, 1 ≤ n.val → bits .andNot .i64 (n.val : Int) (bits .andNot .i64 (bits .or .i64 (2 ^ topB n.val) (2 ^ lowB n.val)) (k.val : Int)) = edgeV (n.val : Int) (k.val : Int) := by decide +kernel
  obtain ⟨m, rfl⟩ : ∃ m : Nat, k = m := ⟨k.toNat, by omega⟩
  exact this ⟨d, by omega⟩ ⟨m, by omega⟩ h1
theorem edge_zero (k : Int) : edgeV 0 k = 0 := by
  refine dom_ext (sumB_bd _) (by omega) fun v hv => ?_
  rw [edgeV_has 0 k hv, hasB_zero]; rfl
/-- The first v places have been turned. -/
def mapP (f : Int → Int → Int) (c : Con) (ds : List Int) (v : Nat) : List Int := (List.range ds.length).map fun i => if i < v then f (at0 ds i) (at0 (filtL c ds) i) else at0 ds i
theorem mapP_len (f : Int → Int → Int) (c : Con) (ds : List Int) (v : Nat) : (mapP f c ds v).length = ds.length := by simp [mapP]
theorem mapP_at (f : Int → Int → Int) (c : Con) (ds : List Int) (v : Nat) {i : Nat} (hi : i < ds.length) : at0 (mapP f c ds v) i = if i < v then f (at0 ds i) (at0 (filtL c ds) i) else at0 ds i := by
  unfold mapP
  simp [at0, hi]
theorem mapP_zero (f : Int → Int → Int) (c : Con) (ds : List Int) : mapP f c ds 0 = ds :=
  at0_ext (mapP_len _ _ _ _) fun i hi => by rw [mapP_len] at hi; rw [mapP_at _ _ _ _ hi, if_neg (by omega)]
theorem mapP_all (f : Int → Int → Int) (c : Con) (ds : List Int) : mapP f c ds ds.length = mapF f c ds :=
  at0_ext (by rw [mapP_len, mapF_len]) fun i hi => by rw [mapP_len] at hi; rw [mapP_at _ _ _ _ hi, if_pos hi, mapF_at _ _ _ hi]
theorem mapP_succ (f : Int → Int → Int) (c : Con) (ds : List Int) {v : Nat} (hv : v < ds.length) : mapP f c ds (v + 1) = (mapP f c ds v).set v (f (at0 ds v) (at0 (filtL c ds) v)) :=
  at0_ext (by rw [mapP_len, List.length_set, mapP_len]) fun i hi => by
    rw [mapP_len] at hi
    rw [at0_set _ _ _ _ (by rw [mapP_len]; exact hv), mapP_at _ _ _ _ hi]
    by_cases e : v = i
    · subst e; rw [if_pos rfl, if_pos (by omega)]
    · rw [if_neg e, mapP_at _ _ _ _ hi]
      by_cases h : i < v
      · rw [if_pos h, if_pos (by omega)]
      · rw [if_neg h, if_neg (by omega)]
set_option maxRecDepth 100000 in
set_option maxHeartbeats 16000000 in
theorem trim_any (d k : Int) (w : World) (h0 : 0 ≤ d) (h1 : d ≤ 63) (k0 : 0 ≤ k) (k1 : k ≤ 63) :
    Calls Tryd.prog 66 #[.int .i64 d, .int .i64 k] w (Ret (.int .i64 (trimV d k)) w) := by
  go_enter Tryd.func66, Tryd.ntmps66
  go_wp2_with fail
  refine (domainValues_any d w h0 (by omega)).mono ?_
  rintro e w1 ⟨A1, c1, b1, m1, f1, rfl, hc1, hd1, hb1, ho1, hx1⟩
  have HO := hide ho1
  have HX1 := hide hx1
  have hl6 := domL_len d
  obtain ⟨L, hL⟩ : ∃ L, L = (domL d).length := ⟨_, rfl⟩
  have HL := hide hL
  rw [← hL] at hl6 ⊢
  clear ho1 hx1 hd1 hb1 hc1 hL
  go_wp2_with fail
  go_loopw [6] (fun i wr => ∃ j : Nat, i = .int .i64 j ∧ j ≤ L ∧ Ext w1 wr ∧ ∀ t, t < j → hasB k (at0 (domL d) t).toNat = false) (fun i _ => L - (intOf i).toNat)
  case atStart => exact ⟨0, rfl, Nat.zero_le _, Ext.refl _, fun t ht => by omega⟩
  case round =>
    obtain ⟨j, rfl, hj, hx, hno⟩ := hrel
    have HNO := hide hno
    have HXR := hide hx
    clear hno hx
    by_cases hjl : j < L
    · have hjI : (j : Int) < (L : Int) := by omega
      obtain ⟨rfl, hr1, hm1, hf1⟩ := (HO.out.ext HXR.out) (by rw [← HL.out]; omega)
      obtain ⟨a, ha, ha6⟩ := domL_val d (k := j) (by rw [← HL.out]; exact hjl)
      have fa := hr1.cell (i := j) (by rw [← HL.out] at hm1; omega)
      rw [hf1 j (by rw [← HL.out]; exact hjl), ha] at fa
      have HA := hide ha
      clear hr1 hf1 hm1 ha
      go_wp2_with fail
      refine (domainHas_any k a _ k0 (by omega) (by omega)).mono ?_
      rintro e w2 ⟨rfl, rfl⟩
      cases hh : hasB k a with
      | false =>
        have HH := hide (show hasB k (at0 (domL d) j).toNat = false by rw [HA.out, Int.toNat_natCast]; exact hh)
        clear hh fa
        go_wp2_with fail
        go_roundw
        case rel => exact ⟨j + 1, by go_num, by omega, HXR.out, upto_succ HNO.out HH.out⟩
        case measure => simp [intOf] <;> omega
      | true =>
        have HP1 := hide (show j < (domL d).length → hasB k (at0 (domL d) j).toNat = true from fun _ => by rw [HA.out, Int.toNat_natCast]; exact hh)
        clear hh fa
        have hkw : IntKind.i64.wrap ((L : Int) - 1) = (L : Int) - 1 := IntWalk.i64_in _ (by omega)
        obtain ⟨wL, rfl⟩ : ∃ wL, wL = wr := ⟨wr, rfl⟩
        go_wp2_with fail
        go_loopw [7] (fun i wr => ∃ m : Nat, i = .int .i64 ((m : Int) - 1) ∧ j ≤ m ∧ m ≤ L ∧ Ext w1 wr ∧ ∀ t, m ≤ t → t < L → hasB k (at0 (domL d) t).toNat = false) (fun i _ => (intOf i + 1).toNat)
        case atStart => exact ⟨L, rfl, by omega, Nat.le_refl _, HXR.out, fun t h1 h2 => by omega⟩
        case round =>
          obtain ⟨m, rfl, hlm, hmL, hx, hno2⟩ := hrel
          have HNO2 := hide hno2
          have HXR := hide hx
          clear hno2 hx hkw
          by_cases hml : j < m
          · obtain ⟨r, hr⟩ : ∃ r, m = r + 1 := ⟨m - 1, by omega⟩
            have e : ((m : Int) - 1) = (r : Int) := by omega
            rw [e]
            have hge : decide ((j : Int) ≤ (r : Int)) = true := decide_eq_true (by omega)
            have hgeI : (j : Int) ≤ (r : Int) := by omega
            have hrL : r < L := by omega
            have hrI : (r : Int) < (L : Int) := by omega
            obtain ⟨hA1, hr1, hm1, hf1⟩ := (HO.out.ext HXR.out) (by rw [← HL.out]; omega)
            first | subst hA1 | clear hA1
            obtain ⟨a, ha, ha6⟩ := domL_val d (k := r) (by rw [← HL.out]; exact hrL)
            have fa := hr1.cell (i := r) (by rw [← HL.out] at hm1; omega)
            rw [hf1 r (by rw [← HL.out]; exact hrL), ha] at fa
            have HA := hide ha
            have HM := hide hr
            clear hr1 hf1 hm1 ha e
            go_wp2_with fail
            refine (domainHas_any k a _ k0 (by omega) (by omega)).mono ?_
            rintro e w3 ⟨rfl, rfl⟩
            cases hh : hasB k a with
            | false =>
              have HH := hide (show hasB k (at0 (domL d) r).toNat = false by rw [HA.out, Int.toNat_natCast]; exact hh)
              have hkw2 : IntKind.i64.wrap ((r : Int) - 1) = (r : Int) - 1 := IntWalk.i64_in _ (by omega)
              clear hh fa hr
              go_wp2_with fail
              go_roundw
              case rel => exact ⟨r, rfl, by omega, by omega, HXR.out, fun t q1 q2 => by
                by_cases e : t = r
                · subst e; exact HH.out
                · exact HNO2.out t (by have := HM.out; omega) q2⟩
              case measure => simp [intOf] <;> omega
            | true =>
              have HTS := hide (show sumR d j (r + 1 - j) = trimV d k from trim_sum h0 h1 (by omega) (by rw [← HL.out]; omega) HNO.out (fun j q1 q2 => HNO2.out j (by have := HM.out; omega) (by rw [HL.out]; exact q2)) HP1.out (fun _ => by rw [show r + 1 - 1 = r by omega, HA.out, Int.toNat_natCast]; exact hh))
              clear hh fa hr
              obtain ⟨wM, rfl⟩ : ∃ wM, wM = wr := ⟨wr, rfl⟩
              go_wp2_with fail
              go_loopw [8, 9] (fun o i wr => ∃ t : Nat, i = .int .i64 ((j + t : Nat) : Int) ∧ j + t ≤ (r + 1) ∧ o = .int .i64 (sumR d j t) ∧ Ext w1 wr) (fun _ i _ => (r + 1) - (intOf i).toNat)
              case atStart => exact ⟨0, rfl, by omega, rfl, HXR.out⟩
              case round =>
                obtain ⟨t, rfl, ht, rfl, hx⟩ := hrel
                have HX3 := hide hx
                obtain ⟨s, hs⟩ : ∃ s, s = j + t := ⟨_, rfl⟩
                have HS := hide hs
                rw [← hs] at ht ⊢
                clear hx
                by_cases hsm : s < (r + 1)
                · have hle : decide ((s : Int) ≤ (r : Int)) = true := decide_eq_true (by omega)
                  have hleI : (s : Int) ≤ (r : Int) := by omega
                  have hsL : s < L := by omega
                  have hsI : (s : Int) < (L : Int) := by omega
                  obtain ⟨hA1, hr1, hm1, hf1⟩ := (HO.out.ext HX3.out) (by rw [← HL.out]; omega)
                  first | subst hA1 | clear hA1
                  obtain ⟨a, ha, ha6⟩ := domL_val d (k := s) (by rw [← HL.out]; exact hsL)
                  have fa := hr1.cell (i := s) (by rw [← HL.out] at hm1; omega)
                  rw [hf1 s (by rw [← HL.out]; exact hsL), ha] at fa
                  have HA := hide ha
                  have hpw := pow_bd ha6
                  have kp : IntKind.i64.wrap (2 ^ a) = 2 ^ a := IntWalk.i64_in _ (by omega)
                  have hb := sumR_bd h0 h1 (lo := j) (k := t) (by rw [← HL.out]; have := HS.out; omega)
                  obtain ⟨o, ho⟩ : ∃ o, o = sumR d j t := ⟨_, rfl⟩
                  rw [← ho] at hb ⊢
                  have HOO := hide ho
                  have ka : IntKind.i64.wrap (o + 2 ^ a) = o + 2 ^ a := IntWalk.i64_in _ (by omega)
                  clear hr1 hf1 hm1 ha ho hs
                  go_wp2_with fail
                  go_roundw
                  case rel => exact ⟨t + 1, by have := HS.out; subst this; go_num, by have := HS.out; omega, by rw [sumR, ← HS.out, HA.out, Int.toNat_natCast, ← HOO.out], HX3.out⟩
                  case measure => simp [intOf] <;> omega
                · have hle : decide ((s : Int) ≤ (r : Int)) = false := decide_eq_false (by omega)
                  have hleI : ¬ (s : Int) ≤ (r : Int) := by omega
                  have HT := hide (show sumR d j t = trimV d k by
                    have e : t = (r + 1) - j := by have := HS.out; omega
                    rw [e]
                    exact HTS.out)
                  clear hs
                  go_wp2_with fail
                  go_ret
                  exact Ret.mk (ret_i HT.out) (HX1.out.trans HX3.out)
          · obtain rfl : j = m := by omega
            have hge : decide ((j : Int) ≤ (j : Int) - 1) = false := decide_eq_false (by omega)
            have hgeI : ¬ (j : Int) ≤ (j : Int) - 1 := by omega
            have HTS := hide (show sumR d j (j - j) = trimV d k from trim_sum h0 h1 (by omega) (by rw [← HL.out]; omega) HNO.out (fun j q1 q2 => HNO2.out j q1 (by rw [HL.out]; exact q2)) HP1.out (fun h => by omega))
            obtain ⟨wM, rfl⟩ : ∃ wM, wM = wr := ⟨wr, rfl⟩
            go_wp2_with fail
            go_loopw [8, 9] (fun o i wr => ∃ t : Nat, i = .int .i64 ((j + t : Nat) : Int) ∧ j + t ≤ j ∧ o = .int .i64 (sumR d j t) ∧ Ext w1 wr) (fun _ i _ => j - (intOf i).toNat)
            case atStart => exact ⟨0, rfl, by omega, rfl, HXR.out⟩
            case round =>
              obtain ⟨t, rfl, ht, rfl, hx⟩ := hrel
              have HX3 := hide hx
              obtain ⟨s, hs⟩ : ∃ s, s = j + t := ⟨_, rfl⟩
              have HS := hide hs
              rw [← hs] at ht ⊢
              clear hx
              by_cases hsm : s < j
              · have hle : decide ((s : Int) ≤ (j : Int) - 1) = true := decide_eq_true (by omega)
                have hleI : (s : Int) ≤ (j : Int) - 1 := by omega
                have hsL : s < L := by omega
                have hsI : (s : Int) < (L : Int) := by omega
                obtain ⟨hA1, hr1, hm1, hf1⟩ := (HO.out.ext HX3.out) (by rw [← HL.out]; omega)
                first | subst hA1 | clear hA1
                obtain ⟨a, ha, ha6⟩ := domL_val d (k := s) (by rw [← HL.out]; exact hsL)
                have fa := hr1.cell (i := s) (by rw [← HL.out] at hm1; omega)
                rw [hf1 s (by rw [← HL.out]; exact hsL), ha] at fa
                have HA := hide ha
                have hpw := pow_bd ha6
                have kp : IntKind.i64.wrap (2 ^ a) = 2 ^ a := IntWalk.i64_in _ (by omega)
                have hb := sumR_bd h0 h1 (lo := j) (k := t) (by rw [← HL.out]; have := HS.out; omega)
                obtain ⟨o, ho⟩ : ∃ o, o = sumR d j t := ⟨_, rfl⟩
                rw [← ho] at hb ⊢
                have HOO := hide ho
                have ka : IntKind.i64.wrap (o + 2 ^ a) = o + 2 ^ a := IntWalk.i64_in _ (by omega)
                clear hr1 hf1 hm1 ha ho hs
                go_wp2_with fail
                go_roundw
                case rel => exact ⟨t + 1, by have := HS.out; subst this; go_num, by have := HS.out; omega, by rw [sumR, ← HS.out, HA.out, Int.toNat_natCast, ← HOO.out], HX3.out⟩
                case measure => simp [intOf] <;> omega
              · have hle : decide ((s : Int) ≤ (j : Int) - 1) = false := decide_eq_false (by omega)
                have hleI : ¬ (s : Int) ≤ (j : Int) - 1 := by omega
                have HT := hide (show sumR d j t = trimV d k by
                  have e : t = j - j := by have := HS.out; omega
                  rw [e]
                  exact HTS.out)
                clear hs
                go_wp2_with fail
                go_ret
                exact Ret.mk (ret_i HT.out) (HX1.out.trans HX3.out)
    · obtain rfl : j = L := by omega
      have hjI : ¬ (j : Int) < (j : Int) := by omega
      have HP1 := hide (show j < (domL d).length → hasB k (at0 (domL d) j).toNat = true from fun h => by rw [← HL.out] at h; omega)
      have hkw : IntKind.i64.wrap ((j : Int) - 1) = (j : Int) - 1 := IntWalk.i64_in _ (by omega)
      obtain ⟨wL, rfl⟩ : ∃ wL, wL = wr := ⟨wr, rfl⟩
      go_wp2_with fail
      go_loopw [7] (fun i wr => ∃ m : Nat, i = .int .i64 ((m : Int) - 1) ∧ j ≤ m ∧ m ≤ j ∧ Ext w1 wr ∧ ∀ t, m ≤ t → t < j → hasB k (at0 (domL d) t).toNat = false) (fun i _ => (intOf i + 1).toNat)
      case atStart => exact ⟨j, rfl, by omega, Nat.le_refl _, HXR.out, fun t h1 h2 => by omega⟩
      case round =>
        obtain ⟨m, rfl, hlm, hmL, hx, hno2⟩ := hrel
        have HNO2 := hide hno2
        have HXR := hide hx
        clear hno2 hx hkw
        by_cases hml : j < m
        · obtain ⟨r, hr⟩ : ∃ r, m = r + 1 := ⟨m - 1, by omega⟩
          have e : ((m : Int) - 1) = (r : Int) := by omega
          rw [e]
          have hge : decide ((j : Int) ≤ (r : Int)) = true := decide_eq_true (by omega)
          have hgeI : (j : Int) ≤ (r : Int) := by omega
          have hrL : r < j := by omega
          have hrI : (r : Int) < (j : Int) := by omega
          obtain ⟨hA1, hr1, hm1, hf1⟩ := (HO.out.ext HXR.out) (by rw [← HL.out]; omega)
          first | subst hA1 | clear hA1
          obtain ⟨a, ha, ha6⟩ := domL_val d (k := r) (by rw [← HL.out]; exact hrL)
          have fa := hr1.cell (i := r) (by rw [← HL.out] at hm1; omega)
          rw [hf1 r (by rw [← HL.out]; exact hrL), ha] at fa
          have HA := hide ha
          have HM := hide hr
          clear hr1 hf1 hm1 ha e
          go_wp2_with fail
          refine (domainHas_any k a _ k0 (by omega) (by omega)).mono ?_
          rintro e w3 ⟨rfl, rfl⟩
          cases hh : hasB k a with
          | false =>
            have HH := hide (show hasB k (at0 (domL d) r).toNat = false by rw [HA.out, Int.toNat_natCast]; exact hh)
            have hkw2 : IntKind.i64.wrap ((r : Int) - 1) = (r : Int) - 1 := IntWalk.i64_in _ (by omega)
            clear hh fa hr
            go_wp2_with fail
            go_roundw
            case rel => exact ⟨r, rfl, by omega, by omega, HXR.out, fun t q1 q2 => by
              by_cases e : t = r
              · subst e; exact HH.out
              · exact HNO2.out t (by have := HM.out; omega) q2⟩
            case measure => simp [intOf] <;> omega
          | true =>
            have HTS := hide (show sumR d j (r + 1 - j) = trimV d k from trim_sum h0 h1 (by omega) (by rw [← HL.out]; omega) HNO.out (fun j q1 q2 => HNO2.out j (by have := HM.out; omega) (by rw [HL.out]; exact q2)) HP1.out (fun _ => by rw [show r + 1 - 1 = r by omega, HA.out, Int.toNat_natCast]; exact hh))
            clear hh fa hr
            obtain ⟨wM, rfl⟩ : ∃ wM, wM = wr := ⟨wr, rfl⟩
            go_wp2_with fail
            go_loopw [8, 9] (fun o i wr => ∃ t : Nat, i = .int .i64 ((j + t : Nat) : Int) ∧ j + t ≤ (r + 1) ∧ o = .int .i64 (sumR d j t) ∧ Ext w1 wr) (fun _ i _ => (r + 1) - (intOf i).toNat)
            case atStart => exact ⟨0, rfl, by omega, rfl, HXR.out⟩
            case round =>
              obtain ⟨t, rfl, ht, rfl, hx⟩ := hrel
              have HX3 := hide hx
              obtain ⟨s, hs⟩ : ∃ s, s = j + t := ⟨_, rfl⟩
              have HS := hide hs
              rw [← hs] at ht ⊢
              clear hx
              by_cases hsm : s < (r + 1)
              · have hle : decide ((s : Int) ≤ (r : Int)) = true := decide_eq_true (by omega)
                have hleI : (s : Int) ≤ (r : Int) := by omega
                have hsL : s < j := by omega
                have hsI : (s : Int) < (j : Int) := by omega
                obtain ⟨hA1, hr1, hm1, hf1⟩ := (HO.out.ext HX3.out) (by rw [← HL.out]; omega)
                first | subst hA1 | clear hA1
                obtain ⟨a, ha, ha6⟩ := domL_val d (k := s) (by rw [← HL.out]; exact hsL)
                have fa := hr1.cell (i := s) (by rw [← HL.out] at hm1; omega)
                rw [hf1 s (by rw [← HL.out]; exact hsL), ha] at fa
                have HA := hide ha
                have hpw := pow_bd ha6
                have kp : IntKind.i64.wrap (2 ^ a) = 2 ^ a := IntWalk.i64_in _ (by omega)
                have hb := sumR_bd h0 h1 (lo := j) (k := t) (by rw [← HL.out]; have := HS.out; omega)
                obtain ⟨o, ho⟩ : ∃ o, o = sumR d j t := ⟨_, rfl⟩
                rw [← ho] at hb ⊢
                have HOO := hide ho
                have ka : IntKind.i64.wrap (o + 2 ^ a) = o + 2 ^ a := IntWalk.i64_in _ (by omega)
                clear hr1 hf1 hm1 ha ho hs
                go_wp2_with fail
                go_roundw
                case rel => exact ⟨t + 1, by have := HS.out; subst this; go_num, by have := HS.out; omega, by rw [sumR, ← HS.out, HA.out, Int.toNat_natCast, ← HOO.out], HX3.out⟩
                case measure => simp [intOf] <;> omega
              · have hle : decide ((s : Int) ≤ (r : Int)) = false := decide_eq_false (by omega)
                have hleI : ¬ (s : Int) ≤ (r : Int) := by omega
                have HT := hide (show sumR d j t = trimV d k by
                  have e : t = (r + 1) - j := by have := HS.out; omega
                  rw [e]
                  exact HTS.out)
                clear hs
                go_wp2_with fail
                go_ret
                exact Ret.mk (ret_i HT.out) (HX1.out.trans HX3.out)
        · obtain rfl : j = m := by omega
          have hge : decide ((j : Int) ≤ (j : Int) - 1) = false := decide_eq_false (by omega)
          have hgeI : ¬ (j : Int) ≤ (j : Int) - 1 := by omega
          have HTS := hide (show sumR d j (j - j) = trimV d k from trim_sum h0 h1 (by omega) (by rw [← HL.out]; omega) HNO.out (fun j q1 q2 => HNO2.out j q1 (by rw [HL.out]; exact q2)) HP1.out (fun h => by omega))
          obtain ⟨wM, rfl⟩ : ∃ wM, wM = wr := ⟨wr, rfl⟩
          go_wp2_with fail
          go_loopw [8, 9] (fun o i wr => ∃ t : Nat, i = .int .i64 ((j + t : Nat) : Int) ∧ j + t ≤ j ∧ o = .int .i64 (sumR d j t) ∧ Ext w1 wr) (fun _ i _ => j - (intOf i).toNat)
          case atStart => exact ⟨0, rfl, by omega, rfl, HXR.out⟩
          case round =>
            obtain ⟨t, rfl, ht, rfl, hx⟩ := hrel
            have HX3 := hide hx
            obtain ⟨s, hs⟩ : ∃ s, s = j + t := ⟨_, rfl⟩
            have HS := hide hs
            rw [← hs] at ht ⊢
            clear hx
            by_cases hsm : s < j
            · have hle : decide ((s : Int) ≤ (j : Int) - 1) = true := decide_eq_true (by omega)
              have hleI : (s : Int) ≤ (j : Int) - 1 := by omega
              have hsL : s < j := by omega
              have hsI : (s : Int) < (j : Int) := by omega
              obtain ⟨hA1, hr1, hm1, hf1⟩ := (HO.out.ext HX3.out) (by rw [← HL.out]; omega)
              first | subst hA1 | clear hA1
              obtain ⟨a, ha, ha6⟩ := domL_val d (k := s) (by rw [← HL.out]; exact hsL)
              have fa := hr1.cell (i := s) (by rw [← HL.out] at hm1; omega)
              rw [hf1 s (by rw [← HL.out]; exact hsL), ha] at fa
              have HA := hide ha
              have hpw := pow_bd ha6
              have kp : IntKind.i64.wrap (2 ^ a) = 2 ^ a := IntWalk.i64_in _ (by omega)
              have hb := sumR_bd h0 h1 (lo := j) (k := t) (by rw [← HL.out]; have := HS.out; omega)
              obtain ⟨o, ho⟩ : ∃ o, o = sumR d j t := ⟨_, rfl⟩
              rw [← ho] at hb ⊢
              have HOO := hide ho
              have ka : IntKind.i64.wrap (o + 2 ^ a) = o + 2 ^ a := IntWalk.i64_in _ (by omega)
              clear hr1 hf1 hm1 ha ho hs
              go_wp2_with fail
              go_roundw
              case rel => exact ⟨t + 1, by have := HS.out; subst this; go_num, by have := HS.out; omega, by rw [sumR, ← HS.out, HA.out, Int.toNat_natCast, ← HOO.out], HX3.out⟩
              case measure => simp [intOf] <;> omega
            · have hle : decide ((s : Int) ≤ (j : Int) - 1) = false := decide_eq_false (by omega)
              have hleI : ¬ (s : Int) ≤ (j : Int) - 1 := by omega
              have HT := hide (show sumR d j t = trimV d k by
                have e : t = j - j := by have := HS.out; omega
                rw [e]
                exact HTS.out)
              clear hs
              go_wp2_with fail
              go_ret
              exact Ret.mk (ret_i HT.out) (HX1.out.trans HX3.out)
end Go.Proofs.YtllgicpiddapeaaDoor
