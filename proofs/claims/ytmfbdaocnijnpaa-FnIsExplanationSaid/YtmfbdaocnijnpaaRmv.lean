/- Removals: how they read; the laws' copies, sizes and comparisons of them; whether they are valid. -/
import Derived.Test.YtmfbdaocnijnpaaLawM
import Derived.Test.YtmfbdaocnijnpaaPrbZ
import Derived.Test.YtmfbdaocnijnpaaDom
namespace Go.Proofs.Ytmfbdaocnijnpaa
open Go.RowKit

/-- A removal. -/
structure Rm where
  x : Int
  v : Int
def rm0 (rs : List Rm) (i : Nat) : Rm := rs.getD i ⟨0, 0⟩
def rmX (rs : List Rm) (i : Nat) : Int := (rm0 rs i).x
def rmV (rs : List Rm) (i : Nat) : Int := (rm0 rs i).v
/-- v is a slice whose cells read as the removals rs. -/
def SRm (w : World) (v : Value) (rs : List Rm) : Prop :=
  ∃ A c, v = .slice A rs.length c ∧ rs.length ≤ c ∧ rs.length * 16 ≤ 140737488355328 ∧
    (0 < rs.length → ∃ b off, A = some ⟨b, off, none⟩ ∧ b < w.heap.size ∧ ∀ i, i < rs.length → w.cell? ⟨b, off + i * 2, none⟩ = some (.int .i64 (rmX rs i)) ∧ w.cell? ⟨b, off + i * 2 + 1, none⟩ = some (.int .i64 (rmV rs i)))
theorem SRm.ext {w w' : World} {v : Value} {rs : List Rm} (h : SRm w v rs) (hx : Ext w w') : SRm w' v rs := by
  obtain ⟨A, c, h1, h2, h3, h5⟩ := h
  refine ⟨A, c, h1, h2, h3, fun hp => ?_⟩
  obtain ⟨b, off, e, hb, hc⟩ := h5 hp
  refine ⟨b, off, e, Nat.lt_of_lt_of_le hb hx.size, fun i hi => ?_⟩
  obtain ⟨g1, g2⟩ := hc i hi
  exact ⟨(hx.cell (p := ⟨b, _, none⟩) hb).trans g1, (hx.cell (p := ⟨b, _, none⟩) hb).trans g2⟩
theorem SRm.form {w : World} {v : Value} {rs : List Rm} (h : SRm w v rs) : ∃ A c, v = .slice A rs.length c ∧ rs.length ≤ c ∧ rs.length ≤ 8796093022208 := by
  obtain ⟨A, c, h1, h2, h3, -⟩ := h
  exact ⟨A, c, h1, h2, by omega⟩
theorem SRm.at_ {w : World} {A : Option Addr} {n c : Nat} {rs : List Rm} (h : SRm w (.slice A n c) rs) {k : Nat} (hk : k < rs.length) :
    ∃ b off, A = some ⟨b, off, none⟩ ∧ b < w.heap.size ∧ w.cell? ⟨b, off + k * 2, none⟩ = some (.int .i64 (rmX rs k)) ∧ w.cell? ⟨b, off + k * 2 + 1, none⟩ = some (.int .i64 (rmV rs k)) := by
  obtain ⟨A', c', h1, -, -, h5⟩ := h
  injection h1 with e1 e2 e3
  subst e1
  obtain ⟨b, off, e, hb, hc⟩ := h5 (by omega)
  exact ⟨b, off, e, hb, hc k hk⟩
/-- A removal is valid for n variables. -/
def okRm (r : Rm) (n : Int) : Bool := inR r.x 0 (n - 1) && inR r.v 0 5
def okRms (rs : List Rm) (n : Int) : Bool := !anyB (fun i => !okRm (rm0 rs i) n) rs.length && decide (rs.length ≤ 24)
theorem okRms_at {rs : List Rm} {n : Int} (h : okRms rs n = true) {i : Nat} (hi : i < rs.length) : (0 ≤ rmX rs i ∧ rmX rs i ≤ n - 1) ∧ 0 ≤ rmV rs i ∧ rmV rs i ≤ 5 := by
  simp only [okRms, Bool.and_eq_true, Bool.not_eq_true'] at h
  have := anyB_false.1 h.1 i hi
  simpa [okRm, inR, rmX, rmV] using this
theorem okRms_len {rs : List Rm} {n : Int} (h : okRms rs n = true) : rs.length ≤ 24 := by
  simp only [okRms, Bool.and_eq_true, decide_eq_true_eq] at h
  exact h.2
def rmW (r : Rm) : Value := .agg #[.int .i64 r.x, .int .i64 r.v]
theorem Try.infoRm : (Try.prog.info? 29).map (fun i => (i.zero, i.size, i.bytes)) = some (some (.agg #[.int .i64 0, .int .i64 0]), 2, 16) := by kernel_rfl
/-- The copied cells: the first k removals, then zeros. -/
def rcell (rs : List Rm) (k j : Nat) : Value := if j < 2 * k then (if j % 2 = 0 then .int .i64 (rmX rs (j / 2)) else .int .i64 (rmV rs (j / 2))) else .int .i64 0
theorem rcell_step (rs : List Rm) (k j : Nat) : (if j = k * 2 + 1 then Value.int .i64 (rmV rs k) else if j = k * 2 then .int .i64 (rmX rs k) else rcell rs k j) = rcell rs (k + 1) j := by
  unfold rcell
  by_cases h1 : j = k * 2 + 1
  · subst h1
    rw [if_pos rfl, if_pos (by omega), if_neg (by omega), show (k * 2 + 1) / 2 = k by omega]
  by_cases h0 : j = k * 2
  · subst h0
    rw [if_neg (by omega), if_pos rfl, if_pos (by omega), if_pos (by omega), show (k * 2) / 2 = k by omega]
  rw [if_neg h1, if_neg h0]
  by_cases h : j < 2 * k
  · rw [if_pos h, if_pos (show j < 2 * (k + 1) by omega)]
  · rw [if_neg h, if_neg (show ¬ j < 2 * (k + 1) by omega)]
theorem SRm.of_row {w : World} {b : Nat} {t : TypeId} {rs : List Rm} (h : w.rowIs b t (rs.length * 2) (rcell rs rs.length)) (hc : rs.length * 16 ≤ 140737488355328) : SRm w (.slice (some ⟨b, 0, none⟩) rs.length rs.length) rs := by
  refine ⟨_, _, rfl, Nat.le_refl _, hc, fun _ => ⟨b, 0, rfl, h.lt, fun i hi => ⟨?_, ?_⟩⟩⟩
  · rw [Nat.zero_add, h.cell (by omega)]
    unfold rcell
    rw [if_pos (by omega), if_pos (by omega), show (i * 2) / 2 = i by omega]
  · rw [Nat.zero_add, h.cell (by omega)]
    unfold rcell
    rw [if_pos (by omega), if_neg (by omega), show (i * 2 + 1) / 2 = i by omega]
theorem zero2 (i : Nat) : (Value.agg #[.int .i64 0, .int .i64 0]).cells[i % (Value.agg #[.int .i64 0, .int .i64 0]).cells.size]! = .int .i64 0 := by
  have h2 : i % 2 < 2 := Nat.mod_lt _ (by omega)
  show #[Value.int .i64 0, Value.int .i64 0][i % 2]! = _
  generalize i % 2 = q at h2
  match q, h2 with
  | 0, _ => rfl
  | 1, _ => rfl
def NewRms (rs : List Rm) (w : World) (e : Ending) (w' : World) : Prop :=
  ∃ b, w.heap.size ≤ b ∧ e = .returned (.slice (some ⟨b, 0, none⟩) rs.length rs.length) ∧ w'.rowIs b 29 (rs.length * 2) (rcell rs rs.length) ∧ Ext w w'
set_option maxHeartbeats 4000000 in
theorem validRemovals_any (v : Value) (rs : List Rm) (n : Int) (w : World) (hS : SRm w v rs) (h0 : 0 ≤ n) (h1 : n ≤ 1000000) :
    Calls Try.prog 27 #[v, .int .i64 n] w fun e w' => e = .returned (.bool (okRms rs n)) ∧ w = w' := by
  have hS0 := hide hS
  obtain ⟨A, cp, rfl, hl, hlen⟩ := hS.form
  clear hS
  go_enter Try.func27, Try.ntmps27
  go_wp2
  go_loop [5] (fun i => ∃ k : Nat, k ≤ rs.length ∧ i = .int .i64 k ∧ ∀ j, j < k → (!okRm (rm0 rs j) n) = false) (fun i => rs.length - (intOf i).toNat)
  case atStart => exact ⟨0, Nat.zero_le _, rfl, fun j hj => by omega⟩
  case round =>
    obtain ⟨k, hk, rfl, hno⟩ := hrel
    have HNO := hide hno
    clear hno
    by_cases hlt : k < rs.length
    · have hkI : (k : Int) < rs.length := by omega
      obtain ⟨b, off, rfl, hbl, f1, f2⟩ := hS0.out.at_ hlt
      cases hq : inR (rmX rs k) 0 (n - 1) with
      | false =>
        have HQ := hide hq
        have HV := hide (show okRms rs n = false by rw [okRms, anyB_iff.2 ⟨k, hlt, by show (!(inR (rmX rs k) 0 (n - 1) && _)) = true; rw [hq]; rfl⟩]; rfl)
        clear hq
        go_wp2_with (go_at_call 25; refine (inRange_any _ _ _ _).mono ?_; rintro e w' ⟨rfl, rfl⟩; rw [HQ.out])
        go_ret
        exact ⟨ret_b HV.out.symm, rfl⟩
      | true =>
        have HQ := hide hq
        cases hq2 : inR (rmV rs k) 0 5 with
        | false =>
          have HQ2 := hide hq2
          have HV := hide (show okRms rs n = false by rw [okRms, anyB_iff.2 ⟨k, hlt, by show (!(inR (rmX rs k) 0 (n - 1) && inR (rmV rs k) 0 5)) = true; rw [hq2, Bool.and_false]; rfl⟩]; rfl)
          clear hq hq2
          go_wp2_with fail
          refine (inRange_any _ _ _ _).mono ?_
          rintro e w' ⟨rfl, rfl⟩
          rw [HQ.out]
          go_wp2_with fail
          refine (inRange_any _ _ _ _).mono ?_
          rintro e w' ⟨rfl, rfl⟩
          rw [HQ2.out]
          go_wp2
          go_ret
          exact ⟨ret_b HV.out.symm, rfl⟩
        | true =>
          have HQ2 := hide hq2
          have HOK := hide (show (!okRm (rm0 rs k) n) = false by show (!(inR (rmX rs k) 0 (n - 1) && inR (rmV rs k) 0 5)) = false; rw [hq, hq2]; rfl)
          clear hq hq2
          go_wp2_with fail
          refine (inRange_any _ _ _ _).mono ?_
          rintro e w' ⟨rfl, rfl⟩
          rw [HQ.out]
          go_wp2_with fail
          refine (inRange_any _ _ _ _).mono ?_
          rintro e w' ⟨rfl, rfl⟩
          rw [HQ2.out]
          go_wp2
          go_round
          case rel => exact ⟨k + 1, by omega, by go_num, upto_succ HNO.out HOK.out⟩
          case measure => simp [intOf]; omega
    · obtain rfl : k = rs.length := by omega
      have hkI : ¬ ((rs.length : Int) < rs.length) := by omega
      have HV := hide (show okRms rs n = decide ((rs.length : Int) ≤ 24) by
        rw [okRms, anyB_false.2 HNO.out, Bool.not_false, Bool.true_and]
        rw [Bool.eq_iff_iff, decide_eq_true_iff, decide_eq_true_iff]; omega)
      go_wp2
      go_ret
      exact ⟨ret_b HV.out.symm, rfl⟩
set_option maxHeartbeats 2000000 in
theorem rmValid_any (x v : Int) (n : Int) (w : World) (h0 : 0 ≤ n) (h1 : n ≤ 1000000) :
    Calls Try.prog 21 #[.agg #[.int .i64 x, .int .i64 v], .int .i64 n] w (Ret (.bool (okRm ⟨x, v⟩ n)) w) := by
  have HX0 := hide ((Ext.refl w).alloc (.cells #[.int .i64 x, .int .i64 v] 29))
  cases hq : inR x 0 (n - 1) with
  | false =>
    have HV := hide (show okRm ⟨x, v⟩ n = false by rw [okRm, hq]; rfl)
    have HQ := hide hq
    clear hq
    go_enter Try.func21, Try.ntmps21
    go_wp2_with fail
    refine (within_any _ _ _ _).mono ?_
    rintro e w' ⟨rfl, rfl⟩
    rw [HQ.out]
    go_wp2
    go_ret
    exact Ret.mk (ret_b HV.out.symm) HX0.out
  | true =>
    have HV := hide (show okRm ⟨x, v⟩ n = inR v 0 5 by rw [okRm, hq]; rfl)
    have HQ := hide hq
    clear hq
    go_enter Try.func21, Try.ntmps21
    go_wp2_with fail
    refine (within_any _ _ _ _).mono ?_
    rintro e w' ⟨rfl, rfl⟩
    rw [HQ.out]
    go_wp2_with fail
    refine (valueOk_any _ _).mono ?_
    rintro e w' ⟨rfl, rfl⟩
    go_wp2
    go_ret
    exact Ret.mk (ret_b HV.out.symm) HX0.out
end Go.Proofs.Ytmfbdaocnijnpaa
