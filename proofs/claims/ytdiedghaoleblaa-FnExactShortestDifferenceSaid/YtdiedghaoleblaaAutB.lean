/- Rows of ints and automata: how they read, and the walks of the laws' own copies, sizes and comparisons of them. -/
import Derived.Test.YtdiedghaoleblaaLwsA
namespace Go.Proofs.Ytdiedghaoleblaa
open Go.RowKit

/-- Row i. -/
def rw0 (rs : List (List Int)) (i : Nat) : List Int := rs.getD i []
/-- v is a slice of slices that read as the rows rs. -/
def SRows (w : World) (v : Value) (rs : List (List Int)) : Prop :=
  ∃ A c, v = .slice A rs.length c ∧ rs.length ≤ c ∧ rs.length * 24 ≤ 140737488355328 ∧
    (0 < rs.length → ∃ b off, A = some ⟨b, off, none⟩ ∧ b < w.heap.size ∧ ∀ i, i < rs.length → ∃ rv, w.cell? ⟨b, off + i, none⟩ = some rv ∧ SInts w rv (rw0 rs i))
theorem SRows.ext {w w' : World} {v : Value} {rs : List (List Int)} (h : SRows w v rs) (hx : Ext w w') : SRows w' v rs := by
  obtain ⟨A, c, h1, h2, h3, h5⟩ := h
  refine ⟨A, c, h1, h2, h3, fun hp => ?_⟩
  obtain ⟨b, off, e, hb, hc⟩ := h5 hp
  refine ⟨b, off, e, Nat.lt_of_lt_of_le hb hx.size, fun i hi => ?_⟩
  obtain ⟨rv, h6, h7⟩ := hc i hi
  exact ⟨rv, (hx.cell (p := ⟨b, off + i, none⟩) hb).trans h6, h7.ext hx⟩
theorem SRows.form {w : World} {v : Value} {rs : List (List Int)} (h : SRows w v rs) : ∃ A c, v = .slice A rs.length c ∧ rs.length ≤ c ∧ rs.length ≤ 5864062014805 := by
  obtain ⟨A, c, h1, h2, h3, -⟩ := h
  exact ⟨A, c, h1, h2, by omega⟩
theorem SRows.bytes {w : World} {v : Value} {rs : List (List Int)} (h : SRows w v rs) : rs.length * 24 ≤ 140737488355328 := by
  obtain ⟨A, c, -, -, h3, -⟩ := h
  exact h3
theorem SRows.at_ {w : World} {A : Option Addr} {n c : Nat} {rs : List (List Int)} (h : SRows w (.slice A n c) rs) {k : Nat} (hk : k < rs.length) :
    ∃ b off A' c', A = some ⟨b, off, none⟩ ∧ b < w.heap.size ∧ w.cell? ⟨b, off + k, none⟩ = some (.slice A' (rw0 rs k).length c') ∧ SInts w (.slice A' (rw0 rs k).length c') (rw0 rs k) := by
  obtain ⟨A', c', h1, -, -, h5⟩ := h
  injection h1 with e1 e2 e3
  subst e1
  obtain ⟨b, off, e, hb, hc⟩ := h5 (by omega)
  obtain ⟨rv, h6, h7⟩ := hc k hk
  obtain ⟨A2, c2, rfl, -, -⟩ := h7.form
  exact ⟨b, off, A2, c2, e, hb, h6, h7⟩
theorem SRows.rows {w : World} {v : Value} {rs : List (List Int)} (h : SRows w v rs) {k : Nat} (hk : k < rs.length) : ∃ rv, SInts w rv (rw0 rs k) := by
  obtain ⟨A, c, -, -, -, h5⟩ := h
  obtain ⟨b, off, e, hb, hc⟩ := h5 (by omega)
  obtain ⟨rv, h6, h7⟩ := hc k hk
  exact ⟨rv, h7⟩

/-- How many numbers and rows there are. -/
def szR (rs : List (List Int)) : Nat → Nat
  | 0 => 0
  | k + 1 => szR rs k + (rw0 rs k).length

theorem szIntS_any (v : Value) (xs : List Int) (n : Int) (w : World) (hS : SInts w v xs) (h1 : 0 ≤ n) (h2 : n ≤ 1048576) :
    Calls Try.prog 57 #[v, .int .i64 n] w fun e w' => e = .returned (.int .i64 (left0 n xs.length)) ∧ w = w' := by
  obtain ⟨A, cp, rfl, hl, hc⟩ := hS.form
  clear hS
  by_cases hle : (xs.length : Int) ≤ n
  · go_enter Try.func57, Try.ntmps57
    go_wp2
    go_ret
    exact ⟨ret_i (by rw [left0, if_pos hle]), rfl⟩
  · go_enter Try.func57, Try.ntmps57
    go_wp2
    go_ret
    exact ⟨ret_i (by rw [left0, if_neg (by omega)]), rfl⟩
/-- The sizes of rows fit: the rest is r. Or they do not: the rest is -1. -/
def SzR (rs : List (List Int)) (n : Int) (w : World) (e : Ending) (w' : World) : Prop :=
  ∃ r : Int, e = .returned (.int .i64 r) ∧ (r = -1 ∨ 0 ≤ r ∧ r ≤ n ∧ (rs.length : Int) ≤ n ∧ r = n - rs.length - szR rs rs.length ∧ ∀ i, i < rs.length → ((rw0 rs i).length : Int) ≤ n) ∧ Ext w w'
set_option maxHeartbeats 1000000 in
theorem szIntSS_any (v : Value) (rs : List (List Int)) (n : Int) (w : World) (hS : SRows w v rs) (h1 : 0 ≤ n) (h2 : n ≤ 1048576) :
    Calls Try.prog 56 #[v, .int .i64 n] w (SzR rs n w) := by
  have hS0 := hide hS
  obtain ⟨A, cp, rfl, hl, hlen⟩ := hS.form
  clear hS
  by_cases hle : (rs.length : Int) ≤ n
  · go_enter Try.func56, Try.ntmps56
    go_wp2
    go_loopw [1, 5] (fun l i wr => ∃ (k : Nat) (r : Int), k ≤ rs.length ∧ i = .int .i64 k ∧ l = .int .i64 r ∧ 0 ≤ r ∧ r = n - rs.length - szR rs k ∧ (∀ i, i < k → ((rw0 rs i).length : Int) ≤ n) ∧ Ext w wr) (fun _ i _ => rs.length - (intOf i).toNat)
    case atStart => exact ⟨0, n - rs.length, Nat.zero_le _, rfl, rfl, by omega, by simp [szR], fun i hi => absurd hi (by omega), Ext.refl w⟩
    case round =>
      obtain ⟨k, r, hk, rfl, rfl, hr0, hr1, hv, hx⟩ := hrel
      have Hv := hide hv; clear hv
      have hrn : r ≤ n := by omega
      have HR := hide hr1; clear hr1
      by_cases hlt : k < rs.length
      · obtain ⟨b, off, A', c', rfl, hbl, f1, hrow⟩ := (hS0.out.ext hx).at_ hlt
        by_cases hfit : ((rw0 rs k).length : Int) ≤ r
        · have e1 : left0 r (rw0 rs k).length = r - (rw0 rs k).length := left0_pos hfit
          have hnn : 0 ≤ left0 r (rw0 rs k).length := by rw [e1]; omega
          have E1 := hide e1; clear e1
          go_wp2_with (go_at_call 57; refine (szIntS_any _ (rw0 rs k) _ _ hrow (by omega) (by omega)).mono ?_; rintro e w' ⟨rfl, rfl⟩)
          go_roundw
          case rel => exact ⟨k + 1, r - (rw0 rs k).length, by omega, by go_num, by rw [E1.out], by omega, by rw [szR, HR.out]; omega, upto_succ Hv.out (by omega), hx⟩
          case measure => simp [intOf]; omega
        · have e1 : left0 r (rw0 rs k).length = -1 := left0_neg (by omega)
          have hnn : left0 r (rw0 rs k).length < 0 := by rw [e1]; decide
          clear e1
          go_wp2_with (go_at_call 57; refine (szIntS_any _ (rw0 rs k) _ _ hrow (by omega) (by omega)).mono ?_; rintro e w' ⟨rfl, rfl⟩)
          go_ret
          exact ⟨_, rfl, .inl rfl, hx⟩
      · have hkl : k = rs.length := by omega
        subst hkl
        go_wp2
        go_ret
        exact ⟨r, rfl, .inr ⟨hr0, hrn, hle, HR.out, Hv.out⟩, hx⟩
  · go_enter Try.func56, Try.ntmps56
    go_wp2
    go_ret
    exact ⟨_, rfl, .inl rfl, Ext.refl _⟩

/-- Block b holds the first k rows, each in a block of its own from B0 on; the other cells are nil. -/
def OwnK (B0 : Nat) (w : World) (b : Nat) (rs : List (List Int)) (k : Nat) : Prop :=
  ∃ g : Nat → Value, w.rowIs b 24 rs.length g ∧ (∀ i, k ≤ i → g i = .slice none 0 0) ∧
    ∀ i, i < k → ∃ bi, B0 ≤ bi ∧ bi ≠ b ∧ g i = .slice (some ⟨bi, 0, none⟩) (rw0 rs i).length (rw0 rs i).length ∧ w.rowIs bi 3 (rw0 rs i).length (icell (rw0 rs i) (rw0 rs i).length)
theorem OwnK.ext {B0 : Nat} {w w' : World} {b : Nat} {rs : List (List Int)} {k : Nat} (h : OwnK B0 w b rs k) (hx : Ext w w') : OwnK B0 w' b rs k := by
  obtain ⟨g, h1, h2, h3⟩ := h
  refine ⟨g, hx.row h1, h2, fun i hi => ?_⟩
  obtain ⟨bi, e1, e2, e3, e4⟩ := h3 i hi
  exact ⟨bi, e1, e2, e3, hx.row e4⟩
theorem OwnK.set_ {B0 : Nat} {w : World} {b : Nat} {rs : List (List Int)} {k bi : Nat} (h : OwnK B0 w b rs k) (hb : B0 ≤ bi) (hne : bi ≠ b)
    (hr : w.rowIs bi 3 (rw0 rs k).length (icell (rw0 rs k) (rw0 rs k).length)) :
    OwnK B0 (w.setCell ⟨b, k, none⟩ (.slice (some ⟨bi, 0, none⟩) (rw0 rs k).length (rw0 rs k).length)) b rs (k + 1) := by
  obtain ⟨g, h1, h2, h3⟩ := h
  refine ⟨_, h1.set k _, fun i hi => ?_, fun i hi => ?_⟩
  · show (if i = k then _ else g i) = _
    rw [if_neg (by omega), h2 i (by omega)]
  · show ∃ bi', B0 ≤ bi' ∧ bi' ≠ b ∧ (if i = k then _ else g i) = _ ∧ _
    by_cases hik : i = k
    · subst hik
      exact ⟨bi, hb, hne, by rw [if_pos rfl], hr.setOther hne _⟩
    · obtain ⟨bj, e1, e2, e3, e4⟩ := h3 i (by omega)
      exact ⟨bj, e1, e2, by rw [if_neg hik]; exact e3, e4.setOther e2 _⟩
theorem OwnK.rows {B0 : Nat} {w : World} {b : Nat} {rs : List (List Int)} (h : OwnK B0 w b rs rs.length) (hc : rs.length * 24 ≤ 140737488355328)
    (hl : ∀ i, i < rs.length → (rw0 rs i).length * 8 ≤ 140737488355328) (hi : ∀ i, i < rs.length → ∀ j, j < (rw0 rs i).length → I64 (at0 (rw0 rs i) j)) : SRows w (.slice (some ⟨b, 0, none⟩) rs.length rs.length) rs := by
  obtain ⟨g, h1, -, h3⟩ := h
  refine ⟨_, _, rfl, Nat.le_refl _, hc, fun _ => ⟨b, 0, rfl, h1.lt, fun i hi' => ?_⟩⟩
  obtain ⟨bi, e1, e2, e3, e4⟩ := h3 i hi'
  refine ⟨g i, by rw [Nat.zero_add]; exact h1.cell hi', ?_⟩
  rw [e3]
  exact SInts.of_row e4 (hl i hi') (hi i hi')
/-- The numbers and lengths are such as came in. -/
def OkRows (rs : List (List Int)) : Prop := rs.length * 24 ≤ 140737488355328 ∧ (∀ i, i < rs.length → (rw0 rs i).length * 8 ≤ 140737488355328) ∧ (∀ i, i < rs.length → ∀ j, j < (rw0 rs i).length → I64 (at0 (rw0 rs i) j))
theorem SRows.ok {w : World} {v : Value} {rs : List (List Int)} (h : SRows w v rs) : OkRows rs := by
  refine ⟨h.bytes, fun i hi => ?_, fun i hi j hj => ?_⟩
  · obtain ⟨rv, hr⟩ := h.rows hi
    exact hr.bytes
  · obtain ⟨rv, hr⟩ := h.rows hi
    exact hr.i64 hj
/-- A copy of rows in new memory. -/
def NewRows (rs : List (List Int)) (w : World) (e : Ending) (w' : World) : Prop :=
  ∃ b, w.heap.size ≤ b ∧ e = .returned (.slice (some ⟨b, 0, none⟩) rs.length rs.length) ∧ OwnK w.heap.size w' b rs rs.length ∧ Ext w w'

theorem Try.infoS : (Try.prog.info? 24).map (fun i => (i.zero, i.size, i.bytes)) = some (some (.slice none 0 0), 1, 24) := by kernel_rfl
set_option maxHeartbeats 1000000 in
theorem toIntSS_any (v : Value) (rs : List (List Int)) (w : World) (hS : SRows w v rs) :
    Calls Try.prog 58 #[v] w (NewRows rs w) := by
  have hS0 := hide hS
  obtain ⟨A, cp, rfl, hl, hlen⟩ := hS.form
  clear hS
  go_enter Try.func58, Try.ntmps58
  go_wp2_with (at_make; go_must (refine wpList_make_gen _ rfl _ _ 23 rfl 24 (.slice none 0 0) 1 24 Try.underlying23 Try.infoS .i64 .i64 rs.length rfl rfl (by omega) (by omega) (fun _ => .slice none 0 0) (fun i _ => by simp [Value.cells, Nat.mod_one]) ?_); intro w1 hrow hsz hx)
  rw [Nat.mul_one] at hrow
  have hK : OwnK w.heap.size w1 w.heap.size rs 0 := ⟨_, hrow, fun _ _ => rfl, fun i hi => absurd hi (by omega)⟩
  have HK := hide hK; clear hK hrow
  go_loopw [4] (fun i wr => ∃ k : Nat, k ≤ rs.length ∧ i = .int .i64 k ∧ Ext w wr ∧ w.heap.size < wr.heap.size ∧ OwnK w.heap.size wr w.heap.size rs k) (fun i _ => rs.length - (intOf i).toNat)
  case atStart => exact ⟨0, Nat.zero_le _, rfl, hx, by omega, HK.out⟩
  case round =>
    obtain ⟨k, hk, rfl, hxr, hB, hr⟩ := hrel
    have Hr := hide hr; clear hr
    by_cases hlt : k < rs.length
    · obtain ⟨b, off, A', c', rfl, hbl, f1, hrow⟩ := (hS0.out.ext hxr).at_ hlt
      go_wp2_with (go_at_call 59; refine (toIntS_any _ (rw0 rs k) _ hrow).mono ?_; rintro e w2 ⟨b2, hb2, rfl, hr2, hx2⟩; have hK2 := Hr.out.ext hx2; have hK3 := hide hK2; obtain ⟨g, hg1, -, -⟩ := hK2; have c0 := hg1.cell (i := k) hlt; have z0 := hg1.frozen k; clear hg1; have Hr2 := hide hr2; clear hr2)
      go_roundw
      case rel => exact ⟨k + 1, by omega, by go_num, (hxr.trans hx2).set (Nat.le_refl _) _, by have := hx2.size; simp [World.setCell]; omega, hK3.out.set_ (by omega) (by omega) Hr2.out⟩
      case measure => simp [intOf]; omega
    · have hkl : k = rs.length := by omega
      subst hkl
      go_wp2_with fail
      go_ret
      exact ⟨_, Nat.le_refl _, rfl, Hr.out, hxr⟩
set_option maxHeartbeats 1000000 in
/-- Two slices of rows that read as the same are found equal. -/
theorem eqIntSS_same (v v' : Value) (rs : List (List Int)) (w : World) (hS : SRows w v rs) (hS' : SRows w v' rs) :
    Calls Try.prog 60 #[v, v'] w (Ret (.bool true) w) := by
  have hS0 := hide hS
  have hS0' := hide hS'
  obtain ⟨A, cp, rfl, hl, hlen⟩ := hS.form
  obtain ⟨A', cp', rfl, hl', -⟩ := hS'.form
  clear hS hS'
  go_enter Try.func60, Try.ntmps60
  go_wp2
  go_loopw [5] (fun i wr => ∃ k : Nat, k ≤ rs.length ∧ i = .int .i64 k ∧ Ext w wr) (fun i _ => rs.length - (intOf i).toNat)
  case atStart => exact ⟨0, Nat.zero_le _, rfl, Ext.refl w⟩
  case round =>
    obtain ⟨k, hk, rfl, hxr⟩ := hrel
    by_cases hlt : k < rs.length
    · obtain ⟨b, off, A2, c2, rfl, hbl, f1, hrow⟩ := (hS0.out.ext hxr).at_ hlt
      obtain ⟨b', off', A2', c2', rfl, hbl', f1', hrow'⟩ := (hS0'.out.ext hxr).at_ hlt
      go_wp2
      refine wp_region_ext (by kernel_rfl) (by kernel_rfl) ?_
      iterate 8 (apply quiet_val; (focus rfl); (focus (intro w' hw'; have hk' := hw'.cells; go_simp; all_goals exact rfl)); simp only [Act.put, List.setIfInBounds_toArray, List.set_cons_succ, List.set_cons_zero])
      apply quiet_call; (focus rfl); (focus (intro w' hw'; go_simp; all_goals (first | exact rfl | (apply And.intro <;> exact rfl))))
      · exact fun w' hw' => Ret.quiet (eqIntS_same _ _ (rw0 rs k) _ (hrow.ext hw') (hrow'.ext hw')) hw'
      (simp only [Act.put, List.setIfInBounds_toArray, List.set_cons_succ, List.set_cons_zero])
      (apply quiet_val; (focus rfl); (focus (intro w' hw'; have hk' := hw'.cells; go_simp; all_goals exact rfl)); simp only [Act.put, List.setIfInBounds_toArray, List.set_cons_succ, List.set_cons_zero])
      refine wpQuiet_nil ?_
      intro w2 hx2
      go_wp2
      go_roundw
      case rel => exact ⟨k + 1, by omega, by go_num, hxr.trans hx2⟩
      case measure => simp [intOf]; omega
    · go_wp2
      go_ret
      exact Ret.mk rfl hxr
end Go.Proofs.Ytdiedghaoleblaa
