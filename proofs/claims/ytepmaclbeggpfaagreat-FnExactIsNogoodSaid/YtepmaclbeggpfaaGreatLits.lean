/- Literals: how they read; the laws' copies, sizes and comparisons of them. -/
import Derived.Test.YtepmaclbeggpfaaGreatLawM
import Derived.Test.YtepmaclbeggpfaaGreatPrbX
import Derived.Test.YtepmaclbeggpfaaGreatDom
import Derived.Test.YtepmaclbeggpfaaGreatClsP
namespace Go.Proofs.YtepmaclbeggpfaaGreat
open Go.RowKit

/-- v is a slice whose cells read as the literals rs. -/
def SLt (w : World) (v : Value) (rs : List Lt) : Prop :=
  ∃ A c, v = .slice A rs.length c ∧ rs.length ≤ c ∧ rs.length * 24 ≤ 140737488355328 ∧
    (0 < rs.length → ∃ b off, A = some ⟨b, off, none⟩ ∧ b < w.heap.size ∧ ∀ i, i < rs.length → w.cell? ⟨b, off + i * 3, none⟩ = some (.int .i64 (ltX rs i)) ∧ w.cell? ⟨b, off + i * 3 + 1, none⟩ = some (.int .i64 (ltV rs i)) ∧ w.cell? ⟨b, off + i * 3 + 2, none⟩ = some (.bool (ltN rs i)))
theorem SLt.ext {w w' : World} {v : Value} {rs : List Lt} (h : SLt w v rs) (hx : Ext w w') : SLt w' v rs := by
  obtain ⟨A, c, h1, h2, h3, h5⟩ := h
  refine ⟨A, c, h1, h2, h3, fun hp => ?_⟩
  obtain ⟨b, off, e, hb, hc⟩ := h5 hp
  refine ⟨b, off, e, Nat.lt_of_lt_of_le hb hx.size, fun i hi => ?_⟩
  obtain ⟨g1, g2, g3⟩ := hc i hi
  exact ⟨(hx.cell (p := ⟨b, _, none⟩) hb).trans g1, (hx.cell (p := ⟨b, _, none⟩) hb).trans g2, (hx.cell (p := ⟨b, _, none⟩) hb).trans g3⟩
theorem SLt.form {w : World} {v : Value} {rs : List Lt} (h : SLt w v rs) : ∃ A c, v = .slice A rs.length c ∧ rs.length ≤ c ∧ rs.length ≤ 5864062014805 := by
  obtain ⟨A, c, h1, h2, h3, -⟩ := h
  exact ⟨A, c, h1, h2, by omega⟩
theorem SLt.at_ {w : World} {A : Option Addr} {n c : Nat} {rs : List Lt} (h : SLt w (.slice A n c) rs) {k : Nat} (hk : k < rs.length) :
    ∃ b off, A = some ⟨b, off, none⟩ ∧ b < w.heap.size ∧ w.cell? ⟨b, off + k * 3, none⟩ = some (.int .i64 (ltX rs k)) ∧ w.cell? ⟨b, off + k * 3 + 1, none⟩ = some (.int .i64 (ltV rs k)) ∧ w.cell? ⟨b, off + k * 3 + 2, none⟩ = some (.bool (ltN rs k)) := by
  obtain ⟨A', c', h1, -, -, h5⟩ := h
  injection h1 with e1 e2 e3
  subst e1
  obtain ⟨b, off, e, hb, hc⟩ := h5 (by omega)
  exact ⟨b, off, e, hb, hc k hk⟩
theorem SLt.nil_ (w : World) : SLt w (.slice none 0 0) [] := ⟨none, 0, rfl, Nat.le_refl _, by simp, fun h => absurd h (by simp)⟩
theorem szLiteralS_any (v : Value) (rs : List Lt) (n : Int) (w : World) (hS : SLt w v rs) (h1 : 0 ≤ n) (h2 : n ≤ 1048576) :
    Calls Tryz.prog 8 #[v, .int .i64 n] w fun e w' => e = .returned (.int .i64 (left0 n rs.length)) ∧ w = w' := by
  obtain ⟨A, cp, rfl, hl, hc⟩ := hS.form
  clear hS
  by_cases hle : (rs.length : Int) ≤ n
  · go_enter Tryz.func8, Tryz.ntmps8
    go_wp2
    go_ret
    exact ⟨ret_i (by rw [left0, if_pos hle]), rfl⟩
  · go_enter Tryz.func8, Tryz.ntmps8
    go_wp2
    go_ret
    exact ⟨ret_i (by rw [left0, if_neg (by omega)]), rfl⟩
def ltW (r : Lt) : Value := .agg #[.int .i64 r.x, .int .i64 r.v, .bool r.n]
theorem toLiteral_any (x v : Int) (n : Bool) (w : World) :
    Calls Tryz.prog 39 #[.agg #[.int .i64 x, .int .i64 v, .bool n]] w (Ret (.agg #[.int .i64 x, .int .i64 v, .bool n]) w) := by
  go_enter Tryz.func39, Tryz.ntmps39
  go_wp2
  go_returns
  exact Ret.mk rfl ((((Ext.refl w).alloc _).alloc _).alloc _)
theorem eqLiteral_same (x v : Int) (n : Bool) (w : World) :
    Calls Tryz.prog 43 #[.agg #[.int .i64 x, .int .i64 v, .bool n], .agg #[.int .i64 x, .int .i64 v, .bool n]] w (Ret (.bool true) w) := by
  have h1 : (x != x) = false := by simp
  have h2 : (v != v) = false := by simp
  have h3 : (n != n) = false := by simp
  go_enter Tryz.func43, Tryz.ntmps43
  go_wp2
  go_ret
  exact Ret.mk rfl (((Ext.refl w).alloc _).alloc _)
theorem Tryz.infoLt : (Tryz.prog.info? 60).map (fun i => (i.zero, i.size, i.bytes)) = some (some (.agg #[.int .i64 0, .int .i64 0, .bool false]), 3, 24) := by kernel_rfl
/-- The copied cells: the first k literals, then zeros. -/
def lcell (rs : List Lt) (k j : Nat) : Value := if j < 3 * k then (if j % 3 = 0 then .int .i64 (ltX rs (j / 3)) else if j % 3 = 1 then .int .i64 (ltV rs (j / 3)) else .bool (ltN rs (j / 3))) else (if j % 3 = 2 then .bool false else .int .i64 0)
theorem lcell_step (rs : List Lt) (k j : Nat) : (if j = k * 3 + 2 then Value.bool (ltN rs k) else if j = k * 3 + 1 then .int .i64 (ltV rs k) else if j = k * 3 then .int .i64 (ltX rs k) else lcell rs k j) = lcell rs (k + 1) j := by
  unfold lcell
  by_cases h2 : j = k * 3 + 2
  · subst h2
    rw [if_pos rfl, if_pos (by omega), if_neg (by omega), if_neg (by omega), show (k * 3 + 2) / 3 = k by omega]
  by_cases h1 : j = k * 3 + 1
  · subst h1
    rw [if_neg (by omega), if_pos rfl, if_pos (by omega), if_neg (by omega), if_pos (by omega), show (k * 3 + 1) / 3 = k by omega]
  by_cases h0 : j = k * 3
  · subst h0
    rw [if_neg (by omega), if_neg (by omega), if_pos rfl, if_pos (by omega), if_pos (by omega), show (k * 3) / 3 = k by omega]
  rw [if_neg h2, if_neg h1, if_neg h0]
  by_cases h : j < 3 * k
  · rw [if_pos h, if_pos (show j < 3 * (k + 1) by omega)]
  · rw [if_neg h, if_neg (show ¬ j < 3 * (k + 1) by omega)]
theorem SLt.of_row {w : World} {b : Nat} {t : TypeId} {rs : List Lt} (h : w.rowIs b t (rs.length * 3) (lcell rs rs.length)) (hc : rs.length * 24 ≤ 140737488355328) : SLt w (.slice (some ⟨b, 0, none⟩) rs.length rs.length) rs := by
  refine ⟨_, _, rfl, Nat.le_refl _, hc, fun _ => ⟨b, 0, rfl, h.lt, fun i hi => ⟨?_, ?_, ?_⟩⟩⟩
  · rw [Nat.zero_add, h.cell (by omega)]
    unfold lcell
    rw [if_pos (by omega), if_pos (by omega), show (i * 3) / 3 = i by omega]
  · rw [Nat.zero_add, h.cell (by omega)]
    unfold lcell
    rw [if_pos (by omega), if_neg (by omega), if_pos (by omega), show (i * 3 + 1) / 3 = i by omega]
  · rw [Nat.zero_add, h.cell (by omega)]
    unfold lcell
    rw [if_pos (by omega), if_neg (by omega), if_neg (by omega), show (i * 3 + 2) / 3 = i by omega]
theorem zero3l (i : Nat) : (Value.agg #[.int .i64 0, .int .i64 0, .bool false]).cells[i % (Value.agg #[.int .i64 0, .int .i64 0, .bool false]).cells.size]! = if i % 3 = 2 then .bool false else .int .i64 0 := by
  have h2 : i % 3 < 3 := Nat.mod_lt _ (by omega)
  show #[Value.int .i64 0, Value.int .i64 0, Value.bool false][i % 3]! = _
  generalize i % 3 = q at h2
  match q, h2 with
  | 0, _ => rfl
  | 1, _ => rfl
  | 2, _ => rfl
def NewLts (rs : List Lt) (w : World) (e : Ending) (w' : World) : Prop :=
  ∃ b, w.heap.size ≤ b ∧ e = .returned (.slice (some ⟨b, 0, none⟩) rs.length rs.length) ∧ w'.rowIs b 60 (rs.length * 3) (lcell rs rs.length) ∧ Ext w w'
set_option maxHeartbeats 2000000 in
theorem toLiteralS_any (v : Value) (rs : List Lt) (w : World) (hS : SLt w v rs) :
    Calls Tryz.prog 11 #[v] w (NewLts rs w) := by
  have hS0 := hide hS
  have hb : rs.length * 24 ≤ 140737488355328 := by obtain ⟨A, c, -, -, h, -⟩ := hS; exact h
  obtain ⟨A, cp, rfl, hl, hlen⟩ := hS.form
  clear hS
  go_enter Tryz.func11, Tryz.ntmps11
  go_wp2_with (at_make; go_must (refine wpList_make_gen _ rfl _ _ 34 rfl 60 (.agg #[.int .i64 0, .int .i64 0, .bool false]) 3 24 Tryz.underlying34 Tryz.infoLt .i64 .i64 rs.length rfl rfl (by omega) (by omega) (fun i => if i % 3 = 2 then .bool false else .int .i64 0) (fun i _ => zero3l i) ?_); intro w1 hrow hsz hx; have HROW := hide hrow; have HX := hide hx; clear hrow hx hsz)
  go_loopw [4] (fun i wr => ∃ k : Nat, k ≤ rs.length ∧ i = .int .i64 k ∧ Ext w wr ∧ wr.rowIs w.heap.size 60 (rs.length * 3) (lcell rs k)) (fun i _ => rs.length - (intOf i).toNat)
  case atStart => exact ⟨0, Nat.zero_le _, rfl, HX.out, HROW.out⟩
  case round =>
    obtain ⟨k, hk, rfl, hxr, hr⟩ := hrel
    have HXR := hide hxr
    have HR := hide hr
    have hB : w.heap.size < wr.heap.size := hr.lt
    clear hr
    by_cases hlt : k < rs.length
    · have hkI : (k : Int) < rs.length := by omega
      obtain ⟨b, off, rfl, hbl, f1, f2, f3⟩ := (hS0.out.ext hxr).at_ hlt
      clear hxr
      go_wp2_with fail
      refine (toLiteral_any _ _ _ _).mono ?_
      rintro e w2 ⟨rfl, hx2⟩
      have r2 := hx2.row HR.out
      have c0 := r2.cell (i := k * 3) (by omega)
      have c1 := r2.cell (i := k * 3 + 1) (by omega)
      have c2 := r2.cell (i := k * 3 + 2) (by omega)
      have z0 := r2.frozen (k * 3)
      have z1 := r2.frozen (k * 3 + 1)
      have z2 := r2.frozen (k * 3 + 2)
      have R2 := hide r2
      have HX2 := hide (HXR.out.trans hx2)
      clear r2 hx2
      go_wp2
      go_roundw
      case rel => exact ⟨k + 1, by omega, by go_num, ((HX2.out.set (p := ⟨w.heap.size, _, none⟩) (Nat.le_refl _) _).set (p := ⟨w.heap.size, _, none⟩) (Nat.le_refl _) _).set (p := ⟨w.heap.size, _, none⟩) (Nat.le_refl _) _, (((R2.out.set (k * 3) _).set (k * 3 + 1) _).set (k * 3 + 2) _).congr fun j _ => lcell_step rs k j⟩
      case measure => simp [intOf]; omega
    · obtain rfl : k = rs.length := by omega
      have hkI : ¬ ((rs.length : Int) < rs.length) := by omega
      go_wp2_with fail
      go_ret
      exact ⟨_, Nat.le_refl _, rfl, HR.out, HXR.out⟩
set_option maxHeartbeats 2000000 in
theorem eqLiteralS_same (v v' : Value) (rs : List Lt) (w : World) (hS : SLt w v rs) (hS' : SLt w v' rs) :
    Calls Tryz.prog 14 #[v, v'] w (Ret (.bool true) w) := by
  have hS0 := hide hS
  have hS0' := hide hS'
  obtain ⟨A, cp, rfl, hl, hlen⟩ := hS.form
  obtain ⟨A', cp', rfl, hl', -⟩ := hS'.form
  clear hS hS'
  go_enter Tryz.func14, Tryz.ntmps14
  go_wp2
  go_loopw [5] (fun i wr => ∃ k : Nat, k ≤ rs.length ∧ i = .int .i64 k ∧ Ext w wr) (fun i _ => rs.length - (intOf i).toNat)
  case atStart => exact ⟨0, Nat.zero_le _, rfl, Ext.refl w⟩
  case round =>
    obtain ⟨k, hk, rfl, hxr⟩ := hrel
    by_cases hlt : k < rs.length
    · have hkI : (k : Int) < rs.length := by omega
      obtain ⟨b, off, rfl, hbl, f1, f2, f3⟩ := (hS0.out.ext hxr).at_ hlt
      obtain ⟨b', off', rfl, hbl', f1', f2', f3'⟩ := (hS0'.out.ext hxr).at_ hlt
      go_wp2
      refine wp_region_ext (by kernel_rfl) (by kernel_rfl) ?_
      iterate 8 (apply quiet_val; (focus rfl); (focus (intro w' hw'; have hk' := hw'.cells; go_simp; all_goals exact rfl)); simp only [Act.put, List.setIfInBounds_toArray, List.set_cons_succ, List.set_cons_zero])
      apply quiet_call; (focus rfl); (focus (intro w' hw'; go_simp; all_goals (first | exact rfl | (apply And.intro <;> exact rfl))))
      · exact fun w' hw' => Ret.quiet (eqLiteral_same _ _ _ _) hw'
      (simp only [Act.put, List.setIfInBounds_toArray, List.set_cons_succ, List.set_cons_zero])
      (apply quiet_val; (focus rfl); (focus (intro w' hw'; have hk' := hw'.cells; go_simp; all_goals exact rfl)); simp only [Act.put, List.setIfInBounds_toArray, List.set_cons_succ, List.set_cons_zero])
      refine wpQuiet_nil ?_
      intro w2 hx2
      go_wp2
      go_roundw
      case rel => exact ⟨k + 1, by omega, by go_num, hxr.trans hx2⟩
      case measure => simp [intOf]; omega
    · obtain rfl : k = rs.length := by omega
      have hkI : ¬ ((rs.length : Int) < rs.length) := by omega
      go_wp2
      go_ret
      exact Ret.mk rfl hxr
end Go.Proofs.YtepmaclbeggpfaaGreat
