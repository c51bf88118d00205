/- The walks of the laws' own helpers over tasks: size, copy, comparison. -/
import Derived.Test.YtofnihagfjdocaaLawsI
namespace Go.Proofs.Ytofnihagfjdocaa
open Go.RowKit

theorem szTaskS_any (v : Value) (ts : List Tk) (n : Int) (w : World) (hS : STasks w v ts) (h1 : 0 ≤ n) (h2 : n ≤ 1048576) :
    Calls Try.prog 9 #[v, .int .i64 n] w fun e w' => e = .returned (.int .i64 (left0 n ts.length)) ∧ w = w' := by
  obtain ⟨A, cp, rfl, hl, hc, -, -⟩ := hS
  by_cases hle : (ts.length : Int) ≤ n
  · go_enter Try.func9, Try.ntmps9
    go_wp2
    go_ret
    exact ⟨ret_i (by rw [left0, if_pos hle]), rfl⟩
  · go_enter Try.func9, Try.ntmps9
    go_wp2
    go_ret
    exact ⟨ret_i (by rw [left0, if_neg (by omega)]), rfl⟩

def tkV (t : Tk) : Value := .agg #[.int .i64 t.s, .int .i64 t.d, .int .i64 t.m]
theorem toTask_any (s d m : Int) (w : World) :
    Calls Try.prog 38 #[.agg #[.int .i64 s, .int .i64 d, .int .i64 m]] w (Ret (.agg #[.int .i64 s, .int .i64 d, .int .i64 m]) w) := by
  go_enter Try.func38, Try.ntmps38
  go_wp2
  go_returns
  exact Ret.mk rfl ((((Ext.refl w).alloc _).alloc _).alloc _)

theorem eqTask_any (s d m s' d' m' : Int) (w : World) :
    Calls Try.prog 47 #[.agg #[.int .i64 s, .int .i64 d, .int .i64 m], .agg #[.int .i64 s', .int .i64 d', .int .i64 m']] w (Ret (.bool (decide (s = s') && decide (d = d') && decide (m = m'))) w) := by
  by_cases h1 : s = s'
  · by_cases h2 : d = d'
    · by_cases h3 : m = m'
      all_goals
        go_enter Try.func47, Try.ntmps47
        go_wp2
        go_ret
        exact Ret.mk (by simp [*]) (((Ext.refl w).alloc _).alloc _)
    · go_enter Try.func47, Try.ntmps47
      go_wp2
      go_ret
      exact Ret.mk (by simp [*]) (((Ext.refl w).alloc _).alloc _)
  · go_enter Try.func47, Try.ntmps47
    go_wp2
    go_ret
    exact Ret.mk (by simp [*]) (((Ext.refl w).alloc _).alloc _)

theorem Try.infoT : (Try.prog.info? 48).map (fun i => (i.zero, i.size, i.bytes)) = some (some (.agg #[.int .i64 0, .int .i64 0, .int .i64 0]), 3, 24) := by kernel_rfl
/-- The copied cells: the first k tasks, then zeros. -/
def tcell (ts : List Tk) (k j : Nat) : Value :=
  if j < 3 * k then (if j % 3 = 0 then .int .i64 (tkS ts (j / 3)) else if j % 3 = 1 then .int .i64 (tkD ts (j / 3)) else .int .i64 (tkM ts (j / 3))) else .int .i64 0

theorem tcell_step (ts : List Tk) (k j : Nat) :
    (if j = k * 3 + 2 then Value.int .i64 (tkM ts k) else if j = k * 3 + 1 then .int .i64 (tkD ts k) else if j = k * 3 then .int .i64 (tkS ts k) else tcell ts k j) = tcell ts (k + 1) j := by
  unfold tcell
  by_cases h2 : j = k * 3 + 2
  · subst h2
    rw [if_pos rfl, if_pos (by omega), if_neg (by omega), if_neg (by omega), show (k * 3 + 2) / 3 = k by omega]
  by_cases h1 : j = k * 3 + 1
  · subst h1
    rw [if_neg (by omega), if_pos rfl, if_pos (by omega), if_neg (by omega), if_pos (by omega), show (k * 3 + 1) / 3 = k by omega]
  by_cases h0 : j = k * 3
  · subst h0
    rw [if_neg (by omega), if_neg (by omega), if_pos rfl, if_pos (by omega), if_pos (by omega), show (k * 3) / 3 = k by omega]
  rw [if_neg h2, if_neg h1, if_neg h0]
  by_cases h : j < 3 * k
  · rw [if_pos h, if_pos (show j < 3 * (k + 1) by omega)]
  · rw [if_neg h, if_neg (show ¬ j < 3 * (k + 1) by omega)]
theorem row_task {w : World} {b : Nat} {t : TypeId} {n : Nat} {ts : List Tk} {k : Nat} (h : w.rowIs b t n (tcell ts k)) :
    (((w.setCell ⟨b, k * 3, none⟩ (.int .i64 (tkS ts k))).setCell ⟨b, k * 3 + 1, none⟩ (.int .i64 (tkD ts k))).setCell ⟨b, k * 3 + 2, none⟩ (.int .i64 (tkM ts k))).rowIs b t n (tcell ts (k + 1)) :=
  (((h.set _ _).set _ _).set _ _).congr fun j _ => tcell_step ts k j
theorem STasks.of_row {w : World} {b : Nat} {t : TypeId} {ts : List Tk} (h : w.rowIs b t (ts.length * 3) (tcell ts ts.length)) (hc : ts.length * 24 ≤ 140737488355328)
    (hb : ∀ i, i < ts.length → I64 (tkS ts i) ∧ I64 (tkD ts i) ∧ I64 (tkM ts i)) : STasks w (.slice (some ⟨b, 0, none⟩) ts.length ts.length) ts := by
  refine ⟨_, _, rfl, Nat.le_refl _, hc, hb, fun _ => ⟨b, 0, rfl, h.lt, fun i hi => ⟨?_, ?_, ?_⟩⟩⟩
  · rw [Nat.zero_add, h.cell (by omega)]
    unfold tcell
    rw [if_pos (by omega), if_pos (by omega), show (i * 3) / 3 = i by omega]
  · rw [Nat.zero_add, h.cell (by omega)]
    unfold tcell
    rw [if_pos (by omega), if_neg (by omega), if_pos (by omega), show (i * 3 + 1) / 3 = i by omega]
  · rw [Nat.zero_add, h.cell (by omega)]
    unfold tcell
    rw [if_pos (by omega), if_neg (by omega), if_neg (by omega), show (i * 3 + 2) / 3 = i by omega]

/-- A copy of tasks in new memory: block b is new, and it holds just the tasks. -/
def NewTasks (ts : List Tk) (w : World) (e : Ending) (w' : World) : Prop :=
  ∃ b, w.heap.size ≤ b ∧ e = .returned (.slice (some ⟨b, 0, none⟩) ts.length ts.length) ∧ w'.rowIs b 48 (ts.length * 3) (tcell ts ts.length) ∧ Ext w w'
set_option maxHeartbeats 1000000 in
theorem toTaskS_any (v : Value) (ts : List Tk) (w : World) (hS : STasks w v ts) :
    Calls Try.prog 11 #[v] w (NewTasks ts w) := by
  have hS0 := hide hS
  obtain ⟨A, cp, rfl, hl, hc, hb, hcell⟩ := hS
  have hlen : ts.length ≤ 9223372036854775807 := by omega
  have Hc := hide hcell; clear hcell
  have Hb := hide hb; clear hb
  go_enter Try.func11, Try.ntmps11
  go_wp2_with (at_make; go_must (refine wpList_make_gen _ rfl _ _ 27 rfl 48 (.agg #[.int .i64 0, .int .i64 0, .int .i64 0]) 3 24 Try.underlying27 Try.infoT .i64 .i64 ts.length rfl rfl (by omega) (by omega) (fun _ => .int .i64 0) (fun i _ => zero3 i) ?_); intro w1 hrow hsz hx)
  go_loopw [4] (fun i wr => ∃ k : Nat, k ≤ ts.length ∧ i = .int .i64 k ∧ Ext w wr ∧ wr.rowIs w.heap.size 48 (ts.length * 3) (tcell ts k)) (fun i _ => ts.length - (intOf i).toNat)
  case atStart => exact ⟨0, Nat.zero_le _, rfl, hx, hrow⟩
  case round =>
    obtain ⟨k, hk, rfl, hxr, hr⟩ := hrel
    have hB : w.heap.size < wr.heap.size := hr.lt
    by_cases hlt : k < ts.length
    · obtain ⟨b, off, rfl, hbl, hcs⟩ := Hc.out (by omega)
      obtain ⟨g1, g2, g3⟩ := hcs k hlt
      have f1 := (hxr.cell (p := ⟨b, off + k * 3, none⟩) hbl).trans g1
      have f2 := (hxr.cell (p := ⟨b, off + k * 3 + 1, none⟩) hbl).trans g2
      have f3 := (hxr.cell (p := ⟨b, off + k * 3 + 2, none⟩) hbl).trans g3
      have Hr := hide hr; clear hr
      clear hcs g1 g2 g3
      go_wp2_with (go_at_call 38; refine (toTask_any _ _ _ _).mono ?_; rintro e w2 ⟨rfl, hx2⟩; have r2 := hx2.row Hr.out; have c0 := r2.cell (i := k * 3) (by omega); have c1 := r2.cell (i := k * 3 + 1) (by omega); have c2 := r2.cell (i := k * 3 + 2) (by omega); have z0 := r2.frozen (k * 3); have z1 := r2.frozen (k * 3 + 1); have z2 := r2.frozen (k * 3 + 2); have R2 := hide r2; clear r2)
      go_roundw
      case rel => exact ⟨k + 1, by omega, by go_num, (((hxr.trans hx2).set (Nat.le_refl _) _).set (Nat.le_refl _) _).set (Nat.le_refl _) _, row_task R2.out⟩
      case measure => simp [intOf]; omega
    · have hkl : k = ts.length := by omega
      subst hkl
      go_wp2_with fail
      go_ret
      exact ⟨_, Nat.le_refl _, rfl, hr, hxr⟩
end Go.Proofs.Ytofnihagfjdocaa
