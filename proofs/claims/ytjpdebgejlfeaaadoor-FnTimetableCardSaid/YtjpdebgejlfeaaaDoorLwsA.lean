/- The walks of the laws' own helpers over ints: copy and comparison. -/
import Derived.Test.YtjpdebgejlfeaaaDoorBase
namespace Go.Proofs.YtjpdebgejlfeaaaDoor
open Go.RowKit

/-- What is left of n when a slice of len elements is paid for; -1 if it does not suffice. -/
def left0 (n : Int) (len : Nat) : Int := if (len : Int) ≤ n then n - len else -1
theorem left0_neg {n : Int} {len : Nat} (h : n < len) : left0 n len = -1 := by rw [left0, if_neg (by omega)]
theorem left0_pos {n : Int} {len : Nat} (h : (len : Int) ≤ n) : left0 n len = n - len := by rw [left0, if_pos h]

theorem Tryd.infoI : (Tryd.prog.info? 3).map (fun i => (i.zero, i.size, i.bytes)) = some (some (.int .i64 0), 1, 8) := by kernel_rfl
/-- The copied cells: the first k numbers, then zeros. -/
def icell (xs : List Int) (k j : Nat) : Value := if j < k then .int .i64 (at0 xs j) else .int .i64 0
theorem icell_step (xs : List Int) (k j : Nat) : (if j = k then Value.int .i64 (at0 xs k) else icell xs k j) = icell xs (k + 1) j := by
  unfold icell
  by_cases h : j = k
  · subst h
    rw [if_pos rfl, if_pos (by omega)]
  · rw [if_neg h]
    by_cases h' : j < k
    · rw [if_pos h', if_pos (by omega)]
    · rw [if_neg h', if_neg (by omega)]
theorem row_int {w : World} {b : Nat} {t : TypeId} {n : Nat} {xs : List Int} {k : Nat} (h : w.rowIs b t n (icell xs k)) :
    (w.setCell ⟨b, k, none⟩ (.int .i64 (at0 xs k))).rowIs b t n (icell xs (k + 1)) :=
  (h.set _ _).congr fun j _ => icell_step xs k j
theorem SInts.of_row {w : World} {b : Nat} {t : TypeId} {xs : List Int} (h : w.rowIs b t xs.length (icell xs xs.length)) (hc : xs.length * 8 ≤ 140737488355328)
    (hb : ∀ i, i < xs.length → I64 (at0 xs i)) : SInts w (.slice (some ⟨b, 0, none⟩) xs.length xs.length) xs := by
  refine ⟨_, _, rfl, Nat.le_refl _, hc, hb, fun _ => ⟨b, 0, rfl, h.lt, fun i hi => ?_⟩⟩
  rw [Nat.zero_add, h.cell hi]
  unfold icell
  rw [if_pos hi]
/-- A copy of ints in new memory: block b is new, and it holds just the numbers. -/
def NewInts (xs : List Int) (w : World) (e : Ending) (w' : World) : Prop :=
  ∃ b, w.heap.size ≤ b ∧ e = .returned (.slice (some ⟨b, 0, none⟩) xs.length xs.length) ∧ w'.rowIs b 3 xs.length (icell xs xs.length) ∧ Ext w w'

/-- Where there is a number, the slice lies at the head of block b, whose cells are f; its first ones read as xs. -/
def OwnC (w : World) (A : Option Addr) (b m : Nat) (f : Nat → Value) (xs : List Int) : Prop :=
  0 < xs.length → A = some ⟨b, 0, none⟩ ∧ w.rowIs b 3 m f ∧ xs.length ≤ m ∧ ∀ i, i < xs.length → f i = .int .i64 (at0 xs i)
theorem OwnC.ext {w w' : World} {A : Option Addr} {b m : Nat} {f : Nat → Value} {xs : List Int} (h : OwnC w A b m f xs) (hx : Ext w w') : OwnC w' A b m f xs :=
  fun hp => ⟨(h hp).1, hx.row (h hp).2.1, (h hp).2.2⟩
theorem OwnC.lt {w : World} {A : Option Addr} {b m : Nat} {f : Nat → Value} {xs : List Int} (h : OwnC w A b m f xs) (hp : 0 < xs.length) : b < w.heap.size := (h hp).2.1.lt
/-- The result is a slice of its own (nil if it is empty) that reads as xs: its block is new. -/
def OwnRes (xs : List Int) (w : World) (e : Ending) (w' : World) : Prop :=
  ∃ A c b m f, e = .returned (.slice A xs.length c) ∧ xs.length ≤ c ∧ xs.length * 8 ≤ 140737488355328 ∧ w.heap.size ≤ b ∧
    OwnC w' A b m f xs ∧ Ext w w'
theorem OwnRes.new {xs : List Int} {w w' : World} {e : Ending} (hc : xs.length * 8 ≤ 140737488355328) (h : NewInts xs w e w') : OwnRes xs w e w' := by
  obtain ⟨b, hb, he, hr, hx⟩ := h
  exact ⟨_, _, b, _, _, he, Nat.le_refl _, hc, hb, fun _ => ⟨rfl, hr, Nat.le_refl _, fun i hi => by rw [icell, if_pos hi]⟩, hx⟩
theorem OwnRes.nil_ {w w' : World} {e : Ending} (he : e = .returned (.slice none 0 0)) (hx : Ext w w') : OwnRes [] w e w' :=
  ⟨none, 0, w.heap.size, 0, fun _ => .int .i64 0, he, Nat.le_refl _, by simp, Nat.le_refl _, fun h => absurd h (by simp), hx⟩
theorem SInts.own {xs : List Int} {w : World} {A : Option Addr} {c b m : Nat} {f : Nat → Value} (hc : xs.length ≤ c) (hc2 : xs.length * 8 ≤ 140737488355328)
    (h : OwnC w A b m f xs) (hb : ∀ i, i < xs.length → I64 (at0 xs i)) : SInts w (.slice A xs.length c) xs := by
  refine ⟨A, c, rfl, hc, hc2, hb, fun hp => ?_⟩
  obtain ⟨h1, h2, h3, h4⟩ := h hp
  exact ⟨b, 0, h1, h2.lt, fun i hi => by rw [Nat.zero_add, h2.cell (by omega), h4 i hi]⟩


set_option maxHeartbeats 1000000 in
/-- Two slices that read as the same ints are found equal. -/
theorem eqIntS_same (v v' : Value) (xs : List Int) (w : World) (hS : SInts w v xs) (hS' : SInts w v' xs) :
    Calls Tryd.prog 9 #[v, v'] w (Ret (.bool true) w) := by
  have hS0 := hide hS
  have hS0' := hide hS'
  obtain ⟨A, cp, rfl, hl, hlen⟩ := hS.form
  obtain ⟨A', cp', rfl, hl', -⟩ := hS'.form
  clear hS hS'
  go_enter Tryd.func9, Tryd.ntmps9
  go_wp2
  go_loopw [5] (fun i wr => ∃ k : Nat, k ≤ xs.length ∧ i = .int .i64 k ∧ Ext w wr) (fun i _ => xs.length - (intOf i).toNat)
  case atStart => exact ⟨0, Nat.zero_le _, rfl, Ext.refl w⟩
  case round =>
    obtain ⟨k, hk, rfl, hxr⟩ := hrel
    by_cases hlt : k < xs.length
    · obtain ⟨b, off, rfl, hbl, f1⟩ := (hS0.out.ext hxr).at_ hlt
      obtain ⟨b', off', rfl, hbl', f1'⟩ := (hS0'.out.ext hxr).at_ hlt
      go_wp2
      refine wp_region_ext (by kernel_rfl) (by kernel_rfl) ?_
      iterate 9 (apply quiet_val; (focus rfl); (focus (intro w' hw'; have hk' := hw'.cells; go_simp; all_goals exact rfl)); simp only [Act.put, List.setIfInBounds_toArray, List.set_cons_succ, List.set_cons_zero])
      refine wpQuiet_nil ?_
      intro w2 hx2
      go_wp2
      go_roundw
      case rel => exact ⟨k + 1, by omega, by go_num, hxr.trans hx2⟩
      case measure => simp [intOf]; omega
    · go_wp2
      go_ret
      exact Ret.mk rfl hxr
end Go.Proofs.YtjpdebgejlfeaaaDoor
/- The walks of the laws' own helpers over tasks: size, copy, comparison. -/
namespace Go.Proofs.YtjpdebgejlfeaaaDoor
open Go.RowKit

theorem szTaskS_any (v : Value) (ts : List Tk) (n : Int) (w : World) (hS : STasks w v ts) (h1 : 0 ≤ n) (h2 : n ≤ 1048576) :
    Calls Tryd.prog 5 #[v, .int .i64 n] w fun e w' => e = .returned (.int .i64 (left0 n ts.length)) ∧ w = w' := by
  obtain ⟨A, cp, rfl, hl, hc, -, -⟩ := hS
  by_cases hle : (ts.length : Int) ≤ n
  · go_enter Tryd.func5, Tryd.ntmps5
    go_wp2
    go_ret
    exact ⟨ret_i (by rw [left0, if_pos hle]), rfl⟩
  · go_enter Tryd.func5, Tryd.ntmps5
    go_wp2
    go_ret
    exact ⟨ret_i (by rw [left0, if_neg (by omega)]), rfl⟩

def tkV (t : Tk) : Value := .agg #[.int .i64 t.s, .int .i64 t.d, .int .i64 t.m]
theorem toTask_any (s d m : Int) (w : World) :
    Calls Tryd.prog 23 #[.agg #[.int .i64 s, .int .i64 d, .int .i64 m]] w (Ret (.agg #[.int .i64 s, .int .i64 d, .int .i64 m]) w) := by
  go_enter Tryd.func23, Tryd.ntmps23
  go_wp2
  go_returns
  exact Ret.mk rfl ((((Ext.refl w).alloc _).alloc _).alloc _)

theorem eqTask_any (s d m s' d' m' : Int) (w : World) :
    Calls Tryd.prog 31 #[.agg #[.int .i64 s, .int .i64 d, .int .i64 m], .agg #[.int .i64 s', .int .i64 d', .int .i64 m']] w (Ret (.bool (decide (s = s') && decide (d = d') && decide (m = m'))) w) := by
  by_cases h1 : s = s'
  · by_cases h2 : d = d'
    · by_cases h3 : m = m'
      all_goals
        go_enter Tryd.func31, Tryd.ntmps31
        go_wp2
        go_ret
        exact Ret.mk (by simp [*]) (((Ext.refl w).alloc _).alloc _)
    · go_enter Tryd.func31, Tryd.ntmps31
      go_wp2
      go_ret
      exact Ret.mk (by simp [*]) (((Ext.refl w).alloc _).alloc _)
  · go_enter Tryd.func31, Tryd.ntmps31
    go_wp2
    go_ret
    exact Ret.mk (by simp [*]) (((Ext.refl w).alloc _).alloc _)

theorem Tryd.infoT : (Tryd.prog.info? 42).map (fun i => (i.zero, i.size, i.bytes)) = some (some (.agg #[.int .i64 0, .int .i64 0, .int .i64 0]), 3, 24) := by kernel_rfl
/-- The copied cells: the first k tasks, then zeros. -/
def tcell (ts : List Tk) (k j : Nat) : Value :=
  if j < 3 * k then (if j % 3 = 0 then .int .i64 (tkS ts (j / 3)) else if j % 3 = 1 then .int .i64 (tkD ts (j / 3)) else .int .i64 (tkM ts (j / 3))) else .int .i64 0

theorem tcell_step (ts : List Tk) (k j : Nat) :
    (if j = k * 3 + 2 then Value.int .i64 (tkM ts k) else if j = k * 3 + 1 then .int .i64 (tkD ts k) else if j = k * 3 then .int .i64 (tkS ts k) else tcell ts k j) = tcell ts (k + 1) j := by
  unfold tcell
  by_cases h2 : j = k * 3 + 2
  · subst h2
    rw [if_pos rfl, if_pos (by omega), if_neg (by omega), if_neg (by omega), show (k * 3 + 2) / 3 = k by omega]
  by_cases h1 : j = k * 3 + 1
  · subst h1
    rw [if_neg (by omega), if_pos rfl, if_pos (by omega), if_neg (by omega), if_pos (by omega), show (k * 3 + 1) / 3 = k by omega]
  by_cases h0 : j = k * 3
  · subst h0
    rw [if_neg (by omega), if_neg (by omega), if_pos rfl, if_pos (by omega), if_pos (by omega), show (k * 3) / 3 = k by omega]
  rw [if_neg h2, if_neg h1, if_neg h0]
  by_cases h : j < 3 * k
  · rw [if_pos h, if_pos (show j < 3 * (k + 1) by omega)]
  · rw [if_neg h, if_neg (show ¬ j < 3 * (k + 1) by omega)]
theorem row_task {w : World} {b : Nat} {t : TypeId} {n : Nat} {ts : List Tk} {k : Nat} (h : w.rowIs b t n (tcell ts k)) :
    (((w.setCell ⟨b, k * 3, none⟩ (.int .i64 (tkS ts k))).setCell ⟨b, k * 3 + 1, none⟩ (.int .i64 (tkD ts k))).setCell ⟨b, k * 3 + 2, none⟩ (.int .i64 (tkM ts k))).rowIs b t n (tcell ts (k + 1)) :=
  (((h.set _ _).set _ _).set _ _).congr fun j _ => tcell_step ts k j
theorem STasks.of_row {w : World} {b : Nat} {t : TypeId} {ts : List Tk} (h : w.rowIs b t (ts.length * 3) (tcell ts ts.length)) (hc : ts.length * 24 ≤ 140737488355328)
    (hb : ∀ i, i < ts.length → I64 (tkS ts i) ∧ I64 (tkD ts i) ∧ I64 (tkM ts i)) : STasks w (.slice (some ⟨b, 0, none⟩) ts.length ts.length) ts := by
  refine ⟨_, _, rfl, Nat.le_refl _, hc, hb, fun _ => ⟨b, 0, rfl, h.lt, fun i hi => ⟨?_, ?_, ?_⟩⟩⟩
  · rw [Nat.zero_add, h.cell (by omega)]
    unfold tcell
    rw [if_pos (by omega), if_pos (by omega), show (i * 3) / 3 = i by omega]
  · rw [Nat.zero_add, h.cell (by omega)]
    unfold tcell
    rw [if_pos (by omega), if_neg (by omega), if_pos (by omega), show (i * 3 + 1) / 3 = i by omega]
  · rw [Nat.zero_add, h.cell (by omega)]
    unfold tcell
    rw [if_pos (by omega), if_neg (by omega), if_neg (by omega), show (i * 3 + 2) / 3 = i by omega]

/-- A copy of tasks in new memory: block b is new, and it holds just the tasks. -/
def NewTasks (ts : List Tk) (w : World) (e : Ending) (w' : World) : Prop :=
  ∃ b, w.heap.size ≤ b ∧ e = .returned (.slice (some ⟨b, 0, none⟩) ts.length ts.length) ∧ w'.rowIs b 42 (ts.length * 3) (tcell ts ts.length) ∧ Ext w w'
set_option maxHeartbeats 1000000 in
theorem toTaskS_any (v : Value) (ts : List Tk) (w : World) (hS : STasks w v ts) :
    Calls Tryd.prog 7 #[v] w (NewTasks ts w) := by
  have hS0 := hide hS
  obtain ⟨A, cp, rfl, hl, hc, hb, hcell⟩ := hS
  have hlen : ts.length ≤ 9223372036854775807 := by omega
  have Hc := hide hcell; clear hcell
  have Hb := hide hb; clear hb
  go_enter Tryd.func7, Tryd.ntmps7
  go_wp2_with (at_make; go_must (refine wpList_make_gen _ rfl _ _ 26 rfl 42 (.agg #[.int .i64 0, .int .i64 0, .int .i64 0]) 3 24 Tryd.underlying26 Tryd.infoT .i64 .i64 ts.length rfl rfl (by omega) (by omega) (fun _ => .int .i64 0) (fun i _ => zero3 i) ?_); intro w1 hrow hsz hx)
  go_loopw [4] (fun i wr => ∃ k : Nat, k ≤ ts.length ∧ i = .int .i64 k ∧ Ext w wr ∧ wr.rowIs w.heap.size 42 (ts.length * 3) (tcell ts k)) (fun i _ => ts.length - (intOf i).toNat)
  case atStart => exact ⟨0, Nat.zero_le _, rfl, hx, hrow⟩
  case round =>
    obtain ⟨k, hk, rfl, hxr, hr⟩ := hrel
    have hB : w.heap.size < wr.heap.size := hr.lt
    by_cases hlt : k < ts.length
    · obtain ⟨b, off, rfl, hbl, hcs⟩ := Hc.out (by omega)
      obtain ⟨g1, g2, g3⟩ := hcs k hlt
      have f1 := (hxr.cell (p := ⟨b, off + k * 3, none⟩) hbl).trans g1
      have f2 := (hxr.cell (p := ⟨b, off + k * 3 + 1, none⟩) hbl).trans g2
      have f3 := (hxr.cell (p := ⟨b, off + k * 3 + 2, none⟩) hbl).trans g3
      have Hr := hide hr; clear hr
      clear hcs g1 g2 g3
      go_wp2_with (go_at_call 23; refine (toTask_any _ _ _ _).mono ?_; rintro e w2 ⟨rfl, hx2⟩; have r2 := hx2.row Hr.out; have c0 := r2.cell (i := k * 3) (by omega); have c1 := r2.cell (i := k * 3 + 1) (by omega); have c2 := r2.cell (i := k * 3 + 2) (by omega); have z0 := r2.frozen (k * 3); have z1 := r2.frozen (k * 3 + 1); have z2 := r2.frozen (k * 3 + 2); have R2 := hide r2; clear r2)
      go_roundw
      case rel => exact ⟨k + 1, by omega, by go_num, (((hxr.trans hx2).set (Nat.le_refl _) _).set (Nat.le_refl _) _).set (Nat.le_refl _) _, row_task R2.out⟩
      case measure => simp [intOf]; omega
    · have hkl : k = ts.length := by omega
      subst hkl
      go_wp2_with fail
      go_ret
      exact ⟨_, Nat.le_refl _, rfl, hr, hxr⟩
end Go.Proofs.YtjpdebgejlfeaaaDoor
/- The walks of the laws' own marks: they write rising numbers into a slice, and ask whether they still stand there. -/
namespace Go.Proofs.YtjpdebgejlfeaaaDoor
open Go.RowKit

theorem upd_refl (w : World) (row : Option Nat) : w.grownBy w row := ⟨rfl, rfl, rfl, Nat.le_refl _, fun _ _ _ => rfl⟩
/-- The block that is written: none if there is nothing to write. -/
def rowOf (n b : Nat) : Option Nat := if n = 0 then none else some b
theorem rowOf_pos {n b : Nat} (h : 0 < n) : rowOf n b = some b := by rw [rowOf, if_neg (by omega)]
theorem upd_set {a w : World} {g : Nat} (h : a.grownBy w (some g)) (o : Nat) (u : Value) : a.grownBy (w.setCell ⟨g, o, none⟩ u) (some g) :=
  ⟨h.os, h.tape, h.output, by simpa [World.setCell] using h.size, fun i hi hne => (Below.heap_setCell w ⟨g, o, none⟩ u i (fun e => hne (by rw [e]))).trans (h.block i hi hne)⟩
theorem upd_set' {a w : World} {n g : Nat} (h : a.grownBy w (rowOf n g)) (hn : 0 < n) (o : Nat) (u : Value) : a.grownBy (w.setCell ⟨g, o, none⟩ u) (rowOf n g) := by
  rw [rowOf_pos hn] at h ⊢
  exact upd_set h o u
theorem upd_row {a w : World} {k g b : Nat} {t : TypeId} {n : Nat} {f : Nat → Value} (h : a.grownBy w (rowOf k g)) (hr : a.rowIs b t n f) (hne : 0 < k → b ≠ g) : w.rowIs b t n f :=
  hr.of_block (h.block b hr.lt (by
    unfold rowOf
    split
    · simp
    · intro e
      injection e with e
      exact hne (by omega) e))
theorem upd_below {B : Nat} {a w w' : World} {k g : Nat} (h : Below B a w) (hg : w.grownBy w' (rowOf k g)) (hB : B ≤ w.heap.size) (hgB : 0 < k → B ≤ g) : Below B a w' :=
  h.grown hg hB (by
    intro x hx
    unfold rowOf at hx
    split at hx
    · cases hx
    · injection hx with hx
      subst hx
      exact hgB (by omega))
theorem ext_below {B : Nat} {a w w' : World} (h : Below B a w) (hx : Ext w w') (hB : B ≤ w.heap.size) : Below B a w' := h.trans (Below.mono hx hB)

theorem OwnC.upd {w w' : World} {A : Option Addr} {b m k g : Nat} {f : Nat → Value} {xs : List Int} (h : OwnC w A b m f xs) (hg : w.grownBy w' (rowOf k g)) (hne : 0 < k → 0 < xs.length → b ≠ g) : OwnC w' A b m f xs :=
  fun hp => ⟨(h hp).1, upd_row hg (h hp).2.1 (fun hk => hne hk hp), (h hp).2.2⟩
/-- The first k cells hold k0, k0 + 1, ..; the rest is f. -/
def mcell (k0 : Int) (f : Nat → Value) (k j : Nat) : Value := if j < k then .int .i64 (k0 + j) else f j
theorem mcell_step (k0 : Int) (f : Nat → Value) (k j : Nat) : (if j = k then Value.int .i64 (k0 + k) else mcell k0 f k j) = mcell k0 f (k + 1) j := by
  unfold mcell
  by_cases h : j = k
  · subst h
    rw [if_pos rfl, if_pos (by omega)]
  · rw [if_neg h]
    by_cases h' : j < k
    · rw [if_pos h', if_pos (by omega)]
    · rw [if_neg h', if_neg (by omega)]
theorem row_mark {w : World} {b : Nat} {t : TypeId} {n : Nat} {f : Nat → Value} {k : Nat} {k0 : Int} (h : w.rowIs b t n (mcell k0 f k)) :
    (w.setCell ⟨b, k, none⟩ (.int .i64 (k0 + k))).rowIs b t n (mcell k0 f (k + 1)) :=
  (h.set _ _).congr fun j _ => mcell_step k0 f k j
theorem row_mark' {w : World} {b : Nat} {t : TypeId} {n : Nat} {f : Nat → Value} {k k' : Nat} {k0 v : Int} (h : w.rowIs b t n (mcell k0 f k)) (hv : v = k0 + k) (hk : k' = k + 1) :
    (w.setCell ⟨b, k, none⟩ (.int .i64 v)).rowIs b t n (mcell k0 f k') := by
  subst hv; subst hk
  exact row_mark h
/-- The call returned r; it wrote into block b alone, whose first n cells now hold k0, k0 + 1, ... -/
def Marked (r k0 : Int) (b : Nat) (t : TypeId) (n m : Nat) (f : Nat → Value) (w : World) (e : Ending) (w' : World) : Prop :=
  e = .returned (.int .i64 r) ∧ w.grownBy w' (rowOf n b) ∧ (0 < n → w'.rowIs b t m (mcell k0 f n))

set_option maxHeartbeats 1000000 in
theorem markIntS_any (A : Option Addr) (n c b m : Nat) (f : Nat → Value) (k0 : Int) (w : World) (hk0 : 0 ≤ k0) (hk1 : k0 ≤ 1000000000) (hn : n ≤ 1000000000)
    (hA : Hid (0 < n → A = some ⟨b, 0, none⟩ ∧ w.rowIs b 3 m f ∧ n ≤ m)) :
    Calls Tryd.prog 12 #[.slice A n c, .int .i64 k0] w (Marked (k0 + n) k0 b 3 n m f w) := by
  go_enter Tryd.func12, Tryd.ntmps12
  go_wp2
  go_loopw [1, 5] (fun l i wr => ∃ k : Nat, k ≤ n ∧ i = .int .i64 k ∧ l = .int .i64 (k0 + k) ∧ w.grownBy wr (rowOf n b) ∧ (0 < n → wr.rowIs b 3 m (mcell k0 f k))) (fun _ i _ => n - (intOf i).toNat)
  case atStart => exact ⟨0, Nat.zero_le _, rfl, by simp, upd_refl _ _, fun h => (hA.out h).2.1⟩
  case round =>
    obtain ⟨k, hk, rfl, rfl, hg, hr0⟩ := hrel
    have Hr0 := hide hr0; clear hr0
    by_cases hlt : k < n
    · obtain ⟨rfl, -, hnm⟩ := hA.out (by omega)
      have hr := Hr0.out (by omega)
      have c0 := hr.cell (i := k) (by omega)
      have z0 := hr.frozen k
      have Hr := hide hr; clear hr
      go_wp2
      go_roundw
      case rel => exact ⟨k + 1, by omega, by go_num, by go_num, upd_set' hg (by omega) _ _, fun _ => row_mark Hr.out⟩
      case measure => simp [intOf]; omega
    · have hkl : k = n := by omega
      subst hkl
      go_wp2
      go_ret
      exact ⟨rfl, hg, Hr0.out⟩
set_option maxHeartbeats 1000000 in
theorem heldIntS_any (A : Option Addr) (n c b m : Nat) (f : Nat → Value) (k0 : Int) (w : World) (hk0 : 0 ≤ k0) (hk1 : k0 ≤ 1000000000) (hn : n ≤ 1000000000)
    (hA : Hid (0 < n → A = some ⟨b, 0, none⟩ ∧ w.rowIs b 3 m (mcell k0 f n) ∧ n ≤ m)) :
    Calls Tryd.prog 13 #[.slice A n c, .int .i64 k0] w fun e w' => e = .returned (.int .i64 (k0 + n)) ∧ w = w' := by
  go_enter Tryd.func13, Tryd.ntmps13
  go_wp2
  go_loop [1, 5] (fun l i => ∃ k : Nat, k ≤ n ∧ i = .int .i64 k ∧ l = .int .i64 (k0 + k)) (fun _ i => n - (intOf i).toNat)
  case atStart => exact ⟨0, Nat.zero_le _, rfl, by simp⟩
  case round =>
    obtain ⟨k, hk, rfl, rfl⟩ := hrel
    by_cases hlt : k < n
    · obtain ⟨rfl, hr, hnm⟩ := hA.out (by omega)
      have c0 := hr.cell (i := k) (by omega)
      rw [mcell, if_pos hlt] at c0
      clear hr
      go_wp2
      go_round
      case rel => exact ⟨k + 1, by omega, by go_num, by go_num⟩
      case measure => simp [intOf]; omega
    · have hkl : k = n := by omega
      subst hkl
      go_wp2
      go_ret
      exact ⟨rfl, rfl⟩
set_option maxHeartbeats 1000000 in
theorem markTaskS_any (A : Option Addr) (n c b m : Nat) (f : Nat → Value) (k0 : Int) (w : World) (hk0 : 0 ≤ k0) (hk1 : k0 ≤ 1000000000) (hn : n ≤ 1000000000)
    (hA : Hid (0 < n → A = some ⟨b, 0, none⟩ ∧ w.rowIs b 42 m f ∧ n * 3 ≤ m)) :
    Calls Tryd.prog 11 #[.slice A n c, .int .i64 k0] w (Marked (k0 + (n * 3 : Nat)) k0 b 42 (n * 3) m f w) := by
  go_enter Tryd.func11, Tryd.ntmps11
  go_wp2
  go_loopw [1, 5] (fun l i wr => ∃ k : Nat, k ≤ n ∧ i = .int .i64 k ∧ l = .int .i64 (k0 + (k * 3 : Nat)) ∧ w.grownBy wr (rowOf (n * 3) b) ∧ (0 < n → wr.rowIs b 42 m (mcell k0 f (k * 3)))) (fun _ i _ => n - (intOf i).toNat)
  case atStart => exact ⟨0, Nat.zero_le _, rfl, by simp, upd_refl _ _, fun h => by rw [Nat.zero_mul]; exact (hA.out h).2.1⟩
  case round =>
    obtain ⟨k, hk, rfl, rfl, hg, hr0⟩ := hrel
    have Hr0 := hide hr0; clear hr0
    by_cases hlt : k < n
    · obtain ⟨rfl, -, hnm⟩ := hA.out (by omega)
      have hr := Hr0.out (by omega)
      have c0 := hr.cell (i := k * 3) (by omega)
      have c1 := hr.cell (i := k * 3 + 1) (by omega)
      have c2 := hr.cell (i := k * 3 + 2) (by omega)
      have z0 := hr.frozen (k * 3)
      have z1 := hr.frozen (k * 3 + 1)
      have z2 := hr.frozen (k * 3 + 2)
      have Hr := hide hr; clear hr
      go_wp2
      go_roundw
      case rel => exact ⟨k + 1, by omega, by go_num, by go_num, upd_set' (upd_set' (upd_set' hg (by omega) _ _) (by omega) _ _) (by omega) _ _, fun _ => by
        exact row_mark' (row_mark' (row_mark' Hr.out (by omega) rfl) (by omega) rfl) (by omega) (by omega)⟩
      case measure => simp [intOf]; omega
    · have hkl : k = n := by omega
      subst hkl
      go_wp2
      go_ret
      exact ⟨rfl, hg, fun h => Hr0.out (by omega)⟩
end Go.Proofs.YtjpdebgejlfeaaaDoor
