/- Memory words shared by all walks of this seat: how slices of ints and of tasks read, and that memory only grows. -/
import Derived.Test.YtjpdebgejlfeaaaDoorRows
import Derived.WalkKit
import Derived.Below
import Derived.Handy
import Derived.Outline
import Derived.Deep.QuietTactic
import Derived.BigQuiet
import Derived.Deep.OwnRows
import Derived.Deep.DeepMust
import Derived.WalkSpells
namespace Go.Proofs.YtjpdebgejlfeaaaDoor
open Go.RowKit

theorem hide {p : Prop} (h : p) : Hid p := h

/-- Memory only grows: all that was there reads as it did. -/
def Ext (w w' : World) : Prop := Below w.heap.size w w'
theorem Ext.refl (w : World) : Ext w w := Below.refl _ _
theorem Ext.trans {a b c : World} (h : Ext a b) (k : Ext b c) : Ext a c := Below.trans h (Below.mono k h.size)
theorem Ext.drew {a w : World} (h : Ext a w) : Ext a w.drew := Below.drew h
theorem Ext.drewN {a w : World} (h : Ext a w) (n : Nat) : Ext a (w.drewN n) := ⟨h.os, h.tape, h.output, h.size, h.block⟩
theorem Ext.alloc {a w : World} (h : Ext a w) (o : Obj) : Ext a (w.alloc o) := Below.alloc h h.size o
theorem Ext.set {a w : World} (h : Ext a w) {p : Addr} (hp : a.heap.size ≤ p.block) (u : Value) : Ext a (w.setCell p u) := Below.setCell h hp u
theorem Ext.size {a w : World} (h : Ext a w) : a.heap.size ≤ w.heap.size := Below.size h
theorem Ext.cell {a w : World} (h : Ext a w) {p : Addr} (hp : p.block < a.heap.size) : w.cell? p = a.cell? p := Below.cell h hp

theorem Ext.cells {a w : World} (h : Ext a w) : ∀ (b o : Nat), b < a.heap.size → w.cell? ⟨b, o, none⟩ = a.cell? ⟨b, o, none⟩ := fun b o hb => h.cell (p := ⟨b, o, none⟩) hb

theorem Ext.frz {a w : World} (h : Ext a w) : ∀ (b o : Nat), b < a.heap.size → w.frozen? ⟨b, o, none⟩ = a.frozen? ⟨b, o, none⟩ := fun b o hb => Below.frozen h (p := ⟨b, o, none⟩) hb
theorem Ext.mono {a w w' : World} (h : Ext a w) (k : Ext w w') : Ext a w' := h.trans k

/-- The call returned v, and memory only grew. -/
def Ret (v : Value) (w : World) (e : Ending) (w' : World) : Prop := e = .returned v ∧ Ext w w'
theorem Ret.mk {v : Value} {w w' : World} {e : Ending} (h : e = .returned v) (hx : Ext w w') : Ret v w e w' := ⟨h, hx⟩
theorem Ret.same {v : Value} {w : World} {e : Ending} (h : e = .returned v) : Ret v w e w := ⟨h, Ext.refl w⟩

theorem ret_i {k : IntKind} {a b : Int} (h : a = b) : Ending.returned (.int k a) = .returned (.int k b) := by rw [h]

theorem ret_b {a b : Bool} (h : a = b) : Ending.returned (.bool a) = .returned (.bool b) := by rw [h]
/-- The zero cells of a struct of three ints. -/
theorem zero3 (i : Nat) : (Value.agg #[.int .i64 0, .int .i64 0, .int .i64 0]).cells[i % (Value.agg #[.int .i64 0, .int .i64 0, .int .i64 0]).cells.size]! = .int .i64 0 := by
  have h3 : i % 3 < 3 := Nat.mod_lt _ (by omega)
  show #[Value.int .i64 0, Value.int .i64 0, Value.int .i64 0][i % 3]! = _
  generalize i % 3 = q at h3
  match q, h3 with
  | 0, _ => rfl
  | 1, _ => rfl
  | 2, _ => rfl

theorem getD_lt {α : Type} (l : List α) (d : α) {i : Nat} (h : i < l.length) : l.getD i d = l[i] := by simp [List.getD_eq_getElem?_getD, h]
/-- low ≤ n ≤ high -/
def inR (n l h : Int) : Bool := decide (l ≤ n) && decide (n ≤ h)
/-- The i-th number of a list. -/
def at0 (xs : List Int) (i : Nat) : Int := xs.getD i 0
/-- A number that an int holds. -/
def I64 (n : Int) : Prop := -9223372036854775808 ≤ n ∧ n ≤ 9223372036854775807

/-- v is a slice whose cells read as the integers xs. -/
def SInts (w : World) (v : Value) (xs : List Int) : Prop :=
  ∃ A c, v = .slice A xs.length c ∧ xs.length ≤ c ∧ xs.length * 8 ≤ 140737488355328 ∧ (∀ i, i < xs.length → I64 (at0 xs i)) ∧
    (0 < xs.length → ∃ b off, A = some ⟨b, off, none⟩ ∧ b < w.heap.size ∧ ∀ i, i < xs.length → w.cell? ⟨b, off + i, none⟩ = some (.int .i64 (at0 xs i)))
theorem SInts.ext {w w' : World} {v : Value} {xs : List Int} (h : SInts w v xs) (hx : Ext w w') : SInts w' v xs := by
  obtain ⟨A, c, h1, h2, h3, h4, h5⟩ := h
  refine ⟨A, c, h1, h2, h3, h4, fun hp => ?_⟩
  obtain ⟨b, off, e, hb, hc⟩ := h5 hp
  exact ⟨b, off, e, Nat.lt_of_lt_of_le hb hx.size, fun i hi => (hx.cell (p := ⟨b, off + i, none⟩) hb).trans (hc i hi)⟩

theorem SInts.form {w : World} {v : Value} {xs : List Int} (h : SInts w v xs) : ∃ A c, v = .slice A xs.length c ∧ xs.length ≤ c ∧ xs.length ≤ 17592186044416 := by
  obtain ⟨A, c, h1, h2, h3, -, -⟩ := h
  exact ⟨A, c, h1, h2, by omega⟩
theorem SInts.at_ {w : World} {A : Option Addr} {n c : Nat} {xs : List Int} (h : SInts w (.slice A n c) xs) {k : Nat} (hk : k < xs.length) :
    ∃ b off, A = some ⟨b, off, none⟩ ∧ b < w.heap.size ∧ w.cell? ⟨b, off + k, none⟩ = some (.int .i64 (at0 xs k)) := by
  obtain ⟨A', c', h1, -, -, -, h5⟩ := h
  injection h1 with e1 e2 e3
  subst e1
  obtain ⟨b, off, e, hb, hc⟩ := h5 (by omega)
  exact ⟨b, off, e, hb, hc k hk⟩
theorem SInts.cell_ {w : World} {b off : Nat} {n c : Nat} {xs : List Int} (h : SInts w (.slice (some ⟨b, off, none⟩) n c) xs) {k : Nat} (hk : k < xs.length) :
    w.cell? ⟨b, off + k, none⟩ = some (.int .i64 (at0 xs k)) := by
  obtain ⟨b', off', e, -, h1⟩ := h.at_ hk
  injection e with e
  injection e with e1 e2
  subst e1; subst e2
  exact h1
theorem SInts.i64 {w : World} {v : Value} {xs : List Int} (h : SInts w v xs) {k : Nat} (hk : k < xs.length) : I64 (at0 xs k) := by
  obtain ⟨A, c, -, -, -, h4, -⟩ := h
  exact h4 k hk

/-- A task: three numbers. -/
structure Tk where
  s : Int
  d : Int
  m : Int
def tk0 (ts : List Tk) (i : Nat) : Tk := ts.getD i ⟨0, 0, 0⟩
def tkS (ts : List Tk) (i : Nat) : Int := (tk0 ts i).s
def tkD (ts : List Tk) (i : Nat) : Int := (tk0 ts i).d
def tkM (ts : List Tk) (i : Nat) : Int := (tk0 ts i).m
/-- v is a slice whose cells read as the tasks ts. -/
def STasks (w : World) (v : Value) (ts : List Tk) : Prop :=
  ∃ A c, v = .slice A ts.length c ∧ ts.length ≤ c ∧ ts.length * 24 ≤ 140737488355328 ∧ (∀ i, i < ts.length → I64 (tkS ts i) ∧ I64 (tkD ts i) ∧ I64 (tkM ts i)) ∧
    (0 < ts.length → ∃ b off, A = some ⟨b, off, none⟩ ∧ b < w.heap.size ∧ ∀ i, i < ts.length →
      w.cell? ⟨b, off + i * 3, none⟩ = some (.int .i64 (tkS ts i)) ∧ w.cell? ⟨b, off + i * 3 + 1, none⟩ = some (.int .i64 (tkD ts i)) ∧ w.cell? ⟨b, off + i * 3 + 2, none⟩ = some (.int .i64 (tkM ts i)))
theorem STasks.ext {w w' : World} {v : Value} {ts : List Tk} (h : STasks w v ts) (hx : Ext w w') : STasks w' v ts := by
  obtain ⟨A, c, h1, h2, h3, h4, h5⟩ := h
  refine ⟨A, c, h1, h2, h3, h4, fun hp => ?_⟩
  obtain ⟨b, off, e, hb, hc⟩ := h5 hp
  exact ⟨b, off, e, Nat.lt_of_lt_of_le hb hx.size, fun i hi => ⟨(hx.cell (p := ⟨b, _, none⟩) hb).trans (hc i hi).1, (hx.cell (p := ⟨b, _, none⟩) hb).trans (hc i hi).2.1, (hx.cell (p := ⟨b, _, none⟩) hb).trans (hc i hi).2.2⟩⟩

theorem STasks.form {w : World} {v : Value} {ts : List Tk} (h : STasks w v ts) : ∃ A c, v = .slice A ts.length c ∧ ts.length ≤ c ∧ ts.length ≤ 5864062014805 := by
  obtain ⟨A, c, h1, h2, h3, -, -⟩ := h
  exact ⟨A, c, h1, h2, by omega⟩
theorem STasks.at_ {w : World} {A : Option Addr} {n c : Nat} {ts : List Tk} (h : STasks w (.slice A n c) ts) {k : Nat} (hk : k < ts.length) :
    ∃ b off, A = some ⟨b, off, none⟩ ∧ b < w.heap.size ∧ w.cell? ⟨b, off + k * 3, none⟩ = some (.int .i64 (tkS ts k)) ∧ w.cell? ⟨b, off + k * 3 + 1, none⟩ = some (.int .i64 (tkD ts k)) ∧ w.cell? ⟨b, off + k * 3 + 2, none⟩ = some (.int .i64 (tkM ts k)) := by
  obtain ⟨A', c', h1, -, -, -, h5⟩ := h
  injection h1 with e1 e2 e3
  subst e1
  obtain ⟨b, off, e, hb, hc⟩ := h5 (by omega)
  exact ⟨b, off, e, hb, hc k hk⟩
theorem STasks.i64 {w : World} {v : Value} {ts : List Tk} (h : STasks w v ts) : ∀ i, i < ts.length → I64 (tkS ts i) ∧ I64 (tkD ts i) ∧ I64 (tkM ts i) := by
  obtain ⟨A, c, -, -, -, h4, -⟩ := h
  exact h4
theorem STasks.bytes {w : World} {v : Value} {ts : List Tk} (h : STasks w v ts) : ts.length * 24 ≤ 140737488355328 := by
  obtain ⟨A, c, -, h1, h2, -, -⟩ := h
  omega
theorem SInts.bytes {w : World} {v : Value} {xs : List Int} (h : SInts w v xs) : xs.length * 8 ≤ 140737488355328 := by
  obtain ⟨A, c, -, h1, h2, -, -⟩ := h
  omega
/-- All numbers lie in a range. -/
def allR (xs : List Int) (l h : Int) : Bool := xs.all (fun x => inR x l h)
theorem at0_mem {xs : List Int} {k : Nat} (hk : k < xs.length) : at0 xs k ∈ xs := by
  unfold at0
  rw [getD_lt _ _ hk]
  exact List.getElem_mem hk
theorem allR_at {xs : List Int} {l h : Int} (ha : allR xs l h = true) {k : Nat} (hk : k < xs.length) : l ≤ at0 xs k ∧ at0 xs k ≤ h := by
  have := List.all_eq_true.1 ha _ (at0_mem hk)
  simpa [inR] using this
theorem allR_of {xs : List Int} {l h : Int} (ha : ∀ j, j < xs.length → inR (at0 xs j) l h = true) : allR xs l h = true := by
  unfold allR
  rw [List.all_eq_true]
  intro x hx
  obtain ⟨i, hi, rfl⟩ := List.mem_iff_getElem.1 hx
  have := ha i hi
  unfold at0 at this
  rwa [getD_lt _ _ hi] at this
theorem allR_no {xs : List Int} {l h : Int} {k : Nat} (hk : k < xs.length) (hf : inR (at0 xs k) l h = false) : allR xs l h = false := by
  unfold allR
  rw [List.all_eq_false]
  exact ⟨_, at0_mem hk, by simp [hf]⟩

theorem Ext.row {a w : World} (h : Ext a w) {b : Nat} {t : TypeId} {n : Nat} {f : Nat → Value} (hr : a.rowIs b t n f) : w.rowIs b t n f := hr.of_block (h.block b hr.lt)
theorem Ext.of_new {a w w' : World} (h : Ext a w) (k : Ext w w') : Ext a w' := h.trans k

section
variable {P : Program}
/-- make of n elements of whatever size, n a variable. -/
theorem wpList_make_gen (w : World) {ops : Array Oper} {rest : List Oper} {o : Oper} {a : Act} {Q : Exit → Act → World → Prop}
    (hg : o.guard = none) (l c : Operand) (t : TypeId) (hop : o.op = Op.makeSlice t l c)
    (e : TypeId) (z : Value) (size bytes : Nat) (ht : P.underlying t = some (.slice e)) (hinfo : (P.info? e).map (fun i => (i.zero, i.size, i.bytes)) = some (some z, size, bytes))
    (kl kc : IntKind) (n : Nat) (hl : a.eval l = .int kl (n : Int)) (hc : a.eval c = .int kc (n : Int)) (hbytes : bytes * n ≤ 281474976710656) (h63 : n ≤ 9223372036854775807)
    (f : Nat → Value) (hf : ∀ i, i < n * size → z.cells[i % z.cells.size]! = f i)
    (hK : ∀ w', w'.rowIs w.heap.size e (n * size) f → w'.heap.size = w.heap.size + 1 → Ext w w' → wpList P ops Q rest (a.put o.dst (.slice (some ⟨w.heap.size, 0, none⟩) n n)) w') :
    wpList P ops Q (o :: rest) a w := by
  refine wpList_plain hg fun K hK' => ?_
  obtain ⟨i, hi, hzz⟩ := Option.map_eq_some_iff.1 hinfo
  simp only [Prod.mk.injEq] at hzz
  obtain ⟨hz, rfl, rfl⟩ := hzz
  have hb' : (i.bytes : Int) * (n : Int) ≤ 281474976710656 := by
    have h : ((i.bytes * n : Nat) : Int) ≤ 281474976710656 := by omega
    rwa [Int.natCast_mul] at h
  have hrun := run_make (P := P) w t e i z ht hi hz kl kc n n (by omega) (Int.le_refl _) hb' (by omega)
  simp only [Int.toNat_natCast] at hrun
  have hrow : (w.alloc (.cells (madeCells z.cells (n * i.size)) e)).rowIs w.heap.size e (n * i.size) f := by
    have h1 := World.rowIs_alloc w (madeCells z.cells (n * i.size)) e f (fun j hj => by
      rw [size_madeCells] at hj
      simp [madeCells, hj, ← hf j hj])
    rwa [size_madeCells] at h1
  unfold Oper.wp
  simp [execOp, hop, hl, hc, hrun, Result.andThen]
  exact hK' _ _ (hK _ hrow (by simp) ((Ext.refl w).alloc _))

/-- A region that draws its order, whose operations yield one value each in every world that has grown out of w: one walk serves every order. -/
theorem wp_region_ext {id : Nat} {Q : Exit → Act → World → Prop} {a : Act} {w : World} {l : List Oper} (hm : P.follows .mixedOrders = true) (hB : Region.lexB .any l.toArray = true)
    (h : wpQuiet P l.toArray (fun w' => Ext w w') (fun a' => ∀ w', Ext w w' → Q .normal a' w') l a) : (Code.region id l.toArray true).wp P Q a w :=
  wp_region_quiet (C := fun w' => Ext w w') hm hB ((Ext.refl w).drew) (by simpa using h)
theorem quiet_val {C : World → Prop} {Q : Act → Prop} {ops : Array Oper} {a : Act} {o : Oper} {rest : List Oper} (v : Value) (hw : Region.wanted o (yielded ops a.tmps) = true)
    (h : ∀ w, C w → (execOp a.eval o).run P w = .ok (.value v) w) (hK : wpQuiet P ops C Q rest (a.put o.dst v)) : wpQuiet P ops C Q (o :: rest) a :=
  wpQuiet_step fun K hK' => by
    rw [if_pos hw]
    exact ⟨v, fun w hw' => by unfold Oper.quietAt; rw [h w hw']; exact ⟨rfl, rfl⟩, hK' _ hK⟩
theorem quiet_call {C : World → Prop} {Q : Act → Prop} {ops : Array Oper} {a : Act} {o : Oper} {rest : List Oper} (f : FuncId) (args : Array Value) (v : Value) (hw : Region.wanted o (yielded ops a.tmps) = true)
    (h : ∀ w, C w → (execOp a.eval o).run P w = .ok (.enter f args) w) (hc : ∀ w, C w → Calls P f args w (fun e w' => e = .returned v ∧ C w')) (hK : wpQuiet P ops C Q rest (a.put o.dst v)) : wpQuiet P ops C Q (o :: rest) a :=
  wpQuiet_step fun K hK' => by
    rw [if_pos hw]
    exact ⟨v, fun w hw' => by unfold Oper.quietAt; rw [h w hw']; exact ⟨rfl, hc w hw'⟩, hK' _ hK⟩
end

/-- A call of a function that has a body enters it. -/
theorem callFunc_body {P : Program} {g : FuncId} {fn : Func} (hf : P.funcs[g]? = some fn) (hn : (fn.name == "runtime.NumGoroutine") = false) (hb : fn.body.isNone = false) (args : Array Value) (W : World) :
    (callFunc g args).run P W = .ok (.enter g args) W := by
  have hn' : ¬ fn.name = "runtime.NumGoroutine" := by simpa using hn
  have hb' : ¬ fn.body = .none := by intro h; rw [h] at hb; cases hb
  simp [callFunc, hf, hn', hb']
theorem Ret.quiet {P : Program} {f : FuncId} {args : Array Value} {v : Value} {w0 w : World} (h : Calls P f args w (Ret v w)) (hx : Ext w0 w) : Calls P f args w (fun e w' => e = .returned v ∧ Ext w0 w') :=
  h.mono fun _ _ h' => ⟨h'.1, hx.trans h'.2⟩
theorem same_quiet {P : Program} {f : FuncId} {args : Array Value} {v : Value} {w0 w : World} (h : Calls P f args w (fun e w' => e = .returned v ∧ w = w')) (hx : Ext w0 w) : Calls P f args w (fun e w' => e = .returned v ∧ Ext w0 w') :=
  h.mono fun _ _ h' => ⟨h'.1, h'.2 ▸ hx⟩

/-- A valid domain. -/
def vDom (d : Int) : Bool := inR d 0 63
/-- A valid task. -/
def vTk (t : Tk) : Bool := vDom t.s && !(t.s == 0) && inR t.d 1 6 && inR t.m 0 9
def vTks (ts : List Tk) : Bool := ts.all vTk && inR ts.length 1 4
theorem tk0_mem {ts : List Tk} {k : Nat} (hk : k < ts.length) : tk0 ts k ∈ ts := by
  unfold tk0
  rw [getD_lt _ _ hk]
  exact List.getElem_mem hk
theorem vTks_false {ts : List Tk} {k : Nat} (hk : k < ts.length) (h : vTk (tk0 ts k) = false) : vTks ts = false := by
  unfold vTks
  rw [Bool.and_eq_false_iff]
  left
  rw [List.all_eq_false]
  exact ⟨_, tk0_mem hk, by simp [h]⟩
theorem all_tk {ts : List Tk} (p : Tk → Bool) (h : ∀ j, j < ts.length → p (tk0 ts j) = true) : ts.all p = true := by
  rw [List.all_eq_true]
  intro t ht
  obtain ⟨i, hi, rfl⟩ := List.mem_iff_getElem.1 ht
  have := h i hi
  unfold tk0 at this
  rwa [getD_lt _ _ hi] at this
theorem vTks_all {ts : List Tk} (h : ∀ j, j < ts.length → vTk (tk0 ts j) = true) : vTks ts = inR ts.length 1 4 := by
  unfold vTks
  rw [all_tk vTk h]; rfl
theorem vTk_of {t : Tk} (h1 : vDom t.s = true) (h2 : (t.s == 0) = false) (h3 : inR t.d 1 6 = true) (h4 : inR t.m 0 9 = true) : vTk t = true := by
  simp [vTk, h1, h2, h3, h4]
theorem vTk_no {t : Tk} (h : vDom t.s = false ∨ (t.s == 0) = true ∨ inR t.d 1 6 = false ∨ inR t.m 0 9 = false) : vTk t = false := by
  unfold vTk
  rcases h with h | h | h | h <;> simp [h]
theorem upto_succ {p : Nat → Prop} {k : Nat} (h : ∀ j, j < k → p j) (hk : p k) : ∀ j, j < k + 1 → p j := fun j hj => by
  rcases Nat.lt_succ_iff_lt_or_eq.1 hj with h1 | h1
  · exact h j h1
  · exact h1 ▸ hk
end Go.Proofs.YtjpdebgejlfeaaaDoor
