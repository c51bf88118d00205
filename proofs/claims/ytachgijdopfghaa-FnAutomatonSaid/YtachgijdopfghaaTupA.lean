/- The contract of the program's tuples: all lists with a value of each domain, the least first. -/
import Derived.Test.YtachgijdopfghaaRF
import Derived.Test.YtachgijdopfghaaDom
import Derived.ArgAppend
import Derived.Test.YtachgijdopfghaaTail
import Derived.Laws.EntriesVeiled
namespace Go.Proofs.Ytachgijdopfghaa
open Go.RowKit Go.Shelf
attribute [local go_sem] Oper.semAt_some

/-- All lists with a value of each domain, the least first. -/
def tups : List Int → List (List Int)
  | [] => [[]]
  | d :: ds => (domL d).flatMap fun v => (tups ds).map (v :: ·)
theorem tups_len : ∀ (ds : List Int) (x : List Int), x ∈ tups ds → x.length = ds.length
  | [], x, h => by simp [tups] at h; subst h; rfl
  | d :: ds, x, h => by
    simp only [tups, List.mem_flatMap, List.mem_map] at h
    obtain ⟨v, -, t, ht, rfl⟩ := h
    simp [tups_len ds t ht]
/-- What the first j values of domain d bring behind the values p. -/
def part (p : List Int) (d : Int) (rs : List Int) (j : Nat) : List (List Int) := ((domL d).take j).flatMap fun v => (tups rs).map fun t => p ++ v :: t
theorem part_zero (p : List Int) (d : Int) (rs : List Int) : part p d rs 0 = [] := by simp [part]
theorem part_succ (p : List Int) (d : Int) (rs : List Int) {j : Nat} (hj : j < (domL d).length) : part p d rs (j + 1) = part p d rs j ++ (tups rs).map (fun t => (p ++ [at0 (domL d) j]) ++ t) := by
  unfold part
  rw [List.take_add_one, List.flatMap_append, List.getElem?_eq_getElem hj]
  have : (domL d)[j] = at0 (domL d) j := by rw [at0, getD_lt _ _ hj]
  simp [this]
theorem part_all (p : List Int) (d : Int) (rs : List Int) : part p d rs (domL d).length = (tups (d :: rs)).map (p ++ ·) := by
  rw [part, List.take_length, tups, List.map_flatMap]
  simp [Function.comp_def]
theorem part_le (p : List Int) (d : Int) (rs : List Int) {j : Nat} (hj : j < (domL d).length) : ∃ r, part p d rs j ++ (tups rs).map (fun t => (p ++ [at0 (domL d) j]) ++ t) ++ r = (tups (d :: rs)).map (p ++ ·) := by
  rw [← part_succ p d rs hj, ← part_all]
  refine ⟨((domL d).drop (j + 1)).flatMap fun v => (tups rs).map fun t => p ++ v :: t, ?_⟩
  unfold part
  rw [List.take_length, ← List.flatMap_append, List.take_append_drop]
/-- make([]int, l, c), in a fence. -/
theorem wpListIn_make_lc {F : Fence} {n : Nat} (w : World) {ops : Array Oper} {rest : List Oper} {o : Oper} {a : Act} {Q : Exit → Act → World → Prop}
    (hg : o.guard = none) (l c : Operand) (hop : o.op = Op.makeSlice 24 l c) (nl nc : Nat) (hl : a.eval l = .int .i64 (nl : Int)) (hc : a.eval c = .int .i64 (nc : Int)) (hle : nl ≤ nc) (hbytes : nc ≤ 1000000000)
    (hK : ∀ w', w'.rowIs w.heap.size 3 nc (fun _ => .int .i64 0) → w'.heap.size = w.heap.size + 1 → Ext w w' → wpListIn F n Try.prog ops Q rest (a.put o.dst (.slice (some ⟨w.heap.size, 0, none⟩) nl nc)) w') :
    wpListIn F n Try.prog ops Q (o :: rest) a w := by
  obtain ⟨i, hi, hz, hsz, hby⟩ := Try.infoIp
  refine wpListIn_plain hg fun K hK' => ?_
  have hrun := run_make (P := Try.prog) w 24 3 i (.int .i64 0) Try.underlying24 hi hz .i64 .i64 nl nc (by omega) (by omega) (by rw [hby]; omega) (by omega)
  simp only [Int.toNat_natCast] at hrun
  have hrow : (w.alloc (.cells (madeCells (Value.cells (.int .i64 0)) (nc * i.size)) 3)).rowIs w.heap.size 3 nc (fun _ => .int .i64 0) := by
    have h1 := World.rowIs_alloc w (madeCells (Value.cells (.int .i64 0)) (nc * i.size)) 3 (fun _ => .int .i64 0) (fun j hj => by
      rw [size_madeCells] at hj
      simp [madeCells, hj, Value.cells, Nat.mod_one])
    rw [size_madeCells, hsz, Nat.mul_one] at h1
    rw [hsz, Nat.mul_one]; exact h1
  unfold Oper.wpIn
  refine ⟨?_, ?_⟩
  · simp [Oper.about, hop]
  · rw [Oper.semAt_plain F _ _ (by rw [hop]; intro c hc'; cases hc')]
    simp [execOp, hop, hl, hc, hrun, Result.andThen]
    exact hK' _ _ (hK _ hrow (by simp) ((Ext.refl w).alloc _))
/-- append of one int in place, in a fence. -/
theorem wpListIn_appRoom {F : Fence} {n : Nat} (w : World) {ops : Array Oper} {rest : List Oper} {o : Oper} {a : Act} {Q : Exit → Act → World → Prop} (hg : o.guard = none) (s x : Operand)
    (hop : o.op = .call { callee := .builtin .append, args := #[s, x], argTypes := #[24, 24] })
    (g k cap : Nat) (y : Int) (b c : Nat) (f : Nat → Value) (hs : a.eval s = .slice (some ⟨g, 0, none⟩) k cap) (hx : a.eval x = .slice (some ⟨b, 0, none⟩) 1 c)
    (hrow : w.rowIs g 3 cap f) (hc : w.cell? ⟨b, 0, none⟩ = some (.int .i64 y)) (hk : k < cap)
    (hK : wpListIn F n Try.prog ops Q rest (a.put o.dst (.slice (some ⟨g, 0, none⟩) (k + 1) cap)) (w.setCell ⟨g, k, none⟩ (.int .i64 y))) : wpListIn F n Try.prog ops Q (o :: rest) a w := by
  obtain ⟨i, hi, hz, hsz, hby⟩ := Try.infoIp
  refine wpListIn_plain hg fun K hK' => ?_
  have hrun := run_append_room_cells (P := Try.prog) w 24 o.type 3 i Try.underlying24 hi g 0 k cap ⟨b, 0, none⟩ 1 c [.int .i64 y] (by rw [hsz]; rfl)
    (fun j u hj => by
      match j with
      | 0 => simp at hj; subst hj; simpa [Addr.add] using hc
      | j + 1 => simp at hj) (fun u hu => by simp at hu; subst hu; rfl) (by omega)
    (fun j hj => by simp at hj; subst hj; rw [hsz, Nat.mul_one, Nat.add_zero, Nat.zero_add, hrow.cell hk]; rfl)
    (fun j hj => by simp at hj; subst hj; rw [hsz, Nat.mul_one, Nat.add_zero, Nat.zero_add]; exact hrow.frozen k)
  rw [hsz, Nat.mul_one, Nat.zero_add] at hrun
  have hset : w.setCells g k [.int .i64 y] = w.setCell ⟨g, k, none⟩ (.int .i64 y) := by simp [World.setCells]
  rw [hset] at hrun
  unfold Oper.wpIn
  refine ⟨?_, ?_⟩
  · simp [Oper.about, hop, resolve, Target.leads, Sem.run_pure]
  · rw [Oper.semAt_plain F _ _ (by rw [hop]; intro c hc'; cases hc')]
    simp [execOp, hop, resolve, invoke, builtin, hs, hx, hrun, Result.andThen]
    exact hK' _ _ hK
theorem cell_other {W : World} {p q : Addr} (v : Value) (h : q.block ≠ p.block) : (W.setCell p v).cell? q = W.cell? q := World.cell?_of_block (w := W) (Below.heap_setCell W p v _ h)
theorem frz_other {W : World} {p q : Addr} (v : Value) (h : q.block ≠ p.block) : (W.setCell p v).frozen? q = W.frozen? q := World.frozen?_of_block (w := W) (Below.heap_setCell W p v _ h)
theorem at0_snoc (p : List Int) (v : Int) : at0 (p ++ [v]) p.length = v := by simp [at0]
theorem at0_app (p q : List Int) {i : Nat} (hi : i < p.length) : at0 (p ++ q) i = at0 p i := by
  unfold at0
  rw [getD_lt _ _ (by rw [List.length_append]; omega), getD_lt _ _ hi, List.getElem_append_left hi]
end Go.Proofs.Ytachgijdopfghaa
/- The inner function of the program's tuples, by induction on the domains that are left. -/
namespace Go.Proofs.Ytachgijdopfghaa
open Go.RowKit Go.Shelf
attribute [local go_sem] Oper.semAt_some

end Go.Proofs.Ytachgijdopfghaa
/- The contract of the program's tuples. -/
namespace Go.Proofs.Ytachgijdopfghaa
open Go.RowKit Go.Shelf
attribute [local go_sem] Oper.semAt_some

theorem room_none {F : Fence} (hd : F.depth = none) (k : Nat) : F.room k := fun d h => by rw [hd] at h; cases h
theorem yield_any {F : Fence} (hd : F.depth = none) {m : Nat} (m' : Nat) {P : Program} {l : Nat} {args : Array Value} {W : World} {R : Ending → World → Prop} (h : YieldAt F m P l args W R) : YieldAt F m' P l args W R := by
  obtain ⟨fn, tmps, assign, body, hy, hR⟩ := h
  exact ⟨fn, tmps, assign, body, hy, hR.1, fun c cs _ => hR.2 c cs (room_none hd _)⟩
theorem OwnRes.base {xs : List Int} {w W : World} {e : Ending} {W' : World} (h : OwnRes xs W e W') (hx : Ext w W) : OwnRes xs w e W' := by
  obtain ⟨A, c, b, m, f, h1, h2, h3, h4, h5, h6⟩ := h
  exact ⟨A, c, b, m, f, h1, h2, h3, Nat.le_trans hx.size h4, h5, hx.trans h6⟩
theorem OwnRes.put {xs : List Int} {w : World} {e : Ending} {W' : World} (h : OwnRes xs w e W') {D : Nat} {d : Option (List Deferred)} (hD : w.heap.size ≤ D) (hd : W'.heap[D]? = some (.deferred d)) (o : Obj) : OwnRes xs w e (W'.putObj D o) := by
  obtain ⟨A, c, b, m, f, h1, h2, h3, h4, h5, h6⟩ := h
  refine ⟨A, c, b, m, f, h1, h2, h3, h4, fun hp => ?_, ⟨h6.os, h6.tape, h6.output, by have := h6.size; simpa using this, fun k hk => (World.putObj_heap_other (by omega)).trans (h6.block k hk)⟩⟩
  obtain ⟨q1, q2, q3, q4⟩ := h5 hp
  refine ⟨q1, q2.of_block (World.putObj_heap_other (fun e => ?_)), q3, q4⟩
  subst e
  obtain ⟨cc, p1, -⟩ := q2
  rw [p1] at hd
  cases hd
end Go.Proofs.Ytachgijdopfghaa
