/- The contract of the program's tuples: all lists with a value of each domain, the least first. -/
import Derived.Test.YtjpdebgejlfeaaaDoorRF
import Derived.Test.YtjpdebgejlfeaaaDoorDom
import Derived.ArgAppend
import Derived.Test.YtjpdebgejlfeaaaDoorTail
import Derived.Laws.EntriesVeiled
namespace Go.Proofs.YtjpdebgejlfeaaaDoor
open Go.RowKit Go.Shelf
attribute [local go_sem] Oper.semAt_some

/-- All lists with a value of each domain, the least first. -/
def tups : List Int → List (List Int)
  | [] => [[]]
  | d :: ds => (domL d).flatMap fun v => (tups ds).map (v :: ·)
theorem tups_len : ∀ (ds : List Int) (x : List Int), x ∈ tups ds → x.length = ds.length
  | [], x, h => by simp [tups] at h; subst h; rfl
  | d :: ds, x, h => by
    simp only [tups, List.mem_flatMap, List.mem_map] at h
    obtain ⟨v, -, t, ht, rfl⟩ := h
    simp [tups_len ds t ht]
/-- What the first j values of domain d bring behind the values p. -/
def part (p : List Int) (d : Int) (rs : List Int) (j : Nat) : List (List Int) := ((domL d).take j).flatMap fun v => (tups rs).map fun t => p ++ v :: t
theorem part_zero (p : List Int) (d : Int) (rs : List Int) : part p d rs 0 = [] := by simp [part]
theorem part_succ (p : List Int) (d : Int) (rs : List Int) {j : Nat} (hj : j < (domL d).length) : part p d rs (j + 1) = part p d rs j ++ (tups rs).map (fun t => (p ++ [at0 (domL d) j]) ++ t) := by
  unfold part
  rw [List.take_add_one, List.flatMap_append, List.getElem?_eq_getElem hj]
  have : (domL d)[j] = at0 (domL d) j := by rw [at0, getD_lt _ _ hj]
  simp [this]
theorem part_all (p : List Int) (d : Int) (rs : List Int) : part p d rs (domL d).length = (tups (d :: rs)).map (p ++ ·) := by
  rw [part, List.take_length, tups, List.map_flatMap]
  simp [Function.comp_def]
theorem part_le (p : List Int) (d : Int) (rs : List Int) {j : Nat} (hj : j < (domL d).length) : ∃ r, part p d rs j ++ (tups rs).map (fun t => (p ++ [at0 (domL d) j]) ++ t) ++ r = (tups (d :: rs)).map (p ++ ·) := by
  rw [← part_succ p d rs hj, ← part_all]
  refine ⟨((domL d).drop (j + 1)).flatMap fun v => (tups rs).map fun t => p ++ v :: t, ?_⟩
  unfold part
  rw [List.take_length, ← List.flatMap_append, List.take_append_drop]
/-- The iterator's own state: B: the box of yield; B + 1: the row; B + 2: the box of the list; B + 3: the box of the inner function. -/
structure TupSt (l B bD bd off c : Nat) (ds p : List Int) (own : Nat → Prop) (W : World) : Prop where
  y0 : W.cell? ⟨B, 0, none⟩ = some (.func (.yield l) #[] #[])
  x0 : W.cell? ⟨B + 2, 0, none⟩ = some (.slice (some ⟨B + 1, 0, none⟩) p.length ds.length)
  xz : W.frozen? ⟨B + 2, 0, none⟩ = false
  f0 : W.cell? ⟨B + 3, 0, none⟩ = some (.func (.func 93) #[] #[.pointer (some ⟨B + 2, 0, none⟩), .pointer (some ⟨bD, 0, none⟩), .pointer (some ⟨B, 0, none⟩), .pointer (some ⟨B + 3, 0, none⟩)])
  d0 : W.cell? ⟨bD, 0, none⟩ = some (.slice (some ⟨bd, off, none⟩) ds.length c)
  dsl : SInts W (.slice (some ⟨bd, off, none⟩) ds.length c) ds
  row : ∃ f, W.rowIs (B + 1) 3 ds.length f ∧ ∀ i, i < p.length → f i = vI (at0 p i)
  vals : ∀ i, i < p.length → 0 ≤ at0 p i ∧ at0 p i ≤ 5
  len : p.length ≤ ds.length
  own1 : ∀ k, own k → k < B ∨ B + 4 ≤ k
  own2 : ¬ own bD
  own3 : ¬ own bd
  lt1 : bD < B
  lt2 : bd < B
  lt3 : B + 4 ≤ W.heap.size
  l1 : l < B
  l2 : l ≠ bD
  l3 : l ≠ bd
/-- The iterator's own blocks are neither the caller's nor a round's. -/
theorem TupSt.mine {l B bD bd off c : Nat} {ds p : List Int} {own : Nat → Prop} {W : World} (h : TupSt l B bD bd off c ds p own W) (k : Nat) (h0 : B ≤ k) (h1 : k < B + 4) (hk : k < B ∨ own k) : False := by
  have := h.own1 k
  rcases hk with hk | hk
  · omega
  · have := this hk; omega
/-- How the inner function ends. -/
def FromEnd (l B bD bd off c : Nat) (ds p : List Int) (J Jx : List (List Int) → (Nat → Prop) → World → Prop) (all xs : List (List Int)) (own : Nat → Prop) (W : World) (e : Ending) (W' : World) : Prop :=
  (e = .returned (.bool true) ∧ ∃ own', J xs own' W' ∧ TupSt l B bD bd off c ds p own' W' ∧ (∀ k, own' k → own k ∨ W.heap.size ≤ k) ∧ Keep (fun k => ¬ own k ∧ k ≠ l ∧ k ≠ B + 1 ∧ k ≠ B + 2) W W') ∨
  (e = .returned (.bool false) ∧ ∃ q own', q <+: all ∧ Jx q own' W')
theorem TupSt.at_ {l B bD bd off c : Nat} {ds p : List Int} {own : Nat → Prop} {W : World} (h : TupSt l B bD bd off c ds p own W) (hp : p.length = ds.length) (hd : 0 < ds.length) (h3 : ds.length ≤ 100) : TupAt own W (B + 1) p := by
  obtain ⟨f, hr, hf⟩ := h.row
  refine ⟨⟨_, _, rfl, Nat.le_refl _, by omega, fun i hi => ?_, fun _ => ⟨B + 1, 0, rfl, by have := h.lt3; omega, fun i hi => ?_⟩⟩, fun ho => ?_, by have := h.lt3; omega, by omega⟩
  · have := h.vals i hi; unfold I64; omega
  · rw [Nat.zero_add, hr.cell (by omega), hf i hi]; rfl
  · have := h.own1 _ ho; omega
/-- A step that leaves the iterator's blocks alone. -/
theorem TupSt.keep {l B bD bd off c : Nat} {ds p : List Int} {own own' : Nat → Prop} {W W' : World} (h : TupSt l B bD bd off c ds p own W) (hk : Keep (fun k => ¬ own k ∧ k ≠ l) W W') (ho : ∀ k, own' k → own k ∨ W.heap.size ≤ k) : TupSt l B bD bd off c ds p own' W' := by
  have h3 := h.lt3
  have h1 := h.lt1
  have h2 := h.lt2
  have hl1 := h.l1
  have no : ∀ k, B ≤ k → k < B + 4 → ¬ own k := fun k a b ho => by have := h.own1 k ho; omega
  have kc : ∀ b o, B ≤ b → b < B + 4 → W'.cell? ⟨b, o, none⟩ = W.cell? ⟨b, o, none⟩ := fun b o a a' => hk.cell (p := ⟨b, o, none⟩) (by show b < _; omega) ⟨no b a a', by show b ≠ l; omega⟩
  have kd : ∀ o, W'.cell? ⟨bD, o, none⟩ = W.cell? ⟨bD, o, none⟩ := fun o => hk.cell (p := ⟨bD, o, none⟩) (by show bD < _; omega) ⟨h.own2, h.l2.symm⟩
  have ke : ∀ o, W'.cell? ⟨bd, o, none⟩ = W.cell? ⟨bd, o, none⟩ := fun o => hk.cell (p := ⟨bd, o, none⟩) (by show bd < _; omega) ⟨h.own3, h.l3.symm⟩
  obtain ⟨f, hr, hf⟩ := h.row
  refine ⟨(kc _ _ (by omega) (by omega)).trans h.y0, (kc _ _ (by omega) (by omega)).trans h.x0, (hk.frz (p := ⟨B + 2, 0, none⟩) (by show B + 2 < _; omega) ⟨no (B + 2) (by omega) (by omega), by show B + 2 ≠ l; omega⟩).trans h.xz, (kc _ _ (by omega) (by omega)).trans h.f0, (kd 0).trans h.d0, ?_, ⟨f, hk.row ⟨no (B + 1) (by omega) (by omega), by omega⟩ hr, hf⟩, h.vals, h.len, fun k hk' => ?_, fun hk' => ?_, fun hk' => ?_, h1, h2, Nat.le_trans h3 hk.size, h.l1, h.l2, h.l3⟩
  · obtain ⟨A, c', e1, e2, e3, e4, e5⟩ := h.dsl
    refine ⟨A, c', e1, e2, e3, e4, fun hp => ?_⟩
    obtain ⟨b, o, ea, hb, hc⟩ := e5 hp
    injection e1 with e1
    have e1 := Option.some.inj (e1.trans ea)
    injection e1 with e6 e7
    subst e6
    exact ⟨bd, o, ea, Nat.lt_of_lt_of_le hb hk.size, fun i hi => (ke _).trans (hc i hi)⟩
  · exact (ho k hk').elim (h.own1 k) (fun h => .inr (by omega))
  · exact (ho _ hk').elim h.own2 (fun h => by omega)
  · exact (ho _ hk').elim h.own3 (fun h => by omega)
/-- make([]int, l, c), in a fence. -/
theorem wpListIn_make_lc {F : Fence} {n : Nat} (w : World) {ops : Array Oper} {rest : List Oper} {o : Oper} {a : Act} {Q : Exit → Act → World → Prop}
    (hg : o.guard = none) (l c : Operand) (hop : o.op = Op.makeSlice 24 l c) (nl nc : Nat) (hl : a.eval l = .int .i64 (nl : Int)) (hc : a.eval c = .int .i64 (nc : Int)) (hle : nl ≤ nc) (hbytes : nc ≤ 1000000000)
    (hK : ∀ w', w'.rowIs w.heap.size 3 nc (fun _ => .int .i64 0) → w'.heap.size = w.heap.size + 1 → Ext w w' → wpListIn F n Tryd.prog ops Q rest (a.put o.dst (.slice (some ⟨w.heap.size, 0, none⟩) nl nc)) w') :
    wpListIn F n Tryd.prog ops Q (o :: rest) a w := by
  obtain ⟨i, hi, hz, hsz, hby⟩ := Tryd.infoIp
  refine wpListIn_plain hg fun K hK' => ?_
  have hrun := run_make (P := Tryd.prog) w 24 3 i (.int .i64 0) Tryd.underlying24 hi hz .i64 .i64 nl nc (by omega) (by omega) (by rw [hby]; omega) (by omega)
  simp only [Int.toNat_natCast] at hrun
  have hrow : (w.alloc (.cells (madeCells (Value.cells (.int .i64 0)) (nc * i.size)) 3)).rowIs w.heap.size 3 nc (fun _ => .int .i64 0) := by
    have h1 := World.rowIs_alloc w (madeCells (Value.cells (.int .i64 0)) (nc * i.size)) 3 (fun _ => .int .i64 0) (fun j hj => by
      rw [size_madeCells] at hj
      simp [madeCells, hj, Value.cells, Nat.mod_one])
    rw [size_madeCells, hsz, Nat.mul_one] at h1
    rw [hsz, Nat.mul_one]; exact h1
  unfold Oper.wpIn
  refine ⟨?_, ?_⟩
  · simp [Oper.about, hop]
  · rw [Oper.semAt_plain F _ _ (by rw [hop]; intro c hc'; cases hc')]
    simp [execOp, hop, hl, hc, hrun, Result.andThen]
    exact hK' _ _ (hK _ hrow (by simp) ((Ext.refl w).alloc _))
/-- append of one int in place, in a fence. -/
theorem wpListIn_appRoom {F : Fence} {n : Nat} (w : World) {ops : Array Oper} {rest : List Oper} {o : Oper} {a : Act} {Q : Exit → Act → World → Prop} (hg : o.guard = none) (s x : Operand)
    (hop : o.op = .call { callee := .builtin .append, args := #[s, x], argTypes := #[24, 24] })
    (g k cap : Nat) (y : Int) (b c : Nat) (f : Nat → Value) (hs : a.eval s = .slice (some ⟨g, 0, none⟩) k cap) (hx : a.eval x = .slice (some ⟨b, 0, none⟩) 1 c)
    (hrow : w.rowIs g 3 cap f) (hc : w.cell? ⟨b, 0, none⟩ = some (.int .i64 y)) (hk : k < cap)
    (hK : wpListIn F n Tryd.prog ops Q rest (a.put o.dst (.slice (some ⟨g, 0, none⟩) (k + 1) cap)) (w.setCell ⟨g, k, none⟩ (.int .i64 y))) : wpListIn F n Tryd.prog ops Q (o :: rest) a w := by
  obtain ⟨i, hi, hz, hsz, hby⟩ := Tryd.infoIp
  refine wpListIn_plain hg fun K hK' => ?_
  have hrun := run_append_room_cells (P := Tryd.prog) w 24 o.type 3 i Tryd.underlying24 hi g 0 k cap ⟨b, 0, none⟩ 1 c [.int .i64 y] (by rw [hsz]; rfl)
    (fun j u hj => by
      match j with
      | 0 => simp at hj; subst hj; simpa [Addr.add] using hc
      | j + 1 => simp at hj) (fun u hu => by simp at hu; subst hu; rfl) (by omega)
    (fun j hj => by simp at hj; subst hj; rw [hsz, Nat.mul_one, Nat.add_zero, Nat.zero_add, hrow.cell hk]; rfl)
    (fun j hj => by simp at hj; subst hj; rw [hsz, Nat.mul_one, Nat.add_zero, Nat.zero_add]; exact hrow.frozen k)
  rw [hsz, Nat.mul_one, Nat.zero_add] at hrun
  have hset : w.setCells g k [.int .i64 y] = w.setCell ⟨g, k, none⟩ (.int .i64 y) := by simp [World.setCells]
  rw [hset] at hrun
  unfold Oper.wpIn
  refine ⟨?_, ?_⟩
  · simp [Oper.about, hop, resolve, Target.leads, Sem.run_pure]
  · rw [Oper.semAt_plain F _ _ (by rw [hop]; intro c hc'; cases hc')]
    simp [execOp, hop, resolve, invoke, builtin, hs, hx, hrun, Result.andThen]
    exact hK' _ _ hK
theorem cell_other {W : World} {p q : Addr} (v : Value) (h : q.block ≠ p.block) : (W.setCell p v).cell? q = W.cell? q := World.cell?_of_block (w := W) (Below.heap_setCell W p v _ h)
theorem frz_other {W : World} {p q : Addr} (v : Value) (h : q.block ≠ p.block) : (W.setCell p v).frozen? q = W.frozen? q := World.frozen?_of_block (w := W) (Below.heap_setCell W p v _ h)
/-- A store into the box of the list. -/
theorem TupSt.box {l B bD bd off c : Nat} {ds p q : List Int} {own : Nat → Prop} {W : World} (h : TupSt l B bD bd off c ds p own W) (hq : q.length ≤ ds.length) (hv : ∀ i, i < q.length → 0 ≤ at0 q i ∧ at0 q i ≤ 5)
    (hr : ∃ f, W.rowIs (B + 1) 3 ds.length f ∧ ∀ i, i < q.length → f i = vI (at0 q i)) :
    TupSt l B bD bd off c ds q own (W.setCell ⟨B + 2, 0, none⟩ (.slice (some ⟨B + 1, 0, none⟩) q.length ds.length)) := by
  have h1 := h.lt1
  have h2 := h.lt2
  obtain ⟨f, hr, hf⟩ := hr
  refine ⟨(cell_other _ (by simp)).trans h.y0, World.cell?_setCell_same' _ _ _ (by rw [h.x0]; rfl), (World.frozen?_setCell ..).trans h.xz, (cell_other _ (by simp)).trans h.f0, (cell_other _ (by simp; omega)).trans h.d0, ?_, ⟨f, hr.setOther (by simp) _, hf⟩, hv, hq, h.own1, h.own2, h.own3, h1, h2, by simpa [World.setCell] using h.lt3, h.l1, h.l2, h.l3⟩
  obtain ⟨A, c', e1, e2, e3, e4, e5⟩ := h.dsl
  refine ⟨A, c', e1, e2, e3, e4, fun hp => ?_⟩
  obtain ⟨b, o, ea, hb, hc⟩ := e5 hp
  injection e1 with e1
  have e1 := Option.some.inj (e1.trans ea)
  injection e1 with e6 e7
  subst e6
  exact ⟨bd, o, ea, by simpa [World.setCell] using hb, fun i hi => (cell_other _ (by simp; omega)).trans (hc i hi)⟩
/-- A store into the row. -/
theorem TupSt.put {l B bD bd off c : Nat} {ds p : List Int} {own : Nat → Prop} {W : World} (h : TupSt l B bD bd off c ds p own W) (k : Nat) (hk : p.length ≤ k) (v : Value) : TupSt l B bD bd off c ds p own (W.setCell ⟨B + 1, k, none⟩ v) := by
  have h1 := h.lt1
  have h2 := h.lt2
  obtain ⟨f, hr, hf⟩ := h.row
  refine ⟨(cell_other _ (by simp)).trans h.y0, (cell_other _ (by simp)).trans h.x0, (frz_other _ (by simp)).trans h.xz, (cell_other _ (by simp)).trans h.f0, (cell_other _ (by simp; omega)).trans h.d0, ?_, ⟨_, hr.set k v, fun i hi => ?_⟩, h.vals, h.len, h.own1, h.own2, h.own3, h1, h2, by simpa [World.setCell] using h.lt3, h.l1, h.l2, h.l3⟩
  · obtain ⟨A, c', e1, e2, e3, e4, e5⟩ := h.dsl
    refine ⟨A, c', e1, e2, e3, e4, fun hp => ?_⟩
    obtain ⟨b, o, ea, hb, hc⟩ := e5 hp
    injection e1 with e1
    have e1 := Option.some.inj (e1.trans ea)
    injection e1 with e6 e7
    subst e6
    exact ⟨bd, o, ea, by simpa [World.setCell] using hb, fun i hi => (cell_other _ (by simp; omega)).trans (hc i hi)⟩
  · show (if i = k then _ else _) = _
    rw [if_neg (by omega), hf i hi]
theorem at0_snoc (p : List Int) (v : Int) : at0 (p ++ [v]) p.length = v := by simp [at0]
theorem at0_app (p q : List Int) {i : Nat} (hi : i < p.length) : at0 (p ++ q) i = at0 p i := by
  unfold at0
  rw [getD_lt _ _ (by rw [List.length_append]; omega), getD_lt _ _ hi, List.getElem_append_left hi]
/-- One value more. -/
theorem TupSt.push {l B bD bd off c : Nat} {ds p : List Int} {own : Nat → Prop} {W : World} (h : TupSt l B bD bd off c ds p own W) (v : Int) (h0 : 0 ≤ v) (h5 : v ≤ 5) (hlt : p.length < ds.length) (o : Obj) :
    TupSt l B bD bd off c ds (p ++ [v]) own (((W.setCell ⟨B + 1, p.length, none⟩ (.int .i64 v)).setCell ⟨B + 2, 0, none⟩ (.slice (some ⟨B + 1, 0, none⟩) (p.length + 1) ds.length)).alloc o) := by
  refine TupSt.keep (own := own) ?_ (((Ext.refl _).alloc o).keep _) (fun k hk => .inl hk)
  have h1 := h.put p.length (Nat.le_refl _) (.int .i64 v)
  have e : p.length + 1 = (p ++ [v]).length := by simp
  rw [e]
  obtain ⟨f, hr, hf⟩ := h.row
  refine h1.box (by rw [← e]; omega) (fun i hi => ?_) ⟨_, hr.set p.length (.int .i64 v), fun i hi => ?_⟩
  · by_cases hip : i = p.length
    · subst hip; rw [at0_snoc]; exact ⟨h0, h5⟩
    · rw [at0_app _ _ (by omega)]; exact h.vals i (by omega)
  · show (if i = p.length then _ else _) = _
    by_cases hip : i = p.length
    · subst hip; rw [if_pos rfl, at0_snoc]; rfl
    · rw [if_neg hip, at0_app _ _ (by omega)]; exact hf i (by omega)
theorem TupSt.pop {l B bD bd off c : Nat} {ds p : List Int} {v : Int} {own : Nat → Prop} {W : World} (h : TupSt l B bD bd off c ds (p ++ [v]) own W) :
    TupSt l B bD bd off c ds p own (W.setCell ⟨B + 2, 0, none⟩ (.slice (some ⟨B + 1, 0, none⟩) p.length ds.length)) := by
  obtain ⟨f, hr, hf⟩ := h.row
  have hl := h.len
  rw [List.length_append] at hl
  refine h.box (by omega) (fun i hi => ?_) ⟨f, hr, fun i hi => ?_⟩
  · have := h.vals i (by simp; omega); rwa [at0_app _ _ hi] at this
  · have := hf i (by simp; omega); rwa [at0_app _ _ hi] at this
end Go.Proofs.YtjpdebgejlfeaaaDoor
/- The inner function of the program's tuples, by induction on the domains that are left. -/
namespace Go.Proofs.YtjpdebgejlfeaaaDoor
open Go.RowKit Go.Shelf
attribute [local go_sem] Oper.semAt_some

set_option maxRecDepth 100000 in
set_option maxHeartbeats 4000000 in
theorem from_nil (l B bD bd off c : Nat) (ds p : List Int) (J Jx : List (List Int) → (Nat → Prop) → World → Prop) (all pre : List (List Int)) (own : Nat → Prop) (W : World) (n : Nat)
    (hY : YieldAt Fence.wide (n - 1) Tryd.prog l #[.slice (some ⟨B + 1, 0, none⟩) p.length p.length] W (RoundEnd l J Jx (pre ++ [p]) own W)) (hp : p.length = ds.length) (hall : pre ++ [p] <+: all) (hst : TupSt l B bD bd off c ds p own W) :
    CallsIn Fence.wide n Tryd.prog 93 #[.pointer (some ⟨B + 2, 0, none⟩), .pointer (some ⟨bD, 0, none⟩), .pointer (some ⟨B, 0, none⟩), .pointer (some ⟨B + 3, 0, none⟩)] W (FromEnd l B bD bd off c ds p J Jx all (pre ++ [p]) own W) := by
  have hdd : ∀ k : Nat, (Fence.wide.depth.isSome = true → 1 ≤ k) := fun k h => by cases h
  have x0 := hst.x0
  have d0 := hst.d0
  have y0 := hst.y0
  rw [hp] at hY x0
  have HST := hide hst
  have HP := hide hp
  clear hst hp
  obtain ⟨fn, tmps, assign, body, hy, hR⟩ := hY
  refine callsIn_of_wp Tryd.func93 rfl trivial ?_ rfl
  simp only [Tryd.ntmps93, List.size_toArray, List.length_cons, List.length_nil, Nat.reduceAdd, Nat.reduceSub, Array.replicate_succ, Array.replicate_zero, List.push_toArray, List.append_toArray, List.nil_append, List.cons_append]
  gi_wp2
  refine ⟨hdd _, hR.mono ?_⟩
  rintro e W' ⟨own', hk, hg, (⟨rfl, hj⟩ | ⟨rfl, hj⟩)⟩
  · have HE := hide (show FromEnd l B bD bd off c ds p J Jx all (pre ++ [p]) own W (.returned (.bool true)) W' from .inl ⟨rfl, own', hj, HST.out.keep hk hg, hg, hk.mono fun k _ h => ⟨h.1, h.2.1⟩⟩)
    clear hk hg hj
    gi_wp2
    go_ret
    exact HE.out
  · have HE := hide (show FromEnd l B bD bd off c ds p J Jx all (pre ++ [p]) own W (.returned (.bool false)) W' from .inr ⟨rfl, _, own', hall, hj⟩)
    clear hk hg hj
    gi_wp2
    go_ret
    exact HE.out
set_option maxRecDepth 100000 in
set_option maxHeartbeats 8000000 in
theorem from_cons (l B bD bd off c : Nat) (ds : List Int) (hd1 : ds.length ≤ 100) (hdr : ∀ i, i < ds.length → 0 ≤ at0 ds i ∧ at0 ds i ≤ 9223372036854775807) (J Jx : List (List Int) → (Nat → Prop) → World → Prop) (hJ : Stays B 4 J) (hJo : ∀ s own W1, J s own W1 → ∀ k, own k → k < W1.heap.size) (all : List (List Int))
    (d : Int) (rs : List Int)
    (IH : ∀ (done p : List Int) (n : Nat) (pre : List (List Int)) (own : Nat → Prop) (W : World), ds = done ++ rs → p.length = done.length → pre ++ (tups rs).map (fun t => p ++ t) <+: all → J pre own W → TupSt l B bD bd off c ds p own W →
      CallsIn Fence.wide n Tryd.prog 93 #[.pointer (some ⟨B + 2, 0, none⟩), .pointer (some ⟨bD, 0, none⟩), .pointer (some ⟨B, 0, none⟩), .pointer (some ⟨B + 3, 0, none⟩)] W (FromEnd l B bD bd off c ds p J Jx all (pre ++ (tups rs).map (fun t => p ++ t)) own W))
    (done p : List Int) (n : Nat) (pre : List (List Int)) (own : Nat → Prop) (W : World) (hds : ds = done ++ d :: rs) (hp : p.length = done.length) (hall : pre ++ (tups (d :: rs)).map (fun t => p ++ t) <+: all) (hj : J pre own W) (hst : TupSt l B bD bd off c ds p own W) :
    CallsIn Fence.wide n Tryd.prog 93 #[.pointer (some ⟨B + 2, 0, none⟩), .pointer (some ⟨bD, 0, none⟩), .pointer (some ⟨B, 0, none⟩), .pointer (some ⟨B + 3, 0, none⟩)] W (FromEnd l B bD bd off c ds p J Jx all (pre ++ (tups (d :: rs)).map (fun t => p ++ t)) own W) := by
  have hdd : ∀ k : Nat, (Fence.wide.depth.isSome = true → 1 ≤ k) := fun k h => by cases h
  have hlt : p.length < ds.length := by rw [hds, List.length_append, List.length_cons]; omega
  have hat : at0 ds p.length = d := by rw [at0, hds, hp, getD_lt _ _ (by simp)]; simp
  obtain ⟨r1, r2⟩ := hdr _ hlt
  have x0 := hst.x0
  have d0 := hst.d0
  have e0 := hst.dsl.cell_ hlt
  rw [hat] at e0 r1 r2
  have HST := hide hst
  have HIH := hide IH
  have HD := hide hds
  have HP := hide hp
  have HALL := hide hall
  have HJ := hide hj
  have HDR := hide hdr
  clear hst hds hp hdr hat IH hall hj
  refine callsIn_of_wp Tryd.func93 rfl trivial ?_ rfl
  simp only [Tryd.ntmps93, List.size_toArray, List.length_cons, List.length_nil, Nat.reduceAdd, Nat.reduceSub, Array.replicate_succ, Array.replicate_zero, List.push_toArray, List.append_toArray, List.nil_append, List.cons_append]
  have hne : ((p.length : Int) == (ds.length : Int)) = false := by simp; omega
  gi_wp2_with (refine ⟨trivial, hdd _, (callsIn_wide.2 (valuesOf_any d _ r1 r2)).mono ?_⟩; rintro e W1 ⟨A, cv, b, m, f, rfl, hc1, hd1, hbn, ho1, hx1⟩)
  have HST1 := hide (HST.out.keep (own' := own) (hx1.keep _) (fun k hk => .inl hk))
  have HJ1 := hide (hJ _ _ _ _ HJ.out (hx1.keep _))
  have HJ0 := HJ
  have HST0 := HST
  have HK1 := hide (hx1.keep (fun k => ¬ own k ∧ k ≠ l ∧ k ≠ B + 1 ∧ k ≠ B + 2))
  have HO1 := hide ho1
  have hsz1 := hx1.size
  have hdl := domL_len d
  clear ho1 hx1 HST HJ x0 d0 e0 hne
  gi_loopw [22] (fun i wr => ∃ (j : Nat) (own' : Nat → Prop), j ≤ (domL d).length ∧ i = .int .i64 j ∧ J (pre ++ part p d rs j) own' wr ∧ TupSt l B bD bd off c ds p own' wr ∧ (∀ k, own' k → own k ∨ W1.heap.size ≤ k) ∧
      Keep (fun k => ¬ own k ∧ k ≠ l ∧ k ≠ B + 1 ∧ k ≠ B + 2) W wr ∧ OwnC wr A b m f (domL d) ∧ W1.heap.size ≤ wr.heap.size) (fun i _ => (domL d).length - (intOf i).toNat)
  case atStart => exact ⟨0, own, Nat.zero_le _, rfl, by rw [part_zero, List.append_nil]; exact HJ1.out, HST1.out, fun k hk => .inl hk, HK1.out, HO1.out, Nat.le_refl _⟩
  case round =>
    obtain ⟨j, own', hjl, rfl, hJj, hSj, hOj, hKj, hCj, hzj⟩ := hrel
    have HJj := hide hJj
    have HSj := hide hSj
    have HOj := hide hOj
    have HKj := hide hKj
    have HCj := hide hCj
    have x0 := hSj.x0
    have xz := hSj.xz
    have f0 := hSj.f0
    have b1 : B + 1 < wr.heap.size := by have := hSj.lt3; omega
    have b2 : B + 2 < wr.heap.size := by have := hSj.lt3; omega
    have b3 : B + 3 < wr.heap.size := by have := hSj.lt3; omega
    obtain ⟨fr, hrow, -⟩ := hSj.row
    have HROW := hide hrow
    clear hJj hSj hOj hKj hCj hrow
    by_cases hlj : j < (domL d).length
    · obtain ⟨rfl, hrb, hmb, hfb⟩ := HCj.out (by omega)
      have cv0 : wr.cell? ⟨b, j, none⟩ = some (.int .i64 (at0 (domL d) j)) := by rw [hrb.cell (by omega), hfb j hlj]
      obtain ⟨v0, v5⟩ := domL_bd d hlj
      clear hrb hfb hmb
      gi_wp2_with (gi_at_builtin; go_must (refine wpListIn_appRoom _ rfl _ _ rfl (B + 1) p.length ds.length (at0 (domL d) j) wr.heap.size 1 fr rfl rfl (((Ext.refl _).alloc _).row HROW.out) (by go_simp) hlt ?_))
      obtain ⟨r, hr⟩ := part_le p d rs hlj
      have hpre : pre ++ part p d rs j ++ (tups rs).map (fun t => (p ++ [at0 (domL d) j]) ++ t) <+: all := by
        refine List.IsPrefix.trans ⟨r, ?_⟩ HALL.out
        rw [← hr, List.append_assoc, List.append_assoc, List.append_assoc]
      have hstep := hJ _ _ _ (((wr.setCell ⟨B + 1, p.length, none⟩ (.int .i64 (at0 (domL d) j))).setCell ⟨B + 2, 0, none⟩ (.slice (some ⟨B + 1, 0, none⟩) (p.length + 1) ds.length)).alloc (.cells #[.int .i64 (at0 (domL d) j)] 3)) HJj.out
        ((((Keep.refl _ wr).set (fun _ h => by have h : B + 1 < B ∨ B + 4 ≤ B + 1 := h; omega) _).set (fun _ h => by have h : B + 2 < B ∨ B + 4 ≤ B + 2 := h; omega) _).alloc _)
      refine ⟨trivial, hdd _, (HIH.out (done ++ [d]) (p ++ [at0 (domL d) j]) (n - 1) (pre ++ part p d rs j) own' _ (by rw [HD.out]; simp) (by simp [HP.out]) hpre hstep (HSj.out.push _ v0 v5 hlt _)).mono ?_⟩
      clear hr hpre hstep
      rintro e W' (⟨rfl, own'', hJ'', hS'', hO'', hK''⟩ | ⟨rfl, q, own'', hq, hx''⟩)
      · have HJ2 := hide hJ''
        have HS2 := hide hS''
        have HO2 := hide hO''
        have HK2 := hide hK''
        have x0 := hS''.x0
        rw [show (p ++ [at0 (domL d) j]).length = p.length + 1 by simp] at x0
        have xz := hS''.xz
        have b2 : B + 2 < W'.heap.size := by have := hS''.lt3; omega
        clear hJ'' hS'' hO'' hK''
        gi_wp2
        go_roundw
        case rel =>
          have kcall : ∀ S : Nat → Prop, ¬ S (B + 1) → ¬ S (B + 2) → Keep S wr (((wr.setCell ⟨B + 1, p.length, none⟩ (.int .i64 (at0 (domL d) j))).setCell ⟨B + 2, 0, none⟩ (.slice (some ⟨B + 1, 0, none⟩) (p.length + 1) ds.length)).alloc (.cells #[.int .i64 (at0 (domL d) j)] 3)) :=
            fun S h1 h2 => (((Keep.refl _ wr).set (fun _ h => h1 h) _).set (fun _ h => h2 h) _).alloc _
          have hnb : ¬ own' b := fun h => (HOj.out b h).elim (fun h => by have := hJo _ _ _ HJ0.out b h; omega) (fun h => by have := (HO1.out (by omega)).2.1.lt; omega)
          have hbB : B + 4 ≤ b := by have := HST0.out.lt3; omega
          have hbr : b < wr.heap.size := (HCj.out (by omega)).2.1.lt
          have hlB := HS2.out.l1
          refine ⟨j + 1, own'', by omega, by go_num, ?_, HS2.out.pop, fun k hk => (HO2.out k hk).elim (HOj.out k) (fun h => .inr (by simp at h; omega)), ?_, ?_, ?_⟩
          · rw [part_succ p d rs hlj, ← List.append_assoc]
            exact hJ _ _ _ _ HJ2.out ((Keep.refl _ W').set (fun _ h => by have h : B + 2 < B ∨ B + 4 ≤ B + 2 := h; omega) _)
          · exact ((HKj.out.trans (kcall _ (fun h => h.2.2.1 rfl) (fun h => h.2.2.2 rfl))).then HK2.out (fun k hk h => ⟨fun ho => (HOj.out k ho).elim h.1 (fun h => by have := HK1.out.size; omega), h.2⟩)).set (fun _ h => h.2.2.2 rfl) _
          · have kb : Keep (fun k => k = b) wr (W'.setCell ⟨B + 2, 0, none⟩ (.slice (some ⟨B + 1, 0, none⟩) p.length ds.length)) :=
              ((kcall _ (by omega) (by omega)).then HK2.out (fun k _ h => by subst h; exact ⟨hnb, by omega, by omega, by omega⟩)).set (fun _ h => by have h : B + 2 = b := h; omega) _
            intro hp
            obtain ⟨e1, e2, e3, e4⟩ := HCj.out hp
            exact ⟨e1, kb.row rfl e2, e3, e4⟩
          · have := HK2.out.size
            simp [World.setCell] at this ⊢
            omega
        case measure => simp [intOf]; omega
      · have HE := hide (show FromEnd l B bD bd off c ds p J Jx all (pre ++ (tups (d :: rs)).map (fun t => p ++ t)) own W (.returned (.bool false)) W' from .inr ⟨rfl, q, own'', hq, hx''⟩)
        clear hq hx''
        gi_wp2
        go_ret
        exact HE.out
    · obtain rfl : j = (domL d).length := by omega
      have HE := hide (show FromEnd l B bD bd off c ds p J Jx all (pre ++ (tups (d :: rs)).map (fun t => p ++ t)) own W (.returned (.bool true)) wr from .inl ⟨rfl, own', by rw [← part_all]; exact HJj.out, HSj.out, fun k hk => (HOj.out k hk).imp_right fun h => by omega, HKj.out⟩)
      gi_wp2
      go_ret
      exact HE.out
end Go.Proofs.YtjpdebgejlfeaaaDoor
/- The contract of the program's tuples. -/
namespace Go.Proofs.YtjpdebgejlfeaaaDoor
open Go.RowKit Go.Shelf
attribute [local go_sem] Oper.semAt_some

theorem from_any (l B bD bd off c : Nat) (ds : List Int) (hd0 : 0 < ds.length) (hd1 : ds.length ≤ 100) (hdr : ∀ i, i < ds.length → 0 ≤ at0 ds i ∧ at0 ds i ≤ 9223372036854775807) (J Jx : List (List Int) → (Nat → Prop) → World → Prop) (hJ : Stays B 4 J) (hJo : ∀ s own W1, J s own W1 → ∀ k, own k → k < W1.heap.size) (all : List (List Int))
    (hY : ∀ m pre x b own W1, J pre own W1 → (pre ++ [x]) <+: all → TupAt own W1 b x → B + 4 ≤ W1.heap.size → YieldAt Fence.wide m Tryd.prog l #[.slice (some ⟨b, 0, none⟩) x.length x.length] W1 (RoundEnd l J Jx (pre ++ [x]) own W1)) :
    ∀ (rs done p : List Int) (n : Nat) (pre : List (List Int)) (own : Nat → Prop) (W : World), ds = done ++ rs → p.length = done.length → pre ++ (tups rs).map (fun t => p ++ t) <+: all → J pre own W → TupSt l B bD bd off c ds p own W →
      CallsIn Fence.wide n Tryd.prog 93 #[.pointer (some ⟨B + 2, 0, none⟩), .pointer (some ⟨bD, 0, none⟩), .pointer (some ⟨B, 0, none⟩), .pointer (some ⟨B + 3, 0, none⟩)] W (FromEnd l B bD bd off c ds p J Jx all (pre ++ (tups rs).map (fun t => p ++ t)) own W) := by
  intro rs
  induction rs with
  | nil =>
    intro done p n pre own W hds hp hall hj hst
    have hl : p.length = ds.length := by rw [hds, hp]; simp
    have e : (tups []).map (fun t => p ++ t) = [p] := by simp [tups]
    rw [e] at hall ⊢
    exact from_nil l B bD bd off c ds p J Jx all pre own W n (hY _ pre p (B + 1) own W hj hall (hst.at_ hl hd0 hd1) hst.lt3) hl hall hst
  | cons d rs ih =>
    intro done p n pre own W hds hp hall hj hst
    exact from_cons l B bD bd off c ds hd1 hdr J Jx hJ hJo all d rs ih done p n pre own W hds hp hall hj hst

theorem room_none {F : Fence} (hd : F.depth = none) (k : Nat) : F.room k := fun d h => by rw [hd] at h; cases h
theorem yield_any {F : Fence} (hd : F.depth = none) {m : Nat} (m' : Nat) {P : Program} {l : Nat} {args : Array Value} {W : World} {R : Ending → World → Prop} (h : YieldAt F m P l args W R) : YieldAt F m' P l args W R := by
  obtain ⟨fn, tmps, assign, body, hy, hR⟩ := h
  exact ⟨fn, tmps, assign, body, hy, hR.1, fun c cs _ => hR.2 c cs (room_none hd _)⟩
set_option maxRecDepth 100000 in
set_option maxHeartbeats 4000000 in
theorem tuples1_any (n bD bd off c : Nat) (ds : List Int) (w : World) (hd0 : 0 < ds.length) (hd1 : ds.length ≤ 100) (hdr : ∀ i, i < ds.length → 0 ≤ at0 ds i ∧ at0 ds i ≤ 9223372036854775807)
    (hc : w.cell? ⟨bD, 0, none⟩ = some (.slice (some ⟨bd, off, none⟩) ds.length c)) (hS : SInts w (.slice (some ⟨bd, off, none⟩) ds.length c) ds) (hb : bD < w.heap.size) :
    Tups Fence.wide n Tryd.prog 92 #[.pointer (some ⟨bD, 0, none⟩)] (tups ds) (fun k => k = bD ∨ k = bd) w := by
  intro l J Jx W own0 hx hl0 hl1 hfx hJ hJx hJo h00 hY h0
  have hdd : ∀ k : Nat, (Fence.wide.depth.isSome = true → 1 ≤ k) := fun k h => by cases h
  have hbd : bd < w.heap.size := by obtain ⟨b, o, e, h, -⟩ := hS.at_ hd0; injection e with e; injection e with e1 e2; subst e1; exact h
  have hc1 := (hx.cells bD 0 hb).trans hc
  have hS1 := hide (hS.ext hx)
  have HF := hide (fun n => from_any l W.heap.size bD bd off c ds hd0 hd1 hdr J Jx hJ hJo (tups ds) (fun m pre x b own W1 h1 h2 h3 h4 => yield_any rfl m (hY pre x b own W1 h1 h2 h3 h4)) ds [] [] n [])
  have HJ := hide (fun W' k => hJ _ _ W W' h0 k)
  have HX := hide hx
  have HFX := hide hfx
  have H00 := hide h00
  have hbW := Nat.lt_of_lt_of_le hb hx.size
  have hbdW := Nat.lt_of_lt_of_le hbd hx.size
  clear hc hS hdr hx hfx hJ hJx hJo h00 hY h0
  refine callsIn_of_wp Tryd.func92 rfl trivial ?_ rfl
  simp only [Tryd.ntmps92, List.size_toArray, List.length_cons, List.length_nil, Nat.reduceAdd, Nat.reduceSub, Array.replicate_succ, Array.replicate_zero, List.push_toArray, List.append_toArray, List.nil_append, List.cons_append]
  gi_wp2_with (gi_at_make; go_must (refine wpListIn_make_lc _ rfl _ _ rfl 0 ds.length rfl rfl (Nat.zero_le _) (by omega) ?_); intro w2 hrow2 hsz2 hx2)
  have hz : w2.heap.size = W.heap.size + 2 := by simpa using hsz2
  have hx02 : Ext W w2 := ((Ext.refl W).alloc _).trans hx2
  have y0 : w2.cell? ⟨W.heap.size, 0, none⟩ = some (.func (.yield l) #[] #[]) := (hx2.cells _ _ (by simp)).trans (by simp)
  rw [World.size_alloc] at hrow2
  obtain ⟨Wf, hWf⟩ : ∃ Wf, (w2.alloc (.cells #[.slice (some ⟨W.heap.size + 1, 0, none⟩) 0 ds.length] 24)).alloc (.cells #[.func (.func 93) #[] #[.pointer (some ⟨W.heap.size + 1 + 1, 0, none⟩), .pointer (some ⟨bD, 0, none⟩), .pointer (some ⟨W.heap.size, 0, none⟩), .pointer (some ⟨W.heap.size + 1 + 1 + 1, 0, none⟩)]] 81) = Wf := ⟨_, rfl⟩
  have hxf : Ext w2 Wf := by rw [← hWf]; exact ((Ext.refl _).alloc _).alloc _
  have hst : TupSt l W.heap.size bD bd off c ds [] own0 Wf := by
    refine ⟨(hxf.cells _ _ (by omega)).trans y0, ?_, ?_, ?_, ((hx02.trans hxf).cells _ _ hbW).trans hc1, hS1.out.ext (hx02.trans hxf), ⟨_, hxf.row hrow2, fun i hi => by simp at hi⟩, fun i hi => by simp at hi, Nat.zero_le _, fun k hk => .inl (H00.out k hk), HFX.out _ (.inl rfl), HFX.out _ (.inr rfl), hbW, hbdW, ?_, hl1, by omega, by omega⟩
    · rw [← hWf]; exact (World.cell?_alloc_past _ _ _ (by simp; omega)).trans (World.cell?_alloc_at _ _ _ _ hz.symm)
    · rw [← hWf]
      rw [World.frozen?_of_block (w := w2.alloc (.cells #[.slice (some ⟨W.heap.size + 1, 0, none⟩) 0 ds.length] 24)) (Below.heap_alloc _ _ _ (by simp; omega)), ← hz]
      simp
    · rw [← hWf]; exact World.cell?_alloc_at _ _ _ _ (by simp; omega)
    · rw [← hWf]; simp; omega
  have hj := HJ.out Wf ((hx02.trans hxf).keep _)
  refine ⟨trivial, hdd _, ?_⟩
  refine CallsIn.mono (hWf ▸ HF.out (n - 1) own0 Wf (by simp) (by simp) (by simp) hj hst) ?_
  clear hWf hst hj hxf y0 hrow2 hz hsz2 hx2 hx02
  rintro e W' (⟨rfl, own', hj', -, -, -⟩ | ⟨rfl, q, own', hq, hx'⟩)
  · have HE := hide (show TupsEnd J Jx (tups ds) (.returned (.tuple #[])) W' from ⟨⟨_, rfl⟩, .inl ⟨own', by simpa using hj'⟩⟩)
    clear hj'
    gi_wp2
    go_end0
    exact HE.out
  · have HE := hide (show TupsEnd J Jx (tups ds) (.returned (.tuple #[])) W' from ⟨⟨_, rfl⟩, .inr ⟨q, own', hq, hx'⟩⟩)
    clear hq hx'
    gi_wp2
    go_end0
    exact HE.out
/-- tuples hands back a function over a box of the domains. -/
theorem tuples_any (A : Option Addr) (m c : Nat) (w : World) : Calls Tryd.prog 86 #[.slice A m c] w fun e w' => e = .returned (.func (.func 92) #[] #[.pointer (some ⟨w.heap.size, 0, none⟩)]) ∧ w' = w.alloc (.cells #[.slice A m c] 24) := by
  go_enter Tryd.func86, Tryd.ntmps86
  go_wp2
  go_ret
  exact ⟨rfl, rfl⟩
theorem tuples_at (n bd off c : Nat) (ds : List Int) (w : World) (hd0 : 0 < ds.length) (hd1 : ds.length ≤ 100) (hdr : ∀ i, i < ds.length → 0 ≤ at0 ds i ∧ at0 ds i ≤ 9223372036854775807)
    (hS : SInts w (.slice (some ⟨bd, off, none⟩) ds.length c) ds) :
    Tups Fence.wide n Tryd.prog 92 #[.pointer (some ⟨w.heap.size, 0, none⟩)] (tups ds) (fun k => k = w.heap.size ∨ k = bd) (w.alloc (.cells #[.slice (some ⟨bd, off, none⟩) ds.length c] 24)) :=
  tuples1_any n w.heap.size bd off c ds _ hd0 hd1 hdr (by simp) (hS.ext ((Ext.refl w).alloc _)) (by simp)
theorem OwnRes.base {xs : List Int} {w W : World} {e : Ending} {W' : World} (h : OwnRes xs W e W') (hx : Ext w W) : OwnRes xs w e W' := by
  obtain ⟨A, c, b, m, f, h1, h2, h3, h4, h5, h6⟩ := h
  exact ⟨A, c, b, m, f, h1, h2, h3, Nat.le_trans hx.size h4, h5, hx.trans h6⟩
theorem OwnRes.put {xs : List Int} {w : World} {e : Ending} {W' : World} (h : OwnRes xs w e W') {D : Nat} {d : Option (List Deferred)} (hD : w.heap.size ≤ D) (hd : W'.heap[D]? = some (.deferred d)) (o : Obj) : OwnRes xs w e (W'.putObj D o) := by
  obtain ⟨A, c, b, m, f, h1, h2, h3, h4, h5, h6⟩ := h
  refine ⟨A, c, b, m, f, h1, h2, h3, h4, fun hp => ?_, ⟨h6.os, h6.tape, h6.output, by have := h6.size; simpa using this, fun k hk => (World.putObj_heap_other (by omega)).trans (h6.block k hk)⟩⟩
  obtain ⟨q1, q2, q3, q4⟩ := h5 hp
  refine ⟨q1, q2.of_block (World.putObj_heap_other (fun e => ?_)), q3, q4⟩
  subst e
  obtain ⟨cc, p1, -⟩ := q2
  rw [p1] at hd
  cases hd
end Go.Proofs.YtjpdebgejlfeaaaDoor
